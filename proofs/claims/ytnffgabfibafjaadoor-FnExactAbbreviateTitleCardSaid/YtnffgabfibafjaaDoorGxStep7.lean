/- The interpreter's operations are the machine's: len, min, max, append. -/
import Derived.Test.YtnffgabfibafjaaDoorGxStep6
import Derived.Laws.Cover1
namespace Go.Gx
open Go.RowKit
set_option linter.unusedVariables false
set_option linter.unusedSimpArgs false

theorem flat_len {cv : Nat → List Value} {s : Nat} : ∀ {n : Nat}, (∀ k, k < n → (cv k).length = s) → ((List.range n).flatMap cv).length = n * s
  | 0, _ => by simp
  | n + 1, h => by
    rw [List.range_succ, List.flatMap_append, List.length_append, flat_len fun k hk => h k (by omega)]
    simp [h n (by omega), Nat.succ_mul]
theorem flat_get {cv : Nat → List Value} {s n : Nat} (h : ∀ k, k < n → (cv k).length = s) {i j : Nat} (hi : i < n) (hj : j < s) : ((List.range n).flatMap cv)[i * s + j]? = (cv i)[j]? := by
  have e1 : n = i + (1 + (n - i - 1)) := by omega
  rw [e1, List.range_add, List.flatMap_append, List.getElem?_append_right (by rw [flat_len fun k hk => h k (by omega)]; omega), flat_len fun k hk => h k (by omega), Nat.add_sub_cancel_left,
    List.range_add, List.map_append, List.flatMap_append]
  simp only [List.range_one, List.map_cons, List.map_nil, List.flatMap_cons, List.flatMap_nil, List.append_nil, Nat.add_zero]
  rw [List.getElem?_append_left (by rw [h _ hi]; exact hj)]

section
variable {S : Nat → Prop} {w : World} {ρ : Nat → Option Loc} {row : Nat → Option Row} {pv : Nat → Value} {B : Old}
theorem listOf_el (h : HS S w ρ row pv B) {b : AV} {τ : Ty} {xs : List (den τ)} (hl : listOf row τ b = some xs) {v : Value} (hv : VR S w ρ row pv b v) :
    ∃ A c, v = .slice A xs.length c ∧ ∀ i (hi : i < xs.length), ∃ g o cs, A = some ⟨g, o, none⟩ ∧ CR S w τ xs[i] cs ∧ ∀ j u, cs[j]? = some u → w.cell? ⟨g, o + (i * nc τ + j), none⟩ = some u := by
  unfold listOf at hl
  split at hl
  · cases hl
    exact ⟨none, 0, vr_nil hv, fun i hi => absurd hi (Nat.not_lt_zero i)⟩
  · rename_i σ ys
    split at hl
    · rename_i e _
      subst e
      cases hl
      obtain ⟨A, c, cv, e3, h2, h3, h4, h5⟩ := cr_sl_inv (vr_sl hv)
      refine ⟨A, c, e3, fun i hi => ?_⟩
      obtain ⟨g, o, e, _, hc⟩ := h5 i hi
      exact ⟨g, o, cv i, e, h4 i hi, hc⟩
    · cases hl
  · rename_i j
    split at hl
    · rename_i e σ ys fz app hr
      split at hl
      · rename_i e' _
        subst e'
        cases hl
        rcases vr_own hv hr with ⟨g, c, hl, rfl⟩ | ⟨hl, rfl, rfl⟩
        · obtain ⟨cur, f, h1, h2, h3, h4, h5, h6, h7, h8⟩ := h.rows j _ _ hr hl
          refine ⟨_, _, rfl, fun i hi => ?_⟩
          obtain ⟨cs, hc, hv⟩ := h8 i hi
          refine ⟨g, 0, cs, rfl, hc, fun k u hk => ?_⟩
          have := hv k u hk
          simp only [World.cell?, h1, Nat.zero_add]
          simpa using this
        · exact ⟨none, 0, rfl, fun i hi => absurd hi (Nat.not_lt_zero i)⟩
      · cases hl
    · cases hl
  · cases hl
/-- The cells of a slice, one after the other. -/
theorem news_ok {τ : Ty} {xs : List (den τ)} {A : Option Addr} (hpos : 0 < nc τ) (h : ∀ i (hi : i < xs.length), ∃ g o cs, A = some ⟨g, o, none⟩ ∧ CR S w τ xs[i] cs ∧ ∀ j u, cs[j]? = some u → w.cell? ⟨g, o + (i * nc τ + j), none⟩ = some u) (h0 : xs.length ≠ 0) :
    ∃ g o, A = some ⟨g, o, none⟩ ∧ ∃ news : List Value, news.length = xs.length * nc τ ∧ (∀ j u, news[j]? = some u → w.cell? ⟨g, o + j, none⟩ = some u) ∧ (∀ u ∈ news, u.oneCell' = true) ∧
      ∀ i (hi : i < xs.length), ∃ cs, CR S w τ xs[i] cs ∧ ∀ j u, cs[j]? = some u → news[i * nc τ + j]? = some u := by
  obtain ⟨g, o, cs0, hA, _, _⟩ := h 0 (by omega)
  subst hA
  have hx : ∀ i, ∃ cs, ∀ (hi : i < xs.length), CR S w τ xs[i] cs ∧ ∀ j u, cs[j]? = some u → w.cell? ⟨g, o + (i * nc τ + j), none⟩ = some u := fun i => by
    by_cases hi : i < xs.length
    · obtain ⟨g', o', cs, e, h1, h2⟩ := h i hi
      cases e
      exact ⟨cs, fun _ => ⟨h1, h2⟩⟩
    · exact ⟨[], fun h => absurd h hi⟩
  let cv := fun i => Classical.choose (hx i)
  have hcv : ∀ i (hi : i < xs.length), CR S w τ xs[i] (cv i) ∧ ∀ j u, (cv i)[j]? = some u → w.cell? ⟨g, o + (i * nc τ + j), none⟩ = some u := fun i => Classical.choose_spec (hx i)
  have hlen : ∀ k, k < xs.length → (cv k).length = nc τ := fun k hk => (hcv k hk).1.len
  refine ⟨g, o, rfl, (List.range xs.length).flatMap cv, flat_len hlen, fun j u hj => ?_, fun u hu => ?_, fun i hi => ⟨cv i, (hcv i hi).1, fun j u hj => ?_⟩⟩
  · have hjl := (List.getElem?_eq_some_iff.1 hj).1
    rw [flat_len hlen] at hjl
    have hi : j / nc τ < xs.length := (Nat.div_lt_iff_lt_mul hpos).2 hjl
    have hr : j % nc τ < nc τ := Nat.mod_lt _ hpos
    have hd : j / nc τ * nc τ + j % nc τ = j := by rw [Nat.mul_comm]; exact Nat.div_add_mod _ _
    have := flat_get hlen hi hr
    rw [hd] at this
    rw [this] at hj
    have := (hcv _ hi).2 _ u hj
    rwa [hd] at this
  · obtain ⟨i, hi, hu⟩ := List.mem_flatMap.1 hu
    exact (hcv i (by simpa using hi)).1.one u hu
  · have hj' : j < nc τ := by have := (List.getElem?_eq_some_iff.1 hj).1; rw [hlen i hi] at this; exact this
    rw [flat_get hlen hi hj']
    exact hj
theorem rowOk_app {w' : World} {τ : Ty} {xs ys : List (den τ)} {cur' : Array Value} {e g' cap' : Nat} {ρ' : Nat → Option Loc} {row' : Nat → Option Row} (hheap : w'.heap[g']? = some (.cells cur' e (0, 0))) (hsize : cur'.size = cap' * nc τ) (hcap : xs.length + ys.length ≤ cap') (hm : cap' ≤ maxLen) (hpos : 0 < nc τ)
    (hS : ∀ b, S b → w'.heap[b]? = w.heap[b]?) (hold : ∀ i (hi : i < xs.length), ∃ cs, CR S w τ xs[i] cs ∧ ∀ j v, cs[j]? = some v → cur'[i * nc τ + j]? = some v)
    (hnew : ∀ i (hi : i < ys.length), ∃ cs, CR S w τ ys[i] cs ∧ ∀ j v, cs[j]? = some v → cur'[(xs.length + i) * nc τ + j]? = some v) : RowOk S w' ρ' row' pv (.flat e τ (xs ++ ys) false true) (.at g' cap') := by
  refine ⟨cur', (0, 0), hheap, hsize, by simpa using hcap, hm, fun _ => rfl, .inl (Nat.le_refl _), hpos, fun i hi => ?_⟩
  by_cases h : i < xs.length
  · obtain ⟨cs, h1, h2⟩ := hold i h
    exact ⟨cs, by rw [List.getElem_append_left h]; exact h1.mono (fun _ h => h) hS, h2⟩
  · simp only [List.length_append] at hi
    obtain ⟨cs, h1, h2⟩ := hnew (i - xs.length) (by omega)
    rw [show xs.length + (i - xs.length) = i by omega] at h2
    exact ⟨cs, by rw [List.getElem_append_right (by omega)]; exact h1.mono (fun _ h => h) hS, h2⟩
end

theorem run_append_zero {P : Program} {w : World} {t ty e : TypeId} {i : TypeInfo} (ht : P.underlying t = some (.slice e)) (hi : P.info? e = some i) (A A' : Option Addr) (n cap c : Nat) (hn : n ≤ cap) :
    (Builtin.append_ #[t, t] ty #[.slice A n cap, .slice A' 0 c]).run P w = .ok (.slice A n cap) w := by
  cases A <;> cases A' <;> simp [Builtin.append_, run_underlying ht, sizeOf, typeInfo, hi, Builtin.lenOf, hn, Builtin.firstCells, loadCells, loadCellsFrom, storeCells]

section
variable {P : Program} {E : Env} {w0 : World} {B : Old} {pv : Nat → Value} {S : Nat → Prop} {ρ : Nat → Option Loc} {st : St} {a : Act} {w : World} {o : Oper} {id : Nat} {K : Act → World → Prop} {Q : Exit → Act → World → Prop}
variable (hE : EnvOk P E) (hs : Sim w0 B pv S ρ st a w) (hgl : GlOk E S w) (hd : dstOk o st.nt = true)
include hs hgl hd

omit hs hgl hd in
theorem mapE_eq {f : Operand → AV} : ∀ l : List Operand, mapE f l = l.map f
  | [] => rfl
  | x :: l => by simp [mapE, mapE_eq l]
omit hs hgl hd in
theorem builtin_run {b : Builtin} {args : Array Operand} {ats : Array TypeId} {v : Value} {w' : World} (ho : o.op = .call { callee := .builtin b, args := args, argTypes := ats })
    (h : (builtin b ats o.type (args.map fun | .const _ => true | _ => false) (args.map a.eval)).run P w = .ok (.value v) w') : (execOp a.eval o).run P w = .ok (.value v) w' := by
  unfold execOp
  simp only [ho, resolve, invoke, Sem.run_bind, Sem.run_pure, Result.andThen_ok]
  exact h
include hE in
theorem step_len {args : Array Operand} {T : TypeId} {b : AV} {n : Int} (ho : o.op = .call { callee := .builtin .len, args := args, argTypes := #[T] }) (hargs : mapE (ev E st) args.toList = [b]) (hl : lenA st.row (E.ty T) b = some n)
    (hK : Nx E w0 B pv S ρ st o.dst (quiet (.t (.int .i64) n)) id K) : o.wp P a w K Q := by
  obtain ⟨x, hx⟩ : ∃ x, args = #[x] ∧ ev E st x = b := by
    rw [mapE_eq] at hargs
    match h : args.toList, hargs with
    | [x], hargs => exact ⟨x, Array.toList_inj.1 (by rw [h]), by simpa using hargs⟩
    | [], hargs => simp at hargs
    | _ :: _ :: _, hargs => simp at hargs
  obtain ⟨rfl, rfl⟩ := hx
  have e1 := ev_ok hgl hs x
  refine wp_quiet hs hgl hd (v := .int .i64 n) (builtin_run ho ?_) (.inr ⟨_, .t _ _ _ (.int _ _), rfl⟩) hK
  unfold lenA at hl
  split at hl
  · rename_i hT hx
    rw [hx] at e1
    cases hl
    obtain ⟨t, hu, _⟩ := (hE.ty _ _ hT).und
    simp [builtin, Builtin.len_, run_underlying hu, vr_nil e1, goInt]
  · rename_i s hT hx
    rw [hx] at e1
    cases hl
    have hu : P.underlying T = some .string := (hE.ty _ _ hT).und
    simp [builtin, Builtin.len_, run_underlying hu, vr_str e1, goInt]
  · rename_i _ τ xs hT hx
    rw [hx] at e1
    cases hl
    obtain ⟨t, hu, _⟩ := (hE.ty _ _ hT).und
    obtain ⟨A, c, cv, e3, _⟩ := cr_sl_inv (vr_sl e1)
    simp [builtin, Builtin.len_, run_underlying hu, e3, goInt]
  · rename_i _ j hT hx
    rw [hx] at e1
    obtain ⟨t, hu, _⟩ := (hE.ty _ _ hT).und
    split at hl
    · rename_i e τ xs fz app hr
      cases hl
      rcases vr_own e1 hr with ⟨g, c, _, e3⟩ | ⟨_, rfl, e3⟩
      · simp [builtin, Builtin.len_, run_underlying hu, e3, goInt]
      · simp [builtin, Builtin.len_, run_underlying hu, e3, goInt]
    · cases hl
  · cases hl
omit hs hgl hd in
theorem two_args {args : Array Operand} {b c : AV} (hargs : mapE (ev E st) args.toList = [b, c]) : ∃ x y, args = #[x, y] ∧ ev E st x = b ∧ ev E st y = c := by
  rw [mapE_eq] at hargs
  match h : args.toList, hargs with
  | [x, y], hargs => exact ⟨x, y, Array.toList_inj.1 (by rw [h]), by simpa using hargs⟩
  | [], hargs => simp at hargs
  | [_], hargs => simp at hargs
  | _ :: _ :: _ :: _, hargs => simp at hargs
omit hs hgl hd in
theorem three_args {args : Array Operand} {b c d : AV} (hargs : mapE (ev E st) args.toList = [b, c, d]) : ∃ x y z, args = #[x, y, z] ∧ ev E st x = b ∧ ev E st y = c ∧ ev E st z = d := by
  rw [mapE_eq] at hargs
  match h : args.toList, hargs with
  | [x, y, z], hargs => exact ⟨x, y, z, Array.toList_inj.1 (by rw [h]), by simpa using hargs⟩
  | [], hargs => simp at hargs
  | [_], hargs => simp at hargs
  | [_, _], hargs => simp at hargs
  | _ :: _ :: _ :: _ :: _, hargs => simp at hargs
theorem step_minmax {bi : Builtin} {args : Array Operand} {ats : Array TypeId} {u : Upd} (ho : o.op = .call { callee := .builtin bi, args := args, argTypes := ats }) (h :
      (bi = .min ∧ ∃ x y : Int, mapE (ev E st) args.toList = [.t (.int .i64) x, .t (.int .i64) y] ∧ u = quiet (.t (.int .i64) (if y < x then y else x))) ∨
      (bi = .max ∧ ∃ x y : Int, mapE (ev E st) args.toList = [.t (.int .i64) x, .t (.int .i64) y] ∧ u = quiet (.t (.int .i64) (if y > x then y else x))) ∨
      (bi = .min ∧ ∃ x y z : Int, mapE (ev E st) args.toList = [.t (.int .i64) x, .t (.int .i64) y, .t (.int .i64) z] ∧ u = quiet (.t (.int .i64) (if z < (if y < x then y else x) then z else (if y < x then y else x)))))
    (hK : Nx E w0 B pv S ρ st o.dst u id K) : o.wp P a w K Q := by
  rcases h with ⟨rfl, x, y, hargs, rfl⟩ | ⟨rfl, x, y, hargs, rfl⟩ | ⟨rfl, x, y, z, hargs, rfl⟩
  · obtain ⟨p, q, rfl, hp, hq⟩ := two_args hargs
    have e1 := ev_ok hgl hs p
    have e2 := ev_ok hgl hs q
    rw [hp] at e1
    rw [hq] at e2
    exact wp_quiet hs hgl hd (v := .int .i64 (if y < x then y else x)) (builtin_run ho (by simp [builtin, Builtin.min_, Builtin.min2, vr_int e1, vr_int e2])) (.inr ⟨_, .t _ _ _ (.int _ _), rfl⟩) hK
  · obtain ⟨p, q, rfl, hp, hq⟩ := two_args hargs
    have e1 := ev_ok hgl hs p
    have e2 := ev_ok hgl hs q
    rw [hp] at e1
    rw [hq] at e2
    exact wp_quiet hs hgl hd (v := .int .i64 (if y > x then y else x)) (builtin_run ho (by simp [builtin, Builtin.max_, Builtin.max2, vr_int e1, vr_int e2])) (.inr ⟨_, .t _ _ _ (.int _ _), rfl⟩) hK
  · obtain ⟨p, q, r, rfl, hp, hq, hr⟩ := three_args hargs
    have e1 := ev_ok hgl hs p
    have e2 := ev_ok hgl hs q
    have e3 := ev_ok hgl hs r
    rw [hp] at e1
    rw [hq] at e2
    rw [hr] at e3
    exact wp_quiet hs hgl hd (v := .int .i64 (if z < (if y < x then y else x) then z else (if y < x then y else x))) (builtin_run ho (by simp [builtin, Builtin.min_, Builtin.min2, vr_int e1, vr_int e2, vr_int e3])) (.inr ⟨_, .t _ _ _ (.int _ _), rfl⟩) hK
end
end Go.Gx
