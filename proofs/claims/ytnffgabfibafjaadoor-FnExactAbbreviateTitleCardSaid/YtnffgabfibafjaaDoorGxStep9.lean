/- The interpreter's operations are the machine's: pieces of a row that was handed over. -/
import Derived.Test.YtnffgabfibafjaaDoorGxStep8
namespace Go.Gx
open Go.RowKit
set_option linter.unusedVariables false
set_option linter.unusedSimpArgs false

section
variable {P : Program} {E : Env} {w0 : World} {B : Old} {pv : Nat → Value} {S : Nat → Prop} {ρ : Nat → Option Loc} {st : St} {a : Act} {w : World} {o : Oper} {id : Nat} {K : Act → World → Prop} {Q : Exit → Act → World → Prop}
variable (hE : EnvOk P E) (hs : Sim w0 B pv S ρ st a w) (hgl : GlOk E S w) (hd : dstOk o st.nt = true)
theorem cutR_tail {l0 : Int} {n m k : Nat} (h : CutR (some l0) none n m k) : m ≤ n ∧ k = n := by
  unfold CutR cut at h
  obtain ⟨h1, h⟩ := cond_some h
  obtain ⟨h2, h⟩ := cond_some h
  cases h
  have := of_decide_eq_true h1
  have := of_decide_eq_true h2
  omega
theorem cutR_head {h0 : Int} {n m k : Nat} (h : CutR none (some h0) n m k) : m = 0 ∧ k ≤ n := by
  unfold CutR cut at h
  obtain ⟨h1, h⟩ := cond_some h
  obtain ⟨h2, h⟩ := cond_some h
  cases h
  have := of_decide_eq_true h1
  have := of_decide_eq_true h2
  omega
include hE hs hgl hd
theorem step_sliceM {T : TypeId} {x : Operand} {lo hi : Option Operand} {l h : Option Int} {u : Upd} (ho : o.op = .slice T x lo hi none) (hl : evO (ev E st) lo = some l) (hh : evO (ev E st) hi = some h)
    (hx : SliceM E T l h (ev E st x) st.row u) (hK : Nx E w0 B pv S ρ st o.dst u id K) : o.wp P a w K Q := by
  have hev := ev_ok hgl hs
  have e1 := hev x
  have el := evO_eval hev hl
  have eh := evO_eval hev hh
  obtain ⟨j, e, τ, xs, app, m, k, hT, hx, hr, hag, hjm, hc, hu⟩ := hx
  have runSl : ∀ {A : Option Addr} {n c m k : Nat}, a.eval x = .slice A n c → CutR l h n m k → n ≤ c → (execOp a.eval o).run P w = .ok (.value (.slice (if c = m then A else A.map (·.add (m * nc τ))) (k - m) (c - m))) w := by
    intro A n c m k hv hc hn
    obtain ⟨t, hu, _, hte, _⟩ := (hE.ty _ _ hT).und
    unfold execOp
    simp only [ho, Instr.sliceAt, Sem.run_bind, run_underlying hu, Result.andThen_ok, Instr.slice, hv, el, eh, Option.map_none, run_bounds hc hn, run_sizeOfT (hE.ty _ _ hte), Sem.run_pure]
  rw [hx] at e1
  rcases vr_own e1 hr with ⟨g, c, hlj, hv⟩ | ⟨hlj, rfl, hv⟩
  · obtain ⟨cur, f, h1, h2, h3, h4, h5, h6, h7, h8⟩ := hs.hs.rows j _ _ hr hlj
    rcases hu with ⟨l0, rfl, rfl, rfl⟩ | ⟨h0, rfl, rfl, rfl⟩
    · obtain ⟨hm1, rfl⟩ := cutR_tail hc
      refine wp_quiet hs hgl hd (runSl hv hc h3) (.inr ⟨_, .tl j e τ xs false app (.at g c) m hr hlj hm1 hag, ?_⟩) hK
      by_cases hcm : c = m
      · simp [tailV, valOf, isAg, hcm]
      · simp [tailV, valOf, isAg, hcm, Addr.add_lit]
    · obtain ⟨rfl, hk⟩ := cutR_head hc
      refine wp_app hs hgl hd hjm (l' := .at g c) (runSl hv hc h3) hs.below hr hlj rfl rfl (Nat.le_refl _) (fun _ _ _ => rfl) (fun g' c' e => by cases e; exact .inl ⟨c, rfl⟩) (fun ρ' row' => ?_) (fun ρ' row' h9 h10 => ?_) hK
      · refine ⟨cur, f, h1, h2, ?_, h4, h5, h6, h7, fun i hi => ?_⟩
        · simp only [pieceL, List.length_take]; omega
        · simp only [pieceL, List.length_take] at hi
          have hi' : i < xs.length := by omega
          obtain ⟨cs, hc1, hc2⟩ := h8 i hi'
          refine ⟨cs, ?_, hc2⟩
          simp only [pieceL, List.getElem_take]
          exact hc1
      · refine .inr ⟨_, .own j e τ _ false app g c h10 h9, ?_⟩
        simp only [valOf, isAg, pieceL, List.length_take, Nat.sub_zero, Nat.zero_mul, Nat.min_eq_left hk]
        by_cases hc0 : c = 0
        · simp [hc0]
        · simp [hc0, Addr.add_lit]
  · obtain ⟨h1, h2, h3⟩ := hs.hs.rows j _ _ hr hlj
    rcases hu with ⟨l0, rfl, rfl, rfl⟩ | ⟨h0, rfl, rfl, rfl⟩
    · obtain ⟨hm1, rfl⟩ := cutR_tail hc
      have hm0 : m = 0 := by simpa using hm1
      subst hm0
      refine wp_quiet hs hgl hd (runSl hv hc (Nat.le_refl _)) (.inr ⟨_, .tl j e τ [] false app .nilrow 0 hr hlj (Nat.le_refl _) hag, ?_⟩) hK
      simp [tailV, valOf, isAg]
    · obtain ⟨rfl, hk⟩ := cutR_head hc
      have hk0 : k = 0 := by simpa using hk
      subst hk0
      refine wp_app hs hgl hd hjm (l' := .nilrow) (runSl hv hc (Nat.le_refl _)) hs.below hr hlj rfl rfl (Nat.le_refl _) (fun _ _ _ => rfl) (fun g' c' e => by cases e) (fun ρ' row' => ?_) (fun ρ' row' h9 h10 => ?_) hK
      · exact ⟨rfl, h2, h3⟩
      · refine .inr ⟨_, .ownNil j e τ false app h10 h9, ?_⟩
        simp [valOf, isAg]
theorem step_clear {args : Array Operand} {T : TypeId} {j i e : Nat} {τ : Ty} {xs : List (den τ)} {app : Bool} {p : List Nat} (ho : o.op = .call { callee := .builtin .clear, args := args, argTypes := #[T] }) (hargs : mapE (ev E st) args.toList = [.ep j (some i) p])
    (hT : E.ty T = some (.sl τ)) (hp : tailP p = true) (hr : st.row j = some (.flat e τ xs false app)) (hag : agT τ = false)
    (hK : Nx E w0 B pv S ρ st o.dst ⟨undefV, [], [], none, some (j, .flat e τ (xs.take i ++ List.replicate (xs.length - i) (dflt τ)) false app)⟩ id K) : o.wp P a w K Q := by
  obtain ⟨x, hx⟩ : ∃ x, args = #[x] ∧ ev E st x = .ep j (some i) p := by
    rw [mapE_eq] at hargs
    match h : args.toList, hargs with
    | [x], hargs => exact ⟨x, Array.toList_inj.1 (by rw [h]), by simpa using hargs⟩
    | [], hargs => simp at hargs
    | _ :: _ :: _, hargs => simp at hargs
  obtain ⟨rfl, hx⟩ := hx
  have e1 := ev_ok hgl hs x
  rw [hx] at e1
  obtain ⟨t, hu, het, hte, hpos, hnb⟩ := (hE.ty _ _ hT).und
  have hnc : nc τ = 1 := by cases τ <;> first | rfl | cases hag
  obtain ⟨cs, h', hv⟩ := vr_ar e1 (by simp)
  have hf : ∃ l, ρ j = some l ∧ i ≤ xs.length ∧ a.eval x = tailV l xs.length i (nc τ) := by
    cases h' with
    | epF _ e' τ' σ' xs' fz' app' g cap _ _ h1 hl hi hp' =>
      rw [hr] at h1
      cases h1
      match p, hp, hp' with
      | [f], _, hp' => rw [flat_tyP hag] at hp'; cases hp'
    | tl _ e' τ' xs' fz' app' l _ h1 hl hi hm =>
      rw [hr] at h1
      cases h1
      exact ⟨l, hl, hi, by rw [hv]; rfl⟩
  obtain ⟨l, hlj, hi, hval⟩ := hf
  have same : xs.take i ++ List.replicate (xs.length - i) (dflt τ) = xs → l = .nilrow ∨ xs.length - i = 0 → o.wp P a w K Q := fun hxs hcase => by
    have hs' := hs.sto (w' := w) hs.below hr hlj (.flat _ _ _ _ _ e _ false app rfl) rfl rfl rfl (fun _ _ => rfl) fun row' hk => RowOk.ext (P := fun _ => True) (fun _ h => h) (fun _ _ => rfl) (fun i l r _ h1 h2 => ⟨h1, hk i l r h1 h2⟩) (hs.hs.rows j _ _ hr hlj) (fun _ _ _ => rfl) (fun _ _ _ _ _ => trivial)
    rw [hxs] at hK
    refine Oper.wp_value (w' := w) (v := .tuple #[]) (builtin_run ho ?_) (hK S ρ _ w (hs'.put (dst_lt hd) vr_undef) hgl (Grew.refl _ _) (fun _ h _ => h))
    have hcl : (Builtin.clear_ #[T] o.type #[a.eval x]).run P w = .ok (.tuple #[]) w := by
      rw [hval]
      unfold Builtin.clear_
      rcases hcase with rfl | h0
      · simp [tailV, run_underlying hu]
      · cases l with
        | nilrow => simp [tailV, run_underlying hu]
        | «at» g cap => simp [tailV, run_underlying hu, h0]
    simp [builtin, hcl]
  cases l with
  | nilrow =>
    obtain ⟨rfl, _⟩ := hs.hs.rows j _ _ hr hlj
    have : i = 0 := by simpa using hi
    subst this
    exact same rfl (.inl rfl)
  | «at» g cap =>
    by_cases h0 : xs.length - i = 0
    · exact same (by rw [h0, List.take_of_length_le (by omega)]; simp) (.inr h0)
    · obtain ⟨cur, f, h1, h2, h3, h4, h5, h6, h7, h8⟩ := hs.hs.rows j _ _ hr hlj
      have hap := hs.hs.apart j _ g cap hlj hr
      rw [hnc, Nat.mul_one] at h2
      have hci : ¬ cap = i := by omega
      obtain ⟨z0, hz0⟩ : ∃ z0, zc τ = [z0] := by
        have := (zc_ok S w τ).len
        rw [hnc] at this
        match hq : zc τ, this with
        | [z0], _ => exact ⟨z0, rfl⟩
      have hz := zc_ok S w τ
      have hzc : (valOf (.t τ (dflt τ)) (zc τ)).cells.toList = zc τ := valOf_cells (S := S) (w := w) (ρ := ρ) (row := st.row) (pv := pv) (.t τ (dflt τ)) (.t τ _ _ hz)
      have hzc' : (valOf (.t τ (dflt τ)) (zc τ)).cells = #[z0] := Array.toList_inj.1 (by rw [hzc, hz0])
      have hcells : (Builtin.zeroCells (valOf (.t τ (dflt τ)) (zc τ)).cells (xs.length - i)).toList = List.replicate (xs.length - i) z0 := by
        rw [hzc']
        simp only [Builtin.zeroCells, List.size_toArray, List.length_cons, List.length_nil, Nat.zero_add, Nat.mul_one, Array.toList_map, Array.toList_range]
        apply List.ext_getElem
        · simp
        · intro q q1 q2
          simp [Nat.mod_one]
      have hone : ∀ v ∈ List.replicate (xs.length - i) z0, v.oneCell' = true := fun v hv => by
        rw [List.eq_of_mem_replicate hv]
        exact hz.one z0 (by rw [hz0]; exact List.mem_cons_self)
      have hst := run_cells_f P g i e f (List.replicate (xs.length - i) z0) 0 cur w h1 h6 (by simp; omega) hone
      rw [Nat.add_zero] at hst
      have hsp : (cur.toList.take i ++ List.replicate (xs.length - i) z0 ++ cur.toList.drop (i + (List.replicate (xs.length - i) z0).length)) = splice cur.toList i (List.replicate (xs.length - i) z0) := rfl
      rw [hsp] at hst
      have hl2 : i + (List.replicate (xs.length - i) z0).length ≤ cur.toList.length := by simp; omega
      have hlen : (splice cur.toList i (List.replicate (xs.length - i) z0)).length = cur.size := by rw [splice_length hl2]; simp
      have hget := splice_get (cs := cur.toList) (c := List.replicate (xs.length - i) z0) (o := i) hl2
      have hw : ∀ k, S k → (w.setRow g (splice cur.toList i (List.replicate (xs.length - i) z0)).toArray).heap[k]? = w.heap[k]? := fun k hk => setRow_other w g k _ fun e => hap.2.1 rfl (e ▸ hk)
      have hm := hs.sto (w' := w.setRow g (splice cur.toList i (List.replicate (xs.length - i) z0)).toArray) (r' := .flat e τ (xs.take i ++ List.replicate (xs.length - i) (dflt τ)) false app) (below_setRow hs.below hap.1 _) hr hlj (.flat _ _ _ _ _ _ _ _ _ (by simp; omega)) rfl rfl (by simp [World.setRow])
        (fun k hk => setRow_other w g k _ (hk g cap rfl)) ?_
      · refine Oper.wp_value (w' := w.setRow g (splice cur.toList i (List.replicate (xs.length - i) z0)).toArray) (v := .tuple #[]) (builtin_run ho ?_) (hK S ρ _ _ (hm.put (dst_lt hd) vr_undef) (hgl.mono (fun _ h => h) hw) (Grew.refl _ _) (fun _ h _ => h))
        have hcl : (Builtin.clear_ #[T] o.type #[a.eval x]).run P w = .ok (.tuple #[]) (w.setRow g (splice cur.toList i (List.replicate (xs.length - i) z0)).toArray) := by
          rw [hval]
          obtain ⟨q, hq⟩ : ∃ q, xs.length - i = q + 1 := ⟨xs.length - i - 1, by omega⟩
          unfold Builtin.clear_
          simp only [tailV, if_neg hci, hnc, Nat.mul_one]
          rw [hq] at hcells hst ⊢
          simp [run_underlying hu, run_zeroT (hE.ty _ _ hte), hcells, hst]
        simp [builtin, hcl]
      · intro row' hk
        refine ⟨_, _, setRow_heap w g cur _ _ _ h1, by simpa [hlen, hnc] using h2, by simp; omega, h4, h5, (by simpa [hlen] using h6), h7, fun k hk' => ?_⟩
        have hk2 : k < xs.length := by simp at hk'; omega
        by_cases c : k < i
        · obtain ⟨cs', hc1, hc2⟩ := h8 k hk2
          refine ⟨cs', ?_, fun m u hm => ?_⟩
          · rw [List.getElem_append_left (by simp; omega), List.getElem_take]
            exact hc1.mono (fun _ h => h) hw
          · have hml : m < 1 := by have := (List.getElem?_eq_some_iff.1 hm).1; rw [hc1.len, hnc] at this; exact this
            have hx2 := hc2 m u hm
            simp only [hnc, Nat.mul_one] at hx2 ⊢
            simp only [List.getElem?_toArray]
            rw [hget, if_pos (by omega)]
            simpa using hx2
        · refine ⟨zc τ, ?_, fun m u hm => ?_⟩
          · rw [List.getElem_append_right (by simp; omega), List.getElem_replicate]
            exact zc_ok _ _ τ
          · have hml : m < 1 := by have := (List.getElem?_eq_some_iff.1 hm).1; rw [hz.len, hnc] at this; exact this
            have hm0 : m = 0 := by omega
            subst hm0
            rw [hz0] at hm
            simp only [List.getElem?_cons_zero, Option.some.injEq] at hm
            subst hm
            simp only [hnc, Nat.mul_one, Nat.add_zero, List.getElem?_toArray]
            rw [hget, if_neg c, if_pos (by simp; omega)]
            rw [List.getElem?_replicate, if_pos (by omega)]
end
end Go.Gx
