/- The interpreter's operations are the machine's: numbers, texts, places, pieces. -/
import Derived.Test.YtnffgabfibafjaaDoorGxStep2
import Derived.Laws.Strings
import Derived.Laws.Concat
import Derived.Laws.StructEq
import Derived.Laws.Small
namespace Go.Gx
open Go.RowKit
set_option linter.unusedVariables false
set_option linter.unusedSimpArgs false

theorem valsOf_get : ∀ {vs : List AV} {css : List (List Value)}, vs.length = css.length → ∀ {i : Nat} {b : AV}, vs[i]? = some b → ∃ cs, css[i]? = some cs ∧ (valsOf vs css)[i]? = some (valOf b cs)
  | [], _, _, i, b, hb => by simp at hb
  | a :: l, [], h, _, _, _ => by simp at h
  | a :: l, c :: m, h, 0, b, hb => by
    simp only [List.getElem?_cons_zero, Option.some.injEq] at hb
    subst hb
    exact ⟨c, rfl, rfl⟩
  | a :: l, c :: m, h, i + 1, b, hb => by
    obtain ⟨cs, h1, h2⟩ := valsOf_get (vs := l) (css := m) (by simpa using h) (i := i) (by simpa using hb)
    exact ⟨cs, by simpa using h1, by simpa [valsOf] using h2⟩

/-! ### Bounds -/
theorem cut_spec {lo hi : Option Int} {n a b : Nat} (h : CutR lo hi n a b) : a ≤ b ∧ b ≤ n ∧ (lo = none → a = 0) ∧ (hi = none → b = n) ∧ (∀ l, lo = some l → 0 ≤ l ∧ l = (a : Int)) ∧ (∀ l, hi = some l → 0 ≤ l ∧ l = (b : Int)) := by
  unfold CutR at h
  cases lo <;> cases hi <;> simp only [cut] at h
  · cases h
    exact ⟨Nat.zero_le _, Nat.le_refl _, fun _ => rfl, fun _ => rfl, fun l e => (by cases e), fun l e => (by cases e)⟩
  · rename_i l
    obtain ⟨h1, h⟩ := cond_some h
    obtain ⟨h2, h⟩ := cond_some h
    have h1 := of_decide_eq_true h1
    have h2 := of_decide_eq_true h2
    cases h
    exact ⟨Nat.zero_le _, by omega, fun _ => rfl, fun e => (by cases e), fun l e => (by cases e), fun l e => by cases e; omega⟩
  · rename_i l
    obtain ⟨h1, h⟩ := cond_some h
    obtain ⟨h2, h⟩ := cond_some h
    have h1 := of_decide_eq_true h1
    have h2 := of_decide_eq_true h2
    cases h
    exact ⟨by omega, Nat.le_refl _, fun e => (by cases e), fun e => rfl, fun l e => (by cases e; omega), fun l e => by cases e⟩
  · rename_i l l'
    obtain ⟨h1, h⟩ := cond_some h
    obtain ⟨h2, h⟩ := cond_some h
    obtain ⟨h3, h⟩ := cond_some h
    obtain ⟨h4, h⟩ := cond_some h
    have h1 := of_decide_eq_true h1
    have h2 := of_decide_eq_true h2
    have h3 := of_decide_eq_true h3
    have h4 := of_decide_eq_true h4
    cases h
    exact ⟨by omega, by omega, fun e => (by cases e), fun e => (by cases e), fun l e => (by cases e; omega), fun l e => (by cases e; omega)⟩
theorem piece_eq {α : Type} {lo hi : Option Int} {xs : List α} {a b : Nat} (h : CutR lo hi xs.length a b) : pieceL lo hi xs a b = (xs.take b).drop a := by
  obtain ⟨h1, h2, h3, h4, _, _⟩ := cut_spec h
  cases lo with
  | none =>
    have e := h3 rfl
    subst e
    cases hi with
    | none =>
      have e := h4 rfl
      subst e
      simp [pieceL]
    | some l => simp [pieceL]
  | some l =>
    cases hi with
    | none =>
      have e := h4 rfl
      subst e
      simp [pieceL]
    | some l' => simp [pieceL]
theorem run_bounds {P : Program} {w : World} {isSlice : Bool} {lo hi : Option Int} {n cap a b : Nat} (h : CutR lo hi n a b) (hc : n ≤ cap) :
    (Instr.sliceBounds isSlice n cap (lo.map (Value.int .i64)) (hi.map (Value.int .i64)) none).run P w = .ok (a, b, cap) w := by
  obtain ⟨h1, h2, h3, h4, h5, h6⟩ := cut_spec h
  cases lo with
  | none =>
    cases hi with
    | none => simp [Instr.sliceBounds, h3 rfl, h4 rfl]
    | some l =>
      obtain ⟨h7, h8⟩ := h6 l rfl
      have h9 : l ≤ (cap : Int) := by omega
      have e : l.toNat = b := by omega
      simp [Instr.sliceBounds, Instr.sliceBound, asIntOf, h7, h9, e, h3 rfl]
  | some l =>
    obtain ⟨h7, h8⟩ := h5 l rfl
    have e : l.toNat = a := by omega
    cases hi with
    | none =>
      have h9 : l ≤ (n : Int) := by rw [h8]; exact_mod_cast (h4 rfl ▸ h1)
      simp [Instr.sliceBounds, Instr.sliceBound, asIntOf, h7, h9, e, h4 rfl]
    | some l' =>
      obtain ⟨h10, h11⟩ := h6 l' rfl
      have e' : l'.toNat = b := by omega
      have h9 : l' ≤ (cap : Int) := by omega
      have h12 : l ≤ (b : Int) := by omega
      simp [Instr.sliceBounds, Instr.sliceBound, asIntOf, h7, h9, h10, e, e', h12]
theorem cr_piece {S : Nat → Prop} {w : World} {e : Ty} {xs : List (den e)} {A : Option Addr} {c a b : Nat} (h : CR S w (.sl e) xs [.slice A xs.length c]) {lo hi : Option Int} (hc : CutR lo hi xs.length a b) :
    CR S w (.sl e) (pieceL lo hi xs a b) [.slice (if c = a then A else A.map (·.add (a * nc e))) (b - a) (c - a)] := by
  obtain ⟨A', c', cv, e1, h1, h2, h3, h4⟩ := cr_sl_inv h
  cases e1
  obtain ⟨h5, h6, _⟩ := cut_spec hc
  rw [piece_eq hc]
  have hl : ((xs.take b).drop a).length = b - a := by simp; omega
  have key := CR.sl (S := S) (w := w) e ((xs.take b).drop a) (if c = a then A else A.map (·.add (a * nc e))) (c - a) (fun i => cv (a + i)) (by omega) (by omega) (fun i hi => ?_) (fun i hi => ?_)
  · rw [hl] at key; exact key
  · have := h3 (a + i) (by omega)
    simpa using this
  · obtain ⟨g, o, rfl, hS, hv⟩ := h4 (a + i) (by omega)
    refine ⟨g, o + a * nc e, ?_, hS, fun j v hj => ?_⟩
    · rw [if_neg (by omega)]
      simp [Addr.add_lit]
    · have := hv j v hj
      rw [Nat.add_mul] at this
      rw [← this]
      congr 2
      omega

theorem wrap_id {n : Int} (h : 0 ≤ n) (h2 : n ≤ 9223372036854775807) : IntKind.i64.wrap n = n := by rw [IntKind.wrap_i64]; omega
theorem made_get {z : Array Value} {n k : Nat} (hk : k < n) (hz : 0 < z.size) : (madeCells z n)[k]? = z[k % z.size]? := by
  have : k % z.size < z.size := Nat.mod_lt _ hz
  simp [madeCells, hk, this]

section
variable {P : Program} {E : Env} {w0 : World} {B : Old} {pv : Nat → Value} {S : Nat → Prop} {ρ : Nat → Option Loc} {st : St} {a : Act} {w : World} {o : Oper} {id : Nat} {K : Act → World → Prop} {Q : Exit → Act → World → Prop}
variable (hE : EnvOk P E) (hs : Sim w0 B pv S ρ st a w) (hgl : GlOk E S w) (hd : dstOk o st.nt = true)
include hs hgl hd

theorem step_extract {x : Operand} {i : Nat} {vs : List AV} {b : AV} (ho : o.op = .extract x i) (hx : ev E st x = .tup vs) (hb : vs[i]? = some b) (hK : Nx E w0 B pv S ρ st o.dst (quiet b) id K) : o.wp P a w K Q := by
  have h1 := ev_ok hgl hs x
  rw [hx] at h1
  obtain ⟨cs, h', h2⟩ := vr_ar h1 (by simp)
  cases h' with
  | tup _ css hl hh =>
    obtain ⟨c, h3, h4⟩ := valsOf_get hl hb
    refine wp_quiet hs hgl hd (v := valOf b c) ?_ (.inr ⟨c, hh i b c hb h3, rfl⟩) hK
    simp only [valOf, isAg, cond_false, List.headD_cons] at h2
    unfold execOp
    simp only [ho, Instr.extract, h2]
    simp [h4, valOf]
include hE in
theorem step_index {T : TypeId} {x ix : Operand} {s : ByteArray} {i : Int} (ho : o.op = .index T x ix) (hT : E.ty T = some .str) (hx : ev E st x = .t .str s) (hi : ev E st ix = .t (.int .i64) i) (h0 : 0 ≤ i) (h1 : i < (s.size : Int))
    (hK : Nx E w0 B pv S ρ st o.dst (quiet (.t (.int .u8) (bt s i.toNat))) id K) : o.wp P a w K Q := by
  have e1 := ev_ok hgl hs x
  have e2 := ev_ok hgl hs ix
  rw [hx] at e1
  rw [hi] at e2
  have hu : P.underlying T = some .string := (hE.ty _ _ hT).und
  have hlt : i.toNat < s.size := by omega
  refine wp_quiet hs hgl hd (v := .int .u8 (bt s i.toNat)) ?_ (.inr ⟨_, .t _ _ _ (.int _ _), rfl⟩) hK
  unfold execOp
  have hg : s[i.toNat]? = some s[i.toNat] := getElem?_pos s i.toNat hlt
  have hb : bt s i.toNat = ((s[i.toNat]).toNat : Int) := by
    unfold bt
    rw [Array.getD_eq_getD_getElem?, Array.getElem?_eq_getElem (by exact hlt)]
    rfl
  simp [ho, vr_str e1, vr_int e2, Instr.index, asIntOf, run_underlying hu, h0, hg, hb]
include hE in
theorem step_indexAddr {T : TypeId} {x ix : Operand} {i : Int} {u : Upd} (ho : o.op = .indexAddr T x ix) (hi : ev E st ix = .t (.int .i64) i) (h0 : 0 ≤ i)
    (h : (∃ τ, ∃ xs : List (den τ), E.ty T = some (.sl τ) ∧ ev E st x = .t (.sl τ) xs ∧ i < (xs.length : Int) ∧ u = quiet (.tp (.t τ (xs.getD i.toNat (dflt τ))))) ∨
       (∃ j e τ, ∃ xs : List (den τ), ∃ fz app, E.ty T = some (.sl τ) ∧ ev E st x = .own j ∧ st.row j = some (.flat e τ xs fz app) ∧ i < (xs.length : Int) ∧ u = quiet (.ep j (some i.toNat) [])) ∨
       (∃ n τ, ∃ xs : List (den τ), E.ty T = some (.arr n τ) ∧ ev E st x = .tp (.t (.arr n τ) xs) ∧ 1 < n ∧ i < (n : Int) ∧ u = quiet (.tp (.t τ (xs.getD i.toNat (dflt τ))))))
    (hK : Nx E w0 B pv S ρ st o.dst u id K) : o.wp P a w K Q := by
  have e2 := ev_ok hgl hs ix
  rw [hi] at e2
  have e1 := ev_ok hgl hs x
  rcases h with ⟨τ, xs, hT, hx, h1, rfl⟩ | ⟨j, e, τ, xs, fz, app, hT, hx, hr, h1, rfl⟩ | ⟨n, τ, xs, hT, hx, hn, h1, rfl⟩
  · rw [hx] at e1
    obtain ⟨t, hu, _, hte, _⟩ := (hE.ty _ _ hT).und
    obtain ⟨A, c, cv, e3, h2, h3, h4, h5⟩ := cr_sl_inv (vr_sl e1)
    have hlt : i.toNat < xs.length := by omega
    obtain ⟨g, off, rfl, hS, hv⟩ := h5 _ hlt
    have eg : xs.getD i.toNat (dflt τ) = xs[i.toNat] := by simp [List.getD, hlt]
    rw [eg] at hK
    refine wp_quiet hs hgl hd (v := .pointer (some ⟨g, off + i.toNat * nc τ, none⟩)) ?_ (.inr ⟨_, .tp τ _ _ g _ (h4 _ hlt) hS (fun j v hj => by rw [Nat.add_assoc]; exact hv j v hj), rfl⟩) hK
    unfold execOp
    simp [ho, e3, vr_int e2, Instr.indexAt, asIntOf, run_underlying hu, h0, h1, run_sizeOfT (hE.ty _ _ hte), Addr.add_lit]
  · rw [hx] at e1
    obtain ⟨t, hu, _, hte, _⟩ := (hE.ty _ _ hT).und
    have hlt : i.toNat < xs.length := by omega
    rcases vr_own e1 hr with ⟨g, c, hl, e3⟩ | ⟨_, rfl, _⟩
    · refine wp_quiet hs hgl hd (v := .pointer (some ⟨g, i.toNat * nc τ, none⟩)) ?_ (.inr ⟨_, .epF j e τ τ xs fz app g c i.toNat [] hr hl hlt rfl, by simp [valOf, isAg, offP]⟩) hK
      unfold execOp
      simp [ho, e3, vr_int e2, Instr.indexAt, asIntOf, run_underlying hu, h0, h1, run_sizeOfT (hE.ty _ _ hte), Addr.add_lit]
    · simp at hlt
  · rw [hx] at e1
    obtain ⟨t, hu, hte⟩ := (hE.ty _ _ hT).und
    obtain ⟨τ', y', cs, g, off, e, h3, h4, h5, h6⟩ := vr_tp e1
    cases e
    cases h4 with
    | arr _ _ _ cv hl hh =>
      have hlt : i.toNat < xs.length := by omega
      have eg : xs.getD i.toNat (dflt τ) = xs[i.toNat] := by simp [List.getD, hlt]
      rw [eg] at hK
      have hcl : ∀ k, k < n → (cv k).length = nc τ := fun k hk => (hh k (by omega)).len
      have hseg : ∀ j v, (cv i.toNat)[j]? = some v → ((List.range n).flatMap cv)[i.toNat * nc τ + j]? = some v := by
        intro j v hj
        have hj' : j < nc τ := by have := (List.getElem?_eq_some_iff.1 hj).1; rw [hcl _ (by omega)] at this; exact this
        have split : ∀ m, m ≤ n → ((List.range m).flatMap cv).length = m * nc τ := fun m => by
          induction m with
          | zero => simp
          | succ m ih =>
            intro hm
            rw [List.range_succ, List.flatMap_append, List.length_append, ih (by omega)]
            simp [hcl m (by omega), Nat.succ_mul]
        have e1 : n = i.toNat + (1 + (n - i.toNat - 1)) := by omega
        rw [e1, List.range_add, List.flatMap_append, List.getElem?_append_right (by rw [split _ (by omega)]; omega), split _ (by omega), Nat.add_sub_cancel_left,
          List.range_add, List.map_append, List.flatMap_append]
        simp only [List.range_one, List.map_cons, List.map_nil, List.flatMap_cons, List.flatMap_nil, List.append_nil, Nat.add_zero]
        rw [List.getElem?_append_left (by rw [hcl _ (by omega)]; exact hj')]
        exact hj
      refine wp_quiet hs hgl hd (v := .pointer (some ⟨g, off + i.toNat * nc τ, none⟩)) ?_ (.inr ⟨_, .tp τ _ _ g _ (hh _ hlt) h5 (fun j v hj => by rw [Nat.add_assoc]; exact h6 _ v (hseg j v hj)), rfl⟩) hK
      unfold execOp
      have h1' : i < (n : Int) := h1
      simp [ho, h3, vr_int e2, Instr.indexAt, Instr.sureAddr, asIntOf, run_underlying hu, h0, h1', run_sizeOfT (hE.ty _ _ hte), Addr.add_lit]
theorem step_binOp {op : BinOp} {T : TypeId} {x y : Operand} {z : Nat} {b : AV} (ho : o.op = .binOp op T x y z) (hb : binA op (ev E st x) (ev E st y) some = some b) (hK : Nx E w0 B pv S ρ st o.dst (quiet b) id K) : o.wp P a w K Q := by
  have e1 := ev_ok hgl hs x
  have e2 := ev_ok hgl hs y
  unfold binA at hb
  split at hb
  · rename_i k m k' n hx hy
    rw [hx] at e1
    rw [hy] at e2
    split at hb
    · rename_i e _
      subst e
      have go : ∀ {τ : Ty} {c : den τ} {v : Value}, CR S w τ c [v] → isAg (.t τ c) = false → b = .t τ c → (execOp a.eval o).run P w = .ok (.value v) w → o.wp P a w K Q := fun hc hg e hr => by
        subst e
        exact wp_quiet hs hgl hd hr (.inr ⟨_, .t _ _ _ hc, by simp [valOf, hg]⟩) hK
      cases op <;> simp only [binI] at hb
      case add => cases hb; exact go (.int _ _) rfl rfl (by unfold execOp; simp [ho, vr_int e1, vr_int e2, eqGuard_at_int, binOp_add, Op.intArith])
      case sub => cases hb; exact go (.int _ _) rfl rfl (by unfold execOp; simp [ho, vr_int e1, vr_int e2, eqGuard_at_int, binOp_sub, Op.intArith])
      case mul => cases hb; exact go (.int _ _) rfl rfl (by unfold execOp; simp [ho, vr_int e1, vr_int e2, eqGuard_at_int, binOp_mul, Op.intArith])
      case quo =>
        cases hz : (n == 0) with
        | true => rw [hz] at hb; cases hb
        | false =>
          rw [hz] at hb
          cases hb
          have hz : n ≠ 0 := by simpa using hz
          exact go (.int _ _) rfl rfl (by unfold execOp; simp [ho, vr_int e1, vr_int e2, eqGuard_at_int, binOp_quo, Op.intDiv, hz])
      case rem =>
        cases hz : (n == 0) with
        | true => rw [hz] at hb; cases hb
        | false =>
          rw [hz] at hb
          cases hb
          have hz : n ≠ 0 := by simpa using hz
          exact go (.int _ _) rfl rfl (by unfold execOp; simp [ho, vr_int e1, vr_int e2, eqGuard_at_int, binOp_rem, Op.intDiv, hz])
      case eql => cases hb; exact go (.bool _) rfl rfl (by unfold execOp; simp [ho, vr_int e1, vr_int e2, eqGuard_at_int, binOp_eql])
      case neq => cases hb; exact go (.bool _) rfl rfl (by unfold execOp; simp [ho, vr_int e1, vr_int e2, eqGuard_at_int, binOp_neq])
      case lss => cases hb; exact go (.bool _) rfl rfl (by unfold execOp; simp [ho, vr_int e1, vr_int e2, eqGuard_at_int, binOp_lss])
      case leq => cases hb; exact go (.bool _) rfl rfl (by unfold execOp; simp [ho, vr_int e1, vr_int e2, eqGuard_at_int, binOp_leq])
      case gtr => cases hb; exact go (.bool _) rfl rfl (by unfold execOp; simp [ho, vr_int e1, vr_int e2, eqGuard_at_int, binOp_gtr])
      case geq => cases hb; exact go (.bool _) rfl rfl (by unfold execOp; simp [ho, vr_int e1, vr_int e2, eqGuard_at_int, binOp_geq])
      all_goals cases hb
    · cases hb
  · rename_i s t hx hy
    rw [hx] at e1
    rw [hy] at e2
    have go : ∀ {τ : Ty} {c : den τ} {v : Value}, CR S w τ c [v] → isAg (.t τ c) = false → b = .t τ c → (execOp a.eval o).run P w = .ok (.value v) w → o.wp P a w K Q := fun hc hg e hr => by
      subst e
      exact wp_quiet hs hgl hd hr (.inr ⟨_, .t _ _ _ hc, by simp [valOf, hg]⟩) hK
    cases op <;> simp only [binS] at hb
    case add =>
      obtain ⟨h1, hb⟩ := cond_some hb
      cases hb
      exact go (.str _) rfl rfl (by unfold execOp; simp [ho, vr_str e1, vr_str e2, eqGuard_at_string, binOp_string_add, run_string_add_sum w s t (Nat.le_of_ble_eq_true h1)])
    case eql => cases hb; exact go (.bool _) rfl rfl (by unfold execOp; simp [ho, vr_str e1, vr_str e2, eqGuard_at_string, binOp_string_eql, beqS])
    case neq => cases hb; exact go (.bool _) rfl rfl (by unfold execOp; simp [ho, vr_str e1, vr_str e2, eqGuard_at_string, binOp_string_neq, beqS])
    case lss => cases hb; exact go (.bool _) rfl rfl (by unfold execOp; simp [ho, vr_str e1, vr_str e2, eqGuard_at_string, binOp_string_lss, ltS])
    case leq => cases hb; exact go (.bool _) rfl rfl (by unfold execOp; simp [ho, vr_str e1, vr_str e2, eqGuard_at_string, binOp, Op.stringOp, ltS, beqS])
    case gtr => cases hb; exact go (.bool _) rfl rfl (by unfold execOp; simp [ho, vr_str e1, vr_str e2, eqGuard_at_string, binOp, Op.stringOp, ltS, beqS])
    case geq => cases hb; exact go (.bool _) rfl rfl (by unfold execOp; simp [ho, vr_str e1, vr_str e2, eqGuard_at_string, binOp, Op.stringOp, ltS, beqS])
    all_goals cases hb
  · cases hb
include hE in
theorem step_binT {op : BinOp} {T : TypeId} {x y : Operand} {z : Nat} {b : AV} (ho : o.op = .binOp op T x y z) (hb : binT op (E.ty T) (ev E st x) (ev E st y) some = some b) (hK : Nx E w0 B pv S ρ st o.dst (quiet b) id K) : o.wp P a w K Q := by
  have e1 := ev_ok hgl hs x
  have e2 := ev_ok hgl hs y
  unfold binT at hb
  split at hb
  · rename_i p q hT hx hy
    rw [hx] at e1
    rw [hy] at e2
    have hu : P.underlying T = some .bool := (hE.ty _ _ hT).und
    have hq := run_eql_bool (P := P) (w := w) T p q hu
    have hn : (binOp .neq T (.bool p) (.bool q)).run P w = .ok (.bool (!(p == q))) w := by
      simp [binOp, run_equal_bool w T p q hu]
    cases op <;> simp only at hb
    case eql => cases hb; exact wp_quiet hs hgl hd (v := .bool (p == q)) (by unfold execOp; simp only [ho, vr_bool e1, vr_bool e2, eqGuard_at_bool, Sem.run_bind, Sem.run_pure, Result.andThen_ok, hq]) (.inr ⟨_, .t _ _ _ (.bool _), rfl⟩) hK
    case neq => cases hb; exact wp_quiet hs hgl hd (v := .bool (!(p == q))) (by unfold execOp; simp only [ho, vr_bool e1, vr_bool e2, eqGuard_at_bool, Sem.run_bind, Sem.run_pure, Result.andThen_ok, hn]) (.inr ⟨_, .t _ _ _ (.bool _), rfl⟩) hK
    all_goals cases hb
  · rename_i p q hT hx hy
    rw [hx] at e1
    rw [hy] at e2
    obtain ⟨hg, heq⟩ := hE.eqDate T hT
    have f : ∀ {d : Date} {v : Value}, VR S w ρ st.row pv (.t .date d) v → v = .agg #[.int .i64 d.y, .int .i64 d.m, .int .i64 d.d, .bool d.c] := fun h => by
      obtain ⟨cs, h', rfl⟩ := vr_ar h (by simp)
      rw [cr_date (ar_t h')]; rfl
    have hq := run_eql_struct (P := P) (w := w) T #[.int .i64 p.y, .int .i64 p.m, .int .i64 p.d, .bool p.c] #[.int .i64 q.y, .int .i64 q.m, .int .i64 q.d, .bool q.c]
    have hn := run_neq_struct (P := P) (w := w) T #[.int .i64 p.y, .int .i64 p.m, .int .i64 p.d, .bool p.c] #[.int .i64 q.y, .int .i64 q.m, .int .i64 q.d, .bool q.c]
    rw [heq p q w] at hq hn
    have hgd : ∀ op, (eqGuard op T x y (.agg #[.int .i64 p.y, .int .i64 p.m, .int .i64 p.d, .bool p.c]) (.agg #[.int .i64 q.y, .int .i64 q.m, .int .i64 q.d, .bool q.c])).run P w = .ok () w := fun op => run_eqGuard_agg (P := P) (w := w) op T x y _ _ hg
    cases op <;> simp only at hb
    case eql => cases hb; exact wp_quiet hs hgl hd (v := .bool _) (by unfold execOp; simp only [ho, f e1, f e2, hgd, Sem.run_bind, Sem.run_pure, Result.andThen_ok, hq]) (.inr ⟨_, .t _ _ _ (.bool _), rfl⟩) hK
    case neq => cases hb; exact wp_quiet hs hgl hd (v := .bool _) (by unfold execOp; simp only [ho, f e1, f e2, hgd, Sem.run_bind, Sem.run_pure, Result.andThen_ok, hn]) (.inr ⟨_, .t _ _ _ (.bool _), rfl⟩) hK
    all_goals cases hb
  · rename_i p q hT hx hy
    rw [hx] at e1
    rw [hy] at e2
    obtain ⟨hg, heq⟩ := hE.eqAbbr T hT
    have f : ∀ {d : Abbr} {v : Value}, VR S w ρ st.row pv (.t .abbr d) v → v = .agg #[.string d.word, .string d.short] := fun h => by
      obtain ⟨cs, h', rfl⟩ := vr_ar h (by simp)
      rw [cr_abbr (ar_t h')]; rfl
    have hq := run_eql_struct (P := P) (w := w) T #[.string p.word, .string p.short] #[.string q.word, .string q.short]
    have hn := run_neq_struct (P := P) (w := w) T #[.string p.word, .string p.short] #[.string q.word, .string q.short]
    rw [heq p q w] at hq hn
    have hgd : ∀ op, (eqGuard op T x y (.agg #[.string p.word, .string p.short]) (.agg #[.string q.word, .string q.short])).run P w = .ok () w := fun op => run_eqGuard_agg (P := P) (w := w) op T x y _ _ hg
    cases op <;> simp only at hb
    case eql => cases hb; exact wp_quiet hs hgl hd (v := .bool _) (by unfold execOp; simp only [ho, f e1, f e2, hgd, Sem.run_bind, Sem.run_pure, Result.andThen_ok, hq]) (.inr ⟨_, .t _ _ _ (.bool _), rfl⟩) hK
    case neq => cases hb; exact wp_quiet hs hgl hd (v := .bool _) (by unfold execOp; simp only [ho, f e1, f e2, hgd, Sem.run_bind, Sem.run_pure, Result.andThen_ok, hn]) (.inr ⟨_, .t _ _ _ (.bool _), rfl⟩) hK
    all_goals cases hb
  · exact step_binOp hs hgl hd ho hb hK
theorem step_unOp {op : UnOp} {c : Nat} {x : Operand} {b : AV} (ho : o.op = .unOp op c x) (hb : unA op (ev E st x) some = some b) (hK : Nx E w0 B pv S ρ st o.dst (quiet b) id K) : o.wp P a w K Q := by
  have e1 := ev_ok hgl hs x
  unfold unA at hb
  split at hb
  · rename_i v hx
    rw [hx] at e1
    cases hb
    exact wp_quiet hs hgl hd (by unfold execOp; simp [ho, vr_bool e1, Op.unary]; rfl) (.inr ⟨_, .t _ _ _ (.bool _), rfl⟩) hK
  · rename_i k n hx
    rw [hx] at e1
    cases hb
    exact wp_quiet hs hgl hd (by unfold execOp; simp [ho, vr_int e1, Op.unary, Op.intArith]; rfl) (.inr ⟨_, .t _ _ _ (.int _ _), by simp [valOf, isAg, agT]⟩) hK
  · cases hb
end
end Go.Gx
