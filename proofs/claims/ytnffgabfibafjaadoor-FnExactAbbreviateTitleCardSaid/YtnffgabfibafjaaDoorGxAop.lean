/- The interpreter's operations meet the relation. -/
import Derived.Test.YtnffgabfibafjaaDoorGxOps
namespace Go.Gx
section
variable {R : Type} {r : R} {E : Env} {C : Orc} {G : Cal → List AV → AV → Prop}
theorem fit_true {τ : Ty} {a : AV} (h : fit τ a = true) : Fit τ a := fit_fit h
theorem evO_some {ev : Operand → AV} {x : Option Operand} {n : Option Int} (_ : evO ev x = some n) : True := trivial
theorem movK_form (j : Nat) (l h : Option Int) (fz ag : Bool) :
    (movK j l h fz ag = 1 → j ≠ mbase ∧ fz = false ∧ ag = false ∧ (∃ l0, l = some l0) ∧ h = none) ∧
    (movK j l h fz ag ≠ 0 → movK j l h fz ag ≠ 1 → j ≠ mbase ∧ fz = false ∧ ag = false ∧ (∃ h0, h = some h0) ∧ l = none) := by
  have hne : ∀ {b : Bool}, (Nat.beq j mmove && b) = true → j ≠ mbase := fun hb e => by
    subst e
    exact absurd hb (by simp [mbase, mmove])
  unfold movK
  refine ⟨fun hk => ?_, fun h0 h1 => ?_⟩
  · split at hk
    · rename_i hb
      refine ⟨hne hb, ?_⟩
      simp only [Bool.and_eq_true, Bool.not_eq_true'] at hb
      exact ⟨hb.2.1, hb.2.2, ⟨_, rfl⟩, rfl⟩
    · cases hk
    · cases hk
  · split at h0
    · rename_i hb
      rw [hb] at h1
      exact absurd rfl h1
    · rename_i hb
      refine ⟨hne hb, ?_⟩
      simp only [Bool.and_eq_true, Bool.not_eq_true'] at hb
      exact ⟨hb.2.1, hb.2.2, ⟨_, rfl⟩, rfl⟩
    · exact absurd rfl h0
theorem aop_rel (hC : OrcIs C G) {dr : Bool} {o : Oper} {id : Nat} {ev : Operand → AV} {row : Nat → Option Row} {K : Upd → Option R} (h : aop E C dr o id ev row K = some r) : ∃ u, AOp E G dr o id ev row u ∧ K u = some r := by
  obtain ⟨dst, op, type, pos, after, guard⟩ := o
  unfold AOp
  cases op <;> simp only [aop] at h ⊢
  case move x => exact ⟨_, rfl, h⟩
  case assign x => exact ⟨_, rfl, h⟩
  case pick c a b =>
    split at h
    · rename_i v hv
      refine ⟨_, ⟨v, hv, rfl⟩, ?_⟩
      cases v <;> exact h
    · cases h
  case alloc T =>
    split at h
    · rename_i τ hτ
      exact ⟨_, ⟨τ, hτ, rfl⟩, h⟩
    · cases h
  case box T x =>
    split at h
    · rename_i τ hτ
      split at h
      · rename_i hf
        exact ⟨_, ⟨τ, hτ, fit_fit hf, rfl⟩, h⟩
      · cases h
    · cases h
  case build T ps =>
    split at h
    · rename_i τ hτ
      split at h
      · rename_i hg
        split at h
        · rename_i fs hfs
          exact ⟨_, ⟨τ, fs, hτ, hg, hfs, rfl⟩, h⟩
        · cases h
      · cases h
    · cases h
  case buildSlice T n ps =>
    split at h
    · rename_i τ hτ
      split at h
      · rename_i fs hb hfs
        split at h
        · rename_i xs hxs
          split at h
          · rename_i hi he
            exact ⟨_, ⟨τ, fs, xs, hτ, Nat.le_of_ble_eq_true hb, hfs, hxs, he, .inl hi, rfl⟩, by rw [hi]; exact h⟩
          · rename_i he _
            split at h
            · exact ⟨_, ⟨τ, fs, xs, hτ, Nat.le_of_ble_eq_true hb, hfs, hxs, he, .inr rfl, rfl⟩, h⟩
            · cases h
          · cases h
        · cases h
      · cases h
    · cases h
  case load T x =>
    split at h
    · rename_i τ σ y hτ hx
      split at h
      · rename_i e _
        subst e
        exact ⟨_, ⟨_, hτ, .inl ⟨y, hx, rfl⟩⟩, h⟩
      · cases h
    · rename_i τ j p hτ hx
      split at h
      · rename_i σ a hr
        split at h
        · rename_i ρ hp
          split at h
          · rename_i e _
            subst e
            split at h
            · rename_i b hb
              exact ⟨_, ⟨_, hτ, .inr (.inl ⟨j, p, σ, a, b, hx, hr, hp, hb, rfl⟩)⟩, h⟩
            · cases h
          · cases h
        · cases h
      · cases h
    · rename_i τ j i p hτ hx
      split at h
      · rename_i e σ xs fz app hr
        split at h
        · rename_i ρ hp
          split at h
          · rename_i e _
            subst e
            split at h
            · rename_i b hb
              exact ⟨_, ⟨_, hτ, .inr (.inr ⟨j, i, p, _, σ, xs, fz, app, b, hx, hr, hp, hb, rfl⟩)⟩, h⟩
            · cases h
          · cases h
        · cases h
      · cases h
    · cases h
  case store T x v =>
    split at h
    · rename_i τ j p hτ hx
      split at h
      · rename_i σ a hr
        split at h
        · rename_i ρ hp
          split at h
          · rename_i e _ hf
            subst e
            split at h
            · rename_i b hb
              exact ⟨_, ⟨_, hτ, fit_fit hf, .inl ⟨j, p, σ, a, b, hx, hr, hp, hb, rfl⟩⟩, h⟩
            · cases h
          · cases h
        · cases h
      · cases h
    · rename_i τ j i p hτ hx
      split at h
      · rename_i e σ xs app hr
        split at h
        · rename_i ρ hp
          split at h
          · rename_i e' _ hf
            subst e'
            split at h
            · rename_i b hb
              split at h
              · rename_i y hy
                exact ⟨_, ⟨_, hτ, fit_fit hf, .inr ⟨j, i, p, e, σ, xs, _, b, y, hx, hr, hp, hb, hy, rfl⟩⟩, h⟩
              · cases h
            · cases h
          · cases h
        · cases h
      · cases h
    · cases h
  case nilCheck x =>
    split at h
    · rename_i j i p hx
      split at h
      · rename_i hp
        exact ⟨_, ⟨rfl, .inl ⟨j, i, p, hx, hp⟩⟩, by rw [hx]; exact h⟩
      · cases h
    · rename_i a hx
      exact ⟨_, ⟨rfl, .inr (.inl ⟨a, hx⟩)⟩, by rw [hx]; exact h⟩
    · rename_i f c hx
      exact ⟨_, ⟨rfl, .inr (.inr ⟨f, c, hx⟩)⟩, by rw [hx]; exact h⟩
    · cases h
  case binOp bo t x y z =>
    obtain ⟨b, hb, h⟩ := binT_nat h
    exact ⟨_, ⟨b, hb, rfl⟩, h⟩
  case unOp uo t x =>
    obtain ⟨b, hb, h⟩ := unA_nat h
    exact ⟨_, ⟨b, hb, rfl⟩, h⟩
  case convert S T x =>
    split at h
    · rename_i i k j n hS hT hx
      exact ⟨_, .inl ⟨j, k, n, i, hS, hT, hx, rfl⟩, h⟩
    · rename_i s hS hT hx
      exact ⟨_, .inr (.inl ⟨s, hS, hT, hx, rfl⟩), h⟩
    · rename_i s hS hT hx
      obtain ⟨h0, h⟩ := cond_some h
      exact ⟨_, .inr (.inr (.inl ⟨s, hS, hT, hx, Nat.le_of_ble_eq_true h0, rfl⟩)), h⟩
    · rename_i hS hT
      split at h
      · rename_i xs hxs
        exact ⟨_, .inr (.inr (.inr (.inl ⟨xs, hS, hT, hxs, rfl⟩))), h⟩
      · cases h
    · rename_i i j n hS hT hx
      exact ⟨_, .inr (.inr (.inr (.inr ⟨i, j, n, hS, hT, hx, rfl⟩))), h⟩
    · cases h
  case makeFunc fn first caps =>
    cases fn <;> simp only at h
    case func f =>
      split at h
      · rename_i hf
        split at h
        · rename_i hn
          exact ⟨_, ⟨f, rfl, Array.toList_eq_nil_iff.1 hf, hn, rfl⟩, h⟩
        · cases h
      · cases h
    all_goals cases h
  case makeSlice T l c =>
    split at h
    · rename_i τ n m hT hl hc
      obtain ⟨h1, g1⟩ := cond_some h
      obtain ⟨h2, g2⟩ := cond_some g1
      obtain ⟨h3, g3⟩ := cond_some g2
      have e : n = m := by simpa using h1
      subst e
      exact ⟨_, ⟨τ, n, hT, hl, hc, of_decide_eq_true h2, Nat.le_of_ble_eq_true h3, rfl⟩, g3⟩
    · cases h
  case slice T x lo hi mx =>
    cases mx with
    | some _ => cases h
    | none =>
      simp only at h
      split at h
      · rename_i l h' s hT hl hh hx
        obtain ⟨a, b, hc, h⟩ := cut_some h
        exact ⟨_, ⟨rfl, l, h', hl, hh, .inr (.inl ⟨s, a, b, hT, hx, hc, rfl⟩)⟩, h⟩
      · rename_i σ l h' τ xs hT hl hh hx
        split at h
        · rename_i e _
          subst e
          obtain ⟨a, b, hc, h⟩ := cut_some h
          exact ⟨_, ⟨rfl, l, h', hl, hh, .inr (.inr (.inl ⟨_, xs, a, b, hT, hx, hc, rfl⟩))⟩, h⟩
        · cases h
      · rename_i σ l h' j hT hl hh hx
        split at h
        · rename_i e τ xs fz app hr
          split at h
          · rename_i e' _
            subst e'
            split at h
            · obtain ⟨a, b, hc, h⟩ := cut_some h
              exact ⟨_, ⟨rfl, l, h', hl, hh, .inr (.inr (.inr (.inl ⟨rfl, j, e, _, xs, fz, app, a, b, hT, hx, hr, hc, rfl⟩)))⟩, h⟩
            · rename_i h1
              obtain ⟨a, b, hc, h⟩ := cut_some h
              obtain ⟨k1, k2, k3, k4⟩ := (movK_form _ _ _ _ _).1 h1
              subst k2
              exact ⟨_, ⟨rfl, l, h', hl, hh, .inl ⟨rfl, j, e, _, xs, app, a, b, hT, hx, hr, k3, k1, hc, .inl ⟨k4.1.choose, k4.1.choose_spec, k4.2, rfl⟩⟩⟩, h⟩
            · rename_i h0 h1
              obtain ⟨a, b, hc, h⟩ := cut_some h
              obtain ⟨k1, k2, k3, k4⟩ := (movK_form _ _ _ _ _).2 h0 h1
              subst k2
              exact ⟨_, ⟨rfl, l, h', hl, hh, .inl ⟨rfl, j, e, _, xs, app, a, b, hT, hx, hr, k3, k1, hc, .inr ⟨k4.1.choose, k4.2, k4.1.choose_spec, rfl⟩⟩⟩, h⟩
          · cases h
        · cases h
      · rename_i m σ n τ xs hT hl hh hx
        split at h
        · rename_i e _ hn
          subst e
          have := Nat.eq_of_beq_eq_true hn
          subst this
          obtain ⟨h0, h⟩ := cond_some h
          exact ⟨_, ⟨rfl, none, none, hl, hh, .inr (.inr (.inr (.inr ⟨_, _, xs, rfl, rfl, hx, hT, Nat.le_of_ble_eq_true h0, rfl⟩)))⟩, h⟩
        · cases h
      · cases h
  case fieldAddr T x f =>
    split at h
    · rename_i τ σ y hτ hx
      split at h
      · rename_i e b _ hb
        subst e
        obtain ⟨hst, h⟩ := cond_some h
        exact ⟨_, ⟨_, hτ, hst, .inl ⟨y, b, hx, hb, rfl⟩⟩, h⟩
      · cases h
    · rename_i τ j i p hτ hx
      split at h
      · rename_i σ a hr
        split at h
        · rename_i ρ hp
          split at h
          · rename_i e _
            subst e
            obtain ⟨hst, h⟩ := cond_some h
            exact ⟨_, ⟨_, hτ, hst, .inr ⟨j, i, p, σ, _, hx, hr, .inl ⟨a, rfl⟩, hp, rfl⟩⟩, h⟩
          · cases h
        · cases h
      · rename_i e σ xs fz app hr
        split at h
        · rename_i ρ hp
          split at h
          · rename_i e' _
            subst e'
            obtain ⟨hst, h⟩ := cond_some h
            exact ⟨_, ⟨_, hτ, hst, .inr ⟨j, i, p, σ, _, hx, hr, .inr ⟨e, xs, fz, app, rfl⟩, hp, rfl⟩⟩, h⟩
          · cases h
        · cases h
      · cases h
    · cases h
  case field T x f =>
    split at h
    · rename_i τ σ y hτ hx
      split at h
      · rename_i e b _ hb
        subst e
        obtain ⟨hst, h⟩ := cond_some h
        exact ⟨_, ⟨_, b, hτ, hst, by rw [hx]; exact .t _ y, by rw [hx]; exact hb, rfl⟩, h⟩
      · cases h
    · rename_i τ σ fs hτ hx
      split at h
      · rename_i e b _ hb
        subst e
        split at h
        · rename_i hf
          obtain ⟨hst, h⟩ := cond_some h
          exact ⟨_, ⟨_, b, hτ, hst, by rw [hx]; exact fit_fit hf, by rw [hx]; exact hb, rfl⟩, h⟩
        · cases h
      · cases h
    · cases h
  case indexAddr T x ix =>
    split at h
    · rename_i τ i hT hi
      split at h
      · rename_i σ xs hx
        split at h
        · rename_i e _
          subst e
          obtain ⟨h1, h2, h⟩ := idx_some h
          exact ⟨_, ⟨i, hi, h1, .inl ⟨_, xs, hT, hx, h2, rfl⟩⟩, h⟩
        · cases h
      · rename_i j hx
        split at h
        · rename_i e σ xs fz app hr
          split at h
          · rename_i e' _
            subst e'
            obtain ⟨h1, h2, h⟩ := idx_some h
            exact ⟨_, ⟨i, hi, h1, .inr (.inl ⟨j, e, _, xs, fz, app, hT, hx, hr, h2, rfl⟩)⟩, h⟩
          · cases h
        · cases h
      · cases h
    · rename_i n τ i hT hi
      split at h
      · rename_i m σ xs hx
        split at h
        · rename_i e _ hm
          subst e
          have := Nat.eq_of_beq_eq_true hm
          subst this
          obtain ⟨h0, h⟩ := cond_some h
          obtain ⟨h1, h2, h⟩ := idx_some h
          exact ⟨_, ⟨i, hi, h1, .inr (.inr ⟨_, _, xs, hT, hx, Nat.le_of_ble_eq_true h0, h2, rfl⟩)⟩, h⟩
        · cases h
      · cases h
    · cases h
  case index T x ix =>
    split at h
    · rename_i s i hT hx hi
      obtain ⟨h1, h2, h⟩ := idx_some h
      exact ⟨_, ⟨s, i, hT, hx, hi, h1, h2, rfl⟩, h⟩
    · cases h
  case extract x i =>
    split at h
    · rename_i vs hx
      split at h
      · rename_i a ha
        exact ⟨_, ⟨vs, a, hx, ha, rfl⟩, h⟩
      · cases h
    · cases h
  case call c =>
    split at h
    · rename_i b hb
      obtain ⟨u, h1, h2⟩ := builtinA_rel h
      exact ⟨u, .inl ⟨b, hb, h1⟩, h2⟩
    · rename_i f hf
      split at h
      · rename_i g caps hg
        split at h
        · rename_i hm
          obtain ⟨u, h1, h2⟩ := callM_rel hC h
          exact ⟨u, .inr ⟨f, hf, .inl ⟨g, caps, hg, .inr ⟨hm, h1⟩⟩⟩, h2⟩
        · rename_i hm
          obtain ⟨u, h1, h2⟩ := callA_rel hC h
          exact ⟨u, .inr ⟨f, hf, .inl ⟨g, caps, hg, .inl ⟨hm, h1⟩⟩⟩, h2⟩
      · rename_i i hg
        obtain ⟨u, h1, h2⟩ := callA_rel hC h
        exact ⟨u, .inr ⟨f, hf, .inr ⟨i, hg, h1⟩⟩, h2⟩
      · cases h
    · cases h
  all_goals cases h
end
end Go.Gx
