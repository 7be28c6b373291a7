/- What an operation's meaning hangs on: its operands, and the rows that are there. -/
import Derived.Test.YtnffgabfibafjaaDoorGxRun
namespace Go.Gx
open Go.RowKit
set_option linter.unusedVariables false
set_option linter.unusedSimpArgs false

/-! ### Rows -/
def SubRow (row row' : Nat → Option Row) : Prop := ∀ id r, row id = some r → row' id = some r
theorem mapO_mono {f g : AV → Option AV} (h : ∀ a b, f a = some b → g a = some b) : ∀ {l m : List AV}, mapO f l = some m → mapO g l = some m
  | [], m, hm => hm
  | a :: l, m, hm => by
    simp only [mapO] at hm ⊢
    split at hm
    · rename_i b hb
      rw [h a b hb]
      split at hm
      · rename_i ms hms
        rw [mapO_mono h hms]
        exact hm
      · cases hm
    · cases hm
section
variable {row row' : Nat → Option Row} (h : SubRow row row')
include h
theorem closeR_mono : ∀ {n : Nat} {a b : AV}, closeR row n a = some b → closeR row' n a = some b
  | 0, a, b, hb => by cases hb
  | n + 1, a, b, hb => by
    have ih : ∀ a b, closeR row n a = some b → closeR row' n a = some b := fun a b => closeR_mono
    cases a with
    | own id =>
      simp only [closeR] at hb ⊢
      split at hb
      · rename_i e τ xs fz app hr
        rw [h _ _ hr]; exact hb
      · cases hb
    | ep id i p =>
      cases i with
      | none =>
        simp only [closeR] at hb ⊢
        split at hb
        · rename_i σ c hr
          rw [h _ _ hr]
          split at hb
          · rename_i d τ hg ht
            simp only [hg, ht]
            split at hb
            · rename_i e he
              rw [ih _ _ he]
              exact hb
            · cases hb
          · cases hb
        · cases hb
      | some i =>
        simp only [closeR] at hb ⊢
        split at hb
        · rename_i e τ xs fz app hr
          rw [h _ _ hr]; exact hb
        · cases hb
    | agg τ fs =>
      simp only [closeR] at hb ⊢
      split at hb
      · rename_i gs hgs
        rw [mapO_mono ih hgs]; exact hb
      · cases hb
    | clo f fs =>
      simp only [closeR] at hb ⊢
      split at hb
      · rename_i gs hgs
        rw [mapO_mono ih hgs]; exact hb
      · cases hb
    | _ => exact hb
theorem closeAll_mono {τ : Ty} : ∀ {fs : List AV} {xs : List (den τ)}, closeAll row τ fs = some xs → closeAll row' τ fs = some xs
  | [], xs, hx => hx
  | a :: l, xs, hx => by
    simp only [closeAll] at hx ⊢
    split at hx
    · rename_i b hb
      rw [closeR_mono h hb]
      split at hx
      · rename_i x hxx
        simp only [hxx]
        split at hx
        · rename_i ys hys
          rw [closeAll_mono hys]; exact hx
        · cases hx
      · cases hx
    · cases hx
theorem listOf_mono {τ : Ty} {a : AV} {xs : List (den τ)} (hx : listOf row τ a = some xs) : listOf row' τ a = some xs := by
  unfold listOf at hx ⊢
  split at hx
  · exact hx
  · exact hx
  · rename_i id
    split at hx
    · rename_i e σ ys fz app hr
      rw [h _ _ hr]; exact hx
    · cases hx
  · cases hx
theorem lenA_mono {t : Option Ty} {a : AV} {n : Int} (hx : lenA row t a = some n) : lenA row' t a = some n := by
  unfold lenA at hx ⊢
  split at hx
  · exact hx
  · exact hx
  · exact hx
  · rename_i id
    split at hx
    · rename_i e σ ys fz app hr
      rw [h _ _ hr]; exact hx
    · cases hx
  · cases hx
theorem callR_mono {G : Cal → List AV → AV → Prop} {dr : Bool} {id : Nat} {cal : Cal} {args : List AV} {u : Upd} (hx : CallR G row dr id cal args u) : CallR G row' dr id cal args u := by
  obtain ⟨cl, r, av, news, h1, h2⟩ := hx
  exact ⟨cl, r, av, news, mapO_mono (fun a b hb => closeR_mono h hb) h1, h2⟩
theorem hand_mono {a : AV} {x : Nat × AV} (hx : hand row a = some x) : hand row' a = some x := by
  unfold hand at hx ⊢
  split at hx
  · split at hx
    · rename_i hr; rw [h _ _ hr]; exact hx
    · cases hx
  · split at hx
    · rename_i hr; rw [h _ _ hr]; exact hx
    · cases hx
  · cases hx
theorem callX_mono {E : Env} {G : Cal → List AV → AV → Prop} {dr : Bool} {id : Nat} {g : Nat} {args : List AV} {u : Upd} (hx : CallX E G row dr id g args u) : CallX E G row' dr id g args u := by
  rcases hx with ⟨h1, h2⟩ | ⟨h1, hd, a0, rest, i, x0, cl, r, e, h2, h3, h4⟩
  · exact .inl ⟨h1, callR_mono h h2⟩
  · exact .inr ⟨h1, hd, a0, rest, i, x0, cl, r, e, hand_mono h h2, mapO_mono (fun a b hb => closeR_mono h hb) h3, h4⟩
theorem appR_mono {E : Env} {sT : Nat} {a b : AV} {id : Nat} {u : Upd} (hx : AppR E sT a b id row u) : AppR E sT a b id row' u := by
  obtain ⟨τ, ys, h1, h2, h3⟩ := hx
  refine ⟨τ, ys, h1, listOf_mono h h2, ?_⟩
  rcases h3 with h3 | ⟨j, xs, h4, hj, h5, h6⟩
  · exact .inl h3
  · exact .inr ⟨j, xs, h4, hj, h _ _ h5, h6⟩
theorem builtR_mono {E : Env} {b : Builtin} {ats : Array Nat} {args : List AV} {id : Nat} {u : Upd} (hx : BuiltR E b ats args id row u) : BuiltR E b ats args id row' u := by
  rcases hx with ⟨h1, a, n, T, h2, h3, h4, h5⟩ | ⟨h1, a, x, T, h2, h3, h4⟩ | hx | hx | hx | ⟨h1, j, i, e, τ, xs, app, p, T, h2, h3, h4, h5, h6, h7⟩
  · exact .inl ⟨h1, a, n, T, h2, h3, lenA_mono h h4, h5⟩
  · exact .inr (.inl ⟨h1, a, x, T, h2, h3, appR_mono h h4⟩)
  · exact .inr (.inr (.inl hx))
  · exact .inr (.inr (.inr (.inl hx)))
  · exact .inr (.inr (.inr (.inr (.inl hx))))
  · exact .inr (.inr (.inr (.inr (.inr ⟨h1, j, i, e, τ, xs, app, p, T, h2, h3, h4, h5, h _ _ h6, h7⟩))))
end

/-! ### Operands -/
theorem mapE_congr {f g : Operand → AV} : ∀ {l : List Operand}, (∀ x ∈ l, g x = f x) → mapE g l = mapE f l
  | [], _ => rfl
  | x :: l, h => by simp only [mapE, h x List.mem_cons_self, mapE_congr fun y hy => h y (List.mem_cons_of_mem _ hy)]
theorem partsA_congr {f g : Operand → AV} {l : List Ty} : ∀ {ps : List (Nat × Operand)} {fs : List AV}, (∀ p ∈ ps, g p.2 = f p.2) → partsA g l ps fs = partsA f l ps fs
  | [], _, _ => rfl
  | p :: ps, fs, h => by
    simp only [partsA, h p List.mem_cons_self]
    split
    · split
      · exact partsA_congr fun q hq => h q (List.mem_cons_of_mem _ hq)
      · rfl
    · rfl
theorem evO_congr {f g : Operand → AV} {x : Option Operand} (h : ∀ y, x = some y → g y = f y) : evO g x = evO f x := by
  cases x with
  | none => rfl
  | some y => simp only [evO, h y rfl]

theorem AOp.mono {E : Env} {G : Cal → List AV → AV → Prop} {dr : Bool} {o : Oper} {id : Nat} {ev ev' : Operand → AV} {row row' : Nat → Option Row} {u : Upd} (h : AOp E G dr o id ev row u) (he : ∀ x ∈ o.op.operands, ev' x = ev x) (hr : SubRow row row') : AOp E G dr o id ev' row' u := by
  obtain ⟨dst, op, type, pos, after, guard⟩ := o
  unfold AOp at h ⊢
  cases op <;> simp only [Op.operands] at h he ⊢
  case move x => rw [he x (by simp)]; exact h
  case assign x => rw [he x (by simp)]; exact h
  case pick c a b => rw [he c (by simp), he a (by simp), he b (by simp)]; exact h
  case alloc T => exact h
  case box T x => rw [he x (by simp)]; exact h
  case build T ps =>
    obtain ⟨τ, fs, h1, h2, h3, h4⟩ := h
    exact ⟨τ, fs, h1, h2, by rw [partsA_congr (f := ev) (g := ev') fun p hp => he p.2 (by simpa using ⟨p.1, by simpa using hp⟩)]; exact h3, h4⟩
  case buildSlice T n ps =>
    obtain ⟨τ, fs, xs, h1, h2, h3, h4, h5⟩ := h
    exact ⟨τ, fs, xs, h1, h2, by rw [partsA_congr (f := ev) (g := ev') fun p hp => he p.2 (by simpa using ⟨p.1, by simpa using hp⟩)]; exact h3, closeAll_mono hr h4, h5⟩
  case load T x =>
    rw [he x (by simp)]
    obtain ⟨τ, h1, h2 | ⟨j, p, σ, a, b, h2, h3, h4⟩ | ⟨j, i, p, e, σ, xs, fz, app, b, h2, h3, h4⟩⟩ := h
    · exact ⟨τ, h1, .inl h2⟩
    · exact ⟨τ, h1, .inr (.inl ⟨j, p, σ, a, b, h2, hr _ _ h3, h4⟩)⟩
    · exact ⟨τ, h1, .inr (.inr ⟨j, i, p, e, σ, xs, fz, app, b, h2, hr _ _ h3, h4⟩)⟩
  case store T x v =>
    rw [he x (by simp), he v (by simp)]
    obtain ⟨τ, h1, h0, ⟨j, p, σ, a, b, h2, h3, h4⟩ | ⟨j, i, p, e, σ, xs, app, b, y, h2, h3, h4⟩⟩ := h
    · exact ⟨τ, h1, h0, .inl ⟨j, p, σ, a, b, h2, hr _ _ h3, h4⟩⟩
    · exact ⟨τ, h1, h0, .inr ⟨j, i, p, e, σ, xs, app, b, y, h2, hr _ _ h3, h4⟩⟩
  case nilCheck x => rw [he x (by simp)]; exact h
  case binOp op t x y z => rw [he x (by simp), he y (by simp)]; exact h
  case unOp op t x => rw [he x (by simp)]; exact h
  case convert S T x =>
    rw [he x (by simp)]
    rcases h with h | h | h | ⟨xs, h1, h2, h3, h4⟩ | h
    · exact .inl h
    · exact .inr (.inl h)
    · exact .inr (.inr (.inl h))
    · exact .inr (.inr (.inr (.inl ⟨xs, h1, h2, listOf_mono hr h3, h4⟩)))
    · exact .inr (.inr (.inr (.inr h)))
  case makeFunc fn first caps =>
    rw [mapE_congr (f := ev) (g := ev') fun x hx => he x (by simp at hx ⊢; exact .inr hx)]
    exact h
  case makeSlice T l c => rw [he l (by simp), he c (by simp)]; exact h
  case slice T x lo hi mx =>
    rw [he x (by simp), evO_congr (f := ev) (g := ev') (x := lo) fun y hy => he y (by simp [hy]), evO_congr (f := ev) (g := ev') (x := hi) fun y hy => he y (by simp [hy])]
    obtain ⟨h0, l, h', h1, h2, ⟨hdr, j, e, τ, xs, app, a, b, h3, h4, h5, h6⟩ | h3 | h3 | ⟨h3, j, e, τ, xs, fz, app, a, b, h4, h5, h6, h7⟩ | h3⟩ := h
    · exact ⟨h0, l, h', h1, h2, .inl ⟨hdr, j, e, τ, xs, app, a, b, h3, h4, hr _ _ h5, h6⟩⟩
    · exact ⟨h0, l, h', h1, h2, .inr (.inl h3)⟩
    · exact ⟨h0, l, h', h1, h2, .inr (.inr (.inl h3))⟩
    · exact ⟨h0, l, h', h1, h2, .inr (.inr (.inr (.inl ⟨h3, j, e, τ, xs, fz, app, a, b, h4, h5, hr _ _ h6, h7⟩)))⟩
    · exact ⟨h0, l, h', h1, h2, .inr (.inr (.inr (.inr h3)))⟩
  case fieldAddr T x f =>
    rw [he x (by simp)]
    obtain ⟨τ, h1, h2, h3 | ⟨j, i, p, σ, r, h3, h4, h5⟩⟩ := h
    · exact ⟨τ, h1, h2, .inl h3⟩
    · exact ⟨τ, h1, h2, .inr ⟨j, i, p, σ, r, h3, hr _ _ h4, h5⟩⟩
  case field T x f => rw [he x (by simp)]; exact h
  case indexAddr T x ix =>
    rw [he x (by simp), he ix (by simp)]
    obtain ⟨i, h1, h2, h3 | ⟨j, e, τ, xs, fz, app, h4, h5, h6, h7⟩ | h3⟩ := h
    · exact ⟨i, h1, h2, .inl h3⟩
    · exact ⟨i, h1, h2, .inr (.inl ⟨j, e, τ, xs, fz, app, h4, h5, hr _ _ h6, h7⟩)⟩
    · exact ⟨i, h1, h2, .inr (.inr h3)⟩
  case index T x ix => rw [he x (by simp), he ix (by simp)]; exact h
  case extract x i => rw [he x (by simp)]; exact h
  case call c =>
    have hargs : mapE ev' c.args.toList = mapE ev c.args.toList := mapE_congr fun x hx => he x (by
      simp only [Call.operands]
      cases c.callee <;> simp at hx ⊢ <;> first | exact hx | exact .inr hx)
    rw [hargs]
    rcases h with ⟨b, h1, h2⟩ | ⟨f, h1, h2⟩
    · exact .inl ⟨b, h1, builtR_mono hr h2⟩
    · have hf : ev' f = ev f := he f (by simp [Call.operands, h1])
      rw [← hf] at h2
      rcases h2 with ⟨g, caps, h3, h4⟩ | ⟨i, h3, h4⟩
      · exact .inr ⟨f, h1, .inl ⟨g, caps, h3, callX_mono hr h4⟩⟩
      · exact .inr ⟨f, h1, .inr ⟨i, h3, callR_mono hr h4⟩⟩

structure UpdOk (dr : Bool) (o : Oper) (id : Nat) (row : Nat → Option Row) (u : Upd) : Prop where
  news : NewsOk id u.news
  frz : dr = true → u.frz = []
  quiet : dr = true → effB o = false → u.app = none ∧ u.sto = none
  app : ∀ j r, u.app = some (j, r) → row j ≠ none
  sto : ∀ j r, u.sto = some (j, r) → row j ≠ none
theorem UpdOk.q {dr : Bool} {o : Oper} {id : Nat} {row : Nat → Option Row} (v : AV) : UpdOk dr o id row (Gx.quiet v) :=
  ⟨news_nil id, fun _ => rfl, fun _ _ => ⟨rfl, rfl⟩, fun _ _ h => (by cases h), fun _ _ h => (by cases h)⟩
theorem UpdOk.m {dr : Bool} {o : Oper} {id : Nat} {row : Nat → Option Row} (v : AV) {l : List (Nat × Row)} (h : NewsOk id l) : UpdOk dr o id row (makes v l) :=
  ⟨h, fun _ => rfl, fun _ _ => ⟨rfl, rfl⟩, fun _ _ h => (by cases h), fun _ _ h => (by cases h)⟩
theorem UpdOk.f {dr : Bool} {o : Oper} {id : Nat} {row : Nat → Option Row} (v : AV) {l : List (Nat × Row)} (h : NewsOk id l) {ids : List Nat} (hd : ids = [] ∨ dr = false) : UpdOk dr o id row ⟨v, l, ids, none, none⟩ :=
  ⟨h, fun e => (by rcases hd with hd | hd; exact hd; rw [e] at hd; cases hd), fun _ _ => ⟨rfl, rfl⟩, fun _ _ h => (by cases h), fun _ _ h => (by cases h)⟩
theorem callR_upd {G : Cal → List AV → AV → Prop} {row : Nat → Option Row} {dr : Bool} {o : Oper} {id : Nat} {cal : Cal} {args : List AV} {u : Upd} (hx : CallR G row dr id cal args u) : UpdOk dr o id row u := by
  obtain ⟨cl, r, av, news, h1, h2, h3, ⟨h4, rfl⟩ | ⟨h4, h5, rfl⟩⟩ := hx
  · exact .m _ (news_instR h3)
  · exact .f _ (news_instR h3) h5
theorem hand_row {row : Nat → Option Row} {a : AV} {i : Nat} {x : AV} (h : hand row a = some (i, x)) : ∃ r, row i = some r ∧ rowOf x = some r := by
  unfold hand at h
  split at h
  · split at h
    · rename_i hr; cases h; exact ⟨_, hr, rfl⟩
    · cases h
  · split at h
    · rename_i σ σ' y hr
      split at h
      · rename_i e _
        subst e
        cases h
        exact ⟨_, hr, rfl⟩
      · cases h
    · cases h
  · cases h
theorem callM_upd {G : Cal → List AV → AV → Prop} {row : Nat → Option Row} {dr : Bool} {o : Oper} {id : Nat} {g : Nat} {args : List AV} {u : Upd} (hx : CallM G row dr id g args u) : UpdOk dr o id row u := by
  obtain ⟨hd, a0, rest, i, x0, cl, r, _, hh, _, _, _, _, ⟨o', r', ro, av, news, _, _, _, hn, hu⟩ | ⟨e, τ, ys, _, _, _, hu⟩⟩ := hx
  · obtain ⟨r0, hr, _⟩ := hand_row hh
    rcases hu with ⟨_, _, rfl⟩ | rfl
    · exact ⟨news_instR hn, fun h => (by simp [hd] at h), fun h => (by simp [hd] at h), fun _ _ h => (by cases h), fun _ _ h => (by cases h; rw [hr]; simp)⟩
    · exact ⟨news_instR hn, fun h => (by simp [hd] at h), fun h => (by simp [hd] at h), fun _ _ h => (by cases h), fun _ _ h => (by cases h; rw [hr]; simp)⟩
  · obtain ⟨r0, hr, _⟩ := hand_row hh
    rcases hu with ⟨_, rfl⟩ | rfl <;> exact ⟨news_nil id, fun h => (by simp [hd] at h), fun h => (by simp [hd] at h), fun _ _ h => (by cases h; rw [hr]; simp), fun _ _ h => (by cases h)⟩
theorem callX_upd {E : Env} {G : Cal → List AV → AV → Prop} {row : Nat → Option Row} {dr : Bool} {o : Oper} {id : Nat} {g : Nat} {args : List AV} {u : Upd} (hx : CallX E G row dr id g args u) : UpdOk dr o id row u := by
  rcases hx with ⟨_, h⟩ | ⟨_, h⟩
  · exact callR_upd h
  · exact callM_upd h
theorem AOp.upd {E : Env} {G : Cal → List AV → AV → Prop} {dr : Bool} {o : Oper} {id : Nat} {ev : Operand → AV} {row : Nat → Option Row} {u : Upd} (h : AOp E G dr o id ev row u) : UpdOk dr o id row u := by
  obtain ⟨dst, op, type, pos, after, guard⟩ := o
  unfold AOp at h
  cases op <;> simp only at h
  case move x => subst h; exact .q _
  case assign x => subst h; exact .q _
  case pick c a b => obtain ⟨v, _, rfl⟩ := h; exact .q _
  case alloc T => obtain ⟨τ, _, rfl⟩ := h; exact .m _ (news_one _ _)
  case box T x => obtain ⟨τ, _, _, rfl⟩ := h; exact .m _ (news_one _ _)
  case build T ps => obtain ⟨τ, fs, _, _, _, rfl⟩ := h; exact .q _
  case buildSlice T n ps => obtain ⟨τ, fs, xs, _, _, _, _, _, h1, rfl⟩ := h; exact .f _ (news_one _ _) h1
  case load T x =>
    obtain ⟨τ, _, ⟨_, _, rfl⟩ | ⟨_, _, _, _, _, _, _, _, _, rfl⟩ | ⟨_, _, _, _, _, _, _, _, _, _, _, _, _, rfl⟩⟩ := h <;> exact .q _
  case store T x v =>
    obtain ⟨τ, _, _, ⟨j, p, σ, a, b, _, h3, _, _, rfl⟩ | ⟨j, i, p, e, σ, xs, app, b, y, _, h3, _, _, _, rfl⟩⟩ := h <;>
      exact ⟨news_nil id, fun _ => rfl, fun _ h => (by cases h), fun _ _ h => (by cases h), fun j' r' h => by cases h; rw [h3]; simp⟩
  case nilCheck x => obtain ⟨rfl, _⟩ := h; exact .q _
  case binOp op t x y z => obtain ⟨_, _, rfl⟩ := h; exact .q _
  case unOp op t x => obtain ⟨_, _, rfl⟩ := h; exact .q _
  case convert S T x =>
    rcases h with ⟨_, _, _, _, _, _, _, rfl⟩ | ⟨_, _, _, _, rfl⟩ | ⟨_, _, _, _, _, rfl⟩ | ⟨_, _, _, _, rfl⟩ | ⟨_, _, _, _, _, _, rfl⟩
    · exact .q _
    · exact .q _
    · exact .m _ (news_one _ _)
    · exact .q _
    · exact .q _
  case makeFunc fn first caps => obtain ⟨_, _, _, _, rfl⟩ := h; exact .q _
  case makeSlice T l c => obtain ⟨_, _, _, _, _, _, _, rfl⟩ := h; exact .m _ (news_one _ _)
  case slice T x lo hi mx =>
    obtain ⟨h0, l, h', h1, h2, ⟨hdr, j, e, τ, xs, app, a, b, _, _, hr, _, _, _, ⟨_, _, _, rfl⟩ | ⟨_, _, _, rfl⟩⟩ | ⟨_, _, _, _, _, _, rfl⟩ | ⟨_, _, _, _, _, _, _, rfl⟩ | ⟨hd, j, e, τ, xs, fz, app, a, b, _, _, _, _, rfl⟩ | ⟨_, _, _, _, _, _, _, _, rfl⟩⟩ := h
    · exact .q _
    · exact ⟨news_nil id, fun _ => rfl, fun h => (by rw [hdr] at h; cases h), fun j' r' h => (by cases h; rw [hr]; simp), fun _ _ h => (by cases h)⟩
    · exact .q _
    · exact .q _
    · exact .f _ (news_nil _) (.inr hd)
    · exact .q _
  case fieldAddr T x f =>
    obtain ⟨τ, h1, h2, ⟨_, _, _, _, rfl⟩ | ⟨_, _, _, _, _, _, _, _, _, rfl⟩⟩ := h <;> exact .q _
  case field T x f => obtain ⟨_, _, _, _, _, _, rfl⟩ := h; exact .q _
  case indexAddr T x ix =>
    obtain ⟨i, h1, h2, ⟨_, _, _, _, _, rfl⟩ | ⟨_, _, _, _, _, _, _, _, _, _, rfl⟩ | ⟨_, _, _, _, _, _, _, rfl⟩⟩ := h <;> exact .q _
  case index T x ix => obtain ⟨_, _, _, _, _, _, _, rfl⟩ := h; exact .q _
  case extract x i => obtain ⟨_, _, _, _, rfl⟩ := h; exact .q _
  case call c =>
    rcases h with ⟨b, hb, h⟩ | ⟨f, hf, ⟨g, caps, _, h⟩ | ⟨i, _, h⟩⟩
    · rcases h with ⟨_, _, _, _, _, _, _, rfl⟩ | ⟨rfl, a, x, T, _, _, τ, ys, _, _, ⟨_, _, rfl⟩ | ⟨j, xs, _, _, hr, _, rfl⟩⟩ | ⟨_, _, _, _, rfl⟩ | ⟨_, _, _, _, rfl⟩ | ⟨_, _, _, _, _, rfl⟩ | ⟨rfl, j, i, e, τ, xs, app, p, T, _, _, _, _, hr, _, rfl⟩
      · exact .q _
      · exact .m _ (news_one _ _)
      · refine ⟨news_nil id, fun _ => rfl, fun _ h => ?_, fun j' r' h => ?_, fun _ _ h => (by cases h)⟩
        · obtain ⟨callee, args, ats⟩ := c
          simp only at hb
          subst hb
          cases h
        · cases h; rw [hr]; simp
      · exact .q _
      · exact .q _
      · exact .q _
      · refine ⟨news_nil id, fun _ => rfl, fun _ h => ?_, fun _ _ h => (by cases h), fun j' r' h => (by cases h; rw [hr]; simp)⟩
        obtain ⟨callee, args, ats⟩ := c
        simp only at hb
        subst hb
        cases h
    · exact callX_upd h
    · exact callR_upd h
end Go.Gx
