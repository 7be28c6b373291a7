/- What an operation's meaning hangs on: its operands, and the rows that are there. -/
import Derived.Test.YtahacbcnjfoknaaGxRun
namespace Go.Gx
open Go.RowKit
set_option linter.unusedVariables false
set_option linter.unusedSimpArgs false

/-! ### Rows -/
def SubRow (row row' : Nat → Option Row) : Prop := ∀ id r, row id = some r → row' id = some r
theorem mapO_mono {f g : AV → Option AV} (h : ∀ a b, f a = some b → g a = some b) : ∀ {l m : List AV}, mapO f l = some m → mapO g l = some m
  | [], m, hm => hm
  | a :: l, m, hm => by
    simp only [mapO] at hm ⊢
    split at hm
    · rename_i b hb
      rw [h a b hb]
      split at hm
      · rename_i ms hms
        rw [mapO_mono h hms]
        exact hm
      · cases hm
    · cases hm
section
variable {row row' : Nat → Option Row} (h : SubRow row row')
include h
theorem closeR_mono : ∀ {n : Nat} {a b : AV}, closeR row n a = some b → closeR row' n a = some b
  | 0, a, b, hb => by cases hb
  | n + 1, a, b, hb => by
    have ih : ∀ a b, closeR row n a = some b → closeR row' n a = some b := fun a b => closeR_mono
    cases a with
    | own id =>
      simp only [closeR] at hb ⊢
      split at hb
      · rename_i e τ xs fz app hr
        rw [h _ _ hr]; exact hb
      · cases hb
    | ep id i p =>
      cases i with
      | none =>
        simp only [closeR] at hb ⊢
        split at hb
        · rename_i σ c hr
          rw [h _ _ hr]
          split at hb
          · rename_i d τ hg ht
            simp only [hg, ht]
            split at hb
            · rename_i e he
              rw [ih _ _ he]
              exact hb
            · cases hb
          · cases hb
        · cases hb
      | some i =>
        simp only [closeR] at hb ⊢
        split at hb
        · rename_i e τ xs fz app hr
          rw [h _ _ hr]; exact hb
        · cases hb
    | agg τ fs =>
      simp only [closeR] at hb ⊢
      split at hb
      · rename_i gs hgs
        rw [mapO_mono ih hgs]; exact hb
      · cases hb
    | clo f fs =>
      simp only [closeR] at hb ⊢
      split at hb
      · rename_i gs hgs
        rw [mapO_mono ih hgs]; exact hb
      · cases hb
    | _ => exact hb
theorem closeAll_mono {τ : Ty} : ∀ {fs : List AV} {xs : List (den τ)}, closeAll row τ fs = some xs → closeAll row' τ fs = some xs
  | [], xs, hx => hx
  | a :: l, xs, hx => by
    simp only [closeAll] at hx ⊢
    split at hx
    · rename_i b hb
      rw [closeR_mono h hb]
      split at hx
      · rename_i x hxx
        simp only [hxx]
        split at hx
        · rename_i ys hys
          rw [closeAll_mono hys]; exact hx
        · cases hx
      · cases hx
    · cases hx
theorem listOf_mono {τ : Ty} {a : AV} {xs : List (den τ)} (hx : listOf row τ a = some xs) : listOf row' τ a = some xs := by
  unfold listOf at hx ⊢
  split at hx
  · exact hx
  · exact hx
  · rename_i id
    split at hx
    · rename_i e σ ys fz app hr
      rw [h _ _ hr]; exact hx
    · cases hx
  · cases hx
theorem lenA_mono {t : Option Ty} {a : AV} {n : Int} (hx : lenA row t a = some n) : lenA row' t a = some n := by
  unfold lenA at hx ⊢
  split at hx
  · exact hx
  · exact hx
  · exact hx
  · rename_i id
    split at hx
    · rename_i e σ ys fz app hr
      rw [h _ _ hr]; exact hx
    · cases hx
  · cases hx
theorem callR_mono {G : Cal → List AV → AV → Prop} {dr : Bool} {id : Nat} {cal : Cal} {args : List AV} {u : Upd} (hx : CallR G row dr id cal args u) : CallR G row' dr id cal args u := by
  obtain ⟨cl, r, av, news, h1, h2⟩ := hx
  exact ⟨cl, r, av, news, mapO_mono (fun a b hb => closeR_mono h hb) h1, h2⟩
theorem appR_mono {E : Env} {sT : Nat} {a b : AV} {id : Nat} {u : Upd} (hx : AppR E sT a b id row u) : AppR E sT a b id row' u := by
  obtain ⟨τ, ys, h1, h2, h3⟩ := hx
  refine ⟨τ, ys, h1, listOf_mono h h2, ?_⟩
  rcases h3 with h3 | ⟨j, xs, h4, h5, h6⟩
  · exact .inl h3
  · exact .inr ⟨j, xs, h4, h _ _ h5, h6⟩
theorem builtR_mono {E : Env} {b : Builtin} {ats : Array Nat} {args : List AV} {id : Nat} {u : Upd} (hx : BuiltR E b ats args id row u) : BuiltR E b ats args id row' u := by
  rcases hx with ⟨h1, a, n, T, h2, h3, h4, h5⟩ | ⟨h1, a, x, T, h2, h3, h4⟩ | hx
  · exact .inl ⟨h1, a, n, T, h2, h3, lenA_mono h h4, h5⟩
  · exact .inr (.inl ⟨h1, a, x, T, h2, h3, appR_mono h h4⟩)
  · exact .inr (.inr hx)
end

/-! ### Operands -/
theorem mapE_congr {f g : Operand → AV} : ∀ {l : List Operand}, (∀ x ∈ l, g x = f x) → mapE g l = mapE f l
  | [], _ => rfl
  | x :: l, h => by simp only [mapE, h x List.mem_cons_self, mapE_congr fun y hy => h y (List.mem_cons_of_mem _ hy)]
theorem partsA_congr {f g : Operand → AV} {l : List Ty} : ∀ {ps : List (Nat × Operand)} {fs : List AV}, (∀ p ∈ ps, g p.2 = f p.2) → partsA g l ps fs = partsA f l ps fs
  | [], _, _ => rfl
  | p :: ps, fs, h => by
    simp only [partsA, h p List.mem_cons_self]
    split
    · split
      · exact partsA_congr fun q hq => h q (List.mem_cons_of_mem _ hq)
      · rfl
    · rfl
theorem evO_congr {f g : Operand → AV} {x : Option Operand} (h : ∀ y, x = some y → g y = f y) : evO g x = evO f x := by
  cases x with
  | none => rfl
  | some y => simp only [evO, h y rfl]

theorem AOp.mono {E : Env} {G : Cal → List AV → AV → Prop} {dr : Bool} {o : Oper} {id : Nat} {ev ev' : Operand → AV} {row row' : Nat → Option Row} {u : Upd} (h : AOp E G dr o id ev row u) (he : ∀ x ∈ o.op.operands, ev' x = ev x) (hr : SubRow row row') : AOp E G dr o id ev' row' u := by
  obtain ⟨dst, op, type, pos, after, guard⟩ := o
  unfold AOp at h ⊢
  cases op <;> simp only [Op.operands] at h he ⊢
  case move x => rw [he x (by simp)]; exact h
  case assign x => rw [he x (by simp)]; exact h
  case pick c a b => rw [he c (by simp), he a (by simp), he b (by simp)]; exact h
  case alloc T => exact h
  case box T x => rw [he x (by simp)]; exact h
  case build T ps =>
    obtain ⟨τ, fs, h1, h2, h3, h4⟩ := h
    exact ⟨τ, fs, h1, h2, by rw [partsA_congr (f := ev) (g := ev') fun p hp => he p.2 (by simpa using ⟨p.1, by simpa using hp⟩)]; exact h3, h4⟩
  case buildSlice T n ps =>
    obtain ⟨τ, fs, xs, h1, h2, h3, h4, h5⟩ := h
    exact ⟨τ, fs, xs, h1, h2, by rw [partsA_congr (f := ev) (g := ev') fun p hp => he p.2 (by simpa using ⟨p.1, by simpa using hp⟩)]; exact h3, closeAll_mono hr h4, h5⟩
  case load T x =>
    rw [he x (by simp)]
    obtain ⟨τ, h1, h2 | ⟨j, p, σ, a, b, h2, h3, h4⟩ | ⟨j, i, p, e, σ, xs, fz, app, b, h2, h3, h4⟩⟩ := h
    · exact ⟨τ, h1, .inl h2⟩
    · exact ⟨τ, h1, .inr (.inl ⟨j, p, σ, a, b, h2, hr _ _ h3, h4⟩)⟩
    · exact ⟨τ, h1, .inr (.inr ⟨j, i, p, e, σ, xs, fz, app, b, h2, hr _ _ h3, h4⟩)⟩
  case store T x v =>
    rw [he x (by simp), he v (by simp)]
    obtain ⟨τ, h1, h0, ⟨j, p, σ, a, b, h2, h3, h4⟩ | ⟨j, i, p, e, σ, xs, b, y, h2, h3, h4⟩⟩ := h
    · exact ⟨τ, h1, h0, .inl ⟨j, p, σ, a, b, h2, hr _ _ h3, h4⟩⟩
    · exact ⟨τ, h1, h0, .inr ⟨j, i, p, e, σ, xs, b, y, h2, hr _ _ h3, h4⟩⟩
  case nilCheck x => rw [he x (by simp)]; exact h
  case binOp op t x y z => rw [he x (by simp), he y (by simp)]; exact h
  case unOp op t x => rw [he x (by simp)]; exact h
  case convert S T x =>
    rw [he x (by simp)]
    rcases h with h | h | h | ⟨xs, h1, h2, h3, h4⟩ | h
    · exact .inl h
    · exact .inr (.inl h)
    · exact .inr (.inr (.inl h))
    · exact .inr (.inr (.inr (.inl ⟨xs, h1, h2, listOf_mono hr h3, h4⟩)))
    · exact .inr (.inr (.inr (.inr h)))
  case makeFunc fn first caps =>
    rw [mapE_congr (f := ev) (g := ev') fun x hx => he x (by simp at hx ⊢; exact .inr hx)]
    exact h
  case makeSlice T l c => rw [he l (by simp), he c (by simp)]; exact h
  case slice T x lo hi mx =>
    rw [he x (by simp), evO_congr (f := ev) (g := ev') (x := lo) fun y hy => he y (by simp [hy]), evO_congr (f := ev) (g := ev') (x := hi) fun y hy => he y (by simp [hy])]
    obtain ⟨h0, l, h', h1, h2, h3 | h3 | ⟨h3, j, e, τ, xs, fz, app, a, b, h4, h5, h6, h7⟩ | h3⟩ := h
    · exact ⟨h0, l, h', h1, h2, .inl h3⟩
    · exact ⟨h0, l, h', h1, h2, .inr (.inl h3)⟩
    · exact ⟨h0, l, h', h1, h2, .inr (.inr (.inl ⟨h3, j, e, τ, xs, fz, app, a, b, h4, h5, hr _ _ h6, h7⟩))⟩
    · exact ⟨h0, l, h', h1, h2, .inr (.inr (.inr h3))⟩
  case fieldAddr T x f =>
    rw [he x (by simp)]
    obtain ⟨τ, h1, h2, h3 | ⟨j, i, p, σ, r, h3, h4, h5⟩⟩ := h
    · exact ⟨τ, h1, h2, .inl h3⟩
    · exact ⟨τ, h1, h2, .inr ⟨j, i, p, σ, r, h3, hr _ _ h4, h5⟩⟩
  case field T x f => rw [he x (by simp)]; exact h
  case indexAddr T x ix =>
    rw [he x (by simp), he ix (by simp)]
    obtain ⟨i, h1, h2, h3 | ⟨j, e, τ, xs, fz, app, h4, h5, h6, h7⟩ | h3⟩ := h
    · exact ⟨i, h1, h2, .inl h3⟩
    · exact ⟨i, h1, h2, .inr (.inl ⟨j, e, τ, xs, fz, app, h4, h5, hr _ _ h6, h7⟩)⟩
    · exact ⟨i, h1, h2, .inr (.inr h3)⟩
  case index T x ix => rw [he x (by simp), he ix (by simp)]; exact h
  case extract x i => rw [he x (by simp)]; exact h
  case call c =>
    have hargs : mapE ev' c.args.toList = mapE ev c.args.toList := mapE_congr fun x hx => he x (by
      simp only [Call.operands]
      cases c.callee <;> simp at hx ⊢ <;> first | exact hx | exact .inr hx)
    rw [hargs]
    rcases h with ⟨b, h1, h2⟩ | ⟨f, h1, h2⟩
    · exact .inl ⟨b, h1, builtR_mono hr h2⟩
    · have hf : ev' f = ev f := he f (by simp [Call.operands, h1])
      rw [← hf] at h2
      rcases h2 with ⟨g, caps, h3, h4⟩ | ⟨i, h3, h4⟩
      · exact .inr ⟨f, h1, .inl ⟨g, caps, h3, callR_mono hr h4⟩⟩
      · exact .inr ⟨f, h1, .inr ⟨i, h3, callR_mono hr h4⟩⟩

/-! ### What an operation does to the rows -/
def NewsOk (id : Nat) (l : List (Nat × Row)) : Prop := ∀ st : St, (∀ p ∈ l, (st.setRows l).row p.1 = some p.2 ∧ id ≤ p.1 ∧ p.1 < id + 4) ∧ (∀ j, (st.setRows l).row j = st.row j ∨ ∃ p ∈ l, p.1 = j) ∧ (st.setRows l).slot = st.slot ∧ (st.setRows l).nt = st.nt
theorem news_nil (id : Nat) : NewsOk id [] := fun st => ⟨fun p hp => (by cases hp), fun j => .inl rfl, rfl, rfl⟩
theorem news_one (id : Nat) (r : Row) : NewsOk id [(id, r)] := fun st => ⟨fun p hp => by
  simp only [List.mem_singleton] at hp
  subst hp
  exact ⟨by simp [St.setRows, setRow_row], Nat.le_refl _, by omega⟩, fun j => by
  by_cases e : id = j
  · exact .inr ⟨_, List.mem_singleton.2 rfl, e⟩
  · refine .inl ?_
    simp only [St.setRows, setRow_row, if_neg (Ne.symm e)], rfl, rfl⟩
theorem news_inst1 {id0 id : Nat} (h : id0 ≤ id ∧ id < id0 + 4) {r : AV} {b : AV} {l : List (Nat × Row)} (hi : inst1 id r (fun b l => some (b, l)) = some (b, l)) : l = [] ∨ ∃ row, l = [(id, row)] := by
  cases r <;> simp only [inst1, Option.some.injEq, Prod.mk.injEq] at hi <;> (obtain ⟨_, rfl⟩ := hi) <;> first
    | exact .inl rfl
    | exact .inr ⟨_, rfl⟩
theorem news_gen {id : Nat} {l : List (Nat × Row)} (h1 : ∀ p ∈ l, id ≤ p.1 ∧ p.1 < id + 4) (h2 : l.Pairwise fun p q => p.1 ≠ q.1) : NewsOk id l := by
  have key : ∀ (l : List (Nat × Row)) (st : St), l.Pairwise (fun p q => p.1 ≠ q.1) → (∀ p ∈ l, (st.setRows l).row p.1 = some p.2) ∧ (∀ j, (st.setRows l).row j = st.row j ∨ ∃ p ∈ l, p.1 = j) ∧ (∀ j, (∀ p ∈ l, p.1 ≠ j) → (st.setRows l).row j = st.row j) ∧ (st.setRows l).slot = st.slot ∧ (st.setRows l).nt = st.nt := by
    intro l
    induction l with
    | nil => exact fun st _ => ⟨fun p hp => (by cases hp), fun j => .inl rfl, fun j _ => rfl, rfl, rfl⟩
    | cons p l ih =>
      intro st h2
      obtain ⟨h3, h4⟩ := List.pairwise_cons.1 h2
      obtain ⟨h5, h6, h7, h8, h9⟩ := ih (st.setRow p.1 p.2) h4
      refine ⟨fun q hq => ?_, fun j => ?_, fun j hj => ?_, h8, h9⟩
      · rcases List.mem_cons.1 hq with rfl | hq
        · show ((st.setRow q.1 q.2).setRows l).row q.1 = _
          rw [h7 q.1 fun p hp e => h3 p hp e.symm, setRow_row, if_pos rfl]
        · exact h5 q hq
      · rcases h6 j with h | ⟨q, hq, e⟩
        · by_cases e : p.1 = j
          · exact .inr ⟨p, List.mem_cons_self, e⟩
          · refine .inl ?_
            show ((st.setRow p.1 p.2).setRows l).row j = _
            rw [h, setRow_row, if_neg (Ne.symm e)]
        · exact .inr ⟨q, List.mem_cons_of_mem _ hq, e⟩
      · show ((st.setRow p.1 p.2).setRows l).row j = _
        rw [h7 j fun q hq => hj q (List.mem_cons_of_mem _ hq), setRow_row, if_neg (Ne.symm (hj p List.mem_cons_self))]
  intro st
  obtain ⟨h3, h4, _, h5, h6⟩ := key l st h2
  exact ⟨fun p hp => ⟨h3 p hp, h1 p hp⟩, h4, h5, h6⟩
theorem news_instR {id : Nat} {r : AV} {b : AV} {l : List (Nat × Row)} (hi : instR id r (fun b l => some (b, l)) = some (b, l)) : NewsOk id l := by
  have one : inst1 id r (fun b l => some (b, l)) = some (b, l) → NewsOk id l := fun hi => by
    rcases news_inst1 (id0 := id) ⟨Nat.le_refl _, by omega⟩ hi with rfl | ⟨row, rfl⟩
    · exact news_nil id
    · exact news_one id row
  cases r with
  | tup rs =>
    match rs, hi with
    | [], hi => cases hi; exact news_nil id
    | [_], hi => simp [instR] at hi
    | [x, y], hi =>
      simp only [instR] at hi
      obtain ⟨b1, l1, e1, hi⟩ := inst1_nat hi
      obtain ⟨b2, l2, e2, hi⟩ := inst1_nat hi
      cases hi
      rcases news_inst1 (id0 := id) ⟨Nat.le_refl _, by omega⟩ e1 with rfl | ⟨r1, rfl⟩ <;> rcases news_inst1 (id0 := id) ⟨by omega, by omega⟩ e2 with rfl | ⟨r2, rfl⟩ <;>
        exact news_gen (by simp <;> omega) (by simp)
    | [x, y, z], hi =>
      simp only [instR] at hi
      obtain ⟨b1, l1, e1, hi⟩ := inst1_nat hi
      obtain ⟨b2, l2, e2, hi⟩ := inst1_nat hi
      obtain ⟨b3, l3, e3, hi⟩ := inst1_nat hi
      cases hi
      rcases news_inst1 (id0 := id) ⟨Nat.le_refl _, by omega⟩ e1 with rfl | ⟨r1, rfl⟩ <;> rcases news_inst1 (id0 := id) ⟨by omega, by omega⟩ e2 with rfl | ⟨r2, rfl⟩ <;> rcases news_inst1 (id0 := id) ⟨by omega, by omega⟩ e3 with rfl | ⟨r3, rfl⟩ <;>
        exact news_gen (by simp <;> omega) (by simp)
    | _ :: _ :: _ :: _ :: _, hi => simp [instR] at hi
  | _ => exact one (by simpa only [instR] using hi)

structure UpdOk (dr : Bool) (o : Oper) (id : Nat) (row : Nat → Option Row) (u : Upd) : Prop where
  news : NewsOk id u.news
  frz : dr = true → u.frz = []
  quiet : effB o = false → u.app = none ∧ u.sto = none
  app : ∀ j r, u.app = some (j, r) → row j ≠ none
  sto : ∀ j r, u.sto = some (j, r) → row j ≠ none
theorem UpdOk.q {dr : Bool} {o : Oper} {id : Nat} {row : Nat → Option Row} (v : AV) : UpdOk dr o id row (Gx.quiet v) :=
  ⟨news_nil id, fun _ => rfl, fun _ => ⟨rfl, rfl⟩, fun _ _ h => (by cases h), fun _ _ h => (by cases h)⟩
theorem UpdOk.m {dr : Bool} {o : Oper} {id : Nat} {row : Nat → Option Row} (v : AV) {l : List (Nat × Row)} (h : NewsOk id l) : UpdOk dr o id row (makes v l) :=
  ⟨h, fun _ => rfl, fun _ => ⟨rfl, rfl⟩, fun _ _ h => (by cases h), fun _ _ h => (by cases h)⟩
theorem UpdOk.f {dr : Bool} {o : Oper} {id : Nat} {row : Nat → Option Row} (v : AV) {l : List (Nat × Row)} (h : NewsOk id l) {ids : List Nat} (hd : ids = [] ∨ dr = false) : UpdOk dr o id row ⟨v, l, ids, none, none⟩ :=
  ⟨h, fun e => (by rcases hd with hd | hd; exact hd; rw [e] at hd; cases hd), fun _ => ⟨rfl, rfl⟩, fun _ _ h => (by cases h), fun _ _ h => (by cases h)⟩
theorem callR_upd {G : Cal → List AV → AV → Prop} {row : Nat → Option Row} {dr : Bool} {o : Oper} {id : Nat} {cal : Cal} {args : List AV} {u : Upd} (hx : CallR G row dr id cal args u) : UpdOk dr o id row u := by
  obtain ⟨cl, r, av, news, h1, h2, h3, ⟨h4, rfl⟩ | ⟨h4, h5, rfl⟩⟩ := hx
  · exact .m _ (news_instR h3)
  · exact .f _ (news_instR h3) h5
theorem AOp.upd {E : Env} {G : Cal → List AV → AV → Prop} {dr : Bool} {o : Oper} {id : Nat} {ev : Operand → AV} {row : Nat → Option Row} {u : Upd} (h : AOp E G dr o id ev row u) : UpdOk dr o id row u := by
  obtain ⟨dst, op, type, pos, after, guard⟩ := o
  unfold AOp at h
  cases op <;> simp only at h
  case move x => subst h; exact .q _
  case assign x => subst h; exact .q _
  case pick c a b => obtain ⟨v, _, rfl⟩ := h; exact .q _
  case alloc T => obtain ⟨τ, _, rfl⟩ := h; exact .m _ (news_one _ _)
  case box T x => obtain ⟨τ, _, _, rfl⟩ := h; exact .m _ (news_one _ _)
  case build T ps => obtain ⟨τ, fs, _, _, _, rfl⟩ := h; exact .q _
  case buildSlice T n ps => obtain ⟨τ, fs, xs, _, _, _, _, _, h1, rfl⟩ := h; exact .f _ (news_one _ _) h1
  case load T x =>
    obtain ⟨τ, _, ⟨_, _, rfl⟩ | ⟨_, _, _, _, _, _, _, _, _, rfl⟩ | ⟨_, _, _, _, _, _, _, _, _, _, _, _, _, rfl⟩⟩ := h <;> exact .q _
  case store T x v =>
    obtain ⟨τ, _, _, ⟨j, p, σ, a, b, _, h3, _, _, rfl⟩ | ⟨j, i, p, e, σ, xs, b, y, _, h3, _, _, _, rfl⟩⟩ := h <;>
      exact ⟨news_nil id, fun _ => rfl, fun h => (by cases h), fun _ _ h => (by cases h), fun j' r' h => by cases h; rw [h3]; simp⟩
  case nilCheck x => obtain ⟨rfl, _⟩ := h; exact .q _
  case binOp op t x y z => obtain ⟨_, _, rfl⟩ := h; exact .q _
  case unOp op t x => obtain ⟨_, _, rfl⟩ := h; exact .q _
  case convert S T x =>
    rcases h with ⟨_, _, _, _, _, _, _, rfl⟩ | ⟨_, _, _, _, rfl⟩ | ⟨_, _, _, _, _, rfl⟩ | ⟨_, _, _, _, rfl⟩ | ⟨_, _, _, _, _, _, rfl⟩
    · exact .q _
    · exact .q _
    · exact .m _ (news_one _ _)
    · exact .q _
    · exact .q _
  case makeFunc fn first caps => obtain ⟨_, _, _, _, rfl⟩ := h; exact .q _
  case makeSlice T l c => obtain ⟨_, _, _, _, _, _, _, rfl⟩ := h; exact .m _ (news_one _ _)
  case slice T x lo hi mx =>
    obtain ⟨h0, l, h', h1, h2, ⟨_, _, _, _, _, _, rfl⟩ | ⟨_, _, _, _, _, _, _, rfl⟩ | ⟨hd, j, e, τ, xs, fz, app, a, b, _, _, _, _, rfl⟩ | ⟨_, _, _, _, _, _, _, _, rfl⟩⟩ := h
    · exact .q _
    · exact .q _
    · exact .f _ (news_nil _) (.inr hd)
    · exact .q _
  case fieldAddr T x f =>
    obtain ⟨τ, h1, h2, ⟨_, _, _, _, rfl⟩ | ⟨_, _, _, _, _, _, _, _, _, rfl⟩⟩ := h <;> exact .q _
  case field T x f => obtain ⟨_, _, _, _, _, _, rfl⟩ := h; exact .q _
  case indexAddr T x ix =>
    obtain ⟨i, h1, h2, ⟨_, _, _, _, _, rfl⟩ | ⟨_, _, _, _, _, _, _, _, _, _, rfl⟩ | ⟨_, _, _, _, _, _, _, rfl⟩⟩ := h <;> exact .q _
  case index T x ix => obtain ⟨_, _, _, _, _, _, _, rfl⟩ := h; exact .q _
  case extract x i => obtain ⟨_, _, _, _, rfl⟩ := h; exact .q _
  case call c =>
    rcases h with ⟨b, hb, h⟩ | ⟨f, hf, ⟨g, caps, _, h⟩ | ⟨i, _, h⟩⟩
    · rcases h with ⟨_, _, _, _, _, _, _, rfl⟩ | ⟨rfl, a, x, T, _, _, τ, ys, _, _, ⟨_, _, rfl⟩ | ⟨j, xs, _, hr, _, rfl⟩⟩ | ⟨_, _, _, _, rfl⟩ | ⟨_, _, _, _, rfl⟩ | ⟨_, _, _, _, _, rfl⟩
      · exact .q _
      · exact .m _ (news_one _ _)
      · refine ⟨news_nil id, fun _ => rfl, fun h => ?_, fun j' r' h => ?_, fun _ _ h => (by cases h)⟩
        · obtain ⟨callee, args, ats⟩ := c
          simp only at hb
          subst hb
          cases h
        · cases h; rw [hr]; simp
      · exact .q _
      · exact .q _
      · exact .q _
    · exact callR_upd h
    · exact callR_upd h
end Go.Gx
