/- A region whose order is open: any order comes to the same. -/
import Derived.Test.YtnffgabfibafjaaDoorGxOrd
namespace Go.Gx
open Go.RowKit
set_option linter.unusedVariables false
set_option linter.unusedSimpArgs false

/-! ### Traces -/
def StepR (E : Env) (G : Cal → List AV → AV → Prop) (ops : Array Oper) (rid i : Nat) (o : Oper) (s s' : St) : Prop :=
  dstOk o s.nt = true ∧ ((WantY ops o s ∧ ∃ u, AOp E G true o ((rid * 256 + i) * 4) (ev E s) s.row u ∧ s' = s.apply o.dst u) ∨ (WantN ops o s ∧ s' = s.putO o.dst undefV))
theorem trace {E : Env} {G : Cal → List AV → AV → Prop} {ops : Array Oper} {rid : Nat} : ∀ {l : List Oper} {i : Nat} {st st' : St}, RunR E G true ops rid l i st st' →
    ∃ sq : Nat → St, sq i = st ∧ sq (i + l.length) = st' ∧ ∀ k o, l[k]? = some o → StepR E G ops rid (i + k) o (sq (i + k)) (sq (i + k + 1))
  | [], i, st, st', h => by
    cases h
    exact ⟨fun _ => st, rfl, rfl, fun k o h => by simp at h⟩
  | o :: l, i, st, st', h => by
    have go : ∀ s1, StepR E G ops rid i o st s1 → RunR E G true ops rid l (i + 1) s1 st' → ∃ sq : Nat → St, sq i = st ∧ sq (i + (o :: l).length) = st' ∧ ∀ k o', (o :: l)[k]? = some o' → StepR E G ops rid (i + k) o' (sq (i + k)) (sq (i + k + 1)) := fun s1 h1 h2 => by
      obtain ⟨sq, h3, h4, h5⟩ := trace h2
      refine ⟨fun j => if j = i then st else sq j, by simp, ?_, fun k o' hk => ?_⟩
      · show (if i + (o :: l).length = i then st else sq (i + (o :: l).length)) = st'
        rw [if_neg (by simp), ← h4, List.length_cons]
        congr 1
        omega
      · cases k with
        | zero =>
          simp only [List.getElem?_cons_zero, Option.some.injEq] at hk
          subst hk
          simp only [Nat.add_zero, if_true]
          rw [if_neg (by omega), h3]
          exact h1
        | succ k =>
          have := h5 k o' (by simpa using hk)
          show StepR E G ops rid (i + (k + 1)) o' (if i + (k + 1) = i then st else sq (i + (k + 1))) (if i + (k + 1) + 1 = i then st else sq (i + (k + 1) + 1))
          rw [if_neg (by omega), if_neg (by omega)]
          rw [show i + (k + 1) = i + 1 + k by omega]
          exact this
    cases h with
    | yes _ _ _ _ _ u hd hw h hr => exact go _ ⟨hd, .inl ⟨hw, u, h, rfl⟩⟩ hr
    | no _ _ _ _ _ hd hw hr => exact go _ ⟨hd, .inr ⟨hw, rfl⟩⟩ hr

theorem putO_row (st : St) (d : Option Nat) (b : AV) : (st.putO d b).row = st.row ∧ (st.putO d b).nt = st.nt := by cases d <;> exact ⟨rfl, rfl⟩
theorem putO_slot (st : St) (d : Option Nat) (b : AV) (t : Nat) : (st.putO d b).slot t = if d = some t then b else st.slot t := by
  cases d with
  | none => simp [St.putO]
  | some d =>
    simp only [St.putO, St.put, beq_eq]
    by_cases e : t = d
    · subst e; simp
    · have : ¬ d = t := fun h => e h.symm
      simp [e, this]
theorem setRows_nt : ∀ (l : List (Nat × Row)) (st : St), (st.setRows l).nt = st.nt ∧ (st.setRows l).slot = st.slot
  | [], st => ⟨rfl, rfl⟩
  | p :: l, st => setRows_nt l (st.setRow p.1 p.2)
theorem apply_nt (st : St) (d : Option Nat) (u : Upd) : (st.apply d u).nt = st.nt := by
  unfold St.apply
  rw [(putO_row _ _ _).2]
  have h1 : ((st.freeze u.frz).setRows u.news).nt = st.nt := by rw [(setRows_nt _ _).1, (freeze_slot _ _).2]
  cases u.sto with
  | none =>
    cases u.app with
    | none => exact h1
    | some p => obtain ⟨j, r⟩ := p; exact h1
  | some q =>
    obtain ⟨k, s⟩ := q
    cases u.app with
    | none => exact h1
    | some p => obtain ⟨j, r⟩ := p; exact h1

/-! ### The order -/
structure Ordered (ops : Array Oper) (pre : Nat → Nat → Prop) : Prop where
  lt : ∀ i o, ops[i]? = some o → ∀ e ∈ o.after, Region.binds .any e = true → e.on < i
  step : ∀ i o j, ops[i]? = some o → pre i j → ∃ e ∈ o.after, Region.binds .any e = true ∧ (e.on = j ∨ pre e.on j)
  ord : ∀ i j o p, ops[i]? = some o → ops[j]? = some p → i ≠ j → pre (max i j) (min i j) ∨ (effB o = false ∧ ∀ d, p.dst = some d → d ∉ o.looksAt ops ∧ o.dst ≠ some d)
theorem fold_bits {B : List Nat} {j : Nat} : ∀ (l : List Edge) (s : Nat), (l.foldl (fun s e => if Region.binds .any e then s ||| 2 ^ e.on ||| B.getD e.on 0 else s) s).testBit j = true → s.testBit j = true ∨ ∃ e ∈ l, Region.binds .any e = true ∧ (e.on = j ∨ (B.getD e.on 0).testBit j = true)
  | [], s, h => .inl h
  | e :: l, s, h => by
    rcases fold_bits l _ h with h1 | ⟨e', he, h1⟩
    · simp only at h1
      by_cases hb : Region.binds .any e = true
      · rw [if_pos hb, Nat.testBit_or, Nat.testBit_or, Nat.testBit_two_pow] at h1
        simp only [Bool.or_eq_true, decide_eq_true_eq] at h1
        rcases h1 with (h1 | h1) | h1
        · exact .inl h1
        · exact .inr ⟨e, List.mem_cons_self, hb, .inl h1⟩
        · exact .inr ⟨e, List.mem_cons_self, hb, .inr h1⟩
      · rw [if_neg hb] at h1
        exact .inl h1
    · exact .inr ⟨e', List.mem_cons_of_mem _ he, h1⟩
theorem drawOk_ordered {ops : Array Oper} (h : drawOk ops = true) : Ordered ops fun i j => ((Region.before ops).toList.getD i 0).testBit j = true := by
  unfold drawOk at h
  simp only [List.all_eq_true, List.mem_range] at h
  have row : ∀ i o, ops[i]? = some o → (∀ e ∈ o.after, Region.binds .any e = true → e.on < i) ∧
      ((Region.before ops).toList.getD i 0 = o.after.toList.foldl (fun s e => if Region.binds .any e then s ||| 2 ^ e.on ||| (Region.before ops).toList.getD e.on 0 else s) 0) ∧
      ∀ j p, ops[j]? = some p → inOrder (Region.before ops).toList i j = true ∨ (effB o = false ∧ ∀ d, p.dst = some d → d ∉ o.looksAt ops ∧ o.dst ≠ some d) := fun i o hi => by
    have h1 := h i (Array.getElem?_eq_some_iff.1 hi).1
    rw [hi] at h1
    simp only [Bool.and_eq_true, List.all_eq_true, List.mem_range] at h1
    obtain ⟨⟨⟨_, h2⟩, h3⟩, h4⟩ := h1
    refine ⟨fun e he hb => ?_, Nat.eq_of_beq_eq_true h3, fun j p hj => ?_⟩
    · have := h2 e (by simpa using he)
      rw [hb] at this
      simpa using this
    · have h5 := h4 j (Array.getElem?_eq_some_iff.1 hj).1
      rw [hj] at h5
      simp only [Bool.or_eq_true, Bool.and_eq_true, Bool.not_eq_true'] at h5
      rcases h5 with h5 | ⟨h5, h6⟩
      · exact .inl h5
      · refine .inr ⟨h5, fun d hd => ?_⟩
        rw [hd] at h6
        simp only [Bool.and_eq_true, Bool.not_eq_true', bne_iff_ne, looks] at h6
        exact ⟨by simpa using h6.1, h6.2⟩
  refine ⟨fun i o hi => (row i o hi).1, fun i o j hi hp => ?_, fun i j o p hi hj hne => ?_⟩
  · rw [(row i o hi).2.1] at hp
    rcases fold_bits _ _ hp with h1 | ⟨e, he, h1⟩
    · simp at h1
    · exact ⟨e, by simpa using he, h1⟩
  · rcases (row i o hi).2.2 j p hj with h1 | h1
    · unfold inOrder at h1
      simp only [Bool.or_eq_true] at h1
      rcases h1 with h1 | h1
      · exact absurd (Nat.eq_of_beq_eq_true h1) hne
      · exact .inl h1
    · exact .inr h1
theorem pre_mem {ops : Array Oper} {pre : Nat → Nat → Prop} (ho : Ordered ops pre) {X : Nat → Prop} (hlt : ∀ i, X i → i < ops.size) (hX : ∀ i o, ops[i]? = some o → X i → ∀ e ∈ o.after, Region.binds .any e = true → X e.on) : ∀ (i : Nat) (o : Oper) (j : Nat), ops[i]? = some o → pre i j →
    (∀ e ∈ o.after, Region.binds .any e = true → X e.on) → X j := by
  intro i
  induction i using Nat.strongRecOn with
  | _ i ih =>
    intro o j hi hp hall
    obtain ⟨e, he, hb, h1⟩ := ho.step i o j hi hp
    have hXe := hall e he hb
    rcases h1 with h1 | h1
    · exact h1 ▸ hXe
    · have hlt' := hlt _ hXe
      have hoe : ops[e.on]? = some ops[e.on] := Array.getElem?_eq_getElem hlt'
      exact ih e.on (ho.lt i o hi e he hb) _ j hoe h1 (hX _ _ hoe hXe)
end Go.Gx
