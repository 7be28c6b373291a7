/- Plain laws: queries, their check. -/
import Derived.Test.YtahacbcnjfoknaaDoorVQ
import Derived.Test.YtahacbcnjfoknaaDoorGxEv
namespace Go.Proofs.YtahacbcnjfoknaaDoor
open Go.Gx
set_option linter.unusedVariables false
set_option linter.unusedSimpArgs false

theorem getD_at {α : Type} {xs : List α} {i : Nat} (h : i < xs.length) (d : α) : xs.getD i d = xs[i] := by simp [List.getD, List.getElem?_eq_getElem h]
theorem wf_len {e : Ty} {xs : List (den e)} (h : WF (.sl e) xs) : xs.length ≤ 9223372036854775807 := by
  cases h with | sl _ _ h _ => exact maxLen_eq ▸ h
mutual
def qsize : Query → Nat
  | .mk _ _ _ ps => 1 + qsizeL ps
def qsizeL : List Query → Nat
  | [] => 0
  | q :: l => qsize q + qsizeL l
end
mutual
def totQ : Query → Nat
  | .mk _ f w ps => f.size + w.size + totQs ps
def totQs : List Query → Nat
  | [] => 0
  | q :: l => 1 + totQ q + totQs l
end
theorem qsize_eq (q : Query) : qsize q = 1 + qsizeL q.parts := by cases q; simp only [qsize, Query.parts]
theorem totQ_eq (q : Query) : totQ q = q.field.size + q.word.size + totQs q.parts := by cases q; simp only [totQ, Query.parts, Query.field, Query.word]
theorem qsizeL_drop {ps : List Query} {i : Nat} (h : i < ps.length) : qsizeL (ps.drop i) = qsize ps[i] + qsizeL (ps.drop (i + 1)) := by rw [List.drop_eq_getElem_cons h]; simp only [qsizeL]
theorem totQs_drop {ps : List Query} {i : Nat} (h : i < ps.length) : totQs (ps.drop i) = 1 + totQ ps[i] + totQs (ps.drop (i + 1)) := by rw [List.drop_eq_getElem_cons h]; simp only [totQs]
theorem qsize_pos (q : Query) : 1 ≤ qsize q := by rw [qsize_eq]; omega
theorem qsize_mem {p : Query} : ∀ {ps : List Query}, p ∈ ps → qsize p ≤ qsizeL ps
  | [], h => by cases h
  | q :: l, h => by
    simp only [qsizeL]
    rcases List.mem_cons.1 h with rfl | h
    · omega
    · have := qsize_mem h; omega
theorem totQ_mem {p : Query} : ∀ {ps : List Query}, p ∈ ps → totQ p ≤ totQs ps
  | [], h => by cases h
  | q :: l, h => by
    simp only [totQs]
    rcases List.mem_cons.1 h with rfl | h
    · omega
    · have := totQ_mem h; omega
theorem len_totQs : ∀ ps : List Query, ps.length ≤ totQs ps
  | [] => Nat.zero_le _
  | q :: l => by simp only [totQs, List.length_cons]; have := len_totQs l; omega
/-- What holds of a query where it holds of its parts. -/
theorem byQ {P : Query → Prop} (h : ∀ q, (∀ p ∈ q.parts, P p) → P q) (q : Query) : P q := by
  have : ∀ n q, qsize q ≤ n → P q := by
    intro n
    induction n with
    | zero => intro q hq; have := qsize_pos q; omega
    | succ n ih =>
      intro q hq
      refine h q fun p hp => ih p ?_
      have := qsize_mem hp
      rw [qsize_eq] at hq
      omega
  exact this _ q (Nat.le_refl _)
theorem wf_q {q : Query} (h : WF .query q) : -9223372036854775808 ≤ q.op ∧ q.op ≤ 9223372036854775807 ∧ q.field.size ≤ 9223372036854775807 ∧ q.word.size ≤ 9223372036854775807 ∧ q.parts.length ≤ 9223372036854775807 ∧ ∀ p ∈ q.parts, WF .query p := by
  cases h with
  | query _ h1 h2 h3 h4 =>
    refine ⟨(wf_i64 h1).1, (wf_i64 h1).2, wf_str h2, wf_str h3, wf_len h4, fun p hp => ?_⟩
    obtain ⟨i, hi, rfl⟩ := List.getElem_of_mem hp
    cases h4 with | sl _ _ _ h => exact h i hi

/-! ### Of the law -/
theorem szQ_ev : ∀ q : Query, WF .query q → ∀ l : Int, 0 ≤ l → l ≤ 1048576 → Ev (fun k => laws_szQuery.F k q l) (if l - totQ q < 0 then -1 else l - totQ q) := by
  refine byQ fun q ih hw l h0 h1 => ?_
  obtain ⟨_, _, hf, hwd, hpl, hps⟩ := wf_q hw
  have loop : q.parts.length ≤ 1048576 → ∀ n i : Nat, i + n = q.parts.length → ∀ l : Int, 0 ≤ l → l ≤ 1048576 → ∀ T : Int, T = l - (totQs (q.parts.drop i) - (q.parts.length - i : Nat)) →
      Ev (fun k => laws_szQueryS.l0 k q.parts l i) (if T < 0 then .inl (-1) else .inr T) := by
    intro hlen n
    induction n with
    | zero =>
      intro i h l h0 h1 T hT
      refine Ev.step (fun k => by rw [laws_szQueryS.l0]) ?_
      simp (disch := omega) only [cneg]
      rw [List.drop_eq_nil_of_le (by omega)] at hT
      simp only [totQs] at hT
      rw [if_neg (by omega)]
      exact (Ev.pure _).eq (by congr 1; omega)
    | succ n ihn =>
      intro i h l h0 h1 T hT
      have hi : i < q.parts.length := by omega
      have hd := totQs_drop hi
      have hlt := len_totQs (q.parts.drop (i + 1))
      rw [List.length_drop] at hlt
      refine Ev.step (fun k => by rw [laws_szQueryS.l0]) ?_
      simp (disch := omega) only [cpos, Int.toNat_natCast, getD_at hi]
      refine Ev.bind (ih _ (List.getElem_mem hi) (hps _ (List.getElem_mem hi)) l h0 h1) ?_
      by_cases c : l - (totQ q.parts[i] : Int) < 0
      · rw [if_pos c]
        simp (disch := omega) only [cpos]
        rw [if_pos (by omega)]
        exact Ev.pure _
      · rw [if_neg c]
        simp (disch := omega) only [cneg, wrap_in]
        exact ihn (i + 1) (by omega) (l - totQ q.parts[i]) (by omega) (by omega) T (by omega)
  rw [totQ_eq]
  have hlp := len_totQs q.parts
  refine Ev.step (fun k => by rw [laws_szQuery.F]) ?_
  by_cases c1 : l - (q.field.size : Int) < 0
  · simp (disch := omega) only [wrap_in, cpos]
    rw [if_pos (by omega)]; exact Ev.pure _
  · by_cases c2 : l - (q.field.size : Int) - (q.word.size : Int) < 0
    · simp (disch := omega) only [wrap_in, cpos, cneg]
      rw [if_pos (by omega)]; exact Ev.pure _
    · simp (disch := omega) only [wrap_in, cneg]
      have inner : Ev (fun k => laws_szQueryS.F k q.parts (l - (q.field.size : Int) - (q.word.size : Int))) (if l - (q.field.size : Int) - (q.word.size : Int) - totQs q.parts < 0 then -1 else l - (q.field.size : Int) - (q.word.size : Int) - totQs q.parts) := by
        refine Ev.step (fun k => by rw [laws_szQueryS.F]) ?_
        by_cases c3 : l - (q.field.size : Int) - (q.word.size : Int) - (q.parts.length : Int) < 0
        · simp (disch := omega) only [wrap_in, cpos]
          rw [if_pos (by omega)]; exact Ev.pure _
        · simp (disch := omega) only [wrap_in, cneg]
          have := loop (by omega) q.parts.length 0 (by omega) (l - (q.field.size : Int) - (q.word.size : Int) - (q.parts.length : Int)) (by omega) (by omega) (l - (q.field.size : Int) - (q.word.size : Int) - totQs q.parts) (by simp only [List.drop_zero, Nat.sub_zero]; omega)
          by_cases c4 : l - (q.field.size : Int) - (q.word.size : Int) - totQs q.parts < 0
          · rw [if_pos c4] at this ⊢; exact Ev.bind this (Ev.pure _)
          · rw [if_neg c4] at this ⊢; exact Ev.bind this (Ev.pure _)
      refine Ev.bind inner ?_
      by_cases c4 : l - (q.field.size : Int) - (q.word.size : Int) - totQs q.parts < 0
      · simp (disch := omega) only [if_pos c4, cpos]
        rw [if_pos (by omega)]; exact Ev.pure _
      · simp (disch := omega) only [if_neg c4, cneg]
        rw [if_neg (by omega)]; exact (Ev.pure _).eq (by omega)
/-- A query that the law's bound lets in. -/
def smallQ (q : Query) : Prop := totQ q ≤ 1048576
theorem smallQ_part {q p : Query} (h : smallQ q) (hp : p ∈ q.parts) : smallQ p := by
  have h1 := totQ_mem hp
  have h2 := totQ_eq q
  unfold smallQ at *
  omega
theorem smallQ_len {q : Query} (h : smallQ q) : q.field.size ≤ 1048576 ∧ q.word.size ≤ 1048576 ∧ q.parts.length ≤ 1048576 := by
  have h1 := len_totQs q.parts
  have h2 := totQ_eq q
  unfold smallQ at *
  omega
theorem toQ_ev : ∀ q : Query, smallQ q → Ev (fun k => laws_toQuery.F k q) q := by
  refine byQ fun q ih hs => ?_
  obtain ⟨_, _, hlen⟩ := smallQ_len hs
  have loop : ∀ n i : Nat, i + n = q.parts.length → ∀ ys : List Query, ys.length = q.parts.length → ys.take i = q.parts.take i → Ev (fun k => laws_toQueryS.l0 k q.parts ys i) q.parts := by
    intro n
    induction n with
    | zero =>
      intro i h ys hy ht
      refine Ev.step (fun k => by rw [laws_toQueryS.l0]) ?_
      simp (disch := omega) only [cneg]
      have : ys = q.parts := by
        rw [List.take_of_length_le (by omega), List.take_of_length_le (by omega)] at ht
        exact ht
      rw [this]; exact Ev.pure _
    | succ n ihn =>
      intro i h ys hy ht
      have hi : i < q.parts.length := by omega
      refine Ev.step (fun k => by rw [laws_toQueryS.l0]) ?_
      simp (disch := omega) only [cpos, Int.toNat_natCast, getD_at hi]
      refine Ev.bind (ih _ (List.getElem_mem hi) (smallQ_part hs (List.getElem_mem hi))) ?_
      simp (disch := omega) only [cpos, wrap_in]
      exact ihn (i + 1) (by omega) (ys.set i q.parts[i]) (by simpa using hy) (by
        rw [List.take_add_one, List.take_add_one, List.take_set_of_le (Nat.le_refl i), ht]
        simp [show i < ys.length by omega, hi])
  refine Ev.step (fun k => by rw [laws_toQuery.F]) ?_
  have inner : Ev (fun k => laws_toQueryS.F k q.parts) q.parts := by
    refine Ev.step (fun k => by rw [laws_toQueryS.F]) ?_
    have hn : nb .query = 64 := rfl
    simp (disch := first | omega | (simp only [hn, Int.toNat_natCast]; omega)) only [ceq, cpos, cble]
    exact Ev.bind (loop q.parts.length 0 (by omega) _ (by simp) (by simp)) (Ev.pure _)
  refine Ev.bind inner ((Ev.pure _).eq ?_)
  cases q; rfl
theorem eqQ_ev : ∀ q : Query, smallQ q → Ev (fun k => laws_eqQuery.F k q q) true := by
  refine byQ fun q ih hs => ?_
  obtain ⟨_, _, hlen⟩ := smallQ_len hs
  have loop : ∀ n i : Nat, i + n = q.parts.length → Ev (fun k => laws_eqQueryS.l0 k q.parts q.parts i) (.inr ()) := by
    intro n
    induction n with
    | zero =>
      intro i h
      refine Ev.step (fun k => by rw [laws_eqQueryS.l0]) ?_
      simp (disch := omega) only [cneg]
      exact Ev.pure _
    | succ n ihn =>
      intro i h
      have hi : i < q.parts.length := by omega
      refine Ev.step (fun k => by rw [laws_eqQueryS.l0]) ?_
      simp (disch := omega) only [cpos, Int.toNat_natCast, getD_at hi]
      refine Ev.bind (ih _ (List.getElem_mem hi) (smallQ_part hs (List.getElem_mem hi))) ?_
      simp (disch := omega) only [Bool.not_true, cond_false, wrap_in]
      exact ihn (i + 1) (by omega)
  refine Ev.step (fun k => by rw [laws_eqQuery.F]) ?_
  simp only [beqS_self, Bool.not_true, cond_false, bne_self_eq_false]
  have inner : Ev (fun k => laws_eqQueryS.F k q.parts q.parts) true := by
    refine Ev.step (fun k => by rw [laws_eqQueryS.F]) ?_
    simp only [bne_self_eq_false, cond_false]
    exact Ev.bind (loop q.parts.length 0 (by omega)) (Ev.pure _)
  exact Ev.bind inner (Ev.pure _)

/-! ### Words and fields -/
def signB (b : UInt8) : Bool := (decide (97 ≤ b.toNat) && decide (b.toNat ≤ 122)) || (decide (48 ≤ b.toNat) && decide (b.toNat ≤ 57))
theorem digit_ev (b : UInt8) : spec_l6Digit.F (b.toNat : Int) = some (decide (48 ≤ b.toNat) && decide (b.toNat ≤ 57)) := by
  unfold spec_l6Digit.F
  rw [show decide ((b.toNat : Int) ≥ 48) = decide (48 ≤ b.toNat) from decide_eq_decide.2 (by omega), show decide ((b.toNat : Int) ≤ 57) = decide (b.toNat ≤ 57) from decide_eq_decide.2 (by omega)]
  cases decide (48 ≤ b.toNat) <;> rfl
theorem isDigit_ev (b : UInt8) : impl_isDigit.F (b.toNat : Int) = some (decide (48 ≤ b.toNat) && decide (b.toNat ≤ 57)) := by
  unfold impl_isDigit.F
  rw [show decide ((b.toNat : Int) ≥ 48) = decide (48 ≤ b.toNat) from decide_eq_decide.2 (by omega), show decide ((b.toNat : Int) ≤ 57) = decide (b.toNat ≤ 57) from decide_eq_decide.2 (by omega)]
  cases decide (48 ≤ b.toNat) <;> rfl
theorem isLower_ev (b : UInt8) : impl_isLower.F (b.toNat : Int) = some (decide (97 ≤ b.toNat) && decide (b.toNat ≤ 122)) := by
  unfold impl_isLower.F
  rw [show decide ((b.toNat : Int) ≥ 97) = decide (97 ≤ b.toNat) from decide_eq_decide.2 (by omega), show decide ((b.toNat : Int) ≤ 122) = decide (b.toNat ≤ 122) from decide_eq_decide.2 (by omega)]
  cases decide (97 ≤ b.toNat) <;> rfl
theorem sign_ev (b : UInt8) : spec_l22Sign.F (b.toNat : Int) = some (signB b) := by
  unfold spec_l22Sign.F signB
  rw [digit_ev, show decide ((b.toNat : Int) ≥ 97) = decide (97 ≤ b.toNat) from decide_eq_decide.2 (by omega), show decide ((b.toNat : Int) ≤ 122) = decide (b.toNat ≤ 122) from decide_eq_decide.2 (by omega)]
  cases decide (97 ≤ b.toNat) <;> cases decide (b.toNat ≤ 122) <;> rfl
theorem in_ev (a b c : Int) : spec_l1In.F a b c = some (decide (a ≥ b) && decide (a ≤ c)) := by
  unfold spec_l1In.F
  cases decide (a ≥ b) <;> rfl
theorem inside_ev (a b c : Int) : impl_inside.F a b c = some (decide (a ≥ b) && decide (a ≤ c)) := by
  unfold impl_inside.F
  cases decide (a ≥ b) <;> rfl
theorem all_drop {s : ByteArray} {i : Nat} (hi : i < s.size) (p : UInt8 → Bool) : ((L s).drop i).all p = (p ((L s).getD i 0) && ((L s).drop (i + 1)).all p) := by
  have hl : i < (L s).length := by rw [L_size]; exact hi
  rw [List.drop_eq_getElem_cons hl, getD_at hl]; rfl
theorem specWord_l0 (s : ByteArray) (hs : s.size ≤ 9223372036854775806) : ∀ n i : Nat, i + n = s.size → Ev (fun k => spec_l22Word.l0 k s i) (if ((L s).drop i).all signB = true then .inr s else .inl false)
  | 0, i, h => by
    refine Ev.step (fun k => by rw [spec_l22Word.l0]) ?_
    simp (disch := omega) only [cneg]
    rw [List.drop_eq_nil_of_le (by rw [L_size]; omega)]
    exact Ev.pure _
  | n + 1, i, h => by
    refine Ev.step (fun k => by rw [spec_l22Word.l0]) ?_
    simp (disch := omega) only [cpos, Int.toNat_natCast, L_bt]
    refine Ev.bind0 (sign_ev _) ?_
    rw [all_drop (by omega)]
    cases hlow : signB ((L s).getD i 0) with
    | false => simp only [Bool.not_false, cond_true, Bool.false_and]; exact Ev.pure _
    | true =>
      simp (disch := omega) only [Bool.not_true, cond_false, Bool.true_and, wrap_in]
      exact specWord_l0 s hs n (i + 1) (by omega)
theorem implWord_l0 (s : ByteArray) (hs : s.size ≤ 9223372036854775806) : ∀ n i : Nat, i + n = s.size → Ev (fun k => impl_isQueryWord.l0 k s i) (if ((L s).drop i).all signB = true then .inr s else .inl false)
  | 0, i, h => by
    refine Ev.step (fun k => by rw [impl_isQueryWord.l0]) ?_
    simp (disch := omega) only [cneg]
    rw [List.drop_eq_nil_of_le (by rw [L_size]; omega)]
    exact Ev.pure _
  | n + 1, i, h => by
    have ih := implWord_l0 s hs n (i + 1) (by omega)
    refine Ev.step (fun k => by rw [impl_isQueryWord.l0]) ?_
    simp (disch := omega) only [cpos, Int.toNat_natCast, L_bt]
    refine Ev.bind0 (isLower_ev _) ?_
    rw [all_drop (by omega)]
    unfold signB at ih ⊢
    cases hlow : (decide (97 ≤ ((L s).getD i 0).toNat) && decide (((L s).getD i 0).toNat ≤ 122)) with
    | true =>
      simp (disch := omega) only [Bool.not_true, cond_false, Bool.true_or, Bool.true_and, wrap_in]
      exact ih
    | false =>
      simp (disch := omega) only [Bool.not_false, cond_true, Bool.false_or, cpos]
      refine Ev.bind0 (isDigit_ev _) ?_
      cases hd : (decide (48 ≤ ((L s).getD i 0).toNat) && decide (((L s).getD i 0).toNat ≤ 57)) with
      | false => simp only [Bool.not_false, cond_true, Bool.false_and]; exact Ev.pure _
      | true =>
        simp (disch := omega) only [Bool.not_true, cond_false, Bool.true_and, wrap_in]
        exact ih
def wordB (s : ByteArray) : Bool := (L s).all signB && ((decide ((s.size : Int) ≥ 1) && decide ((s.size : Int) ≤ 15)) && (!beqS s ⟨#[110, 111, 116]⟩ && (!beqS s ⟨#[97, 110, 100]⟩ && !beqS s ⟨#[111, 114]⟩)))
theorem specWord_ev (s : ByteArray) (hs : s.size ≤ 9223372036854775806) : Ev (fun k => spec_l22Word.F k s) (wordB s) := by
  unfold spec_l22Word.F wordB
  have := specWord_l0 s hs s.size 0 (by omega)
  rw [List.drop_zero] at this
  cases hall : (L s).all signB with
  | false => rw [hall] at this; exact Ev.bind this (Ev.pure _)
  | true =>
    rw [hall] at this
    refine Ev.bind this (Ev.bind0 (in_ev _ _ _) ?_)
    simp only [Bool.true_and]
    cases (decide ((s.size : Int) ≥ 1) && decide ((s.size : Int) ≤ 15)) <;> cases (!beqS s ⟨#[110, 111, 116]⟩) <;> cases (!beqS s ⟨#[97, 110, 100]⟩) <;> exact Ev.pure _
theorem implWord_ev (s : ByteArray) (hs : s.size ≤ 9223372036854775806) : Ev (fun k => impl_isQueryWord.F k s) (wordB s) := by
  unfold impl_isQueryWord.F wordB
  have := implWord_l0 s hs s.size 0 (by omega)
  rw [List.drop_zero] at this
  cases hall : (L s).all signB with
  | false => rw [hall] at this; exact Ev.bind this (Ev.pure _)
  | true =>
    rw [hall] at this
    refine Ev.bind this (Ev.bind0 (inside_ev _ _ _) ?_)
    simp only [Bool.true_and]
    cases (decide ((s.size : Int) ≥ 1) && decide ((s.size : Int) ≤ 15)) <;> cases (!beqS s ⟨#[110, 111, 116]⟩) <;> cases (!beqS s ⟨#[97, 110, 100]⟩) <;> exact Ev.pure _
theorem beqS_comm (s t : ByteArray) : beqS s t = beqS t s := by
  rw [Bool.eq_iff_iff, beqS_iff, beqS_iff]
  exact eq_comm
def memS (s : ByteArray) (xs : List ByteArray) : Bool := xs.any fun f => beqS f s
theorem memS_cons (s x : ByteArray) (xs : List ByteArray) : memS s (x :: xs) = (beqS x s || memS s xs) := rfl
theorem field_l0 (s : ByteArray) (xs : List ByteArray) (hl : xs.length ≤ 1000) : ∀ n i : Nat, i + n = xs.length → Ev (fun k => spec_l22Field.l0 k s xs i) (if memS s (xs.drop i) = true then .inl true else .inr s)
  | 0, i, h => by
    refine Ev.step (fun k => by rw [spec_l22Field.l0]) ?_
    simp (disch := omega) only [cneg]
    rw [List.drop_eq_nil_of_le (by omega)]
    exact Ev.pure _
  | n + 1, i, h => by
    have hi : i < xs.length := by omega
    refine Ev.step (fun k => by rw [spec_l22Field.l0]) ?_
    simp (disch := omega) only [cpos, Int.toNat_natCast, getD_at hi]
    rw [List.drop_eq_getElem_cons hi, memS_cons]
    cases beqS xs[i] s with
    | true => simp only [Bool.true_or, cond_true]; exact Ev.pure _
    | false =>
      simp (disch := omega) only [Bool.false_or, cond_false, wrap_in]
      exact field_l0 s xs hl n (i + 1) (by omega)
theorem index_l0 (s : ByteArray) (xs : List ByteArray) (hl : xs.length ≤ 1000) : ∀ n i : Nat, i + n = xs.length → ∃ r, Ev (fun k => slices_Index_string.l0 k xs s xs.length i) r ∧ ((memS s (xs.drop i) = true ∧ ∃ j : Int, r = .inl j ∧ 0 ≤ j) ∨ (memS s (xs.drop i) = false ∧ r = .inr ()))
  | 0, i, h => by
    refine ⟨.inr (), Ev.step (fun k => by rw [slices_Index_string.l0]) ?_, .inr ⟨by rw [List.drop_eq_nil_of_le (by omega)]; rfl, rfl⟩⟩
    simp (disch := omega) only [cneg]
    exact Ev.pure _
  | n + 1, i, h => by
    have hi : i < xs.length := by omega
    obtain ⟨r, h1, h2⟩ := index_l0 s xs hl n (i + 1) (by omega)
    rw [List.drop_eq_getElem_cons hi, memS_cons]
    cases hb : beqS xs[i] s with
    | true =>
      refine ⟨.inl i, Ev.step (fun k => by rw [slices_Index_string.l0]) ?_, .inl ⟨rfl, i, rfl, by omega⟩⟩
      simp (disch := omega) only [cpos, Int.toNat_natCast, getD_at hi]
      rw [beqS_comm, hb]
      exact Ev.pure _
    | false =>
      refine ⟨r, Ev.step (fun k => by rw [slices_Index_string.l0]) ?_, by rw [Bool.false_or]; exact h2⟩
      simp (disch := omega) only [cpos, Int.toNat_natCast, getD_at hi]
      rw [beqS_comm, hb]
      simp (disch := omega) only [cond_false, wrap_in]
      exact h1
theorem contains_ev (s : ByteArray) (xs : List ByteArray) (hl : xs.length ≤ 1000) : Ev (fun k => slices_Contains_string.F k xs s) (memS s xs) := by
  unfold slices_Contains_string.F slices_Index_string.F
  obtain ⟨r, h1, h2⟩ := index_l0 s xs hl xs.length 0 (by omega)
  rw [List.drop_zero] at h2
  rcases h2 with ⟨h3, j, rfl, hj⟩ | ⟨h3, rfl⟩
  · refine Ev.bind (Ev.bind h1 (Ev.pure _)) ((Ev.pure _).eq ?_)
    rw [h3]; exact decide_eq_true hj
  · refine Ev.bind (Ev.bind h1 (Ev.pure _)) ((Ev.pure _).eq ?_)
    rw [h3]; rfl
def fieldB (s : ByteArray) : Bool := memS s glV0 || beqS s ⟨#[]⟩
theorem specField_ev (s : ByteArray) : Ev (fun k => spec_l22Field.F k s) (fieldB s) := by
  unfold spec_l22Field.F
  refine Ev.bind0 (a := glV0) rfl ?_
  have := field_l0 s glV0 (by decide) glV0.length 0 (by omega)
  rw [List.drop_zero] at this
  unfold fieldB
  cases hm : memS s glV0 with
  | true => rw [hm] at this; exact Ev.bind this (Ev.pure _)
  | false => rw [hm] at this; exact Ev.bind this (Ev.pure _)
theorem isField_ev (s : ByteArray) : Ev (fun k => impl_isField.F k s) (memS s glV0) := by
  unfold impl_isField.F
  exact Ev.bind (contains_ev s glV0 (by decide)) (Ev.pure _)

/-! ### Forms -/
def formB (q : Query) : Bool := cond (q.op == 1) (wordB q.word && (fieldB q.field && ((q.parts.length : Int) == 0)))
  (cond (q.op == 2) (beqS q.word ⟨#[]⟩ && (beqS q.field ⟨#[]⟩ && ((q.parts.length : Int) == 1)))
    (cond (q.op == 3 || q.op == 4) (beqS q.word ⟨#[]⟩ && (beqS q.field ⟨#[]⟩ && ((q.parts.length : Int) == 2))) false))
theorem form_ev (q : Query) (h : q.word.size ≤ 1048576) : Ev (fun k => spec_l22Form.F k q) (formB q) := by
  unfold spec_l22Form.F formB
  cases q.op == 1 with
  | true =>
    simp only [cond_true]
    refine Ev.bind (specWord_ev _ (by omega)) ?_
    cases wordB q.word with
    | false => exact Ev.pure _
    | true =>
      simp only [cond_true, Bool.true_and]
      refine Ev.bind (specField_ev _) ?_
      cases fieldB q.field <;> exact Ev.pure _
  | false =>
    simp only [cond_false]
    cases q.op == 2 <;> cases q.op == 3 <;> cases q.op == 4 <;> cases beqS q.word ⟨#[]⟩ <;> cases beqS q.field ⟨#[]⟩ <;> exact Ev.pure _
mutual
def qforms : Query → Bool
  | .mk a b c ps => formB (.mk a b c ps) && qformsL ps
def qformsL : List Query → Bool
  | [] => true
  | q :: l => qforms q && qformsL l
end
theorem qformsL_nil : qformsL [] = true := by simp only [qformsL]
theorem qsizeL_nil : qsizeL [] = 0 := by simp only [qsizeL]
theorem qforms_eq (q : Query) : qforms q = (formB q && qformsL q.parts) := by cases q; simp only [qforms, Query.parts]
theorem qformsL_drop {ps : List Query} {i : Nat} (h : i < ps.length) : qformsL (ps.drop i) = (qforms ps[i] && qformsL (ps.drop (i + 1))) := by rw [List.drop_eq_getElem_cons h]; simp only [qformsL]
theorem forms_ev : ∀ q : Query, smallQ q → Ev (fun k => spec_l22Forms.F k q) (qforms q) := by
  refine byQ fun q ih hs => ?_
  obtain ⟨_, hw, hlen⟩ := smallQ_len hs
  have loop : ∀ n i : Nat, i + n = q.parts.length → Ev (fun k => spec_l22Forms.l0 k q i) (if qformsL (q.parts.drop i) = true then .inr () else .inl false) := by
    intro n
    induction n with
    | zero =>
      intro i h
      refine Ev.step (fun k => by rw [spec_l22Forms.l0]) ?_
      simp (disch := omega) only [cneg]
      rw [List.drop_eq_nil_of_le (by omega)]
      simp only [qformsL]
      exact Ev.pure _
    | succ n ihn =>
      intro i h
      have hi : i < q.parts.length := by omega
      refine Ev.step (fun k => by rw [spec_l22Forms.l0]) ?_
      simp (disch := omega) only [cpos, Int.toNat_natCast, getD_at hi]
      refine Ev.bind (ih _ (List.getElem_mem hi) (smallQ_part hs (List.getElem_mem hi))) ?_
      rw [qformsL_drop hi]
      cases qforms q.parts[i] with
      | false => exact Ev.pure _
      | true =>
        simp (disch := omega) only [Bool.not_true, cond_false, Bool.true_and, wrap_in]
        exact ihn (i + 1) (by omega)
  refine Ev.step (fun k => by rw [spec_l22Forms.F]) ?_
  refine Ev.bind (form_ev q hw) ?_
  rw [qforms_eq]
  cases formB q with
  | false => exact Ev.pure _
  | true =>
    simp only [Bool.not_true, cond_false, Bool.true_and]
    have := loop q.parts.length 0 (by omega)
    rw [List.drop_zero] at this
    cases hf : qformsL q.parts with
    | false => rw [hf] at this; exact Ev.bind this (Ev.pure _)
    | true => rw [hf] at this; exact Ev.bind this (Ev.pure _)
theorem qsizeL_le : ∀ ps : List Query, qsizeL ps ≤ totQs ps := by
  have one : ∀ q : Query, qsize q ≤ 1 + totQ q := byQ fun q ih => by
    rw [qsize_eq, totQ_eq]
    have : ∀ ps : List Query, (∀ p ∈ ps, qsize p ≤ 1 + totQ p) → qsizeL ps ≤ totQs ps := by
      intro ps
      induction ps with
      | nil => intro _; exact Nat.le_refl _
      | cons p l ihl =>
        intro h
        simp only [qsizeL, totQs]
        have h1 := h p List.mem_cons_self
        have h2 := ihl fun x hx => h x (List.mem_cons_of_mem _ hx)
        omega
    have := this q.parts ih
    omega
  intro ps
  induction ps with
  | nil => exact Nat.le_refl _
  | cons p l ih => simp only [qsizeL, totQs]; have := one p; omega
theorem size_ev : ∀ q : Query, smallQ q → Ev (fun k => spec_l22Size.F k q) (qsize q) := by
  refine byQ fun q ih hs => ?_
  obtain ⟨_, _, hlen⟩ := smallQ_len hs
  have hq := qsizeL_le q.parts
  have ht := totQ_eq q
  have loop : ∀ n i : Nat, i + n = q.parts.length → ∀ c : Nat, c + qsizeL (q.parts.drop i) ≤ 1 + qsizeL q.parts → Ev (fun k => spec_l22Size.l0 k q c i) ((c + qsizeL (q.parts.drop i) : Nat) : Int) := by
    intro n
    induction n with
    | zero =>
      intro i h c hc
      refine Ev.step (fun k => by rw [spec_l22Size.l0]) ?_
      simp (disch := omega) only [cneg]
      rw [List.drop_eq_nil_of_le (by omega)]
      simp only [qsizeL, Nat.add_zero]
      exact Ev.pure _
    | succ n ihn =>
      intro i h c hc
      have hi : i < q.parts.length := by omega
      have hd := qsizeL_drop hi
      unfold smallQ at hs
      refine Ev.step (fun k => by rw [spec_l22Size.l0]) ?_
      simp (disch := omega) only [cpos, Int.toNat_natCast, getD_at hi]
      refine Ev.bind (ih _ (List.getElem_mem hi) (smallQ_part hs (List.getElem_mem hi))) ?_
      simp (disch := omega) only [wrap_in]
      have := ihn (i + 1) (by omega) (c + qsize q.parts[i]) (by omega)
      rw [hd, show c + (qsize q.parts[i] + qsizeL (q.parts.drop (i + 1))) = c + qsize q.parts[i] + qsizeL (q.parts.drop (i + 1)) by omega]
      exact this
  refine Ev.step (fun k => by rw [spec_l22Size.F]) ?_
  have := loop q.parts.length 0 (by omega) 1 (by rw [List.drop_zero]; omega)
  rw [List.drop_zero, ← qsize_eq] at this
  exact Ev.bind this (Ev.pure _)
def goodQ (q : Query) : Bool := qforms q && decide ((qsize q : Int) ≤ 15)
theorem specGood_ev (q : Query) (hs : smallQ q) : Ev (fun k => spec_l22Good.F k q) (goodQ q) := by
  unfold spec_l22Good.F goodQ
  refine Ev.bind (forms_ev q hs) ?_
  cases qforms q with
  | false => exact Ev.pure _
  | true => exact Ev.bind (size_ev q hs) (Ev.pure _)
theorem queries_ev : ∀ q : Query, smallQ q → ∀ m : Int, m ≤ 15 → 0 ≤ m → ∃ c : Int, Ev (fun k => impl_queries.F k q m) (c, qforms q && decide ((qsize q : Int) ≤ m)) ∧ 0 ≤ c ∧ c ≤ m ∧ ((qforms q && decide ((qsize q : Int) ≤ m)) = true → c = qsize q) := by
  refine byQ fun q ih hs m hm hm0 => ?_
  obtain ⟨_, hw, hlen⟩ := smallQ_len hs
  by_cases c1 : m < 1
  · refine ⟨0, Ev.step (fun k => by rw [impl_queries.F]) ?_, Int.le_refl _, hm0, fun h => ?_⟩
    · simp (disch := omega) only [cpos]
      have := qsize_pos q
      rw [decide_eq_false (show ¬ (qsize q : Int) ≤ m by omega), Bool.and_false]
      exact Ev.pure _
    · have := qsize_pos q
      rw [decide_eq_false (show ¬ (qsize q : Int) ≤ m by omega), Bool.and_false] at h
      cases h
  · have loop : ∀ n i : Nat, i + n = q.parts.length → ∀ (b : Bool) (c : Int), 0 ≤ c → c ≤ m → ∃ r, Ev (fun k => impl_queries.l1 k m b c q.parts q.parts.length i) r ∧
        (((b && (qformsL (q.parts.drop i) && decide (c + qsizeL (q.parts.drop i) ≤ m))) = true ∧ r = .inr (true, c + qsizeL (q.parts.drop i))) ∨
         ((b && (qformsL (q.parts.drop i) && decide (c + qsizeL (q.parts.drop i) ≤ m))) = false ∧ (r = .inl (0, false) ∨ ∃ c', r = .inr (false, c') ∧ 0 ≤ c' ∧ c' ≤ m))) := by
      intro n
      induction n with
      | zero =>
        intro i h b c h0 h1
        refine ⟨.inr (b, c), Ev.step (fun k => by rw [impl_queries.l1]) ?_, ?_⟩
        · simp (disch := omega) only [cneg]
          exact Ev.pure _
        · rw [List.drop_eq_nil_of_le (by omega)]
          rw [qformsL_nil, qsizeL_nil, Bool.true_and, decide_eq_true (show c + ((0 : Nat) : Int) ≤ m by omega), Bool.and_true]
          cases b with
          | true => exact .inl ⟨rfl, by congr 2; omega⟩
          | false => exact .inr ⟨rfl, .inr ⟨c, rfl, h0, h1⟩⟩
      | succ n ihn =>
        intro i h b c h0 h1
        have hi : i < q.parts.length := by omega
        cases b with
        | false =>
          refine ⟨.inl (0, false), Ev.step (fun k => by rw [impl_queries.l1]) ?_, .inr ⟨rfl, .inl rfl⟩⟩
          simp (disch := omega) only [cpos, Bool.not_false, cond_true]
          exact Ev.pure _
        | true =>
          obtain ⟨c2, e1, e2, e3, e4⟩ := ih _ (List.getElem_mem hi) (smallQ_part hs (List.getElem_mem hi)) (m - c) (by omega) (by omega)
          obtain ⟨r, f1, f2⟩ := ihn (i + 1) (by omega) (qforms q.parts[i] && decide ((qsize q.parts[i] : Int) ≤ m - c)) (c + c2) (by omega) (by omega)
          refine ⟨r, Ev.step (fun k => by rw [impl_queries.l1]) ?_, ?_⟩
          · simp (disch := omega) only [cpos, Int.toNat_natCast, getD_at hi, Bool.not_true, cond_false, wrap_in]
            refine Ev.bind e1 ?_
            simp (disch := omega) only [wrap_in]
            exact f1
          · rw [qformsL_drop hi, qsizeL_drop hi, Bool.true_and]
            cases hg : (qforms q.parts[i] && decide ((qsize q.parts[i] : Int) ≤ m - c)) with
            | true =>
              have hc2 := e4 hg
              rw [hg] at f2
              obtain ⟨hg1, hg2⟩ := Bool.and_eq_true_iff.1 hg
              have hg2 := of_decide_eq_true hg2
              rw [hg1, Bool.true_and]
              have es : c + ((qsize q.parts[i] + qsizeL (q.parts.drop (i + 1)) : Nat) : Int) = c + c2 + (qsizeL (q.parts.drop (i + 1)) : Int) := by omega
              rw [es]
              simpa only [Bool.true_and] using f2
            | false =>
              rw [hg] at f2
              have hfalse : (qforms q.parts[i] && qformsL (q.parts.drop (i + 1)) && decide (c + ((qsize q.parts[i] + qsizeL (q.parts.drop (i + 1)) : Nat) : Int) ≤ m)) = false := by
                cases hq : qforms q.parts[i] with
                | false => rfl
                | true =>
                  rw [hq, Bool.true_and] at hg
                  have := of_decide_eq_false hg
                  rw [decide_eq_false (by omega), Bool.and_false]
              refine .inr ⟨hfalse, ?_⟩
              rcases f2 with ⟨h5, _⟩ | ⟨_, h5⟩
              · cases h5
              · exact h5
    have fin : ∀ b : Bool, ∃ c : Int, Ev (fun k => (impl_queries.l1 k m b 1 q.parts (q.parts.length : Int) 0).bind fun y => match y with | .inl z => some (z.1, z.2) | .inr z => some (z.2, z.1)) (c, b && (qformsL q.parts && decide ((qsize q : Int) ≤ m))) ∧ 0 ≤ c ∧ c ≤ m ∧ ((b && (qformsL q.parts && decide ((qsize q : Int) ≤ m))) = true → c = qsize q) := by
      intro b
      obtain ⟨r, f1, f2⟩ := loop q.parts.length 0 (by omega) b 1 (by omega) (by omega)
      rw [List.drop_zero, show (1 : Int) + (qsizeL q.parts : Int) = (qsize q : Int) by rw [qsize_eq]; omega] at f2
      rcases f2 with ⟨h5, rfl⟩ | ⟨h5, rfl | ⟨c', rfl, h6, h7⟩⟩
      · refine ⟨qsize q, Ev.bind f1 (by rw [h5]; exact Ev.pure _), by omega, ?_, fun _ => rfl⟩
        have := (Bool.and_eq_true_iff.1 (Bool.and_eq_true_iff.1 h5).2).2
        exact of_decide_eq_true this
      · exact ⟨0, Ev.bind f1 (by rw [h5]; exact Ev.pure _), by omega, by omega, fun h => by rw [h5] at h; cases h⟩
      · exact ⟨c', Ev.bind f1 (by rw [h5]; exact Ev.pure _), h6, h7, fun h => by rw [h5] at h; cases h⟩
    have body : ∃ c : Int, Ev (fun k => impl_queries.F k q m) (c, formB q && (qformsL q.parts && decide ((qsize q : Int) ≤ m))) ∧ 0 ≤ c ∧ c ≤ m ∧ ((formB q && (qformsL q.parts && decide ((qsize q : Int) ≤ m))) = true → c = qsize q) := by
      obtain ⟨c, g1, g2⟩ := fin (formB q)
      refine ⟨c, Ev.step (fun k => by rw [impl_queries.F]) ?_, g2⟩
      clear g2
      simp (disch := omega) only [cneg]
      unfold formB fieldB at *
      cases h1 : q.op == 1 with
      | true =>
        rw [h1] at g1
        simp only [cond_true] at g1 ⊢
        refine Ev.bind (implWord_ev _ (by omega)) ?_
        cases hwd : wordB q.word with
        | false => rw [hwd] at g1; exact g1
        | true =>
          rw [hwd] at g1
          simp only [cond_true, Bool.true_and] at g1 ⊢
          cases hfe : beqS q.field ⟨#[]⟩ with
          | true => rw [hfe] at g1; simp only [Bool.or_true, Bool.true_and, cond_true] at g1 ⊢; exact g1
          | false =>
            rw [hfe] at g1
            simp only [cond_false, Bool.or_false] at g1 ⊢
            refine Ev.bind (isField_ev _) ?_
            cases hm : memS q.field glV0 with
            | true => rw [hm] at g1; exact g1
            | false => rw [hm] at g1; exact g1
      | false =>
        rw [h1] at g1
        simp only [cond_false] at g1 ⊢
        cases h2 : q.op == 2 <;> cases h3 : q.op == 3 <;> cases h4 : q.op == 4 <;> cases h5 : beqS q.word ⟨#[]⟩ <;> cases h6 : beqS q.field ⟨#[]⟩ <;> rw [h2, h3, h4, h5, h6] at g1 <;> exact g1
    rw [qforms_eq, Bool.and_assoc]
    exact body
theorem implGood_ev (q : Query) (hs : smallQ q) : Ev (fun k => impl_IsValidQuery.F k q) (goodQ q) := by
  obtain ⟨c, h1, _⟩ := queries_ev q hs 15 (by omega) (by omega)
  unfold impl_IsValidQuery.F goodQ
  exact Ev.bind h1 (Ev.pure _)
theorem isValidQuery_law (q : Query) (hw : WF .query q) : ∃ k, laws_FnExactIsValidQuery.F k q = some true := by
  refine Ev.get (?_ : Ev (fun k => laws_FnExactIsValidQuery.F k q) true)
  unfold laws_FnExactIsValidQuery.F
  refine Ev.bind (szQ_ev q hw 1048576 (by omega) (by omega)) ?_
  by_cases c : (1048576 : Int) - totQ q < 0
  · rw [if_pos c]
    exact Ev.pure _
  · rw [if_neg c]
    simp (disch := omega) only [cneg]
    have hs : smallQ q := by unfold smallQ; omega
    refine Ev.bind (toQ_ev q hs) (Ev.bind (Ev.bind (specGood_ev q hs) (Ev.pure _)) (Ev.bind (toQ_ev q hs) (Ev.bind (implGood_ev q hs) ?_)))
    simp only [beq_self_eq_true, Bool.not_true, cond_false]
    exact Ev.bind (toQ_ev q hs) (Ev.bind (eqQ_ev q hs) (Ev.pure _))
end Go.Proofs.YtahacbcnjfoknaaDoor
