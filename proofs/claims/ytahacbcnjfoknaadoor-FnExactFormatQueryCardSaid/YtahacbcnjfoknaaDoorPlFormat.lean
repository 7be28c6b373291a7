/- Plain laws: the text of a query. -/
import Derived.Test.YtahacbcnjfoknaaDoorPlQuery
namespace Go.Proofs.YtahacbcnjfoknaaDoor
open Go.Gx
set_option linter.unusedVariables false
set_option linter.unusedSimpArgs false
theorem text_same : ∀ (k : Nat) (q : Query), spec_l22Text.F k q = impl_formatQuery.F k q
  | 0, _ => rfl
  | k + 1, q => by
    rw [spec_l22Text.F, impl_formatQuery.F]
    simp only [text_same k]
theorem size_app (s t : ByteArray) : (s ++ t).size = s.size + t.size := by
  rw [← L_size, L_append, List.length_append, L_size, L_size]
theorem text_ev : ∀ q : Query, smallQ q → qforms q = true → ∃ r, Ev (fun k => impl_formatQuery.F k q) r ∧ r.size ≤ totQ q + 7 * qsize q := by
  refine byQ fun q ih hs hf => ?_
  have hs' := hs
  obtain ⟨hfl, hwl, hlen⟩ := smallQ_len hs
  have ht := totQ_eq q
  have hq := qsize_eq q
  have hsz := qsizeL_le q.parts
  unfold smallQ at hs
  rw [qforms_eq] at hf
  obtain ⟨hf1, hf2⟩ := Bool.and_eq_true_iff.1 hf
  have part : ∀ i, (hi : i < q.parts.length) → ∃ r, Ev (fun k => impl_formatQuery.F k q.parts[i]) r ∧ r.size ≤ totQ q.parts[i] + 7 * qsize q.parts[i] := fun i hi => by
    refine ih _ (List.getElem_mem hi) (smallQ_part hs' (List.getElem_mem hi)) ?_
    have : ∀ {ps : List Query} {p : Query}, qformsL ps = true → p ∈ ps → qforms p = true := by
      intro ps
      induction ps with
      | nil => intro p _ h; cases h
      | cons x l ihl =>
        intro p h hp
        simp only [qformsL, Bool.and_eq_true] at h
        rcases List.mem_cons.1 hp with rfl | hp
        · exact h.1
        · exact ihl h.2 hp
    exact this hf2 (List.getElem_mem hi)
  unfold formB at hf1
  cases h1 : q.op == 1 with
  | true =>
    cases hfe : beqS q.field ⟨#[]⟩ with
    | true =>
      refine ⟨q.word, Ev.step (fun k => by rw [impl_formatQuery.F]) ?_, by omega⟩
      simp only [h1, hfe, cond_true]
      exact Ev.pure _
    | false =>
      refine ⟨q.field ++ ⟨#[58]⟩ ++ q.word, Ev.step (fun k => by rw [impl_formatQuery.F]) ?_, ?_⟩
      · have e1 : (⟨#[58]⟩ : ByteArray).size = 1 := rfl
        simp only [h1, hfe, cond_true, cond_false]
        rw [cble (by omega), cble (by rw [size_app]; omega)]
        exact Ev.pure _
      · have e1 : (⟨#[58]⟩ : ByteArray).size = 1 := rfl
        rw [size_app, size_app]; omega
  | false =>
    rw [h1] at hf1
    simp only [cond_false] at hf1
    cases h2 : q.op == 2 with
    | true =>
      rw [h2] at hf1
      simp only [cond_true, Bool.and_eq_true, beq_iff_eq] at hf1
      have hl : q.parts.length = 1 := by omega
      obtain ⟨r, hr, hrs⟩ := part 0 (by omega)
      have e1 : (⟨#[110, 111, 116, 32]⟩ : ByteArray).size = 4 := rfl
      have hm1 := totQ_mem (List.getElem_mem (show 0 < q.parts.length by omega))
      have hm2 := qsize_mem (List.getElem_mem (show 0 < q.parts.length by omega))
      refine ⟨⟨#[110, 111, 116, 32]⟩ ++ r, Ev.step (fun k => by rw [impl_formatQuery.F]) ?_, by rw [size_app]; omega⟩
      simp only [h1, h2, cond_true, cond_false]
      simp (disch := omega) only [cpos]
      rw [show ((0 : Int).toNat) = 0 from rfl, getD_at (show 0 < q.parts.length by omega)]
      refine Ev.bind hr ?_
      rw [cble (by omega)]
      exact Ev.pure _
    | false =>
      rw [h2] at hf1
      simp only [cond_false] at hf1
      have hl : q.parts.length = 2 := by
        cases h34 : (q.op == 3 || q.op == 4) with
        | false => rw [h34] at hf1; cases hf1
        | true =>
          rw [h34] at hf1
          simp only [cond_true, Bool.and_eq_true, beq_iff_eq] at hf1
          omega
      obtain ⟨r, hr, hrs⟩ := part 0 (by omega)
      obtain ⟨r2, hr2, hrs2⟩ := part 1 (by omega)
      have hd0 := qsizeL_drop (ps := q.parts) (i := 0) (by omega)
      have hd1 := qsizeL_drop (ps := q.parts) (i := 1) (by omega)
      have ht0 := totQs_drop (ps := q.parts) (i := 0) (by omega)
      have ht1 := totQs_drop (ps := q.parts) (i := 1) (by omega)
      rw [List.drop_zero, Nat.zero_add] at hd0 ht0
      have e1 : (⟨#[40]⟩ : ByteArray).size = 1 := rfl
      have e2 : (⟨#[32, 97, 110, 100, 32]⟩ : ByteArray).size = 5 := rfl
      have e3 : (⟨#[41]⟩ : ByteArray).size = 1 := rfl
      have e4 : (⟨#[32, 111, 114, 32]⟩ : ByteArray).size = 4 := rfl
      cases h3 : q.op == 3 with
      | true =>
        refine ⟨⟨#[40]⟩ ++ r ++ ⟨#[32, 97, 110, 100, 32]⟩ ++ r2 ++ ⟨#[41]⟩, Ev.step (fun k => by rw [impl_formatQuery.F]) ?_, by simp only [size_app]; omega⟩
        simp only [h1, h2, h3, cond_true, cond_false]
        simp (disch := omega) only [cpos]
        rw [show ((0 : Int).toNat) = 0 from rfl, getD_at (show 0 < q.parts.length by omega)]
        refine Ev.bind hr ?_
        rw [show ((1 : Int).toNat) = 1 from rfl, getD_at (show 1 < q.parts.length by omega)]
        simp (disch := (try simp only [size_app]); omega) only [cble]
        refine Ev.bind hr2 ?_
        simp (disch := (try simp only [size_app]); omega) only [cble]
        exact Ev.pure _
      | false =>
        refine ⟨⟨#[40]⟩ ++ r ++ ⟨#[32, 111, 114, 32]⟩ ++ r2 ++ ⟨#[41]⟩, Ev.step (fun k => by rw [impl_formatQuery.F]) ?_, by simp only [size_app]; omega⟩
        simp only [h1, h2, h3, cond_false]
        simp (disch := omega) only [cpos]
        rw [show ((0 : Int).toNat) = 0 from rfl, getD_at (show 0 < q.parts.length by omega)]
        refine Ev.bind hr ?_
        rw [show ((1 : Int).toNat) = 1 from rfl, getD_at (show 1 < q.parts.length by omega)]
        simp (disch := (try simp only [size_app]); omega) only [cble]
        refine Ev.bind hr2 ?_
        simp (disch := (try simp only [size_app]); omega) only [cble]
        exact Ev.pure _
theorem format_ev (q : Query) (hs : smallQ q) : ∃ r, Ev (fun k => spec_FormatQuery.F k q) r ∧ Ev (fun k => impl_FormatQuery.F k q) r := by
  unfold spec_FormatQuery.F impl_FormatQuery.F
  have e1 := specGood_ev q hs
  have e2 := implGood_ev q hs
  cases hg : goodQ q with
  | false =>
    rw [hg] at e1 e2
    exact ⟨_, Ev.bind e1 (Ev.pure _), Ev.bind e2 (Ev.pure _)⟩
  | true =>
    rw [hg] at e1 e2
    obtain ⟨r, h1, _⟩ := text_ev q hs (Bool.and_eq_true_iff.1 hg).1
    exact ⟨_, Ev.bind e1 (Ev.bind (h1.congr fun k => text_same k q) (Ev.pure _)), Ev.bind e2 (Ev.bind h1 (Ev.pure _))⟩
theorem formatQuery_law (q : Query) (hw : WF .query q) : ∃ k, laws_FnExactFormatQuery.F k q = some true := by
  refine Ev.get (?_ : Ev (fun k => laws_FnExactFormatQuery.F k q) true)
  unfold laws_FnExactFormatQuery.F
  refine Ev.bind (szQ_ev q hw 1048576 (by omega) (by omega)) ?_
  by_cases c : (1048576 : Int) - totQ q < 0
  · rw [if_pos c]
    exact Ev.pure _
  · rw [if_neg c]
    simp (disch := omega) only [cneg]
    have hs : smallQ q := by unfold smallQ; omega
    obtain ⟨r, h1, h2⟩ := format_ev q hs
    refine Ev.bind (toQ_ev q hs) (Ev.bind h1 (Ev.bind (toQ_ev q hs) (Ev.bind h2 ?_)))
    simp only [beqS_self, beq_self_eq_true, Bool.not_true, cond_false]
    exact Ev.bind (toQ_ev q hs) (Ev.bind (eqQ_ev q hs) (Ev.pure _))
end Go.Proofs.YtahacbcnjfoknaaDoor
