/- The law FnExactUnabbreviatedWords returns true for every input, the listed package variables being as the program's text lays it: the card. -/
import Derived.Test.YtnffgabfibafjaaDoorMu6
import Derived.Test.YtnffgabfibafjaaDoorMu5
import Derived.Test.YtnffgabfibafjaaDoorCards
import Derived.Test.YtnffgabfibafjaaDoorTie
import Derived.Test.YtnffgabfibafjaaDoorMu3
import Derived.Shelf.Vars
import Derived.WalkKit
import Derived.ProofKit
import Derived.OpenShut
import Derived.Deep.DeepHandedRow
import Derived.Lib.LaidTab
section
namespace Go.Proofs.YtnffgabfibafjaaDoor
open Go.Gx
set_option linter.unusedVariables false
set_option linter.unusedSimpArgs false

theorem eqS_l0 (xs : List ByteArray) (hlen : xs.length ≤ 1048576) : ∀ n i : Nat, i + n = xs.length → Ev (fun k => laws_eqStringS.l0 k xs xs i) (.inr ())
  | 0, i, h => by
    refine Ev.step (fun k => by rw [laws_eqStringS.l0]) ?_
    simp (disch := omega) only [cneg]
    exact Ev.pure _
  | n + 1, i, h => by
    refine Ev.step (fun k => by rw [laws_eqStringS.l0]) ?_
    simp (disch := omega) only [cpos, Int.toNat_natCast, beqS_self, Bool.not_true, cond_false, wrap_in]
    exact eqS_l0 xs hlen n (i + 1) (by omega)
theorem eqS_ev (xs : List ByteArray) (hlen : xs.length ≤ 1048576) : Ev (fun k => laws_eqStringS.F k xs xs) true := by
  unfold laws_eqStringS.F
  simp (disch := omega) only [cbeq]
  exact Ev.bind (eqS_l0 xs hlen xs.length 0 (by omega)) (Ev.pure _)
theorem markText_l0 : ∀ n : Nat, n ≤ 2097152 → ∀ s : ByteArray, s.size + n ≤ 9223372036854775806 → ∃ r, Ev (fun k => laws_markText.l0 k (n : Int) s) r ∧ r.size ≤ s.size + n := fun n => by
  induction n using Nat.strongRecOn with
  | ind n ih =>
    intro hn s hs
    by_cases c : n = 0
    · refine ⟨s, Ev.step (fun k => by rw [laws_markText.l0]) ?_, by omega⟩
      simp (disch := omega) only [cneg]
      exact Ev.pure _
    · have ed : Int.tdiv (n : Int) 10 = ((n / 10 : Nat) : Int) := by
        rw [Int.tdiv_eq_ediv_of_nonneg (by omega)]; omega
      have e1 : ∀ v : Int, (strL ([v] : List Int)).size = 1 := fun v => rfl
      obtain ⟨r, r1, r2⟩ := ih (n / 10) (by omega) (by omega) (strL ([IntKind.wrap .u8 (IntKind.wrap .i64 (48 + Int.tmod (n : Int) 10))] : List Int) ++ s) (by rw [size_app, e1]; omega)
      rw [size_app, e1] at r2
      refine ⟨r, Ev.step (fun k => by rw [laws_markText.l0]) ?_, by omega⟩
      have w1 : IntKind.wrap .i64 (Int.tdiv (n : Int) 10) = ((n / 10 : Nat) : Int) := by rw [ed, wrap_in (by omega) (by omega)]
      have hz : ((10 : Nat) == 0) = false := rfl
      rw [w1, hz]
      simp only [cond_false]
      simp (disch := (try simp only [e1]); omega) only [cpos, cble]
      exact r1
theorem markText_ev (n : Nat) (hn : n ≤ 2097152) : ∃ r, Ev (fun k => laws_markText.F k (n : Int)) r := by
  unfold laws_markText.F
  by_cases c : n = 0
  · refine ⟨⟨#[109, 48]⟩, ?_⟩
    simp (disch := omega) only [cpos]
    exact Ev.pure _
  · obtain ⟨r, r1, r2⟩ := markText_l0 n hn ⟨#[]⟩ (by rw [show (⟨#[]⟩ : ByteArray).size = 0 from rfl]; omega)
    have e0 : (⟨#[]⟩ : ByteArray).size = 0 := rfl
    have e1 : (⟨#[109]⟩ : ByteArray).size = 1 := rfl
    refine ⟨⟨#[109]⟩ ++ r, ?_⟩
    simp (disch := omega) only [cneg]
    refine Ev.bind r1 ?_
    simp (disch := omega) only [e1, cble]
    exact Ev.pure _
open Classical in
noncomputable def mt (n : Nat) : ByteArray := if h : ∃ r, Ev (fun k => laws_markText.F k (n : Int)) r then h.choose else ⟨#[]⟩
theorem mt_ev (n : Nat) (hn : n ≤ 2097152) : Ev (fun k => laws_markText.F k (n : Int)) (mt n) := by
  have h := markText_ev n hn
  unfold mt
  rw [dif_pos h]
  exact h.choose_spec
noncomputable def marks (i : Nat) : List ByteArray := (List.range i).map fun j => mt (j + 1)
theorem marks_len (i : Nat) : (marks i).length = i := by simp [marks]
theorem mark_l0 (xs : List ByteArray) (hlen : xs.length ≤ 1048576) : ∀ n i : Nat, i + n = xs.length → Ev (fun k => laws_markStringS.l0 k (marks i ++ xs.drop i) ((1 + i : Nat) : Int) i) (marks xs.length, ((1 + xs.length : Nat) : Int))
  | 0, i, h => by
    have hl : (marks i ++ xs.drop i).length = xs.length := by rw [List.length_append, marks_len, List.length_drop]; omega
    refine Ev.step (fun k => by rw [laws_markStringS.l0]) ?_
    simp (disch := omega) only [cneg]
    rw [List.drop_eq_nil_of_le (by omega), List.append_nil, show i = xs.length by omega]
    exact Ev.pure _
  | n + 1, i, h => by
    have hi : i < xs.length := by omega
    have hl : (marks i ++ xs.drop i).length = xs.length := by rw [List.length_append, marks_len, List.length_drop]; omega
    refine Ev.step (fun k => by rw [laws_markStringS.l0]) ?_
    simp (disch := omega) only [cpos, Int.toNat_natCast]
    refine Ev.bind (mt_ev (1 + i) (by omega)) ?_
    have e : (marks i ++ xs.drop i).set i (mt (1 + i)) = marks (i + 1) ++ xs.drop (i + 1) := by
      rw [List.set_append_right _ _ (by rw [marks_len]; exact Nat.le_refl _), marks_len, Nat.sub_self, List.drop_eq_getElem_cons hi, List.set_cons_zero]
      unfold marks
      rw [List.range_succ, List.map_append, List.append_assoc, Nat.add_comm 1]
      rfl
    simp (disch := omega) only [wrap_in, e]
    rw [show (((1 + i : Nat) : Int) + 1) = ((1 + (i + 1) : Nat) : Int) by omega]
    exact mark_l0 xs hlen n (i + 1) (by omega)
theorem mark_ev (xs : List ByteArray) (hlen : xs.length ≤ 1048576) : Ev (fun k => laws_markStringS.F k xs 1) (marks xs.length, ((1 + xs.length : Nat) : Int)) := by
  unfold laws_markStringS.F
  refine Ev.bind (mark_l0 xs hlen xs.length 0 (by omega)) ?_
  rw [show Nat.beq (marks xs.length, ((1 + xs.length : Nat) : Int)).1.length xs.length = true by rw [Nat.beq_eq]; exact marks_len _]
  exact Ev.pure _
theorem held_l0 (m : Nat) (hlen : m ≤ 1048576) : ∀ n i : Nat, i + n = m → Ev (fun k => laws_heldStringS.l0 k (marks m) ((1 + i : Nat) : Int) i) (.inr ((1 + m : Nat) : Int))
  | 0, i, h => by
    have hl := marks_len m
    refine Ev.step (fun k => by rw [laws_heldStringS.l0]) ?_
    simp (disch := omega) only [cneg]
    rw [show i = m by omega]
    exact Ev.pure _
  | n + 1, i, h => by
    have hl := marks_len m
    have hi : i < (marks m).length := by omega
    have e : (marks m)[i] = mt (1 + i) := by simp [marks, Nat.add_comm]
    refine Ev.step (fun k => by rw [laws_heldStringS.l0]) ?_
    simp (disch := omega) only [cpos, Int.toNat_natCast, getD_at hi, e]
    refine Ev.bind (mt_ev (1 + i) (by omega)) ?_
    simp (disch := omega) only [beqS_self, Bool.not_true, cond_false, wrap_in]
    rw [show (((1 + i : Nat) : Int) + 1) = ((1 + (i + 1) : Nat) : Int) by omega]
    exact held_l0 m hlen n (i + 1) (by omega)
theorem held_ev (m : Nat) (hlen : m ≤ 1048576) : Ev (fun k => laws_heldStringS.F k (marks m) 1) ((1 + m : Nat) : Int) := by
  unfold laws_heldStringS.F
  exact Ev.bind (held_l0 m hlen m 0 (by omega)) (Ev.pure _)
end Go.Proofs.YtnffgabfibafjaaDoor
end
section
/- Plain laws: marks of abbreviations (no list of texts as an argument). -/
namespace Go.Proofs.YtnffgabfibafjaaDoor
open Go.Gx
set_option linter.unusedVariables false
set_option linter.unusedSimpArgs false

theorem markAs_l0 (m : Nat) (hlen : m ≤ 1048576) : ∀ n i : Nat, i + n = m → ∀ (ys : List Abbr) (z : Nat), ys.length = m → z + 2 * n ≤ 2097153 → EvP (fun k => laws_markAbbreviationS.l0 k ys z i) fun r => r.1.length = m ∧ r.2 = ((z + 2 * n : Nat) : Int)
  | 0, i, h, ys, z, hy, hz => by
    refine EvP.step (fun k => by rw [laws_markAbbreviationS.l0]) ?_
    simp (disch := omega) only [cneg]
    exact EvP.pure _ ⟨hy, rfl⟩
  | n + 1, i, h, ys, z, hy, hz => by
    refine EvP.step (fun k => by rw [laws_markAbbreviationS.l0]) ?_
    simp (disch := omega) only [cpos, Int.toNat_natCast]
    refine EvP.of (mt_ev z (by omega)) ?_
    simp (disch := omega) only [wrap_in, cpos]
    have e : ((z : Int) + 1) = ((z + 1 : Nat) : Int) := by omega
    rw [e]
    refine EvP.of (mt_ev (z + 1) (by omega)) ?_
    simp (disch := (try simp only [List.length_set]); omega) only [wrap_in, cpos]
    have := markAs_l0 m hlen n (i + 1) (by omega) ((ys.set i ⟨mt z, (ys.getD i (dflt .abbr)).short⟩).set i ⟨((ys.set i ⟨mt z, (ys.getD i (dflt .abbr)).short⟩).getD i (dflt .abbr)).word, mt (z + 1)⟩) (z + 1 + 1) (by simpa using hy) (by omega)
    exact EvP.mono this fun r hr => ⟨hr.1, by rw [hr.2]; omega⟩
theorem markAs_ev (xs : List Abbr) (hlen : xs.length ≤ 1048576) : EvP (fun k => laws_markAbbreviationS.F k xs 1) fun r => r.2 = ((1 + 2 * xs.length : Nat) : Int) := by
  unfold laws_markAbbreviationS.F
  refine EvP.bind (markAs_l0 xs.length hlen xs.length 0 (by omega) xs 1 rfl (by omega)) fun r hr => ?_
  rw [show Nat.beq r.1.length xs.length = true by rw [Nat.beq_eq]; exact hr.1]
  exact EvP.pure _ hr.2
end Go.Proofs.YtnffgabfibafjaaDoor
end
section
/- The plain law of UnabbreviatedWords. -/
namespace Go.Proofs.YtnffgabfibafjaaDoor
open Go.Gx
set_option linter.unusedVariables false
set_option linter.unusedSimpArgs false

noncomputable def unP (xs : List Abbr) (b : Bool) (x : ByteArray) : Bool := b && !beqS (shW xs x) x
theorem unSpec_l0 (xs : List Abbr) (hs : smalls xs) (W : List ByteArray) (b : Bool) (hW : ∀ x ∈ W, 0 < x.size ∧ x.size ≤ 1048576) (hl : W.length ≤ 8192) : ∀ n i : Nat, i + n = W.length → ∀ acc : List ByteArray, acc.length ≤ i →
    Ev (fun k => spec_UnabbreviatedWords.l0 k xs acc W b i) (acc ++ (W.drop i).filter fun x => !unP xs b x)
  | 0, i, h, acc, ha => by
    refine Ev.step (fun k => by rw [spec_UnabbreviatedWords.l0]) ?_
    simp (disch := omega) only [cneg]
    rw [List.drop_eq_nil_of_le (by omega), List.filter_nil, List.append_nil]
    exact Ev.pure _
  | n + 1, i, h, acc, ha => by
    have hi : i < W.length := by omega
    obtain ⟨h1, h2⟩ := hW _ (List.getElem_mem hi)
    have hr : room (acc.length + ([W[i]] : List ByteArray).length) .str = true := room_s (by simp; omega)
    have put : Ev (fun k => spec_UnabbreviatedWords.l0 k xs (acc ++ [W[i]]) W b ((i : Int) + 1)) (acc ++ W[i] :: (W.drop (i + 1)).filter fun x => !unP xs b x) := by
      have := unSpec_l0 xs hs W b hW hl n (i + 1) (by omega) (acc ++ [W[i]]) (by simp; omega)
      rw [List.append_assoc] at this
      exact this
    refine Ev.step (fun k => by rw [spec_UnabbreviatedWords.l0]) ?_
    rw [List.drop_eq_getElem_cons hi, List.filter_cons]
    simp (disch := omega) only [cpos, Int.toNat_natCast, getD_at hi]
    cases b with
    | false =>
      have e : unP xs false W[i] = false := rfl
      rw [e]
      simp (disch := omega) only [Bool.not_false, cond_true, hr, wrap_in, if_true]
      exact put
    | true =>
      simp only [Bool.not_true, cond_false]
      refine Ev.bind (shW_ev xs hs _ h1 h2).1 ?_
      have e : unP xs true W[i] = !beqS (shW xs W[i]) W[i] := rfl
      rw [e, Bool.not_not]
      cases hb : beqS (shW xs W[i]) W[i] with
      | true =>
        simp (disch := omega) only [cond_true, hr, wrap_in, if_true]
        exact put
      | false =>
        simp (disch := omega) only [cond_false, wrap_in, Bool.false_eq_true, if_false]
        exact unSpec_l0 xs hs W true hW hl n (i + 1) (by omega) acc (by omega)
theorem unImpl_ev (xs : List Abbr) (hs : smalls xs) (W : List ByteArray) (b : Bool) (hW : ∀ x ∈ W, 0 < x.size ∧ x.size ≤ 1048576) (hl : W.length ≤ 8192) : Ev (fun k => slices_DeleteFunc_string_f55.F k W b xs) (W.filter fun x => !unP xs b x) := by
  have hq : ∀ x, x ∈ W → Ev (fun k => impl_UnabbreviatedWords_1.F k x b xs) (unP xs b x) := fun x hx => by
    unfold impl_UnabbreviatedWords_1.F unP
    obtain ⟨h1, h2⟩ := hW x hx
    cases b with
    | false => exact Ev.pure _
    | true => exact Ev.bind (shW_ev xs hs x h1 h2).2.1 (Ev.pure _)
  exact delete_ev (d := (⟨#[]⟩ : ByteArray)) (p := unP xs b) (q := fun k x => impl_UnabbreviatedWords_1.F k x b xs) (xs := W) (l0 := fun k x0 x5 x6 => slices_DeleteFunc_string_f55.l0 k x0 b xs x5 x6) (fun k x0 x5 x6 => by rw [slices_DeleteFunc_string_f55.l0]) hq (by omega) (I := fun k x0 => slices_IndexFunc_string_f55.F k x0 b xs) (F := fun k x0 => slices_DeleteFunc_string_f55.F k x0 b xs)
    (idx_ev (d := (⟨#[]⟩ : ByteArray)) (p := unP xs b) (q := fun k x => impl_UnabbreviatedWords_1.F k x b xs) (l0 := fun k x0 x7 x8 => slices_IndexFunc_string_f55.l0 k x0 b xs x7 x8) (fun k x0 x7 x8 => by rw [slices_IndexFunc_string_f55.l0]) hq (by omega) (F := fun k x0 => slices_IndexFunc_string_f55.F k x0 b xs) (fun k a0 => rfl)) (fun k a0 => rfl)
theorem unabbr_ev (xs : List Abbr) (hs : smalls xs) (s : ByteArray) : ∃ r b, Ev (fun k => spec_UnabbreviatedWords.F k xs s) (r, b) ∧ Ev (fun k => impl_UnabbreviatedWords.F k xs s) (r, b) ∧ r.length ≤ 41 := by
  have v1 := validSpec_ev xs hs
  have v2 := validImpl_ev xs hs
  have t1 := specText_ev s
  have t2 := isText_ev s
  unfold spec_UnabbreviatedWords.F impl_UnabbreviatedWords.F
  cases hv : validA xs with
  | false =>
    rw [hv] at v1 v2
    exact ⟨_, _, Ev.bind v1 (Ev.pure _), Ev.bind v2 (Ev.pure _), by simp⟩
  | true =>
    rw [hv] at v1 v2
    cases ht : textB s with
    | false =>
      rw [ht] at t1 t2
      exact ⟨_, _, Ev.bind v1 (Ev.bind t1 (Ev.pure _)), Ev.bind v2 (Ev.bind t2 (Ev.pure _)), by simp⟩
    | true =>
      rw [ht] at t1 t2
      have h40 : s.size ≤ 40 := by
        unfold textB at ht
        simp only [Bool.and_eq_true, decide_eq_true_eq] at ht
        exact ht.1
      obtain ⟨hW, hl⟩ := told_small s
      have hW' : ∀ x ∈ (toldW s).1, 0 < x.size ∧ x.size ≤ 1048576 := fun x hx => by have := hW x hx; omega
      have k1 := specKept_ev s h40
      have k2 := told_ev s h40
      have s1 := unSpec_l0 xs hs (toldW s).1 (toldW s).2 hW' (by omega) (toldW s).1.length 0 (by omega) [] (Nat.le_refl _)
      rw [List.drop_zero, List.nil_append] at s1
      have s2 := unImpl_ev xs hs (toldW s).1 (toldW s).2 hW' (by omega)
      refine ⟨_, true, Ev.bind v1 (Ev.bind t1 (Ev.bind k1 (Ev.bind s1 (Ev.pure _)))), Ev.bind v2 (Ev.bind t2 (Ev.bind k2 (Ev.bind s2 (Ev.pure _)))), ?_⟩
      have := List.length_filter_le (fun x => !unP xs (toldW s).2 x) (toldW s).1
      omega
theorem unabbreviated_law (xs : List Abbr) (s : ByteArray) (hw : WF (.sl .abbr) xs) (hws : WF .str s) : ∃ k, laws_FnExactUnabbreviatedWords.F k xs s = some true := by
  refine Ev.get (?_ : Ev (fun k => laws_FnExactUnabbreviatedWords.F k xs s) true)
  unfold laws_FnExactUnabbreviatedWords.F
  by_cases c0 : (s.size : Int) > 1048576
  · simp (disch := omega) only [cpos]
    exact Ev.pure _
  simp (disch := omega) only [cneg]
  obtain ⟨r, h1, h2⟩ := szAs_ev xs 1048576 (by omega) (by omega) hw
  refine Ev.bind h1 ?_
  by_cases c : r < 0
  · simp (disch := omega) only [cpos]
    exact Ev.pure _
  simp (disch := omega) only [cneg]
  have hs := smalls_of (h2 (by omega)) (by omega) (by omega)
  obtain ⟨v, b, v1, v2, v3⟩ := unabbr_ev xs hs s
  have ta := toAs_ev xs hs.1
  have ev := eqS_ev v (by omega)
  refine Ev.bind ta (Ev.bind v1 (Ev.bind ta (Ev.bind v2 (Ev.bind ev ?_))))
  simp only [beq_self_eq_true, Bool.not_true, cond_false]
  refine Ev.bind ta (Ev.bind (eqAs_ev xs hs.1) ?_)
  simp only [Bool.not_true, cond_false]
  obtain ⟨m1, m2, m3⟩ := markAs_ev xs hs.1
  refine Ev.bind m2 ?_
  rw [m3]
  simp (disch := omega) only [cneg]
  refine Ev.bind ev ?_
  simp only [beq_self_eq_true, Bool.not_true, cond_false]
  refine Ev.bind (mark_ev v (by omega)) (Ev.bind (held_ev v.length (by omega)) ?_)
  simp (disch := omega) only [cneg, cbeq]
  refine Ev.bind ta (Ev.bind v2 (Ev.bind ev ?_))
  simp only [beq_self_eq_true, Bool.not_true, cond_false]
  refine Ev.bind (held_ev v.length (by omega)) ?_
  simp (disch := omega) only [cneg, cbeq]
  exact Ev.pure _
end Go.Proofs.YtnffgabfibafjaaDoor
end
section
/- The law FnExactUnabbreviatedWords returns true for every input, the listed package variables being as the program's text lays it: the card. -/
namespace Go.Proofs.YtnffgabfibafjaaDoor
open Go.Gx Go.RowKit Go.ChangeShapes Go.WideShapes Go.ChangeAt
set_option linter.unusedVariables false
theorem fnExactUnabbreviatedWords_own : ownKnob Tryd.prog.godebug = none := by kernel_rfl
set_option maxRecDepth 100000 in
theorem fnExactUnabbreviatedWords_contract (H : Type) (enc : TypeId × Value → H) (W : World) (base : Nat) (args : Array Value) (ds gs : List (DataW H)) (before : List MemPlace)
    (hval : ∀ (j : Nat) t v, Tryd.f4.params[j]? = some t → args[j]? = some v → Value.okWide Tryd.prog W .any base t v)
    (hW : DataW.Whole enc Tryd.prog Tryd.f4.params.toList Rows.fnExactUnabbreviatedWordsSpec.vars false W args.toList ds gs before) (hsh : W.ShapedOpen Tryd.prog) :
    Calls Tryd.prog 4 args W fun e W' => ∃ v, e = .returned v ∧ Rows.fnExactUnabbreviatedWordsSpec.post enc Tryd.prog Tryd.f4 false true false false W args v W' := by
  have hgs : gs = [] := by
    obtain ⟨p, q, _, hV, _⟩ := hW
    exact (trodVars_none hV).1
  subst hgs
  have hds : ∃ d1 d2, ds = [d1, d2] := by
    obtain ⟨p, q, hA, _⟩ := hW
    obtain ⟨_, _, d1, e0, _, _, _, rfl, _, _, h0⟩ := trodAll_cons hA
    obtain ⟨_, _, d2, e1, _, _, _, rfl, _, _, h1⟩ := trodAll_cons h0
    obtain ⟨_, rfl, _⟩ := trodAll_nil h1
    exact ⟨d1, d2, rfl⟩
  obtain ⟨d1, d2, rfl⟩ := hds
  have hgl : GlOk envX (Lt W) W := by
    refine ⟨fun g b h => (by cases h), fun g hg => ?_⟩
    have hg' : giT g = true := hg
    unfold giT at hg'
    split at hg'
    · obtain ⟨m, hm⟩ := cell_of_shapedOpen_int (P := Tryd.prog) (g := 1) (t := 3) (zero := #[.int .i64 0]) hsh (of_decide_eq_true (by kernel_rfl)) (by kernel_rfl) rfl (by kernel_rfl) (by kernel_rfl) (by kernel_rfl)
      exact ⟨World.block_lt_of_cell? _ _ hm, m, hm⟩
    · cases hg'
  refine law_contract (τs := [(.sl .abbr), .str]) (r := .t .bool true) envOk (by kernel_rfl) rfl (by kernel_rfl) (by kernel_rfl) rfl (by kernel_rfl) (by kernel_rfl) (fun t ht => ?_) rfl (fun x hx => by
      obtain ⟨k, hk⟩ := unabbreviated_law x.1 x.2.1 hx.1 hx.2.1
      exact laws_FnExactUnabbreviatedWords.good envOk _ k _ _ hk) rfl hval hW hgl (fun q hq W' _ => ?_)
  · have : t ∈ [38, 9] := ht
    simp only [List.mem_cons, List.not_mem_nil, or_false] at this
    rcases this with rfl | rfl <;> exact ⟨by kernel_rfl, Nat.le_of_ble_eq_true (by kernel_rfl)⟩
  · obtain ⟨_, rfl⟩ := trodVars_none hq
    exact rfl
set_option maxRecDepth 100000 in
noncomputable def fnExactUnabbreviatedWords_world (os : Os) : World :=
  { World.holding Tryd.prog os ⟨#[], #[], []⟩ with heap := (((World.holding Tryd.prog os ⟨#[], #[], []⟩).heap.modify 3 fun
      | .cells _ t frozen => .cells #[.int .u8 128, .int .u8 191, .int .u8 160, .int .u8 191, .int .u8 128, .int .u8 159, .int .u8 144, .int .u8 191, .int .u8 128, .int .u8 143, .int .u8 0, .int .u8 0, .int .u8 0, .int .u8 0, .int .u8 0, .int .u8 0, .int .u8 0, .int .u8 0, .int .u8 0, .int .u8 0, .int .u8 0, .int .u8 0, .int .u8 0, .int .u8 0, .int .u8 0, .int .u8 0, .int .u8 0, .int .u8 0, .int .u8 0, .int .u8 0, .int .u8 0, .int .u8 0] t frozen
      | o => o).modify 2 fun
      | .cells _ t frozen => .cells (Pinned.utf8FirstZ.map fun (n : Nat) => Value.int .u8 (n : Int)).toArray t frozen
      | o => o) }
theorem fnExactUnabbreviatedWords_met (os : Os) : laidMet Tryd.prog Rows.fnExactUnabbreviatedWordsRow.laid ((fnExactUnabbreviatedWords_world os).forCall (fun _ _ => 0) ⟨#[], #[.slice none 0 0, .string ⟨#[]⟩], []⟩).memory :=
  laidMet_of_run' 8 (by kernel_rfl) (by kernel_rfl)
theorem fnExactUnabbreviatedWords_reads (os : Os) {H : Type} (enc : TypeId × Value → H) : ∃ places, DataW.whole enc Tryd.prog ((fnExactUnabbreviatedWords_world os).forCall (fun _ _ => 0) ⟨#[], #[.slice none 0 0, .string ⟨#[]⟩], []⟩).memory Tryd.f4.params.toList Rows.fnExactUnabbreviatedWordsSpec.vars false #[.slice none 0 0, .string ⟨#[]⟩].toList 8 = some ([.nil, .lit (.string [])], [], places) :=
  ⟨[], by kernel_rfl⟩
set_option maxRecDepth 100000 in
theorem fnExactUnabbreviatedWords_lifted (os : Os) (started : os.Started) (H : Type) (enc : TypeId × Value → H) (F : Stop.Interp) :
    ReturnsInHanded {} Tryd.checked os 4 .any ((OpenSpec.ofChange Rows.fnExactUnabbreviatedWordsSpec).preRow enc Tryd.prog Tryd.f4 Rows.fnExactUnabbreviatedWordsRow.domain false Rows.fnExactUnabbreviatedWordsRow.laid) (((OpenSpec.ofChange Rows.fnExactUnabbreviatedWordsSpec).at F).post enc Tryd.prog Tryd.f4 false true false false) := by
  obtain ⟨places, hx⟩ := fnExactUnabbreviatedWords_reads os enc
  refine returnsInHanded_of_row (C := Tryd.checked) (s := OpenSpec.ofChange Rows.fnExactUnabbreviatedWordsSpec) fnExactUnabbreviatedWords_own started (by kernel_rfl) (by kernel_rfl)
    (witness_row_at (enc := enc) (C := Tryd.checked) false (fnExactUnabbreviatedWords_world os) #[.slice none 0 0, .string ⟨#[]⟩] rfl (by kernel_rfl) (by kernel_rfl) (by kernel_rfl)
      (OpenSpec.preRow_of_cond 8 hx (by kernel_rfl) (fun k hk => by cases hk) (by kernel_rfl) (fnExactUnabbreviatedWords_met os))) ?_
  intro W base args ds gs before hval hW _ _ _ _ hsh _
  exact fnExactUnabbreviatedWords_contract H enc W base args ds gs before hval hW hsh
theorem fnExactUnabbreviatedWords_said : Rows.FnExactUnabbreviatedWordsSaid :=
  OpenClaim.holds_of_cond 4 Tryd.f4 rfl rfl rfl rfl rfl rfl rfl ⟨rfl, rfl, rfl, rfl, rfl⟩ rfl rfl rfl rfl rfl (by kernel_rfl) (by kernel_rfl) (by kernel_rfl)
    (of_decide_eq_true (by kernel_rfl)) (by unfold Func.isWrapper; first | (rw [if_pos (by decide +kernel)]; kernel_rfl) | (rw [if_neg (by decide +kernel)]; exact ⟨rfl, rfl⟩))
    (fun os started H enc _ F => by rw [OpenClaim.pre_eq_preRow]; exact fnExactUnabbreviatedWords_lifted os started H enc F)
theorem fnExactUnabbreviatedWords_plain (f : FuncId) (fn : Func) (hf : Tryd.pinned.checked.prog.funcNamed "loop.example/g00896/laws.FnExactUnabbreviatedWords" = some f) (hfn : Tryd.pinned.checked.prog.funcs[f]? = some fn) :
    false = Tryd.pinned.checked.prog.looks [] ∧ ∀ (j : Nat) t, fn.params[j]? = some t → Tryd.pinned.checked.prog.wantsStandIn t = false := by
  obtain rfl : f = 4 := (Option.some.inj ((show Tryd.prog.funcNamed "loop.example/g00896/laws.FnExactUnabbreviatedWords" = some 4 by kernel_rfl).symm.trans hf)).symm
  obtain rfl : fn = Tryd.f4 := (Option.some.inj ((show Tryd.prog.funcs[4]? = some Tryd.f4 by kernel_rfl).symm.trans hfn)).symm
  refine ⟨by kernel_rfl, fun j t ht => ?_⟩
  have ht' : t ∈ [38, 9] := by simpa using Array.mem_of_getElem? (show (#[38, 9] : Array Nat)[j]? = some t from ht)
  simp only [List.mem_cons, List.not_mem_nil, or_false] at ht'
  rcases ht' with rfl | rfl
  · exact (show Tryd.prog.wantsStandIn 38 = false by kernel_rfl)
  · exact (show Tryd.prog.wantsStandIn 9 = false by kernel_rfl)
theorem FnExactUnabbreviatedWords_holds : Rows.FnExactUnabbreviatedWordsCardSaid :=
  Claim7.holds_tied_plain_at .later [] _ _ _ _ fnExactUnabbreviatedWords_said (fun _ h => by cases h) (by kernel_rfl) (fun _ h => by cases h) fnExactUnabbreviatedWords_row_tie rfl ⟨rfl, rfl⟩ (by kernel_rfl) rfl fnExactUnabbreviatedWords_plain (by kernel_rfl)
#print axioms FnExactUnabbreviatedWords_holds
end Go.Proofs.YtnffgabfibafjaaDoor
end
