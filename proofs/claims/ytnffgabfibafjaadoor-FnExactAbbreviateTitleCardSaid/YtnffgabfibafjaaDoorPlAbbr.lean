/- Plain laws: abbreviations, their check. -/
import Derived.Test.YtnffgabfibafjaaDoorAT
import Derived.Test.YtnffgabfibafjaaDoorGxEv
namespace Go.Proofs.YtnffgabfibafjaaDoor
open Go.Gx
set_option linter.unusedVariables false
set_option linter.unusedSimpArgs false

/-! ### Of the law: sizes, copies, equality -/
def szA (a : Abbr) : Nat := a.word.size + a.short.size
def totA (xs : List Abbr) : Nat := (xs.map szA).sum
theorem szA_ev (a : Abbr) (l : Int) (hl : 0 ≤ l) (hl2 : l ≤ 1048576) (h : WF .abbr a) : laws_szAbbreviation.F a l = some (if l - szA a < 0 then -1 else l - szA a) := by
  cases h with
  | abbr _ h1 h2 =>
    have h1 := wf_str h1
    have h2 := wf_str h2
    unfold laws_szAbbreviation.F szA
    by_cases c : l - (a.word.size : Int) < 0
    · simp (disch := omega) only [wrap_in, cpos]
      rw [if_pos (by omega)]
    · by_cases c2 : l - (a.word.size : Int) - (a.short.size : Int) < 0
      · simp (disch := omega) only [wrap_in, cpos, cneg]
        rw [if_pos (by omega)]
      · simp (disch := omega) only [wrap_in, cpos, cneg]
        rw [if_neg (by omega)]
        congr 1; omega
theorem getD_at {α : Type} {xs : List α} {i : Nat} (h : i < xs.length) (d : α) : xs.getD i d = xs[i] := by simp [List.getD, List.getElem?_eq_getElem h]
theorem szAs_l0 (xs : List Abbr) (hw : WF (.sl .abbr) xs) (hlen : xs.length ≤ 1048576) : ∀ n i : Nat, i + n = xs.length → ∀ l : Int, 0 ≤ l → l ≤ 1048576 →
    Ev (fun k => laws_szAbbreviationS.l0 k xs l i) (if l - totA (xs.drop i) < 0 then .inl (-1) else .inr (l - totA (xs.drop i)))
  | 0, i, h, l, h0, h1 => by
    refine Ev.step (fun k => by rw [laws_szAbbreviationS.l0]) ?_
    simp (disch := omega) only [cneg]
    rw [List.drop_eq_nil_of_le (by omega)]
    simp only [totA, List.map_nil, List.sum_nil]
    rw [if_neg (by omega)]
    exact (Ev.pure _).eq (by congr 1; omega)
  | n + 1, i, h, l, h0, h1 => by
    have hi : i < xs.length := by omega
    have hwi : WF .abbr xs[i] := by cases hw with | sl _ _ _ h => exact h i hi
    have hd : totA (xs.drop i) = szA xs[i] + totA (xs.drop (i + 1)) := by
      rw [List.drop_eq_getElem_cons hi]; unfold totA; rw [List.map_cons, List.sum_cons]
    refine Ev.step (fun k => by rw [laws_szAbbreviationS.l0]) ?_
    simp (disch := omega) only [cpos, Int.toNat_natCast, getD_at hi]
    refine Ev.bind0 (szA_ev _ l h0 h1 hwi) ?_
    by_cases c : l - (szA xs[i] : Int) < 0
    · simp (disch := omega) only [if_pos c, cpos]
      rw [if_pos (by omega)]
      exact Ev.pure _
    · simp (disch := omega) only [if_neg c, cneg, wrap_in]
      have := szAs_l0 xs hw hlen n (i + 1) (by omega) (l - szA xs[i]) (by omega) (by omega)
      refine this.eq ?_
      rw [hd]
      by_cases c2 : l - (szA xs[i] : Int) - (totA (xs.drop (i + 1)) : Int) < 0
      · rw [if_pos c2, if_pos (by omega)]
      · rw [if_neg c2, if_neg (by omega)]; congr 1; omega
theorem wf_len {e : Ty} {xs : List (den e)} (h : WF (.sl e) xs) : xs.length ≤ 9223372036854775807 := by
  cases h with | sl _ _ h _ => exact maxLen_eq ▸ h
theorem szAs_ev (xs : List Abbr) (l : Int) (h0 : 0 ≤ l) (h1 : l ≤ 1048576) (hw : WF (.sl .abbr) xs) : ∃ r, Ev (fun k => laws_szAbbreviationS.F k xs l) r ∧ (0 ≤ r → (xs.length : Int) + totA xs + r = l) := by
  have hl : xs.length ≤ 9223372036854775807 := wf_len hw
  unfold laws_szAbbreviationS.F
  by_cases c : l - (xs.length : Int) < 0
  · simp (disch := omega) only [wrap_in, cpos]
    exact ⟨-1, Ev.pure _, fun h => by omega⟩
  · simp (disch := omega) only [wrap_in, cneg]
    have := szAs_l0 xs hw (by omega) xs.length 0 (by omega) (l - xs.length) (by omega) (by omega)
    simp only [List.drop_zero] at this
    by_cases c2 : l - (xs.length : Int) - (totA xs : Int) < 0
    · rw [if_pos c2] at this
      exact ⟨-1, Ev.bind this (Ev.pure _), fun h => by omega⟩
    · rw [if_neg c2] at this
      exact ⟨l - (xs.length : Int) - (totA xs : Int), Ev.bind this (Ev.pure _), fun h => by omega⟩
theorem toAs_l0 (xs : List Abbr) (hlen : xs.length ≤ 1048576) : ∀ n i : Nat, i + n = xs.length → ∀ ys : List Abbr, ys.length = xs.length → ys.take i = xs.take i → Ev (fun k => laws_toAbbreviationS.l0 k xs ys i) xs
  | 0, i, h, ys, hy, ht => by
    refine Ev.step (fun k => by rw [laws_toAbbreviationS.l0]) ?_
    simp (disch := omega) only [cneg]
    have : ys = xs := by
      rw [List.take_of_length_le (by omega), List.take_of_length_le (by omega)] at ht
      exact ht
    rw [this]; exact Ev.pure _
  | n + 1, i, h, ys, hy, ht => by
    have hi : i < xs.length := by omega
    refine Ev.step (fun k => by rw [laws_toAbbreviationS.l0]) ?_
    simp (disch := omega) only [cpos, Int.toNat_natCast, getD_at hi]
    refine Ev.bind0 (a := xs[i]) rfl ?_
    simp (disch := omega) only [cpos, wrap_in]
    have := toAs_l0 xs hlen n (i + 1) (by omega) (ys.set i xs[i]) (by simpa using hy) (by
      rw [List.take_add_one, List.take_add_one, List.take_set_of_le (Nat.le_refl i), ht]
      simp [show i < ys.length by omega, hi])
    exact this
theorem toAs_ev (xs : List Abbr) (hlen : xs.length ≤ 1048576) : Ev (fun k => laws_toAbbreviationS.F k xs) xs := by
  unfold laws_toAbbreviationS.F
  have hn : nb .abbr = 32 := rfl
  simp (disch := first | omega | (simp only [hn, Int.toNat_natCast]; omega)) only [ceq, cpos, cble]
  refine Ev.bind (a := xs) ?_ (Ev.pure _)
  exact toAs_l0 xs hlen xs.length 0 (by omega) _ (by simp) (by simp)
theorem eqA_ev (a : Abbr) : laws_eqAbbreviation.F a a = some true := by
  unfold laws_eqAbbreviation.F
  simp only [beqS_self, Bool.not_true, cond_false]
theorem eqAs_l0 (xs : List Abbr) (hlen : xs.length ≤ 1048576) : ∀ n i : Nat, i + n = xs.length → Ev (fun k => laws_eqAbbreviationS.l0 k xs xs i) (.inr ())
  | 0, i, h => by
    refine Ev.step (fun k => by rw [laws_eqAbbreviationS.l0]) ?_
    simp (disch := omega) only [cneg]
    exact Ev.pure _
  | n + 1, i, h => by
    have hi : i < xs.length := by omega
    refine Ev.step (fun k => by rw [laws_eqAbbreviationS.l0]) ?_
    simp (disch := omega) only [cpos, Int.toNat_natCast, getD_at hi]
    refine Ev.bind0 (eqA_ev _) ?_
    simp (disch := omega) only [Bool.not_true, cond_false, wrap_in]
    exact eqAs_l0 xs hlen n (i + 1) (by omega)
theorem eqAs_ev (xs : List Abbr) (hlen : xs.length ≤ 1048576) : Ev (fun k => laws_eqAbbreviationS.F k xs xs) true := by
  unfold laws_eqAbbreviationS.F
  simp (disch := omega) only [cbeq]
  exact Ev.bind (eqAs_l0 xs hlen xs.length 0 (by omega)) (Ev.pure _)

/-! ### Small words -/
def low (b : UInt8) : Bool := decide (97 ≤ b.toNat) && decide (b.toNat ≤ 122)
def cutB (s : ByteArray) (b : Nat) : ByteArray := if 0 < s.size ∧ bt s (s.size - 1) = b then s.extract 0 (s.size - 1) else s
theorem cutB_size (s : ByteArray) (b : Nat) : (cutB s b).size ≤ s.size := by
  unfold cutB; split
  · simp [ByteArray.size_extract]
  · exact Nat.le_refl _
theorem size_pos {s : ByteArray} : (!beqS s ⟨#[]⟩) = decide (0 < s.size) := by
  rw [beqS_eq]
  have : L ⟨#[]⟩ = [] := rfl
  rw [this, ← L_size]
  cases L s <;> rfl
theorem specCut_ev (s : ByteArray) (b : Nat) (h : s.size ≤ 9223372036854775807) : spec_l19Cut.F s b = some (cutB s b) := by
  unfold spec_l19Cut.F cutB
  rw [size_pos]
  by_cases c : 0 < s.size
  · simp (disch := omega) only [cpos, wrap_in]
    rw [show ((s.size : Int) - 1).toNat = s.size - 1 by omega]
    by_cases c2 : bt s (s.size - 1) = b
    · simp (disch := first | omega | exact c2) only [ceq]
      rw [if_pos ⟨c, c2⟩]
    · simp (disch := first | omega | exact c2) only [cne]
      rw [if_neg (fun h => c2 h.2)]
  · simp (disch := omega) only [cneg]
    rw [if_neg (fun h => c h.1)]
theorem suffix_ev (s : ByteArray) (c : UInt8) (h : s.size ≤ 9223372036854775807) : stringslite_HasSuffix.F s ⟨#[c]⟩ = some (decide (0 < s.size) && (bt s (s.size - 1) == (c.toNat : Int))) := by
  unfold stringslite_HasSuffix.F
  have h1 : (⟨#[c]⟩ : ByteArray).size = 1 := rfl
  rw [h1]
  by_cases hs : 0 < s.size
  · simp (disch := omega) only [cpos, wrap_in]
    rw [beqS_eq, L_extract, show ((s.size : Int) - ((1 : Nat) : Int)).toNat = s.size - 1 by omega, List.take_of_length_le (by rw [L_size]; omega), L_bt]
    congr 1
    have hl : s.size - 1 < (L s).length := by rw [L_size]; omega
    rw [List.drop_eq_getElem_cons hl, List.drop_eq_nil_of_le (by rw [L_size]; omega), getD_at hl, decide_eq_true hs]
    show ([(L s)[s.size - 1]] == [c]) = _
    rw [Bool.true_and]
    by_cases e : (L s)[s.size - 1] = c
    · rw [e]; simp
    · have : ((L s)[s.size - 1].toNat : Int) ≠ (c.toNat : Int) := fun h => e (UInt8.toNat_inj.1 (by omega))
      rw [show ((((L s)[s.size - 1]).toNat : Int) == (c.toNat : Int)) = false by simpa using this]
      simpa using e
  · simp (disch := omega) only [cneg]
    rw [decide_eq_false hs]; rfl
theorem trim_ev (s : ByteArray) (c : UInt8) (h : s.size ≤ 9223372036854775807) : strings_TrimSuffix.F s ⟨#[c]⟩ = some (cutB s c.toNat) := by
  unfold strings_TrimSuffix.F stringslite_TrimSuffix.F
  rw [suffix_ev s c h]
  have h1 : (⟨#[c]⟩ : ByteArray).size = 1 := rfl
  rw [h1]
  unfold cutB
  simp only [Option.bind_some]
  by_cases hs : 0 < s.size
  · simp (disch := omega) only [cpos, wrap_in, decide_eq_true hs, Bool.true_and]
    rw [show ((s.size : Int) - ((1 : Nat) : Int)).toNat = s.size - 1 by omega]
    by_cases c2 : bt s (s.size - 1) = c.toNat
    · simp (disch := first | omega | exact c2) only [ceq]
      rw [if_pos ⟨hs, c2⟩]; rfl
    · simp (disch := first | omega | exact c2) only [cne]
      rw [if_neg (fun h => c2 h.2)]; rfl
  · rw [decide_eq_false hs, if_neg (fun h => hs h.1)]; rfl
theorem low_int (b : UInt8) : low b = (decide ((b.toNat : Int) ≥ 97) && decide ((b.toNat : Int) ≤ 122)) := by
  unfold low
  congr 1 <;> exact decide_eq_decide.2 (by omega)
theorem isLower_ev (b : UInt8) : impl_isLower.F (b.toNat : Int) = some (low b) := by
  unfold impl_isLower.F
  rw [low_int]
  cases decide ((b.toNat : Int) ≥ 97) <;> rfl
theorem in_ev (a b c : Int) : spec_l1In.F a b c = some (decide (a ≥ b) && decide (a ≤ c)) := by
  unfold spec_l1In.F
  cases decide (a ≥ b) <;> rfl
theorem inside_ev (a b c : Int) : impl_inside.F a b c = some (decide (a ≥ b) && decide (a ≤ c)) := by
  unfold impl_inside.F
  cases decide (a ≥ b) <;> rfl
theorem all_drop {s : ByteArray} {i : Nat} (hi : i < s.size) (p : UInt8 → Bool) : ((L s).drop i).all p = (p ((L s).getD i 0) && ((L s).drop (i + 1)).all p) := by
  have hl : i < (L s).length := by rw [L_size]; exact hi
  rw [List.drop_eq_getElem_cons hl, getD_at hl]; rfl
theorem small_l0 (s : ByteArray) (hs : s.size ≤ 9223372036854775806) (lo hi : Int) : ∀ n i : Nat, i + n = s.size → Ev (fun k => impl_isSmall.l0 k s lo hi i) (if ((L s).drop i).all low = true then .inr (s, lo, hi) else .inl false)
  | 0, i, h => by
    refine Ev.step (fun k => by rw [impl_isSmall.l0]) ?_
    simp (disch := omega) only [cneg]
    rw [List.drop_eq_nil_of_le (by rw [L_size]; omega)]
    exact Ev.pure _
  | n + 1, i, h => by
    refine Ev.step (fun k => by rw [impl_isSmall.l0]) ?_
    simp (disch := omega) only [cpos, Int.toNat_natCast, L_bt]
    refine Ev.bind0 (isLower_ev _) ?_
    rw [all_drop (by omega)]
    cases hlow : low ((L s).getD i 0) with
    | false => simp only [Bool.not_false, cond_true, Bool.false_and]; exact Ev.pure _
    | true =>
      simp (disch := omega) only [Bool.not_true, cond_false, Bool.true_and, wrap_in]
      exact small_l0 s hs lo hi n (i + 1) (by omega)
theorem letters_l0 (s : ByteArray) (hs : s.size ≤ 9223372036854775806) (lo hi : Int) : ∀ n i : Nat, i + n = s.size → Ev (fun k => spec_l19Letters.l0 k s lo hi i) (if ((L s).drop i).all low = true then .inr (s, lo, hi) else .inl false)
  | 0, i, h => by
    refine Ev.step (fun k => by rw [spec_l19Letters.l0]) ?_
    simp (disch := omega) only [cneg]
    rw [List.drop_eq_nil_of_le (by rw [L_size]; omega)]
    exact Ev.pure _
  | n + 1, i, h => by
    refine Ev.step (fun k => by rw [spec_l19Letters.l0]) ?_
    simp (disch := omega) only [cpos, Int.toNat_natCast, L_bt]
    rw [all_drop (by omega), low_int]
    generalize (((L s).getD i 0).toNat : Int) = b
    by_cases c : b < 97
    · simp (disch := omega) only [cpos, dneg, Bool.false_and]; exact Ev.pure _
    · by_cases c2 : b > 122
      · simp (disch := omega) only [cneg, cpos, dpos, dneg, Bool.true_and, Bool.false_and]; exact Ev.pure _
      · simp (disch := omega) only [cneg, dpos, Bool.true_and, wrap_in]
        exact letters_l0 s hs lo hi n (i + 1) (by omega)
def smallB (s : ByteArray) (lo hi : Int) (b : Nat) : Bool := (L (cutB s b)).all low && (decide ((((cutB s b).size : Nat) : Int) ≥ lo) && decide ((((cutB s b).size : Nat) : Int) ≤ hi))
theorem isSmall_ev (s : ByteArray) (lo hi : Int) (c : UInt8) (h : s.size ≤ 9223372036854775806) : Ev (fun k => impl_isSmall.F k s lo hi ⟨#[c]⟩) (smallB s lo hi c.toNat) := by
  unfold impl_isSmall.F smallB
  refine Ev.bind0 (trim_ev s c (by omega)) ?_
  have hc := cutB_size s c.toNat
  have := small_l0 (cutB s c.toNat) (by omega) lo hi (cutB s c.toNat).size 0 (by omega)
  rw [List.drop_zero] at this
  cases hall : (L (cutB s c.toNat)).all low with
  | true => rw [hall] at this; exact Ev.bind this (Ev.bind0 (inside_ev _ _ _) (Ev.pure _))
  | false => rw [hall] at this; exact Ev.bind this (Ev.pure _)
theorem letters_ev (s : ByteArray) (lo hi : Int) (h : s.size ≤ 9223372036854775806) : Ev (fun k => spec_l19Letters.F k s lo hi) ((L s).all low && (decide ((s.size : Int) ≥ lo) && decide ((s.size : Int) ≤ hi))) := by
  unfold spec_l19Letters.F
  have := letters_l0 s h lo hi s.size 0 (by omega)
  rw [List.drop_zero] at this
  cases hall : (L s).all low with
  | true => rw [hall] at this; exact Ev.bind this (Ev.bind0 (in_ev _ _ _) (Ev.pure _))
  | false => rw [hall] at this; exact Ev.bind this (Ev.pure _)
def oneB (a : Abbr) : Bool := smallB a.word 2 15 45 && smallB a.short 1 12 46
theorem one_ev (a : Abbr) (h1 : a.word.size ≤ 9223372036854775806) (h2 : a.short.size ≤ 9223372036854775806) : Ev (fun k => spec_l19One.F k a) (oneB a) := by
  unfold spec_l19One.F oneB
  refine Ev.bind0 (specCut_ev a.word 45 (by omega)) ?_
  have hc := cutB_size a.word 45
  refine Ev.bind (letters_ev _ 2 15 (by omega)) ?_
  refine Ev.cond (fun h => ?_) (fun h => ?_)
  · refine Ev.bind0 (specCut_ev a.short 46 (by omega)) ?_
    have hc := cutB_size a.short 46
    refine (Ev.bind (letters_ev _ 1 12 (by omega)) (Ev.pure _)).eq ?_
    show _ = (smallB a.word 2 15 45 && _)
    rw [show smallB a.word 2 15 45 = true from h, Bool.true_and]; rfl
  · rw [show smallB a.word 2 15 45 = false from h]; exact Ev.pure _

/-! ### Lists -/
def okA (xs : List Abbr) (i : Nat) : Bool := oneB (xs.getD i (dflt .abbr)) && (decide (i = 0) || ltS (xs.getD (i - 1) (dflt .abbr)).word (xs.getD i (dflt .abbr)).word)
def smalls (xs : List Abbr) : Prop := xs.length ≤ 1048576 ∧ ∀ a ∈ xs, a.word.size ≤ 1048576 ∧ a.short.size ≤ 1048576
theorem validImpl_l0 (xs : List Abbr) (hs : smalls xs) : ∀ n i : Nat, i + n = xs.length → Ev (fun k => impl_IsValidAbbreviations.l0 k xs xs xs.length i) (if (List.range' i n).all (okA xs) = true then .inr xs else .inl false)
  | 0, i, h => by
    refine Ev.step (fun k => by rw [impl_IsValidAbbreviations.l0]) ?_
    simp (disch := omega) only [cneg]
    exact Ev.pure _
  | n + 1, i, h => by
    have hi : i < xs.length := by omega
    obtain ⟨hl, hx⟩ := hs
    obtain ⟨h1, h2⟩ := hx _ (List.getElem_mem hi)
    rw [← getD_at hi (dflt .abbr)] at h1 h2
    rw [List.range'_succ, List.all_cons]
    refine Ev.step (fun k => by rw [impl_IsValidAbbreviations.l0]) ?_
    simp (disch := omega) only [cpos, Int.toNat_natCast]
    refine Ev.bind (isSmall_ev _ 2 15 45 (by omega)) ?_
    unfold okA oneB
    cases hw : smallB (xs.getD i (dflt .abbr)).word 2 15 (45 : UInt8).toNat with
    | false =>
      rw [show smallB (xs.getD i (dflt .abbr)).word 2 15 45 = false from hw]
      exact Ev.pure _
    | true =>
      rw [show smallB (xs.getD i (dflt .abbr)).word 2 15 45 = true from hw]
      simp only [Bool.not_true, cond_false, Bool.true_and]
      refine Ev.bind (isSmall_ev _ 1 12 46 (by omega)) ?_
      cases hw2 : smallB (xs.getD i (dflt .abbr)).short 1 12 (46 : UInt8).toNat with
      | false =>
        rw [show smallB (xs.getD i (dflt .abbr)).short 1 12 46 = false from hw2]
        exact Ev.pure _
      | true =>
        rw [show smallB (xs.getD i (dflt .abbr)).short 1 12 46 = true from hw2]
        simp only [Bool.not_true, cond_false, Bool.true_and]
        have ih := validImpl_l0 xs ⟨hl, hx⟩ n (i + 1) (by omega)
        by_cases c : i = 0
        · simp (disch := omega) only [cneg, wrap_in, dpos, Bool.true_or, Bool.true_and]
          exact ih
        · simp (disch := omega) only [cpos, wrap_in, dneg, Bool.false_or]
          rw [show ((i : Int) - 1).toNat = i - 1 by omega]
          cases ltS (xs.getD (i - 1) (dflt .abbr)).word (xs.getD i (dflt .abbr)).word with
          | false => exact Ev.pure _
          | true => exact ih
theorem validSpec_l0 (xs : List Abbr) (hs : smalls xs) : ∀ n i : Nat, i + n = xs.length → ∃ r, Ev (fun k => spec_l19Good.l0 k xs i) r ∧ (r = .inl false ∨ r = .inr xs) ∧ (xs.length ≤ 15 → r = if (List.range' i n).all (okA xs) = true then .inr xs else .inl false)
  | 0, i, h => by
    refine ⟨.inr xs, Ev.step (fun k => by rw [spec_l19Good.l0]) ?_, .inr rfl, fun _ => rfl⟩
    simp (disch := omega) only [cneg]
    exact Ev.pure _
  | n + 1, i, h => by
    have hi : i < xs.length := by omega
    obtain ⟨hl, hx⟩ := hs
    obtain ⟨h1, h2⟩ := hx _ (List.getElem_mem hi)
    rw [← getD_at hi (dflt .abbr)] at h1 h2
    obtain ⟨r, ih1, ih2, ih3⟩ := validSpec_l0 xs ⟨hl, hx⟩ n (i + 1) (by omega)
    rw [List.range'_succ, List.all_cons]
    by_cases c15 : (i : Int) ≤ 15
    · have st : ∀ r, Ev (fun k => spec_l19Good.l0 k xs i) r ↔ Ev (fun k => spec_l19Good.l0 k xs i) r := fun _ => Iff.rfl
      cases ho : oneB (xs.getD i (dflt .abbr)) with
      | false =>
        refine ⟨.inl false, Ev.step (fun k => by rw [spec_l19Good.l0]) ?_, .inl rfl, fun _ => by unfold okA; rw [ho]; rfl⟩
        simp (disch := omega) only [cpos, Int.toNat_natCast]
        exact Ev.bind (one_ev _ (by omega) (by omega)) (by rw [ho]; exact Ev.pure _)
      | true =>
        by_cases c : i = 0
        · refine ⟨r, Ev.step (fun k => by rw [spec_l19Good.l0]) ?_, ih2, fun h15 => by rw [ih3 h15]; unfold okA; rw [ho, decide_eq_true c]; rfl⟩
          simp (disch := omega) only [cpos, Int.toNat_natCast]
          refine Ev.bind (one_ev _ (by omega) (by omega)) ?_
          rw [ho]
          simp (disch := omega) only [Bool.not_true, cond_false, cneg, wrap_in]
          exact ih1
        · cases hlt : ltS (xs.getD (i - 1) (dflt .abbr)).word (xs.getD i (dflt .abbr)).word with
          | false =>
            refine ⟨.inl false, Ev.step (fun k => by rw [spec_l19Good.l0]) ?_, .inl rfl, fun _ => by unfold okA; rw [ho, hlt, decide_eq_false c]; rfl⟩
            simp (disch := omega) only [cpos, Int.toNat_natCast]
            refine Ev.bind (one_ev _ (by omega) (by omega)) ?_
            rw [ho]
            simp (disch := omega) only [Bool.not_true, cond_false, cpos, wrap_in]
            rw [show ((i : Int) - 1).toNat = i - 1 by omega, hlt]
            exact Ev.pure _
          | true =>
            refine ⟨r, Ev.step (fun k => by rw [spec_l19Good.l0]) ?_, ih2, fun h15 => by rw [ih3 h15]; unfold okA; rw [ho, hlt, decide_eq_false c]; rfl⟩
            simp (disch := omega) only [cpos, Int.toNat_natCast]
            refine Ev.bind (one_ev _ (by omega) (by omega)) ?_
            rw [ho]
            simp (disch := omega) only [Bool.not_true, cond_false, cpos, wrap_in]
            rw [show ((i : Int) - 1).toNat = i - 1 by omega, hlt]
            exact ih1
    · refine ⟨.inr xs, Ev.step (fun k => by rw [spec_l19Good.l0]) ?_, .inr rfl, fun h15 => by omega⟩
      simp (disch := omega) only [cpos, cneg]
      exact Ev.pure _
/-- Are the abbreviations valid? -/
def validA (xs : List Abbr) : Bool := (List.range' 0 xs.length).all (okA xs) && decide ((xs.length : Int) ≤ 15)
theorem validImpl_ev (xs : List Abbr) (hs : smalls xs) : Ev (fun k => impl_IsValidAbbreviations.F k xs) (validA xs) := by
  unfold impl_IsValidAbbreviations.F validA
  have := validImpl_l0 xs hs xs.length 0 (by omega)
  cases hall : (List.range' 0 xs.length).all (okA xs) with
  | true => rw [hall] at this; exact Ev.bind this (Ev.pure _)
  | false => rw [hall] at this; exact Ev.bind this (Ev.pure _)
theorem validSpec_ev (xs : List Abbr) (hs : smalls xs) : Ev (fun k => spec_l19Good.F k xs) (validA xs) := by
  unfold spec_l19Good.F validA
  obtain ⟨r, h1, h2, h3⟩ := validSpec_l0 xs hs xs.length 0 (by omega)
  by_cases c : xs.length ≤ 15
  · have := h3 c
    cases hall : (List.range' 0 xs.length).all (okA xs) with
    | true => rw [this, hall] at h1; exact Ev.bind h1 (Ev.pure _)
    | false => rw [this, hall] at h1; exact Ev.bind h1 (Ev.pure _)
  · rw [decide_eq_false (show ¬ (xs.length : Int) ≤ 15 by omega), Bool.and_false]
    rcases h2 with rfl | rfl
    · exact Ev.bind h1 (Ev.pure _)
    · exact Ev.bind h1 ((Ev.pure _).eq (decide_eq_false (by omega)))
theorem smalls_of {xs : List Abbr} {r l : Int} (h : (xs.length : Int) + totA xs + r = l) (hr : 0 ≤ r) (hl : l ≤ 1048576) : smalls xs := by
  refine ⟨by omega, fun a ha => ?_⟩
  have : szA a ≤ totA xs := by
    unfold totA
    clear h
    induction xs with
    | nil => cases ha
    | cons b l ih =>
      simp only [List.map_cons, List.sum_cons]
      rcases List.mem_cons.1 ha with rfl | h
      · omega
      · have := ih h; omega
  unfold szA at this
  omega
end Go.Proofs.YtnffgabfibafjaaDoor
