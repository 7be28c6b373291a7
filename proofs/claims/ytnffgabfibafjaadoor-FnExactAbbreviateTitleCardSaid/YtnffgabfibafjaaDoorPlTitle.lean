/- Plain laws: texts, their words, their abbreviation. -/
import Derived.Test.YtnffgabfibafjaaDoorPlWord
import Derived.Test.YtnffgabfibafjaaDoorPlSplit
import Derived.Test.YtnffgabfibafjaaDoorPlDel
import Derived.Lib.TrimByte
import Derived.Lib.Join
namespace Go.Proofs.YtnffgabfibafjaaDoor
open Go.Gx
set_option linter.unusedVariables false
set_option linter.unusedSimpArgs false

/-! ### Texts -/
theorem dropWhile_self {α : Type} (p : α → Bool) : ∀ l : List α, l.dropWhile p = l ↔ (∀ a, l.head? = some a → p a = false)
  | [] => by simp
  | a :: l => by
    have hl : (l.dropWhile p).length ≤ l.length := (List.dropWhile_sublist p).length_le
    cases h : p a with
    | true =>
      rw [List.dropWhile_cons_of_pos h]
      constructor
      · intro e
        have := congrArg List.length e
        simp at this
        omega
      · intro e
        have := e a rfl
        rw [h] at this; cases this
    | false =>
      rw [List.dropWhile_cons_of_neg (by rw [h]; exact Bool.noConfusion)]
      simp [h]
theorem trimB_self (l : List UInt8) (c : UInt8) : Lib.trimB l c = l ↔ l.head? ≠ some c ∧ l.getLast? ≠ some c := by
  unfold Lib.trimB Lib.trimLeftB Lib.trimRightB
  have h1 : ∀ m : List UInt8, m.dropWhile (· == c) = m ↔ m.head? ≠ some c := fun m => by
    rw [dropWhile_self]
    constructor
    · intro h e; have := h c e; simp at this
    · intro h a e
      have : a ≠ c := fun e' => h (e' ▸ e)
      simpa using this
  constructor
  · intro h
    have h2 : ((l.reverse.dropWhile (· == c)).reverse).length ≤ l.length := by
      have := (List.dropWhile_sublist (p := (· == c)) (l := l.reverse)).length_le
      simpa using this
    have h3 := (List.dropWhile_sublist (p := (· == c)) (l := (l.reverse.dropWhile (· == c)).reverse))
    have h4 : (l.reverse.dropWhile (· == c)).reverse = l := by
      have h5 : (l.reverse.dropWhile (· == c)).reverse.length = l.length := by
        have := h3.length_le
        rw [h] at this
        omega
      have h6 : l.reverse.dropWhile (· == c) = l.reverse := (List.dropWhile_sublist (p := (· == c)) (l := l.reverse)).eq_of_length (by simpa using h5)
      rw [h6, List.reverse_reverse]
    rw [h4] at h
    refine ⟨(h1 l).1 h, ?_⟩
    have h6 : l.reverse.dropWhile (· == c) = l.reverse := by rw [← List.reverse_inj, h4, List.reverse_reverse]
    have := (h1 _).1 h6
    simpa using this
  · rintro ⟨ha, hb⟩
    have h6 : l.reverse.dropWhile (· == c) = l.reverse := (h1 _).2 (by simpa using hb)
    rw [h6, List.reverse_reverse]
    exact (h1 l).2 ha
def vis (lo b : Int) : Bool := decide (lo ≤ b) && decide (b ≤ 126)
theorem bt_sp {s : ByteArray} {i : Nat} (hi : i < s.size) : bt s i = 32 ↔ (L s)[i]? = some 32 := by
  have hi' : i < (L s).length := hi
  have hbt : bt s i = ((L s)[i].toNat : Int) := by rw [L_bt, getD_at hi']
  rw [List.getElem?_eq_getElem hi', hbt]
  have : (32 : UInt8).toNat = 32 := rfl
  constructor
  · intro h
    congr 1
    apply UInt8.toNat_inj.1
    omega
  · intro h
    rw [Option.some.inj h]; rfl
/-- The first and the last byte of a text are no spaces. -/
def edge (s : ByteArray) : Bool := (decide (s.size = 0)) || (bt s 0 != 32 && bt s (s.size - 1) != 32)
theorem edge_trim (s : ByteArray) (hs : s.size ≤ 1048576) : strings_Trim.F s ⟨#[32]⟩ = some ⟨(Lib.trimB (L s) 32).toArray⟩ := by
  unfold strings_Trim.F xTrim1
  rw [Nat.ble_eq_true_of_le (by omega)]
  rfl
theorem edge_eq (s : ByteArray) : beqS ⟨(Lib.trimB (L s) 32).toArray⟩ s = edge s := by
  rw [Bool.eq_iff_iff, beqS_iff]
  have h1 : (⟨(Lib.trimB (L s) 32).toArray⟩ : ByteArray) = s ↔ Lib.trimB (L s) 32 = L s := by
    constructor
    · intro h
      have := congrArg L h
      rwa [L_mk] at this
    · intro h
      apply L_inj
      rw [L_mk, h]
  rw [h1, trimB_self]
  unfold edge
  by_cases hz : s.size = 0
  · have : L s = [] := List.eq_nil_of_length_eq_zero hz
    rw [this]
    simp [hz]
  · have h2 : (L s).head? = (L s)[0]? := List.head?_eq_getElem?
    have h3 : (L s).getLast? = (L s)[s.size - 1]? := by rw [List.getLast?_eq_getElem?]; rfl
    rw [h2, h3, Bool.or_eq_true, decide_eq_true_eq, Bool.and_eq_true, bne_iff_ne, bne_iff_ne, Ne, Ne, Ne, Ne, bt_sp (by omega), bt_sp (by omega)]
    simp [hz]
theorem specText_l0 (s : ByteArray) (hs : s.size ≤ 1048576) : ∀ n i : Nat, i + n = s.size → Ev (fun k => spec_l4Text.l0 k s i) (if ((bytesL s).drop i).all (vis 32) = true then .inr s else .inl false)
  | 0, i, h => by
    refine Ev.step (fun k => by rw [spec_l4Text.l0]) ?_
    simp (disch := omega) only [cneg]
    rw [List.drop_eq_nil_of_le (by rw [bytesL_len]; omega)]
    exact Ev.pure _
  | n + 1, i, h => by
    have hl := bytesL_len s
    have hi : i < (bytesL s).length := by omega
    refine Ev.step (fun k => by rw [spec_l4Text.l0]) ?_
    simp (disch := omega) only [cpos, Int.toNat_natCast, bt_bytes s i hi]
    rw [all_bytes hi]
    unfold vis
    by_cases c1 : (bytesL s)[i] < 32
    · simp (disch := omega) only [cpos, dneg, Bool.false_and]; exact Ev.pure _
    · by_cases c2 : (bytesL s)[i] > 126
      · simp (disch := omega) only [cpos, cneg, dneg, Bool.and_false, Bool.false_and]; exact Ev.pure _
      · simp (disch := omega) only [cpos, cneg, dpos, Bool.and_self, Bool.true_and, wrap_in]
        exact specText_l0 s hs n (i + 1) (by omega)
theorem isPrint_l0 (s : ByteArray) (hs : s.size ≤ 1048576) : ∀ n i : Nat, i + n = s.size → Ev (fun k => impl_isPrintable.l0 k s i) (if ((bytesL s).drop i).all (vis 32) = true then .inr s else .inl false)
  | 0, i, h => by
    refine Ev.step (fun k => by rw [impl_isPrintable.l0]) ?_
    simp (disch := omega) only [cneg]
    rw [List.drop_eq_nil_of_le (by rw [bytesL_len]; omega)]
    exact Ev.pure _
  | n + 1, i, h => by
    have hl := bytesL_len s
    have hi : i < (bytesL s).length := by omega
    refine Ev.step (fun k => by rw [impl_isPrintable.l0]) ?_
    simp (disch := omega) only [cpos, Int.toNat_natCast, bt_bytes s i hi]
    rw [all_bytes hi]
    unfold vis
    by_cases c1 : (bytesL s)[i] < 32
    · simp (disch := omega) only [cpos, dneg, Bool.false_and]; exact Ev.pure _
    · by_cases c2 : (bytesL s)[i] > 126
      · simp (disch := omega) only [cpos, cneg, dneg, Bool.and_false, Bool.false_and]; exact Ev.pure _
      · simp (disch := omega) only [cpos, cneg, dpos, Bool.and_self, Bool.true_and, wrap_in]
        exact isPrint_l0 s hs n (i + 1) (by omega)
def textB (s : ByteArray) : Bool := decide (s.size ≤ 40) && ((bytesL s).all (vis 32) && edge s)
theorem specText_ev (s : ByteArray) : Ev (fun k => spec_l4Text.F k s) (textB s) := by
  unfold spec_l4Text.F textB
  by_cases c : (s.size : Int) > 40
  · simp (disch := omega) only [cpos, dneg, Bool.false_and]
    exact Ev.pure _
  · simp (disch := omega) only [cneg, dpos, Bool.true_and]
    have := specText_l0 s (by omega) s.size 0 (by omega)
    rw [List.drop_zero] at this
    cases h : (bytesL s).all (vis 32) with
    | false => rw [h] at this; exact Ev.bind this (Ev.pure _)
    | true =>
      rw [h] at this
      refine Ev.bind (a := .inr s) this ?_
      dsimp only
      have he : beqS s ⟨#[]⟩ = decide (s.size = 0) := by
        rw [← Bool.not_not (b := beqS s ⟨#[]⟩), size_pos]
        by_cases hz : s.size = 0
        · simp [hz]
        · rw [decide_eq_true (by omega : 0 < s.size), decide_eq_false hz]; rfl
      rw [he]
      unfold edge
      by_cases hz : s.size = 0
      · rw [decide_eq_true hz]; exact Ev.pure _
      · rw [decide_eq_false hz]
        simp (disch := omega) only [cond_false, cond_true, cpos, wrap_in]
        rw [show ((s.size : Int) - 1).toNat = s.size - 1 by omega, show (0 : Int).toNat = 0 from rfl, Bool.false_or, Bool.true_and]
        cases (bt s 0 != 32) with
        | true => exact Ev.pure _
        | false => exact Ev.pure _
theorem isText_ev (s : ByteArray) : Ev (fun k => impl_isText.F k s) (textB s) := by
  unfold impl_isText.F textB
  by_cases c : (s.size : Int) ≤ 40
  · simp (disch := omega) only [cpos, dpos, Bool.true_and]
    refine Ev.bind ?_ (Ev.pure _)
    unfold impl_isPrintable.F
    have := isPrint_l0 s (by omega) s.size 0 (by omega)
    rw [List.drop_zero] at this
    cases h : (bytesL s).all (vis 32) with
    | false => rw [h] at this; exact Ev.bind this (Ev.pure _)
    | true =>
      rw [h] at this
      refine Ev.bind (a := .inr s) this ?_
      dsimp only
      refine Ev.bind0 (edge_trim s (by omega)) ?_
      simp only [edge_eq, Bool.true_and]
      exact Ev.pure _
  · simp (disch := omega) only [cneg, dneg, Bool.false_and]
    exact Ev.pure _

/-! ### Words -/
def pos (s : ByteArray) : Bool := decide (0 < s.size)
def kw (s : ByteArray) : List ByteArray := (words s).filter pos
theorem ext_size {s : ByteArray} {a b : Nat} (h : a ≤ b) (hb : b ≤ s.size) : (s.extract a b).size = b - a := by
  rw [ByteArray.size_extract]; omega
theorem room_s {n : Nat} (h : n ≤ 8192) : room n .str = true := by
  unfold room
  rw [Nat.ble_eq]
  have : nb .str = 16 := rfl
  rw [this]
  omega
theorem fpos_one (s : ByteArray) (a b : Nat) (hab : a ≤ b) (hb : b ≤ s.size) (l : List ByteArray) : (s.extract a b :: l).filter pos = (if a < b then [s.extract a b] else []) ++ l.filter pos := by
  rw [List.filter_cons]
  unfold pos
  rw [ext_size hab hb]
  by_cases c : a < b
  · rw [if_pos c, decide_eq_true (by omega)]; rfl
  · rw [if_neg c, decide_eq_false (by omega)]; rfl
theorem specWords_l0 (s : ByteArray) (hs : s.size ≤ 4000) : ∀ n i : Nat, i + n = s.size → ∀ st : Nat, st ≤ i → (∀ j, st ≤ j → j < i → (L s)[j]? ≠ some 32) → ∀ acc : List ByteArray, acc.length ≤ i → Ev (fun k => spec_l19Words.l0 k s acc st i) (acc ++ (wordsFrom s st).filter pos)
  | 0, i, h, st, h1, hn, acc, ha => by
    have e : wordsFrom s st = [s.extract st s.size] := words_end s st fun j hj => by
      by_cases hj2 : j < i
      · exact hn j hj hj2
      · rw [List.getElem?_eq_none (by rw [L_size]; omega)]; exact fun h => by cases h
    rw [e, fpos_one s st s.size (by omega) (Nat.le_refl _), List.filter_nil, List.append_nil]
    have fin : ∀ acc', Ev (fun k => spec_l19Words.l0 k s acc' ((i : Int) + 1) ((i : Int) + 1)) acc' := fun acc' => by
      refine Ev.step (fun k => by rw [spec_l19Words.l0]) ?_
      simp (disch := omega) only [cneg]
      exact Ev.pure _
    refine Ev.step (fun k => by rw [spec_l19Words.l0]) ?_
    by_cases c : st < i
    · rw [if_pos (by omega)]
      have hr : ∀ x : ByteArray, room (acc.length + ([x] : List ByteArray).length) .str = true := fun x => room_s (by simp; omega)
      simp (disch := omega) only [cpos, ceq, Int.toNat_natCast, hr, cond_true, wrap_in]
      rw [show i = s.size by omega]
      have := fin (acc ++ [s.extract st s.size])
      rw [show i = s.size by omega] at this
      exact this
    · rw [if_neg (by omega), List.append_nil]
      simp (disch := omega) only [cpos, cneg, ceq, wrap_in]
      exact fin acc
  | n + 1, i, h, st, h1, hn, acc, ha => by
    have hi : i < s.size := by omega
    refine Ev.step (fun k => by rw [spec_l19Words.l0]) ?_
    by_cases c : bt s i = 32
    · rw [words_hit s st i h1 hi ((bt_sp hi).1 c) hn, fpos_one s st i h1 (by omega)]
      by_cases c2 : st < i
      · have hr : ∀ x : ByteArray, room (acc.length + ([x] : List ByteArray).length) .str = true := fun x => room_s (by simp; omega)
        rw [if_pos c2, ← List.append_assoc]
        simp (disch := first | exact c | omega) only [cpos, cne, ceq, Int.toNat_natCast, hr, cond_true, wrap_in]
        exact specWords_l0 s hs n (i + 1) (by omega) (i + 1) (Nat.le_refl _) (fun j h1 h2 => by omega) (acc ++ [s.extract st i]) (by simp; omega)
      · rw [if_neg c2, List.nil_append]
        simp (disch := first | exact c | omega) only [cpos, cneg, cne, ceq, Int.toNat_natCast, wrap_in]
        exact specWords_l0 s hs n (i + 1) (by omega) (i + 1) (Nat.le_refl _) (fun j h1 h2 => by omega) acc (by omega)
    · simp (disch := first | exact c | omega) only [cpos, cne, Int.toNat_natCast, wrap_in]
      exact specWords_l0 s hs n (i + 1) (by omega) st (by omega) (fun j h3 h4 => by
        rcases Nat.lt_or_ge j i with h5 | h5
        · exact hn j h3 h5
        · obtain rfl : j = i := by omega
          exact fun e => c ((bt_sp hi).2 e)) acc (by omega)
theorem specWords_ev (s : ByteArray) (hs : s.size ≤ 4000) : Ev (fun k => spec_l19Words.F k s) (kw s) := by
  unfold spec_l19Words.F
  have := specWords_l0 s hs s.size 0 (by omega) 0 (Nat.le_refl _) (fun j h1 h2 => by omega) [] (Nat.le_refl _)
  rw [words_from, List.nil_append] at this
  exact Ev.bind this (Ev.pure _)
theorem notEmpty : (fun x : ByteArray => !beqS x ⟨#[]⟩) = pos := by
  funext x
  rw [size_pos]; rfl
theorem wordsOf_ev (s : ByteArray) (hs : s.size ≤ 4000) : Ev (fun k => impl_wordsOf.F k s) (kw s) := by
  unfold impl_wordsOf.F
  refine Ev.bind0 (split_ev s hs) (Ev.bind (a := kw s) ?_ (Ev.pure _))
  have hlen := (words_len s).2
  have hq : ∀ x, x ∈ words s → Ev (fun k => (fun (_ : Nat) (x : ByteArray) => impl_wordsOf_1.F x) k x) (beqS x ⟨#[]⟩) := fun x _ => Ev.const rfl
  have := delete_ev (d := (⟨#[]⟩ : ByteArray)) (p := fun x => beqS x ⟨#[]⟩) (q := fun _ x => impl_wordsOf_1.F x) (xs := words s) (l0 := slices_DeleteFunc_string_f132.l0) (fun k x0 x5 x6 => by rw [slices_DeleteFunc_string_f132.l0]) hq (by omega) (I := slices_IndexFunc_string_f132.F) (F := slices_DeleteFunc_string_f132.F)
    (idx_ev (d := (⟨#[]⟩ : ByteArray)) (p := fun x => beqS x ⟨#[]⟩) (q := fun _ x => impl_wordsOf_1.F x) (l0 := slices_IndexFunc_string_f132.l0) (fun k x0 x7 x8 => by rw [slices_IndexFunc_string_f132.l0]) hq (by omega) (fun k a0 => rfl)) (fun k a0 => rfl)
  rw [notEmpty] at this
  exact this

/-! ### Words that are omitted -/
def om (s : ByteArray) : Bool := beqS (lowS s) ⟨#[97]⟩ || (beqS (lowS s) ⟨#[97, 110]⟩ || (beqS (lowS s) ⟨#[97, 110, 100]⟩ || (beqS (lowS s) ⟨#[102, 111, 114]⟩ || (beqS (lowS s) ⟨#[105, 110]⟩ || (beqS (lowS s) ⟨#[111, 102]⟩ || (beqS (lowS s) ⟨#[111, 110]⟩ || beqS (lowS s) ⟨#[116, 104, 101]⟩))))))
theorem cb1 (c : Bool) : (bif c then some true else some false) = some c := by cases c <;> rfl
theorem cb2 (c d : Bool) : (bif c then some c else some d) = some (c || d) := by cases c <;> rfl
theorem small_ev (s : ByteArray) (hs : s.size ≤ 1048576) : Ev (fun k => spec_l19Small.F k s) (om s) := by
  unfold spec_l19Small.F om
  refine Ev.bind (specLower_ev s hs) ?_
  simp only [cb1, cb2]
  exact Ev.pure _
theorem omitted_ev (s : ByteArray) (hs : s.size ≤ 1048576) : Ev (fun k => impl_isOmitted.F k s) (om s) := by
  unfold impl_isOmitted.F om
  refine Ev.bind (lower_ev s hs) ?_
  simp only [cb1, cb2]
  exact Ev.pure _

/-! ### What is kept -/
theorem kw_small (s : ByteArray) : ∀ x ∈ kw s, 0 < x.size ∧ x.size ≤ s.size := fun x hx => by
  obtain ⟨h1, h2⟩ := List.mem_filter.1 hx
  exact ⟨by simpa [pos] using h2, words_small _ _ x h1⟩
theorem kw_len (s : ByteArray) : (kw s).length ≤ s.size + 1 := Nat.le_trans (List.length_filter_le _ _) (words_len s).2
theorem kept_l0 (W : List ByteArray) (hW : ∀ x ∈ W, x.size ≤ 4000) (hl : W.length ≤ 4001) : ∀ n i : Nat, i + n = W.length → ∀ acc : List ByteArray, acc.length ≤ i → Ev (fun k => spec_l19Kept.l0 k W acc i) (W, acc ++ (W.drop i).filter fun x => !om x)
  | 0, i, h, acc, ha => by
    refine Ev.step (fun k => by rw [spec_l19Kept.l0]) ?_
    simp (disch := omega) only [cneg]
    rw [List.drop_eq_nil_of_le (by omega), List.filter_nil, List.append_nil]
    exact Ev.pure _
  | n + 1, i, h, acc, ha => by
    have hi : i < W.length := by omega
    refine Ev.step (fun k => by rw [spec_l19Kept.l0]) ?_
    simp (disch := omega) only [cpos, Int.toNat_natCast, getD_at hi]
    have := hW _ (List.getElem_mem hi)
    refine Ev.bind (small_ev _ (by omega)) ?_
    rw [List.drop_eq_getElem_cons hi, List.filter_cons]
    cases ho : om W[i] with
    | true =>
      simp (disch := omega) only [Bool.not_true, cond_false, wrap_in, Bool.false_eq_true, if_false]
      exact kept_l0 W hW hl n (i + 1) (by omega) acc (by omega)
    | false =>
      have hr : room (acc.length + ([W[i]] : List ByteArray).length) .str = true := room_s (by simp; omega)
      simp (disch := omega) only [Bool.not_false, cond_true, cpos, hr, wrap_in, if_true]
      have := kept_l0 W hW hl n (i + 1) (by omega) (acc ++ [W[i]]) (by simp; omega)
      rw [List.append_assoc] at this
      exact this
def toldW (s : ByteArray) : List ByteArray × Bool := if (kw s).length ≤ 1 then (kw s, false) else if ((kw s).filter fun x => !om x).length = 0 then (kw s, true) else ((kw s).filter fun x => !om x, true)
theorem specKept_ev (s : ByteArray) (hs : s.size ≤ 40) : Ev (fun k => spec_l19Kept.F k s) (toldW s) := by
  unfold spec_l19Kept.F
  have hW := kw_small s
  have hl := kw_len s
  have h2 := kept_l0 (kw s) (fun x hx => by have := (hW x hx).2; omega) (by omega) (kw s).length 0 (by omega) [] (Nat.le_refl _)
  rw [List.drop_zero, List.nil_append] at h2
  refine Ev.bind (specWords_ev s (by omega)) (Ev.bind h2 ?_)
  unfold toldW
  by_cases c1 : (kw s).length ≤ 1
  · rw [if_pos c1]
    by_cases c2 : (((kw s).filter fun x => !om x).length : Int) = 0
    · simp (disch := omega) only [ceq, cpos]; exact Ev.pure _
    · simp (disch := omega) only [cne, cpos]; exact Ev.pure _
  · rw [if_neg c1]
    by_cases c2 : ((kw s).filter fun x => !om x).length = 0
    · rw [if_pos c2]
      simp (disch := omega) only [ceq, cneg]; exact Ev.pure _
    · rw [if_neg c2]
      simp (disch := omega) only [cne, cneg]; exact Ev.pure _
theorem told_ev (s : ByteArray) (hs : s.size ≤ 40) : Ev (fun k => impl_told.F k s) (toldW s) := by
  unfold impl_told.F toldW
  have hW := kw_small s
  have hl := kw_len s
  refine Ev.bind (wordsOf_ev s (by omega)) ?_
  by_cases c1 : (kw s).length ≤ 1
  · rw [if_pos c1]
    simp (disch := omega) only [cpos]
    exact Ev.pure _
  · rw [if_neg c1]
    simp (disch := omega) only [cneg]
    have hc : slices_Clone_string.F (kw s) = some (kw s) := by
      unfold slices_Clone_string.F xClone
      rw [Nat.ble_eq_true_of_le (by omega)]
      rfl
    refine Ev.bind0 hc ?_
    have hq : ∀ x, x ∈ kw s → Ev (fun k => impl_isOmitted.F k x) (om x) := fun x hx => omitted_ev x (by have := (hW x hx).2; omega)
    refine Ev.bind (delete_ev (d := (⟨#[]⟩ : ByteArray)) (p := om) (q := impl_isOmitted.F) (xs := kw s) (l0 := slices_DeleteFunc_string_f89.l0) (fun k x0 x5 x6 => by rw [slices_DeleteFunc_string_f89.l0]) hq (by omega) (I := slices_IndexFunc_string_f89.F) (F := slices_DeleteFunc_string_f89.F)
      (idx_ev (d := (⟨#[]⟩ : ByteArray)) (p := om) (q := impl_isOmitted.F) (l0 := slices_IndexFunc_string_f89.l0) (fun k x0 x7 x8 => by rw [slices_IndexFunc_string_f89.l0]) hq (by omega) (fun k a0 => rfl)) (fun k a0 => rfl)) ?_
    by_cases c2 : ((kw s).filter fun x => !om x).length = 0
    · rw [if_pos c2]
      simp (disch := omega) only [ceq]; exact Ev.pure _
    · rw [if_neg c2]
      simp (disch := omega) only [cne]; exact Ev.pure _
theorem told_small (s : ByteArray) : (∀ x ∈ (toldW s).1, 0 < x.size ∧ x.size ≤ s.size) ∧ (toldW s).1.length ≤ s.size + 1 := by
  have hW := kw_small s
  have hl := kw_len s
  have hf := List.length_filter_le (fun x => !om x) (kw s)
  unfold toldW
  split
  · exact ⟨hW, hl⟩
  · split
    · exact ⟨hW, hl⟩
    · exact ⟨fun x hx => hW x (List.mem_filter.1 hx).1, by show ((kw s).filter fun x => !om x).length ≤ _; omega⟩
end Go.Proofs.YtnffgabfibafjaaDoor
