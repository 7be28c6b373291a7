/- Plain laws: the lines of a text. -/
import Derived.Test.YtahacbcnjfoknaaDoorHL
import Derived.Test.YtahacbcnjfoknaaDoorGxEv
import Derived.Lib.IndexBytes
import Derived.Lib.IndexLaws
import Derived.Lib.CountLaws
namespace Go.Proofs.YtahacbcnjfoknaaDoor
open Go.Gx
set_option linter.unusedVariables false
set_option linter.unusedSimpArgs false

theorem getD_at {α : Type} {xs : List α} {i : Nat} (h : i < xs.length) (d : α) : xs.getD i d = xs[i] := by simp [List.getD, List.getElem?_eq_getElem h]
theorem size_app (s t : ByteArray) : (s ++ t).size = s.size + t.size := by
  rw [← L_size, L_append, List.length_append, L_size, L_size]
theorem in_ev (a b c : Int) : spec_l1In.F a b c = some (decide (a ≥ b) && decide (a ≤ c)) := by
  unfold spec_l1In.F
  cases decide (a ≥ b) <;> rfl
theorem inside_ev (a b c : Int) : impl_inside.F a b c = some (decide (a ≥ b) && decide (a ≤ c)) := by
  unfold impl_inside.F
  cases decide (a ≥ b) <;> rfl
def fits (s : ByteArray) (w : Int) : Bool := decide ((s.size : Int) ≤ 4000) && (decide (w ≥ 10) && decide (w ≤ 120))
theorem width_ev (s : ByteArray) (w : Int) : spec_l17Width.F s w = some (fits s w) := by
  unfold spec_l17Width.F fits
  rw [in_ev]
  cases decide ((s.size : Int) ≤ 4000) <;> rfl
theorem canWrap_ev (s : ByteArray) (w : Int) : impl_canWrap.F s w = some (fits s w) := by
  unfold impl_canWrap.F fits
  rw [inside_ev]
  cases decide ((s.size : Int) ≤ 4000) <;> rfl

/-! ### Words -/
theorem sub_tail (s : ByteArray) (st a : Nat) : (s.extract st s.size).extract a (s.extract st s.size).size = s.extract (st + a) s.size := by
  apply L_inj
  have e : (L s).take s.size = L s := List.take_of_length_le (Nat.le_refl _)
  rw [L_extract, L_extract s (st + a), ← L_size (s.extract st s.size), L_extract, List.take_length, List.drop_drop, e]
theorem sub_head (s : ByteArray) (st i : Nat) (h : st ≤ i) (hi : i ≤ s.size) : (s.extract st s.size).extract 0 (i - st) = s.extract st i := by
  apply L_inj
  rw [L_extract, L_extract, L_extract, List.drop_zero, List.take_of_length_le (show (L s).length ≤ s.size from Nat.le_refl _), List.drop_take]
def sp : ByteArray := ⟨#[32]⟩
theorem ib_hit {l : List UInt8} {c : UInt8} {i : Nat} (h : l[i]? = some c) (hn : ∀ j, j < i → l[j]? ≠ some c) : Lib.indexByte l c = i := by
  have hg := Lib.indexByte_ge l c
  by_cases e : Lib.indexByte l c = -1
  · exact absurd h (Lib.indexByte_none e i)
  · obtain ⟨o, ho⟩ : ∃ o : Nat, Lib.indexByte l c = o := ⟨(Lib.indexByte l c).toNat, by omega⟩
    obtain ⟨h1, h2⟩ := Lib.indexByte_some ho
    rcases Nat.lt_trichotomy o i with h3 | h3 | h3
    · exact absurd h1 (hn o h3)
    · rw [ho, h3]
    · exact absurd h (h2 i h3)
theorem ib_miss {l : List UInt8} {c : UInt8} (hn : ∀ j : Nat, l[j]? ≠ some c) : Lib.indexByte l c = -1 := by
  have hg := Lib.indexByte_ge l c
  by_cases e : Lib.indexByte l c = -1
  · exact e
  · obtain ⟨o, ho⟩ : ∃ o : Nat, Lib.indexByte l c = o := ⟨(Lib.indexByte l c).toNat, by omega⟩
    exact absurd (Lib.indexByte_some ho).1 (hn o)
theorem indexB_sp (s : ByteArray) : Lib.indexB s sp = Lib.indexByte (L s) 32 := Lib.one s sp rfl
theorem sub_at (s : ByteArray) (st j : Nat) : (L (s.extract st s.size))[j]? = (L s)[st + j]? := by
  rw [L_extract, List.take_of_length_le (show (L s).length ≤ s.size from Nat.le_refl _), List.getElem?_drop]
def wordsFrom (s : ByteArray) (st : Nat) : List ByteArray := Lib.splitB sp 0 (Lib.countB (s.extract st s.size) sp) (s.extract st s.size)
theorem words_end (s : ByteArray) (st : Nat) (h : ∀ j, st ≤ j → (L s)[j]? ≠ some 32) : wordsFrom s st = [s.extract st s.size] := by
  unfold wordsFrom
  rw [Lib.countB_miss _ _ ((indexB_sp _).trans (ib_miss fun j => by rw [sub_at]; exact h _ (by omega)))]
  rfl
theorem words_hit (s : ByteArray) (st i : Nat) (h1 : st ≤ i) (hi : i < s.size) (hb : (L s)[i]? = some 32) (h : ∀ j, st ≤ j → j < i → (L s)[j]? ≠ some 32) : wordsFrom s st = s.extract st i :: wordsFrom s (i + 1) := by
  have e : Lib.indexB (s.extract st s.size) sp = ((i - st : Nat) : Int) := (indexB_sp _).trans (ib_hit (by rw [sub_at, show st + (i - st) = i by omega]; exact hb) fun j hj => by rw [sub_at]; exact h _ (by omega) (by omega))
  have e1 : sp.size = 1 := rfl
  unfold wordsFrom
  rw [Lib.countB_hit _ _ _ (by rw [e1]; exact Nat.le_refl _) e, Nat.add_comm 1, Lib.splitB_hit _ _ _ _ _ e, Nat.add_zero, sub_head s st i h1 (by omega), e1, sub_tail, show st + (i - st + 1) = i + 1 by omega]
theorem split_l0 (s : ByteArray) (hs : s.size ≤ 4000) : ∀ n i : Nat, i + n = s.size → ∀ st : Nat, st ≤ i → (∀ j, st ≤ j → j < i → (L s)[j]? ≠ some 32) → ∀ acc : List ByteArray, acc.length ≤ i →
    ∃ acc' st', Ev (fun k => spec_l1Split.l0 k s 32 acc st i) (s, acc', ((st' : Nat) : Int)) ∧ st' ≤ s.size ∧ acc'.length ≤ s.size ∧ acc' ++ [s.extract st' s.size] = acc ++ wordsFrom s st
  | 0, i, h, st, h1, hn, acc, ha => by
    refine ⟨acc, st, Ev.step (fun k => by rw [spec_l1Split.l0]) ?_, by omega, by omega, ?_⟩
    · simp (disch := omega) only [cneg]
      exact Ev.pure _
    · rw [words_end s st fun j hj => ?_]
      by_cases hj2 : j < i
      · exact hn j hj hj2
      · rw [List.getElem?_eq_none (by rw [L_size]; omega)]; exact fun h => by cases h
  | n + 1, i, h, st, h1, hn, acc, ha => by
    have hi : i < (L s).length := by rw [L_size]; omega
    have hbt : bt s i = ((L s)[i].toNat : Int) := by rw [L_bt, getD_at hi]
    by_cases c : bt s i = 32
    · have hb : (L s)[i]? = some 32 := by
        rw [List.getElem?_eq_getElem hi]
        congr 1
        apply UInt8.toNat_inj.1
        have : (32 : UInt8).toNat = 32 := rfl
        omega
      obtain ⟨acc', st', r1, r2, r3, r4⟩ := split_l0 s hs n (i + 1) (by omega) (i + 1) (Nat.le_refl _) (fun j h1 h2 => by omega) (acc ++ [s.extract st i]) (by simp; omega)
      refine ⟨acc', st', Ev.step (fun k => by rw [spec_l1Split.l0]) ?_, r2, r3, ?_⟩
      · have hr : room (acc.length + ([s.extract st i] : List ByteArray).length) .str = true := by
          unfold room
          rw [Nat.ble_eq]
          have : nb .str = 16 := rfl
          rw [this]
          simp; omega
        simp (disch := omega) only [cpos, Int.toNat_natCast, ceq, hr, cond_true, wrap_in]
        exact r1
      · rw [r4, words_hit s st i h1 (by omega) hb hn]; simp
    · obtain ⟨acc', st', r1, r2, r3, r4⟩ := split_l0 s hs n (i + 1) (by omega) st (by omega) (fun j h1 h2 => by
        rcases Nat.lt_or_ge j i with h3 | h3
        · exact hn j h1 h3
        · obtain rfl : j = i := by omega
          rw [List.getElem?_eq_getElem hi]
          intro e
          apply c
          rw [hbt, Option.some.inj e]; rfl) acc (by omega)
      refine ⟨acc', st', Ev.step (fun k => by rw [spec_l1Split.l0]) ?_, r2, r3, r4⟩
      simp (disch := omega) only [cpos, Int.toNat_natCast, cne, wrap_in]
      exact r1
theorem sub_self (s : ByteArray) : s.extract 0 s.size = s := by
  apply L_inj
  rw [L_extract, List.take_of_length_le (show (L s).length ≤ s.size from Nat.le_refl _), List.drop_zero]
def words (s : ByteArray) : List ByteArray := Lib.splitB sp 0 (Lib.countB s sp) s
theorem words_from (s : ByteArray) : wordsFrom s 0 = words s := by unfold wordsFrom words; rw [sub_self]
theorem specSplit_ev (s : ByteArray) (hs : s.size ≤ 4000) : Ev (fun k => spec_l1Split.F k s 32) (words s) := by
  unfold spec_l1Split.F
  obtain ⟨acc', st', r1, r2, r3, r4⟩ := split_l0 s hs s.size 0 (by omega) 0 (Nat.le_refl _) (fun j h1 h2 => by omega) [] (Nat.le_refl _)
  refine Ev.bind r1 ?_
  have hr : room (acc'.length + ([s.extract st' s.size] : List ByteArray).length) .str = true := by
    unfold room
    rw [Nat.ble_eq]
    have : nb .str = 16 := rfl
    rw [this]
    simp; omega
  simp (disch := omega) only [cpos, Int.toNat_natCast, hr, cond_true, r4, words_from, List.nil_append]
  exact Ev.pure _
theorem split_ev (s : ByteArray) (hs : s.size ≤ 4000) : strings_Split.F s ⟨#[32]⟩ = some (words s) := by
  unfold strings_Split.F xSplit
  rw [Nat.ble_eq_true_of_le (by omega)]
  rfl
theorem words_small : ∀ (k : Nat) (s : ByteArray), ∀ x ∈ Lib.splitB sp 0 k s, x.size ≤ s.size
  | 0, s, x, hx => by
    rw [Lib.splitB_zero] at hx
    simp only [List.mem_singleton] at hx
    rw [hx]; exact Nat.le_refl _
  | k + 1, s, x, hx => by
    unfold Lib.splitB at hx
    split at hx
    · simp only [List.mem_singleton] at hx
      rw [hx]; exact Nat.le_refl _
    · rcases List.mem_cons.1 hx with rfl | hx
      · rw [ByteArray.size_extract]; omega
      · have := words_small k _ x hx
        rw [ByteArray.size_extract] at this
        omega
theorem words_len (s : ByteArray) : 1 ≤ (words s).length ∧ (words s).length ≤ s.size + 1 := by
  unfold words
  have h1 : 1 ≤ sp.size := Nat.le_refl 1
  rw [Lib.splitB_all sp h1 0 _ s rfl]
  have := Lib.countB_le sp h1 s.size s (Nat.le_refl _)
  omega

/-! ### Indents -/
def indent (n : Nat) : ByteArray := ⟨(Lib.repeatL [32] n).toArray⟩
theorem indent_L (n : Nat) : L (indent n) = List.replicate n 32 := by
  unfold indent
  rw [L_mk]
  induction n with
  | zero => rfl
  | succ n ih => rw [Lib.repeatL, ih]; rfl
theorem indent_size (n : Nat) : (indent n).size = n := by rw [← L_size, indent_L, List.length_replicate]
theorem indent_next (n : Nat) : indent n ++ ⟨#[32]⟩ = indent (n + 1) := by
  apply L_inj
  rw [L_append, indent_L, indent_L, List.replicate_succ']; rfl
theorem indent_l0 (s : ByteArray) (w : Int) (m : Nat) (hm : m ≤ 8) : ∀ n j : Nat, j + n = m → Ev (fun k => spec_l17Lines.l0 k s w m (indent j)) (s, w, indent m)
  | 0, j, h => by
    refine Ev.step (fun k => by rw [spec_l17Lines.l0]) ?_
    rw [indent_size]
    simp (disch := omega) only [cneg]
    rw [show j = m by omega]
    exact Ev.pure _
  | n + 1, j, h => by
    have e1 : (⟨#[32]⟩ : ByteArray).size = 1 := rfl
    refine Ev.step (fun k => by rw [spec_l17Lines.l0]) ?_
    rw [indent_size]
    simp (disch := omega) only [cpos, e1, cble, indent_next]
    exact indent_l0 s w m hm n (j + 1) (by omega)
theorem repeat_ev (m : Nat) (hm : m ≤ 8) : strings_Repeat.F ⟨#[32]⟩ m = some (indent m) := by
  unfold strings_Repeat.F xRepeat
  have e1 : (⟨#[32]⟩ : ByteArray).size = 1 := rfl
  rw [decide_eq_true (by omega), decide_eq_true (by omega), Nat.ble_eq_true_of_le (by rw [e1, Int.toNat_natCast]; omega)]
  rfl

/-! ### Lines -/
theorem room_str {n : Nat} (h : n ≤ 8192) : room n .str = true := by
  unfold room
  rw [Nat.ble_eq]
  have : nb .str = 16 := rfl
  rw [this]
  omega
theorem lines_l (W : List ByteArray) (m : Nat) (hm : m ≤ 8) (w : Int) (hw1 : 0 ≤ w) (hw2 : w ≤ 120) (hW : ∀ x ∈ W, x.size ≤ 4000) (hlen : W.length ≤ 4001) : ∀ n i : Nat, i + n = W.length → 1 ≤ i → ∀ (acc : List ByteArray) (line : ByteArray) (cnt : Int), acc.length ≤ i → line.size ≤ 5000 * (i + 1) → 1 ≤ cnt → cnt ≤ i →
    ∃ r, Ev (fun k => spec_l17Lines.l2 k w (indent m) W acc line i) r ∧ Ev (fun k => impl_hangingLines.l0 k w m acc line cnt W W.length i) r ∧ r.1.length ≤ 4001
  | 0, i, h, h0, acc, line, cnt, ha, hl, hc, hc2 => by
    refine ⟨(acc, line), Ev.step (fun k => by rw [spec_l17Lines.l2]) ?_, Ev.step (fun k => by rw [impl_hangingLines.l0]) ?_, ?_⟩
    · simp (disch := omega) only [cneg]; exact Ev.pure _
    · simp (disch := omega) only [cneg]; exact Ev.pure _
    · show acc.length ≤ 4001; omega
  | n + 1, i, h, h0, acc, line, cnt, ha, hl, hc, hc2 => by
    have hi : i < W.length := by omega
    have hx := hW _ (List.getElem_mem hi)
    have e1 : (⟨#[32]⟩ : ByteArray).size = 1 := rfl
    have ei := indent_size m
    by_cases c : (line.size : Int) + 1 + (W[i].size : Int) ≤ w
    · obtain ⟨r, r1, r2, r3⟩ := lines_l W m hm w hw1 hw2 hW hlen n (i + 1) (by omega) (by omega) acc (line ++ ⟨#[32]⟩ ++ W[i]) (cnt + 1) (by omega) (by rw [size_app, size_app, e1]; omega) (by omega) (by omega)
      refine ⟨r, Ev.step (fun k => by rw [spec_l17Lines.l2]) ?_, Ev.step (fun k => by rw [impl_hangingLines.l0]) ?_, r3⟩
      · simp (disch := (try simp only [size_app, e1]); omega) only [cpos, Int.toNat_natCast, getD_at hi, wrap_in, cble]
        exact r1
      · simp (disch := (try simp only [size_app, e1]); omega) only [cpos, cneg, Int.toNat_natCast, getD_at hi, wrap_in, cble]
        exact r2
    · obtain ⟨r, r1, r2, r3⟩ := lines_l W m hm w hw1 hw2 hW hlen n (i + 1) (by omega) (by omega) (acc ++ [line]) (indent m ++ W[i]) 1 (by simp; omega) (by rw [size_app, ei]; omega) (by omega) (by omega)
      have hr : room (acc.length + ([line] : List ByteArray).length) .str = true := room_str (by simp; omega)
      refine ⟨r, Ev.step (fun k => by rw [spec_l17Lines.l2]) ?_, Ev.step (fun k => by rw [impl_hangingLines.l0]) ?_, r3⟩
      · simp (disch := (try simp only [size_app, e1, ei]); omega) only [cpos, cneg, Int.toNat_natCast, getD_at hi, wrap_in, cble, hr, cond_true]
        exact r1
      · simp (disch := (try simp only [size_app, e1, ei]); omega) only [cpos, cneg, Int.toNat_natCast, getD_at hi, wrap_in, hr, cond_true]
        refine Ev.bind0 (repeat_ev m hm) ?_
        simp (disch := (try simp only [size_app, e1, ei]); omega) only [cpos, cneg, Int.toNat_natCast, wrap_in, cble]
        exact r2
theorem lines_ev (s : ByteArray) (hs : s.size ≤ 4000) (m : Nat) (hm : m ≤ 8) (w : Int) (hw1 : 0 ≤ w) (hw2 : w ≤ 120) : ∃ r, Ev (fun k => spec_l17Lines.F k s w m) r ∧ Ev (fun k => impl_hangingLines.F k s w m) r ∧ r.length ≤ 4002 := by
  unfold spec_l17Lines.F impl_hangingLines.F
  obtain ⟨hl1, hl2⟩ := words_len s
  have hW : ∀ x ∈ words s, x.size ≤ 4000 := fun x hx => Nat.le_trans (words_small _ _ x hx) hs
  have h0 : 0 < (words s).length := by omega
  have hx := hW _ (List.getElem_mem h0)
  have e0 : (⟨#[]⟩ : ByteArray).size = 0 := rfl
  have e00 : ∀ t : ByteArray, (⟨#[]⟩ : ByteArray) ++ t = t := fun t => L_inj (by rw [L_append]; rfl)
  obtain ⟨r, r1, r2, r3⟩ := lines_l (words s) m hm w hw1 hw2 hW (by omega) ((words s).length - 1) 1 (by omega) (Nat.le_refl _) [] (words s)[0] 1 (by simp) (by omega) (by omega) (by omega)
  have hr : room (r.1.length + ([r.2] : List ByteArray).length) .str = true := room_str (by simp; omega)
  refine ⟨r.1 ++ [r.2], ?_, ?_, by simp; omega⟩
  · have hi := indent_l0 s w m hm m 0 (by omega)
    rw [show indent 0 = ⟨#[]⟩ from rfl] at hi
    refine Ev.bind hi (Ev.bind (specSplit_ev s hs) ?_)
    simp (disch := omega) only [cpos]
    rw [show ((0 : Int).toNat) = 0 from rfl, getD_at h0]
    refine Ev.bind r1 ?_
    simp only [hr, cond_true]
    exact Ev.pure _
  · refine Ev.bind0 (split_ev s hs) (Ev.bind (a := r) ?_ ?_)
    · refine Ev.step (fun k => by rw [impl_hangingLines.l0]) ?_
      rw [show ((0 : Int).toNat) = 0 from rfl, getD_at h0, e00]
      have r2' : Ev (fun k => impl_hangingLines.l0 k w m [] (words s)[0] (0 + 1) (words s) (words s).length (0 + 1)) r := r2
      simp (disch := (try simp only [e0]); omega) only [cpos, cneg, wrap_in, cble]
      exact r2'
    · simp only [hr, cond_true]
      exact Ev.pure _

/-! ### Marks -/
theorem eqS_l0 (xs : List ByteArray) (hlen : xs.length ≤ 1048576) : ∀ n i : Nat, i + n = xs.length → Ev (fun k => laws_eqStringS.l0 k xs xs i) (.inr ())
  | 0, i, h => by
    refine Ev.step (fun k => by rw [laws_eqStringS.l0]) ?_
    simp (disch := omega) only [cneg]
    exact Ev.pure _
  | n + 1, i, h => by
    refine Ev.step (fun k => by rw [laws_eqStringS.l0]) ?_
    simp (disch := omega) only [cpos, Int.toNat_natCast, beqS_self, Bool.not_true, cond_false, wrap_in]
    exact eqS_l0 xs hlen n (i + 1) (by omega)
theorem eqS_ev (xs : List ByteArray) (hlen : xs.length ≤ 1048576) : Ev (fun k => laws_eqStringS.F k xs xs) true := by
  unfold laws_eqStringS.F
  simp (disch := omega) only [cbeq]
  exact Ev.bind (eqS_l0 xs hlen xs.length 0 (by omega)) (Ev.pure _)
theorem markText_l0 : ∀ n : Nat, n ≤ 2097152 → ∀ s : ByteArray, s.size + n ≤ 9223372036854775806 → ∃ r, Ev (fun k => laws_markText.l0 k (n : Int) s) r ∧ r.size ≤ s.size + n := fun n => by
  induction n using Nat.strongRecOn with
  | ind n ih =>
    intro hn s hs
    by_cases c : n = 0
    · refine ⟨s, Ev.step (fun k => by rw [laws_markText.l0]) ?_, by omega⟩
      simp (disch := omega) only [cneg]
      exact Ev.pure _
    · have ed : Int.tdiv (n : Int) 10 = ((n / 10 : Nat) : Int) := by
        rw [Int.tdiv_eq_ediv_of_nonneg (by omega)]; omega
      have e1 : ∀ v : Int, (strL ([v] : List Int)).size = 1 := fun v => rfl
      obtain ⟨r, r1, r2⟩ := ih (n / 10) (by omega) (by omega) (strL ([IntKind.wrap .u8 (IntKind.wrap .i64 (48 + Int.tmod (n : Int) 10))] : List Int) ++ s) (by rw [size_app, e1]; omega)
      rw [size_app, e1] at r2
      refine ⟨r, Ev.step (fun k => by rw [laws_markText.l0]) ?_, by omega⟩
      have w1 : IntKind.wrap .i64 (Int.tdiv (n : Int) 10) = ((n / 10 : Nat) : Int) := by rw [ed, wrap_in (by omega) (by omega)]
      have hz : ((10 : Nat) == 0) = false := rfl
      rw [w1, hz]
      simp only [cond_false]
      simp (disch := (try simp only [e1]); omega) only [cpos, cble]
      exact r1
theorem markText_ev (n : Nat) (hn : n ≤ 2097152) : ∃ r, Ev (fun k => laws_markText.F k (n : Int)) r := by
  unfold laws_markText.F
  by_cases c : n = 0
  · refine ⟨⟨#[109, 48]⟩, ?_⟩
    simp (disch := omega) only [cpos]
    exact Ev.pure _
  · obtain ⟨r, r1, r2⟩ := markText_l0 n hn ⟨#[]⟩ (by rw [show (⟨#[]⟩ : ByteArray).size = 0 from rfl]; omega)
    have e0 : (⟨#[]⟩ : ByteArray).size = 0 := rfl
    have e1 : (⟨#[109]⟩ : ByteArray).size = 1 := rfl
    refine ⟨⟨#[109]⟩ ++ r, ?_⟩
    simp (disch := omega) only [cneg]
    refine Ev.bind r1 ?_
    simp (disch := omega) only [e1, cble]
    exact Ev.pure _
open Classical in
noncomputable def mt (n : Nat) : ByteArray := if h : ∃ r, Ev (fun k => laws_markText.F k (n : Int)) r then h.choose else ⟨#[]⟩
theorem mt_ev (n : Nat) (hn : n ≤ 2097152) : Ev (fun k => laws_markText.F k (n : Int)) (mt n) := by
  have h := markText_ev n hn
  unfold mt
  rw [dif_pos h]
  exact h.choose_spec
noncomputable def marks (i : Nat) : List ByteArray := (List.range i).map fun j => mt (j + 1)
theorem marks_len (i : Nat) : (marks i).length = i := by simp [marks]
theorem mark_l0 (xs : List ByteArray) (hlen : xs.length ≤ 1048576) : ∀ n i : Nat, i + n = xs.length → Ev (fun k => laws_markStringS.l0 k (marks i ++ xs.drop i) ((1 + i : Nat) : Int) i) (marks xs.length, ((1 + xs.length : Nat) : Int))
  | 0, i, h => by
    have hl : (marks i ++ xs.drop i).length = xs.length := by rw [List.length_append, marks_len, List.length_drop]; omega
    refine Ev.step (fun k => by rw [laws_markStringS.l0]) ?_
    simp (disch := omega) only [cneg]
    rw [List.drop_eq_nil_of_le (by omega), List.append_nil, show i = xs.length by omega]
    exact Ev.pure _
  | n + 1, i, h => by
    have hi : i < xs.length := by omega
    have hl : (marks i ++ xs.drop i).length = xs.length := by rw [List.length_append, marks_len, List.length_drop]; omega
    refine Ev.step (fun k => by rw [laws_markStringS.l0]) ?_
    simp (disch := omega) only [cpos, Int.toNat_natCast]
    refine Ev.bind (mt_ev (1 + i) (by omega)) ?_
    have e : (marks i ++ xs.drop i).set i (mt (1 + i)) = marks (i + 1) ++ xs.drop (i + 1) := by
      rw [List.set_append_right _ _ (by rw [marks_len]; exact Nat.le_refl _), marks_len, Nat.sub_self, List.drop_eq_getElem_cons hi, List.set_cons_zero]
      unfold marks
      rw [List.range_succ, List.map_append, List.append_assoc, Nat.add_comm 1]
      rfl
    simp (disch := omega) only [wrap_in, e]
    rw [show (((1 + i : Nat) : Int) + 1) = ((1 + (i + 1) : Nat) : Int) by omega]
    exact mark_l0 xs hlen n (i + 1) (by omega)
theorem mark_ev (xs : List ByteArray) (hlen : xs.length ≤ 1048576) : Ev (fun k => laws_markStringS.F k xs 1) (marks xs.length, ((1 + xs.length : Nat) : Int)) := by
  unfold laws_markStringS.F
  refine Ev.bind (mark_l0 xs hlen xs.length 0 (by omega)) ?_
  rw [show Nat.beq (marks xs.length, ((1 + xs.length : Nat) : Int)).1.length xs.length = true by rw [Nat.beq_eq]; exact marks_len _]
  exact Ev.pure _
theorem held_l0 (m : Nat) (hlen : m ≤ 1048576) : ∀ n i : Nat, i + n = m → Ev (fun k => laws_heldStringS.l0 k (marks m) ((1 + i : Nat) : Int) i) (.inr ((1 + m : Nat) : Int))
  | 0, i, h => by
    have hl := marks_len m
    refine Ev.step (fun k => by rw [laws_heldStringS.l0]) ?_
    simp (disch := omega) only [cneg]
    rw [show i = m by omega]
    exact Ev.pure _
  | n + 1, i, h => by
    have hl := marks_len m
    have hi : i < (marks m).length := by omega
    have e : (marks m)[i] = mt (1 + i) := by simp [marks, Nat.add_comm]
    refine Ev.step (fun k => by rw [laws_heldStringS.l0]) ?_
    simp (disch := omega) only [cpos, Int.toNat_natCast, getD_at hi, e]
    refine Ev.bind (mt_ev (1 + i) (by omega)) ?_
    simp (disch := omega) only [beqS_self, Bool.not_true, cond_false, wrap_in]
    rw [show (((1 + i : Nat) : Int) + 1) = ((1 + (i + 1) : Nat) : Int) by omega]
    exact held_l0 m hlen n (i + 1) (by omega)
theorem held_ev (m : Nat) (hlen : m ≤ 1048576) : Ev (fun k => laws_heldStringS.F k (marks m) 1) ((1 + m : Nat) : Int) := by
  unfold laws_heldStringS.F
  exact Ev.bind (held_l0 m hlen m 0 (by omega)) (Ev.pure _)

/-! ### The laws -/
theorem hanging_ev (s : ByteArray) (w d : Int) : ∃ ls b, Ev (fun k => spec_HangingLines.F k s w d) (ls, b) ∧ Ev (fun k => impl_HangingLines.F k s w d) (ls, b) ∧ ls.length ≤ 4002 := by
  unfold spec_HangingLines.F impl_HangingLines.F
  have w1 := width_ev s w
  have w2 := canWrap_ev s w
  cases hf : fits s w with
  | false =>
    rw [hf] at w1 w2
    exact ⟨[], false, Ev.bind0 w1 (Ev.pure _), Ev.bind0 w2 (Ev.pure _), by simp⟩
  | true =>
    rw [hf] at w1 w2
    have d1 := in_ev d 0 8
    have d2 := inside_ev d 0 8
    cases hd : decide (d ≥ 0) && decide (d ≤ 8) with
    | false =>
      rw [hd] at d1 d2
      exact ⟨[], false, Ev.bind0 w1 (Ev.bind0 d1 (Ev.pure _)), Ev.bind0 w2 (Ev.bind0 d2 (Ev.pure _)), by simp⟩
    | true =>
      rw [hd] at d1 d2
      unfold fits at hf
      simp only [Bool.and_eq_true, decide_eq_true_eq] at hf hd
      obtain ⟨m, rfl⟩ : ∃ m : Nat, d = m := ⟨d.toNat, by omega⟩
      obtain ⟨r, r1, r2, r3⟩ := lines_ev s (by omega) m (by omega) w (by omega) (by omega)
      refine ⟨r, true, Ev.bind0 w1 ?_, Ev.bind0 w2 ?_, r3⟩
      · simp only [Bool.not_true, cond_false]
        refine Ev.bind0 d1 ?_
        simp only [Bool.not_true, cond_false]
        exact Ev.bind r1 (Ev.pure _)
      · simp only [Bool.not_true, cond_false]
        refine Ev.bind0 d2 ?_
        simp only [Bool.not_true, cond_false]
        exact Ev.bind r2 (Ev.pure _)
theorem wrap_ev (s : ByteArray) (w : Int) : ∃ ls b, Ev (fun k => spec_WrapText.F k s w) (ls, b) ∧ Ev (fun k => impl_WrapText.F k s w) (ls, b) ∧ ls.length ≤ 4002 := by
  unfold spec_WrapText.F impl_WrapText.F
  have w1 := width_ev s w
  have w2 := canWrap_ev s w
  cases hf : fits s w with
  | false =>
    rw [hf] at w1 w2
    exact ⟨[], false, Ev.bind0 w1 (Ev.pure _), Ev.bind0 w2 (Ev.pure _), by simp⟩
  | true =>
    rw [hf] at w1 w2
    unfold fits at hf
    simp only [Bool.and_eq_true, decide_eq_true_eq] at hf
    obtain ⟨r, r1, r2, r3⟩ := lines_ev s (by omega) 0 (by omega) w (by omega) (by omega)
    exact ⟨r, true, Ev.bind0 w1 (Ev.bind r1 (Ev.pure _)), Ev.bind0 w2 (Ev.bind r2 (Ev.pure _)), r3⟩
theorem hangingLines_law (s : ByteArray) (w d : Int) (h1 : WF .str s) (h2 : WF (.int .i64) w) (h3 : WF (.int .i64) d) : ∃ k, laws_FnExactHangingLines.F k s w d = some true := by
  refine Ev.get (?_ : Ev (fun k => laws_FnExactHangingLines.F k s w d) true)
  unfold laws_FnExactHangingLines.F
  by_cases c : (s.size : Int) > 1048576
  · simp (disch := omega) only [cpos]
    exact Ev.pure _
  simp (disch := omega) only [cneg]
  obtain ⟨ls, b, r1, r2, r3⟩ := hanging_ev s w d
  refine Ev.bind r1 (Ev.bind r2 (Ev.bind (eqS_ev ls (by omega)) ?_))
  simp only [beq_self_eq_true, Bool.not_true, cond_false]
  refine Ev.bind (mark_ev ls (by omega)) (Ev.bind (held_ev ls.length (by omega)) ?_)
  simp (disch := omega) only [cneg, cbeq]
  refine Ev.bind r2 (Ev.bind (eqS_ev ls (by omega)) ?_)
  simp only [beq_self_eq_true, Bool.not_true, cond_false]
  refine Ev.bind (held_ev ls.length (by omega)) ?_
  simp (disch := omega) only [cneg, cbeq]
  exact Ev.pure _
theorem wrapText_law (s : ByteArray) (w : Int) (h1 : WF .str s) (h2 : WF (.int .i64) w) : ∃ k, laws_FnExactWrapText.F k s w = some true := by
  refine Ev.get (?_ : Ev (fun k => laws_FnExactWrapText.F k s w) true)
  unfold laws_FnExactWrapText.F
  by_cases c : (s.size : Int) > 1048576
  · simp (disch := omega) only [cpos]
    exact Ev.pure _
  simp (disch := omega) only [cneg]
  obtain ⟨ls, b, r1, r2, r3⟩ := wrap_ev s w
  refine Ev.bind r1 (Ev.bind r2 (Ev.bind (eqS_ev ls (by omega)) ?_))
  simp only [beq_self_eq_true, Bool.not_true, cond_false]
  refine Ev.bind (mark_ev ls (by omega)) (Ev.bind (held_ev ls.length (by omega)) ?_)
  simp (disch := omega) only [cneg, cbeq]
  refine Ev.bind r2 (Ev.bind (eqS_ev ls (by omega)) ?_)
  simp only [beq_self_eq_true, Bool.not_true, cond_false]
  refine Ev.bind (held_ev ls.length (by omega)) ?_
  simp (disch := omega) only [cneg, cbeq]
  exact Ev.pure _
end Go.Proofs.YtahacbcnjfoknaaDoor
