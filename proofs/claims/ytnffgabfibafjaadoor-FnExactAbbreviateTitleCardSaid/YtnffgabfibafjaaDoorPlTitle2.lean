/- Plain laws: a text, abbreviated. -/
import Derived.Test.YtnffgabfibafjaaDoorPlTitle
namespace Go.Proofs.YtnffgabfibafjaaDoor
open Go.Gx
set_option linter.unusedVariables false
set_option linter.unusedSimpArgs false

/-! ### Words put together -/
theorem tail_cons (x : List UInt8) (r : List (List UInt8)) : Lib.joinTail [32] (x :: r) = 32 :: (x ++ Lib.joinTail [32] r) := by simp [Lib.joinTail]
theorem e32 : (⟨#[32]⟩ : ByteArray).size = 1 := rfl
theorem L32 : L ⟨#[32]⟩ = [32] := rfl
theorem join_l0 (W : List ByteArray) (hW : ∀ x ∈ W, x.size ≤ 1048576) (hl : W.length ≤ 8192) : ∀ n i : Nat, i + n = W.length → 1 ≤ i → ∀ acc : ByteArray, acc.size ≤ 1048577 * i →
    ∃ r, Ev (fun k => spec_l6Join.l0 k W acc i) r ∧ L r = L acc ++ Lib.joinTail [32] ((W.drop i).map L) ∧ r.size ≤ 1048577 * W.length
  | 0, i, h, h0, acc, ha => by
    refine ⟨acc, Ev.step (fun k => by rw [spec_l6Join.l0]) ?_, ?_, by rw [show W.length = i by omega]; exact ha⟩
    · simp (disch := omega) only [cneg]; exact Ev.pure _
    · rw [List.drop_eq_nil_of_le (by omega)]; simp [Lib.joinTail]
  | n + 1, i, h, h0, acc, ha => by
    have hi : i < W.length := by omega
    have hx := hW _ (List.getElem_mem hi)
    obtain ⟨r, r1, r2, r3⟩ := join_l0 W hW hl n (i + 1) (by omega) (by omega) (acc ++ ⟨#[32]⟩ ++ W[i]) (by rw [size_app, size_app, e32]; omega)
    refine ⟨r, Ev.step (fun k => by rw [spec_l6Join.l0]) ?_, ?_, r3⟩
    · simp (disch := (try simp only [size_app, e32]); omega) only [cpos, Int.toNat_natCast, getD_at hi, cble, wrap_in]
      exact r1
    · rw [r2, List.drop_eq_getElem_cons hi, List.map_cons, tail_cons, L_append, L_append, L32]
      simp
theorem join_ev (W : List ByteArray) (hW : ∀ x ∈ W, x.size ≤ 1048576) (hl : W.length ≤ 8192) : ∃ r, Ev (fun k => spec_l6Join.F k W) r ∧ strings_Join.F W ⟨#[32]⟩ = some r ∧ L r = Lib.join (W.map L) [32] := by
  have key : ∃ r, Ev (fun k => spec_l6Join.F k W) r ∧ L r = Lib.join (W.map L) [32] ∧ r.size ≤ 1048577 * W.length := by
    unfold spec_l6Join.F
    match W, hW, hl with
    | [], _, _ =>
      refine ⟨⟨#[]⟩, Ev.bind (a := ⟨#[]⟩) ?_ (Ev.pure _), rfl, Nat.zero_le _⟩
      refine Ev.step (fun k => by rw [spec_l6Join.l0]) ?_
      exact Ev.pure _
    | x :: W, hW, hl =>
      have hx := hW x List.mem_cons_self
      have e00 : ∀ t : ByteArray, (⟨#[]⟩ : ByteArray) ++ t = t := fun t => L_inj (by rw [L_append]; rfl)
      have e0 : (⟨#[]⟩ : ByteArray).size = 0 := rfl
      obtain ⟨r, r1, r2, r3⟩ := join_l0 (x :: W) hW hl W.length 1 (by rw [List.length_cons]; omega) (Nat.le_refl _) x (by omega)
      refine ⟨r, Ev.bind (a := r) ?_ (Ev.pure _), ?_, r3⟩
      · refine Ev.step (fun k => by rw [spec_l6Join.l0]) ?_
        have r1' : Ev (fun k => spec_l6Join.l0 k (x :: W) x (0 + 1)) r := r1
        have hlen : (0 : Int) < ((x :: W).length : Int) := by rw [List.length_cons]; omega
        have hg : (x :: W).getD (0 : Int).toNat (⟨#[]⟩ : ByteArray) = x := rfl
        simp (disch := (try simp only [e0]); omega) only [cpos, cneg, hg, e00, cble, wrap_in]
        exact r1'
      · rw [r2, List.map_cons, Lib.join_cons]; rfl
  obtain ⟨r, r1, r2, r3⟩ := key
  refine ⟨r, r1, ?_, r2⟩
  unfold strings_Join.F xJoin
  have e1 : Lib.join (W.map (·.data.toList)) (⟨#[32]⟩ : ByteArray).data.toList = L r := by rw [r2]; rfl
  rw [e1, Nat.ble_eq_true_of_le (by omega), Nat.ble_eq_true_of_le (by rw [L_size]; omega)]
  show some _ = some r
  congr 1
/-! ### A list, changed from its begin -/
def ms {α : Type} (f : α → α) (W : List α) (i : Nat) : List α := (W.take i).map f ++ W.drop i
section
variable {α : Type} (f : α → α) (W : List α)
theorem ms_len (i : Nat) : (ms f W i).length = W.length := by unfold ms; simp; omega
theorem ms_zero : ms f W 0 = W := by simp [ms]
theorem ms_all : ms f W W.length = W.map f := by simp [ms]
theorem ms_at {i : Nat} (h : i < W.length) (d : α) : (ms f W i).getD i d = W[i] := by
  unfold ms
  rw [List.getD_eq_getElem?_getD, List.getElem?_append_right (by simp; omega)]
  simp [Nat.min_eq_left (Nat.le_of_lt h), h]
theorem ms_set {i : Nat} (h : i < W.length) : (ms f W i).set i (f W[i]) = ms f W (i + 1) := by
  unfold ms
  rw [List.set_append_right _ _ (by simp; omega)]
  simp only [List.length_map, List.length_take, Nat.min_eq_left (Nat.le_of_lt h), Nat.sub_self]
  rw [List.drop_eq_getElem_cons h, List.set_cons_zero, List.take_add_one, List.getElem?_eq_getElem h]
  simp only [Option.toList_some, List.map_append, List.map_cons, List.map_nil, List.append_assoc, List.cons_append, List.nil_append]
end
/-! ### The short forms -/
open Classical in
noncomputable def shW (xs : List Abbr) (s : ByteArray) : ByteArray := if h : ∃ r, Ev (fun k => spec_l19Short.F k xs s) r ∧ Ev (fun k => impl_shortWord.F k xs s) r ∧ r.size ≤ 1048576 then h.choose else s
theorem shW_ev (xs : List Abbr) (hs : smalls xs) (s : ByteArray) (h0 : 0 < s.size) (h1 : s.size ≤ 1048576) : Ev (fun k => spec_l19Short.F k xs s) (shW xs s) ∧ Ev (fun k => impl_shortWord.F k xs s) (shW xs s) ∧ (shW xs s).size ≤ 1048576 := by
  have h := short_ev xs hs s h0 h1
  unfold shW
  rw [dif_pos h]
  exact h.choose_spec
theorem specShorts_l0 (xs : List Abbr) (hs : smalls xs) (W : List ByteArray) (hW : ∀ x ∈ W, 0 < x.size ∧ x.size ≤ 1048576) (hl : W.length ≤ 8192) : ∀ n i : Nat, i + n = W.length → ∀ acc : List ByteArray, acc.length ≤ i → Ev (fun k => spec_l19Title.l0 k xs W acc i) (acc ++ (W.drop i).map (shW xs))
  | 0, i, h, acc, ha => by
    refine Ev.step (fun k => by rw [spec_l19Title.l0]) ?_
    simp (disch := omega) only [cneg]
    rw [List.drop_eq_nil_of_le (by omega), List.map_nil, List.append_nil]
    exact Ev.pure _
  | n + 1, i, h, acc, ha => by
    have hi : i < W.length := by omega
    obtain ⟨h1, h2⟩ := hW _ (List.getElem_mem hi)
    refine Ev.step (fun k => by rw [spec_l19Title.l0]) ?_
    simp (disch := omega) only [cpos, Int.toNat_natCast, getD_at hi]
    refine Ev.bind (shW_ev xs hs _ h1 h2).1 ?_
    have hr : room (acc.length + ([shW xs W[i]] : List ByteArray).length) .str = true := room_s (by simp; omega)
    simp (disch := omega) only [hr, cond_true, wrap_in]
    have := specShorts_l0 xs hs W hW hl n (i + 1) (by omega) (acc ++ [shW xs W[i]]) (by simp; omega)
    rw [List.append_assoc] at this
    rw [List.drop_eq_getElem_cons hi, List.map_cons]
    exact this
theorem shorts_l0 (xs : List Abbr) (hs : smalls xs) (W : List ByteArray) (hW : ∀ x ∈ W, 0 < x.size ∧ x.size ≤ 1048576) (hl : W.length ≤ 8192) : ∀ n i : Nat, i + n = W.length → Ev (fun k => impl_abbreviateTitle.l0 k xs (ms (shW xs) W i) W.length i) (W.map (shW xs))
  | 0, i, h => by
    refine Ev.step (fun k => by rw [impl_abbreviateTitle.l0]) ?_
    simp (disch := omega) only [cneg]
    rw [show i = W.length by omega, ms_all]
    exact Ev.pure _
  | n + 1, i, h => by
    have hi : i < W.length := by omega
    have hm := ms_len (shW xs) W i
    obtain ⟨h1, h2⟩ := hW _ (List.getElem_mem hi)
    refine Ev.step (fun k => by rw [impl_abbreviateTitle.l0]) ?_
    simp (disch := omega) only [cpos, Int.toNat_natCast, ms_at (shW xs) W hi]
    refine Ev.bind (shW_ev xs hs _ h1 h2).2.1 ?_
    simp (disch := omega) only [cpos, ms_set (shW xs) W hi, wrap_in]
    exact shorts_l0 xs hs W hW hl n (i + 1) (by omega)

/-! ### A single word -/
theorem some_word (s : ByteArray) (hl : bt s (s.size - 1) ≠ 32) : ∀ n i : Nat, i + n = s.size → ∀ st : Nat, st ≤ i → st < s.size → (∀ j, st ≤ j → j < i → (L s)[j]? ≠ some 32) → 0 < ((wordsFrom s st).filter pos).length
  | 0, i, h, st, h1, h2, hn => by
    rw [words_end s st fun j hj => by
      by_cases hj2 : j < i
      · exact hn j hj hj2
      · rw [List.getElem?_eq_none (by rw [L_size]; omega)]; exact fun h => by cases h]
    rw [fpos_one s st s.size (by omega) (Nat.le_refl _), if_pos h2]
    simp
  | n + 1, i, h, st, h1, h2, hn => by
    have hi : i < s.size := by omega
    by_cases c : bt s i = 32
    · have hi2 : i + 1 < s.size := by
        rcases Nat.lt_or_ge (i + 1) s.size with h3 | h3
        · exact h3
        · exact absurd (by rw [show s.size - 1 = i by omega]; exact c) hl
      rw [words_hit s st i h1 hi ((bt_sp hi).1 c) hn, fpos_one s st i h1 (by omega)]
      have := some_word s hl n (i + 1) (by omega) (i + 1) (Nat.le_refl _) hi2 (fun j h1 h2 => by omega)
      simp; omega
    · exact some_word s hl n (i + 1) (by omega) st (by omega) h2 (fun j h3 h4 => by
        rcases Nat.lt_or_ge j i with h5 | h5
        · exact hn j h3 h5
        · obtain rfl : j = i := by omega
          exact fun e => c ((bt_sp hi).2 e))
theorem one_word (s : ByteArray) (hl : bt s (s.size - 1) ≠ 32) : ∀ n i : Nat, i + n = s.size → 1 ≤ i → (∀ j, j < i → (L s)[j]? ≠ some 32) → ((wordsFrom s 0).filter pos).length ≤ 1 → (wordsFrom s 0).filter pos = [s]
  | 0, i, h, h0, hn, hlen => by
    rw [words_end s 0 fun j hj => by
      by_cases hj2 : j < i
      · exact hn j hj2
      · rw [List.getElem?_eq_none (by rw [L_size]; omega)]; exact fun h => by cases h]
    rw [fpos_one s 0 s.size (by omega) (Nat.le_refl _), if_pos (by omega), sub_self]
    rfl
  | n + 1, i, h, h0, hn, hlen => by
    have hi : i < s.size := by omega
    by_cases c : bt s i = 32
    · have hi2 : i + 1 < s.size := by
        rcases Nat.lt_or_ge (i + 1) s.size with h3 | h3
        · exact h3
        · exact absurd (by rw [show s.size - 1 = i by omega]; exact c) hl
      rw [words_hit s 0 i (by omega) hi ((bt_sp hi).1 c) (fun j _ h => hn j h), fpos_one s 0 i (by omega) (by omega), if_pos (by omega)] at hlen
      have := some_word s hl n (i + 1) (by omega) (i + 1) (Nat.le_refl _) hi2 (fun j h1 h2 => by omega)
      rw [List.length_append, List.length_singleton] at hlen
      omega
    · exact one_word s hl n (i + 1) (by omega) (by omega) (fun j h4 => by
        rcases Nat.lt_or_ge j i with h5 | h5
        · exact hn j h5
        · obtain rfl : j = i := by omega
          exact fun e => c ((bt_sp hi).2 e)) hlen
theorem kw_one (s : ByteArray) (he : edge s = true) (hl : (kw s).length ≤ 1) : Lib.join ((kw s).map L) [32] = L s := by
  unfold kw at hl ⊢
  rw [← words_from] at hl ⊢
  unfold edge at he
  by_cases hz : s.size = 0
  · rw [words_end s 0 fun j hj => by rw [List.getElem?_eq_none (by rw [L_size]; omega)]; exact fun h => by cases h]
    rw [fpos_one s 0 s.size (by omega) (Nat.le_refl _), if_neg (by omega)]
    have : L s = [] := List.eq_nil_of_length_eq_zero hz
    rw [this]; rfl
  · rw [decide_eq_false hz, Bool.false_or, Bool.and_eq_true, bne_iff_ne, bne_iff_ne] at he
    rw [one_word s he.2 (s.size - 1) 1 (by omega) (Nat.le_refl _) (fun j hj => by
      obtain rfl : j = 0 := by omega
      exact fun e => he.1 ((bt_sp (by omega)).2 e)) hl]
    simp [Lib.join_one]

/-! ### The title -/
theorem title_ev (xs : List Abbr) (hs : smalls xs) (s : ByteArray) (ht : textB s = true) : ∃ r, Ev (fun k => spec_l19Title.F k xs s) r ∧ Ev (fun k => impl_abbreviateTitle.F k xs s) r := by
  unfold textB at ht
  simp only [Bool.and_eq_true, decide_eq_true_eq] at ht
  obtain ⟨h40, _, he⟩ := ht
  obtain ⟨hW, hl⟩ := told_small s
  have k1 := specKept_ev s h40
  have k2 := told_ev s h40
  unfold spec_l19Title.F impl_abbreviateTitle.F
  cases hb : (toldW s).2 with
  | false =>
    have hk : toldW s = (kw s, false) ∧ (kw s).length ≤ 1 := by
      unfold toldW at hb ⊢
      split at hb
      · rename_i c; rw [if_pos c]; exact ⟨rfl, c⟩
      · split at hb <;> cases hb
    obtain ⟨r, r1, r2, r3⟩ := join_ev (toldW s).1 (fun x hx => by have := (hW x hx).2; omega) (by omega)
    have : r = s := L_inj (by rw [r3, hk.1, kw_one s he hk.2])
    subst this
    refine ⟨r, Ev.bind k1 ?_, Ev.bind k2 ?_⟩
    · rw [hb]; exact Ev.pure _
    · rw [hb]; exact Ev.bind0 r2 (Ev.pure _)
  | true =>
    have hW' : ∀ x ∈ (toldW s).1, 0 < x.size ∧ x.size ≤ 1048576 := fun x hx => by have := hW x hx; omega
    have s1 := specShorts_l0 xs hs (toldW s).1 hW' (by omega) (toldW s).1.length 0 (by omega) [] (Nat.le_refl _)
    have s2 := shorts_l0 xs hs (toldW s).1 hW' (by omega) (toldW s).1.length 0 (by omega)
    rw [List.drop_zero, List.nil_append] at s1
    rw [ms_zero] at s2
    obtain ⟨r, r1, r2, r3⟩ := join_ev ((toldW s).1.map (shW xs)) (fun x hx => by
      obtain ⟨y, hy, rfl⟩ := List.mem_map.1 hx
      obtain ⟨h1, h2⟩ := hW' y hy
      exact (shW_ev xs hs y h1 h2).2.2) (by rw [List.length_map]; omega)
    refine ⟨r, Ev.bind k1 ?_, Ev.bind k2 ?_⟩
    · rw [hb]; exact Ev.bind s1 (Ev.bind r1 (Ev.pure _))
    · rw [hb]; exact Ev.bind s2 (Ev.bind0 r2 (Ev.pure _))
end Go.Proofs.YtnffgabfibafjaaDoor
