/- The law FnExactBibliographyKeys returns true for every input, the listed package variables being as the program's text lays it: the card. -/
import Derived.Test.YtolcacancfmmiaaGreatDoorMbi7
import Derived.Lib.ItoaNum
import Derived.Test.YtolcacancfmmiaaGreatDoorCards
import Derived.Test.YtolcacancfmmiaaGreatDoorTie
import Derived.Test.YtolcacancfmmiaaGreatDoorMbi4
import Derived.Shelf.Vars
import Derived.WalkKit
import Derived.ProofKit
import Derived.OpenShut
import Derived.Deep.DeepHandedRow
import Derived.Lib.LaidTab
section
namespace Go.Proofs.YtolcacancfmmiaaGreatDoor
open Go.Gx
set_option linter.unusedVariables false
set_option linter.unusedSimpArgs false
def nonE (x : ByteArray) : Bool := !beqS x ⟨#[]⟩
theorem nonE_no {x : ByteArray} (h : nonE x = false) : x = ⟨#[]⟩ := by
  unfold nonE at h
  exact beqS_iff.1 (by simpa using h)
theorem nonE_pos {x : ByteArray} (h : 1 ≤ x.size) : nonE x = true := by
  unfold nonE; rw [size_pos]; exact decide_eq_true h
def joinT (sep : List UInt8) (xs : List ByteArray) : ByteArray := ⟨(Lib.join (xs.map L) sep).toArray⟩
theorem L_joinT (sep : List UInt8) (xs : List ByteArray) : L (joinT sep xs) = Lib.join (xs.map L) sep := by unfold joinT; exact L_mk _
theorem tail_len (sep : List UInt8) : ∀ xs : List ByteArray, (Lib.joinTail sep (xs.map L)).length = totS xs + sep.length * xs.length
  | [] => by simp [Lib.joinTail, totS]
  | x :: r => by
    have := tail_len sep r
    simp only [Lib.joinTail, totS, List.map_cons, List.flatten_cons, List.length_append, List.sum_cons, List.length_cons, L_size] at this ⊢
    rw [this, Nat.mul_succ]; omega
theorem joinT_size (sep : List UInt8) (xs : List ByteArray) : (joinT sep xs).size ≤ totS xs + sep.length * xs.length := by
  rw [← L_size, L_joinT]
  cases xs with
  | nil => simp [Lib.join_nil]
  | cons x r =>
    rw [List.map_cons, Lib.join_cons, List.length_append, tail_len, L_size]
    simp only [totS, List.map_cons, List.sum_cons, List.length_cons, Nat.mul_succ]
    omega
theorem xJoin_eq (sep : ByteArray) (xs : List ByteArray) (h1 : xs.length ≤ 4194304) (h2 : totS xs ≤ 8388608) (h3 : sep.size ≤ 2) : xJoin xs sep = some (joinT (L sep) xs) := by
  unfold xJoin
  have hl : (Lib.join (xs.map (·.data.toList)) sep.data.toList).length ≤ 140737488355328 := by
    have := joinT_size (L sep) xs
    rw [← L_size, L_joinT, L_size] at this
    have h4 : sep.size * xs.length ≤ 2 * xs.length := Nat.mul_le_mul_right _ h3
    exact Nat.le_trans this (by omega)
  rw [Nat.ble_eq_true_of_le (by omega : xs.length ≤ 140737488355328), Nat.ble_eq_true_of_le hl]
  rfl
def jn : ByteArray → List ByteArray → ByteArray
  | s, [] => s
  | s, x :: r => jn (bif nonE s then (bif nonE x then (s ++ ⟨#[32]⟩) ++ x else s ++ x) else s ++ x) r
theorem nonE_app {s t : ByteArray} (h : nonE s = true) : nonE (s ++ t) = true := by
  unfold nonE at h ⊢
  rw [size_pos] at h ⊢
  have := of_decide_eq_true h
  rw [size_app]
  exact decide_eq_true (by omega)
theorem app_empty (s : ByteArray) : s ++ (⟨#[]⟩ : ByteArray) = s := by apply L_inj; rw [L_append]; simp [L]
theorem empty_app (s : ByteArray) : (⟨#[]⟩ : ByteArray) ++ s = s := by apply L_inj; rw [L_append]; simp [L]
theorem L_jn : ∀ (r : List ByteArray) (s : ByteArray), (nonE s = true → L (jn s r) = L s ++ Lib.joinTail [32] ((r.filter nonE).map L)) ∧ (nonE s = false → L (jn s r) = Lib.join ((r.filter nonE).map L) [32])
  | [], s => ⟨fun _ => by simp [jn, Lib.joinTail], fun h => by rw [nonE_no h]; rfl⟩
  | x :: r, s => by
    refine ⟨fun h => ?_, fun h => ?_⟩
    · simp only [jn, h, cond_true]
      cases hx : nonE x with
      | true =>
        simp only [cond_true]
        rw [(L_jn r _).1 (nonE_app (nonE_app h)), List.filter_cons_of_pos hx, List.map_cons, tail_cons, L_append, L_append, L32]
        simp
      | false =>
        rw [List.filter_cons_of_neg (by simp [hx]), nonE_no hx]
        simp only [cond_false, app_empty]
        exact (L_jn r _).1 h
    · simp only [jn, h, cond_false]
      rw [nonE_no h, empty_app]
      cases hx : nonE x with
      | true => rw [(L_jn r x).1 hx, List.filter_cons_of_pos hx, List.map_cons, Lib.join_cons]
      | false =>
        rw [List.filter_cons_of_neg (by simp [hx])]
        exact (L_jn r x).2 hx
theorem totS_drop {xs : List ByteArray} {i : Nat} (hi : i < xs.length) : totS (xs.drop i) = xs[i].size + totS (xs.drop (i + 1)) := by
  rw [List.drop_eq_getElem_cons hi]; simp only [totS, List.map_cons, List.sum_cons]
theorem l2Join_l0 (xs : List ByteArray) (hlen : xs.length ≤ 4194304) : ∀ n i : Nat, i + n = xs.length → ∀ s : ByteArray, s.size + n + totS (xs.drop i) ≤ 1099511627776 → Ev (fun k => spec_l2Join.l0 k xs s i) (jn s (xs.drop i))
  | 0, i, h, s, hs => by
    rw [List.drop_eq_nil_of_le (by omega)]
    refine Ev.step (fun k => by rw [spec_l2Join.l0]) ?_
    simp (disch := omega) only [cneg]
    exact Ev.pure _
  | n + 1, i, h, s, hs => by
    have hi : i < xs.length := by omega
    rw [totS_drop hi] at hs
    rw [List.drop_eq_getElem_cons hi]
    simp only [jn]
    refine Ev.step (fun k => by rw [spec_l2Join.l0]) ?_
    have ih := fun s hs => l2Join_l0 xs hlen n (i + 1) (by omega) s hs
    have e1 : (⟨#[32]⟩ : ByteArray).size = 1 := rfl
    have hb1 : (!beqS s ⟨#[]⟩) = nonE s := rfl
    have hb2 : (!beqS xs[i] ⟨#[]⟩) = nonE xs[i] := rfl
    simp (disch := omega) only [cpos, Int.toNat_natCast, getD_at hi, hb1, hb2, wrap_in, cble, size_app, e1]
    cases nonE s with
    | false => exact ih _ (by rw [size_app]; omega)
    | true =>
      cases nonE xs[i] with
      | false => exact ih _ (by rw [size_app]; omega)
      | true => exact ih _ (by rw [size_app, size_app, e1]; omega)
theorem l2Join_ev (xs : List ByteArray) (hlen : xs.length ≤ 4194304) (ht : totS xs ≤ 8388608) : Ev (fun k => spec_l2Join.F k xs) (joinT [32] (xs.filter nonE)) := by
  unfold spec_l2Join.F
  have := l2Join_l0 xs hlen xs.length 0 (by omega) ⟨#[]⟩ (by rw [List.drop_zero, show (⟨#[]⟩ : ByteArray).size = 0 from rfl]; omega)
  refine Ev.bind this ((Ev.pure _).eq ?_)
  apply L_inj
  rw [List.drop_zero, (L_jn xs ⟨#[]⟩).2 (by unfold nonE; rw [beqS_self]; rfl), L_joinT]
theorem totS_filter (p : ByteArray → Bool) : ∀ xs : List ByteArray, totS (xs.filter p) ≤ totS xs
  | [] => Nat.le_refl _
  | x :: r => by
    have := totS_filter p r
    cases h : p x with
    | true => rw [List.filter_cons_of_pos h]; simp only [totS, List.map_cons, List.sum_cons] at this ⊢; omega
    | false => rw [List.filter_cons_of_neg (by simp [h])]; simp only [totS, List.map_cons, List.sum_cons] at this ⊢; omega
theorem spaced_ev (xs : List ByteArray) (hlen : xs.length ≤ 4194304) (ht : totS xs ≤ 8388608) : Ev (fun k => impl_spaced.F k xs) (joinT [32] (xs.filter nonE)) := by
  unfold impl_spaced.F
  have hq : ∀ x, x ∈ xs → Ev (fun _ => impl_spaced_1.F x) (beqS x ⟨#[]⟩) := fun x _ => Ev.pure _
  have hdel := delete_ev (d := (⟨#[]⟩ : ByteArray)) (p := fun x => beqS x ⟨#[]⟩) (q := fun _ x => impl_spaced_1.F x) (xs := xs) (l0 := slices_DeleteFunc_string_f148.l0) (fun k x0 x5 x6 => by rw [slices_DeleteFunc_string_f148.l0]) hq (by omega) (I := slices_IndexFunc_string_f148.F) (F := slices_DeleteFunc_string_f148.F)
    (idx_ev (d := (⟨#[]⟩ : ByteArray)) (p := fun x => beqS x ⟨#[]⟩) (q := fun _ x => impl_spaced_1.F x) (l0 := slices_IndexFunc_string_f148.l0) (fun k x0 x7 x8 => by rw [slices_IndexFunc_string_f148.l0]) hq (by omega) (fun k a0 => rfl)) (fun k a0 => rfl)
  refine Ev.bind hdel (Ev.bind0 ?_ (Ev.pure _))
  have hf : (xs.filter nonE).length ≤ xs.length := List.length_filter_le _ _
  exact xJoin_eq ⟨#[32]⟩ (xs.filter nonE) (by omega) (by have := totS_filter nonE xs; omega) (by decide)
def cs2 : ByteArray := ⟨#[44, 32]⟩
def invT (n : Name) : ByteArray :=
  let r1 := joinT [32] ([n.particle, n.family].filter nonE)
  let r2 := bif decide ((n.given.length : Int) > 0) || nonE n.suffix then (r1 ++ cs2) ++ joinT [32] n.given else r1
  bif nonE n.suffix then (r2 ++ cs2) ++ n.suffix else r2
theorem given_all {n : Name} (h : nameB n = true) : n.given.filter nonE = n.given := by
  unfold nameB at h
  simp only [Bool.and_eq_true] at h
  refine List.filter_eq_self.2 fun x hx => ?_
  have := List.all_eq_true.1 h.1 x hx
  unfold gw at this
  simp only [Bool.and_eq_true] at this
  exact nonE_pos (word_size this.1)
theorem small_parts {n : Name} (hs : smallN n) : n.given.length + totS n.given + n.particle.size + n.family.size + n.suffix.size ≤ 1048576 := hs
theorem tot2 (a b : ByteArray) : totS [a, b] = a.size + b.size := by simp [totS]
theorem r1_size (n : Name) : (joinT [32] ([n.particle, n.family].filter nonE)).size ≤ n.particle.size + n.family.size + 2 := by
  have h1 := joinT_size [32] ([n.particle, n.family].filter nonE)
  have h2 := totS_filter nonE [n.particle, n.family]
  have h3 : ([n.particle, n.family].filter nonE).length ≤ 2 := List.length_filter_le _ _
  rw [tot2] at h2
  simp only [List.length_singleton, Nat.one_mul] at h1
  omega
theorem gv_size (n : Name) : (joinT [32] n.given).size ≤ totS n.given + n.given.length := by
  have h1 := joinT_size [32] n.given
  simpa using h1
theorem app_assoc (a b c : ByteArray) : (a ++ b) ++ c = a ++ (b ++ c) := by apply L_inj; simp only [L_append, List.append_assoc]
theorem specInv_ev (n : Name) (hs : smallN n) (hv : nameB n = true) : Ev (fun k => spec_l2Inverse.F k n) (invT n) := by
  have h3 := small_parts hs
  have h1 := r1_size n
  have h2 := gv_size n
  have hj := l2Join_ev [n.particle, n.family] (by simp) (by rw [tot2]; omega)
  have hg := l2Join_ev n.given (by omega) (by omega)
  rw [given_all hv] at hg
  have hg' : Ev (fun k => spec_l2Given.F k n) (joinT [32] n.given) := by unfold spec_l2Given.F; exact Ev.bind hg (Ev.pure _)
  unfold spec_l2Inverse.F invT
  refine Ev.bind hj ?_
  have e2 : (⟨#[44, 32]⟩ : ByteArray).size = 2 := rfl
  have hb : (!beqS n.suffix ⟨#[]⟩) = nonE n.suffix := rfl
  simp (disch := omega) only [hb, size_app, e2, cble]
  cases hx : decide ((n.given.length : Int) > 0) with
  | true =>
    simp only [cond_true, Bool.true_or]
    refine Ev.bind hg' ?_
    simp (disch := omega) only [size_app, e2, cble]
    cases nonE n.suffix <;> exact Ev.pure _
  | false =>
    cases nonE n.suffix with
    | false => exact Ev.pure _
    | true =>
      simp only [cond_true, cond_false, Bool.or_true]
      refine Ev.bind hg' ?_
      simp (disch := omega) only [size_app, e2, cble]
      exact Ev.pure _
theorem implInv_ev (n : Name) (hs : smallN n) : Ev (fun k => impl_inverseForm.F k n) (invT n) := by
  have h3 := small_parts hs
  have h1 := r1_size n
  have h2 := gv_size n
  have hj := spaced_ev [n.particle, n.family] (by simp) (by rw [tot2]; omega)
  have hg : strings_Join.F n.given ⟨#[32]⟩ = some (joinT [32] n.given) := xJoin_eq ⟨#[32]⟩ n.given (by omega) (by omega) (by decide)
  unfold impl_inverseForm.F invT
  refine Ev.bind hj ?_
  have e2 : (⟨#[44, 32]⟩ : ByteArray).size = 2 := rfl
  have hb : (!beqS n.suffix ⟨#[]⟩) = nonE n.suffix := rfl
  simp (disch := omega) only [hb, hg, Option.bind_some, size_app, e2, cble, app_assoc]
  cases decide ((n.given.length : Int) > 0) <;> cases nonE n.suffix <;> simp only [cond_true, cond_false, Bool.or_true, Bool.or_false, Bool.true_or, Bool.false_or, app_assoc] <;> exact Ev.pure _
theorem parts_of {e : Entry} (h : entryB e = true) : namesB e.authors = true ∧ namesB e.editors = true ∧ dateB e.date = true ∧ 0 ≤ e.volume ∧ e.volume ≤ 9999 := by
  unfold entryB insI at h
  simp only [Bool.and_eq_true, decide_eq_true_eq] at h
  exact ⟨h.2.2.1, h.2.2.2.1, h.2.2.2.2.2.2.2.2.1, h.2.2.2.2.2.2.2.2.2.1.1, h.2.2.2.2.2.2.2.2.2.1.2⟩
theorem names_of {l : List Name} (h : namesB l = true) : l.length ≤ 4 ∧ ∀ n ∈ l, nameB n = true := by
  unfold namesB at h
  simp only [Bool.and_eq_true, decide_eq_true_eq] at h
  exact ⟨h.2, fun n hn => List.all_eq_true.1 h.1 n hn⟩
def okF (e : Entry) : Prop := namesB e.authors = true ∧ namesB e.editors = true ∧ dateB e.date = true ∧ 0 ≤ e.volume ∧ e.volume ≤ 9999 ∧ totNs e.authors ≤ 1048576 ∧ totNs e.editors ≤ 1048576
theorem okF_of {e : Entry} (hs : smallE e) (hv : entryB e = true) : okF e := by
  obtain ⟨ha, he, hd, v0, v1⟩ := parts_of hv
  exact ⟨ha, he, hd, v0, v1, smallE_a hs, smallE_e hs⟩
end Go.Proofs.YtolcacancfmmiaaGreatDoor
end
section
/- Plain laws: an entry found by its key; its parent. -/
namespace Go.Proofs.YtolcacancfmmiaaGreatDoor
open Go.Gx
set_option linter.unusedVariables false
set_option linter.unusedSimpArgs false
theorem find_l (l : Library) (key : ByteArray) (hl : l.entries.length ≤ 1048576) : ∀ n i : Nat, i + n = l.entries.length →
    ∃ r : Sum Int Unit, Ev (fun k => spec_l4Find.l0 k key l i) r ∧ Ev (fun k => slices_IndexFunc_Entry_f65.l0 k l.entries key l.entries.length i) r ∧ ∀ z, r = .inl z → 0 ≤ z ∧ z < l.entries.length
  | 0, i, h => by
    refine ⟨.inr (), Ev.step (fun k => by rw [spec_l4Find.l0]) ?_, Ev.step (fun k => by rw [slices_IndexFunc_Entry_f65.l0]) ?_, fun z hz => by cases hz⟩
    · simp (disch := omega) only [cneg]; exact Ev.pure _
    · simp (disch := omega) only [cneg]; exact Ev.pure _
  | n + 1, i, h => by
    have hi : i < l.entries.length := by omega
    have e1 : impl_entryIndex_1.F l.entries[i] key = some (beqS l.entries[i].key key) := rfl
    cases hb : beqS l.entries[i].key key with
    | true =>
      refine ⟨.inl i, Ev.step (fun k => by rw [spec_l4Find.l0]) ?_, Ev.step (fun k => by rw [slices_IndexFunc_Entry_f65.l0]) ?_, fun z hz => by cases hz; omega⟩
      · simp (disch := omega) only [cpos, Int.toNat_natCast, getD_at hi, hb, cond_true]
        exact Ev.pure _
      · simp (disch := omega) only [cpos, Int.toNat_natCast, getD_at hi]
        refine Ev.bind0 e1 ?_
        rw [hb]
        exact Ev.pure _
    | false =>
      obtain ⟨r, r1, r2, r3⟩ := find_l l key hl n (i + 1) (by omega)
      refine ⟨r, Ev.step (fun k => by rw [spec_l4Find.l0]) ?_, Ev.step (fun k => by rw [slices_IndexFunc_Entry_f65.l0]) ?_, r3⟩
      · simp (disch := omega) only [cpos, Int.toNat_natCast, getD_at hi, hb, cond_false, wrap_in]
        exact r1
      · simp (disch := omega) only [cpos, Int.toNat_natCast, getD_at hi]
        refine Ev.bind0 e1 ?_
        rw [hb]
        simp (disch := omega) only [cond_false, wrap_in]
        exact r2
theorem find_ev (l : Library) (key : ByteArray) (hl : l.entries.length ≤ 1048576) : ∃ r : Int, Ev (fun k => spec_l4Find.F k l key) r ∧ Ev (fun k => impl_entryIndex.F k l key) r ∧ -1 ≤ r ∧ r < l.entries.length := by
  obtain ⟨r, r1, r2, r3⟩ := find_l l key hl l.entries.length 0 (by omega)
  unfold spec_l4Find.F impl_entryIndex.F slices_IndexFunc_Entry_f65.F
  cases r with
  | inl z => exact ⟨z, Ev.bind r1 (Ev.pure _), Ev.bind (Ev.bind r2 (Ev.pure _)) (Ev.pure _), by have := r3 z rfl; omega, (r3 z rfl).2⟩
  | inr u => exact ⟨-1, Ev.bind r1 (Ev.pure _), Ev.bind (Ev.bind r2 (Ev.pure _)) (Ev.pure _), by omega, by omega⟩
end Go.Proofs.YtolcacancfmmiaaGreatDoor
end
section
/- Plain laws: the chain of an entry, keys, entries found by their keys. -/
namespace Go.Proofs.YtolcacancfmmiaaGreatDoor
open Go.Gx
set_option linter.unusedVariables false
set_option linter.unusedSimpArgs false
def kAt (l : Library) (x : Int) : ByteArray := (l.entries.getD x.toNat (dflt .entry)).key
theorem findK_l (l : Library) (key : ByteArray) (hl : l.entries.length ≤ 1048576) : ∀ n i : Nat, i + n = l.entries.length →
    ∃ r : Sum Int Unit, Ev (fun k => spec_l4Find.l0 k key l i) r ∧ (∀ z, r = .inl z → ∃ j : Nat, z = j ∧ i ≤ j ∧ j < l.entries.length ∧ (l.entries.getD j (dflt .entry)).key = key) ∧ (∀ u, r = .inr u → ∀ j, i ≤ j → j < l.entries.length → (l.entries.getD j (dflt .entry)).key ≠ key)
  | 0, i, h => by
    refine ⟨.inr (), Ev.step (fun k => by rw [spec_l4Find.l0]) ?_, (fun z hz => by cases hz), fun u _ j h1 h2 => by omega⟩
    simp (disch := omega) only [cneg]; exact Ev.pure _
  | n + 1, i, h => by
    have hi : i < l.entries.length := by omega
    cases hb : beqS l.entries[i].key key with
    | true =>
      refine ⟨.inl i, Ev.step (fun k => by rw [spec_l4Find.l0]) ?_, fun z hz => ?_, (fun u hu => by cases hu)⟩
      · simp (disch := omega) only [cpos, Int.toNat_natCast, getD_at hi, hb, cond_true]
        exact Ev.pure _
      · cases hz
        exact ⟨i, rfl, Nat.le_refl _, hi, by rw [getD_at hi]; exact beqS_iff.1 hb⟩
    | false =>
      obtain ⟨r, r1, r2, r3⟩ := findK_l l key hl n (i + 1) (by omega)
      refine ⟨r, Ev.step (fun k => by rw [spec_l4Find.l0]) ?_, fun z hz => ?_, fun u hu j h1 h2 => ?_⟩
      · simp (disch := omega) only [cpos, Int.toNat_natCast, getD_at hi, hb, cond_false, wrap_in]
        exact r1
      · obtain ⟨j, e, h1, h2⟩ := r2 z hz
        exact ⟨j, e, by omega, h2⟩
      · by_cases e : j = i
        · subst e
          rw [getD_at hi]
          intro he
          rw [he, beqS_self] at hb
          cases hb
        · exact r3 u hu j (by omega) h2
theorem findK_ev (l : Library) (key : ByteArray) (hl : l.entries.length ≤ 1048576) : ∃ r : Int, Ev (fun k => spec_l4Find.F k l key) r ∧ Ev (fun k => impl_entryIndex.F k l key) r ∧ -1 ≤ r ∧ r < l.entries.length ∧ (0 ≤ r → kAt l r = key) ∧ (r < 0 → ∀ j, j < l.entries.length → (l.entries.getD j (dflt .entry)).key ≠ key) := by
  obtain ⟨r, r1, r2, r3, r4⟩ := find_ev l key hl
  obtain ⟨q, q1, q2, q3⟩ := findK_l l key hl l.entries.length 0 (by omega)
  refine ⟨r, r1, r2, r3, r4, ?_⟩
  have hF : Ev (fun k => spec_l4Find.F k l key) (match q with | .inl z => z | .inr _ => -1) := by
    unfold spec_l4Find.F
    cases q with
    | inl z => exact Ev.bind q1 (Ev.pure _)
    | inr u => exact Ev.bind q1 (Ev.pure _)
  have e := Ev.uniq r1 hF
  cases q with
  | inl z =>
    obtain ⟨j, rfl, _, _, h⟩ := q2 z rfl
    have e : r = (j : Int) := e
    exact ⟨fun _ => by rw [e]; unfold kAt; rw [Int.toNat_natCast]; exact h, fun h0 => by omega⟩
  | inr u =>
    have e : r = -1 := e
    exact ⟨fun h0 => by omega, fun _ j hj => q3 u rfl j (Nat.zero_le _) hj⟩
end Go.Proofs.YtolcacancfmmiaaGreatDoor
end
section
/- Plain laws: lower case. -/
namespace Go.Proofs.YtolcacancfmmiaaGreatDoor
open Go.Gx
set_option linter.unusedVariables false
set_option linter.unusedSimpArgs false
theorem L_strL (ys : List Int) : L (strL ys) = ys.map fun n => UInt8.ofNat n.toNat := L_mk _
theorem strL_bytes (s : ByteArray) : strL (bytesL s) = s := by
  apply L_inj
  rw [L_strL, bytesL_map, List.map_map]
  conv => rhs; rw [← List.map_id (L s)]
  refine List.map_congr_left fun b _ => ?_
  simp
theorem strL_size (ys : List Int) : (strL ys).size = ys.length := by
  rw [← L_size, L_strL, List.length_map]
theorem isUpper_ev (b : Int) : impl_isUpper.F b = some (decide (65 ≤ b) && decide (b ≤ 90)) := by
  unfold impl_isUpper.F
  simp only [ge_iff_le]
  cases decide (65 ≤ b) <;> rfl
def lowI (b : Int) : Int := bif decide (65 ≤ b) && decide (b ≤ 90) then b + 32 else b
def mix (s : ByteArray) (i : Nat) : List Int := ((bytesL s).take i).map lowI ++ (bytesL s).drop i
theorem mix_len (s : ByteArray) (i : Nat) : (mix s i).length = (bytesL s).length := by
  unfold mix; simp; omega
theorem mix_at (s : ByteArray) (i : Nat) (h : i < (bytesL s).length) : (mix s i).getD i 0 = (bytesL s)[i] := by
  unfold mix
  rw [List.getD_eq_getElem?_getD, List.getElem?_append_right (by simp; omega)]
  simp [Nat.min_eq_left (Nat.le_of_lt h), h]
theorem mix_set (s : ByteArray) (i : Nat) (h : i < (bytesL s).length) : (mix s i).set i (lowI (bytesL s)[i]) = mix s (i + 1) := by
  unfold mix
  rw [List.set_append_right _ _ (by simp; omega)]
  simp only [List.length_map, List.length_take, Nat.min_eq_left (Nat.le_of_lt h), Nat.sub_self]
  rw [List.drop_eq_getElem_cons h, List.set_cons_zero, List.take_add_one, List.getElem?_eq_getElem h]
  simp only [Option.toList_some, List.map_append, List.map_cons, List.map_nil, List.append_assoc, List.cons_append, List.nil_append]
theorem mix_same (s : ByteArray) (i : Nat) (h : i < (bytesL s).length) (e : lowI (bytesL s)[i] = (bytesL s)[i]) : mix s (i + 1) = mix s i := by
  rw [← mix_set s i h, e]
  apply List.ext_getElem?
  intro j
  by_cases hj : i = j
  · subst hj
    have := mix_at s i h
    rw [List.getD_eq_getElem?_getD] at this
    rw [List.getElem?_set_self (by rw [mix_len]; exact h)]
    rw [List.getElem?_eq_getElem (by rw [mix_len]; exact h)] at this ⊢
    rw [← this]; rfl
  · rw [List.getElem?_set_ne hj]
theorem lower_l0 (s : ByteArray) (hs : s.size ≤ 1048576) : ∀ n i : Nat, i + n = s.size → Ev (fun k => impl_lower.l0 k (mix s i) s.size i) ((bytesL s).map lowI)
  | 0, i, h => by
    refine Ev.step (fun k => by rw [impl_lower.l0]) ?_
    simp (disch := omega) only [cneg]
    unfold mix
    rw [List.take_of_length_le (by rw [bytesL_len]; omega), List.drop_eq_nil_of_le (by rw [bytesL_len]; omega), List.append_nil]
    exact Ev.pure _
  | n + 1, i, h => by
    have hl := bytesL_len s
    have hi : i < (bytesL s).length := by omega
    have hm := mix_len s i
    have ih := lower_l0 s hs n (i + 1) (by omega)
    have hb := bytes_range s i hi
    refine Ev.step (fun k => by rw [impl_lower.l0]) ?_
    simp (disch := omega) only [cpos, Int.toNat_natCast, mix_at s i hi]
    refine Ev.bind0 (isUpper_ev _) ?_
    cases hu : decide (65 ≤ (bytesL s)[i]) && decide ((bytesL s)[i] ≤ 90) with
    | true =>
      have hu' := hu
      simp only [Bool.and_eq_true, decide_eq_true_eq] at hu'
      have e : IntKind.wrap .u8 (IntKind.wrap .u8 ((bytesL s)[i] + 97) - 65) = lowI (bytesL s)[i] := by
        unfold lowI
        rw [hu, cond_true, IntKind.wrap_u8, IntKind.wrap_u8]; omega
      simp (disch := omega) only [cond_true, cpos, e, mix_set s i hi, wrap_in]
      exact ih
    | false =>
      have e : lowI (bytesL s)[i] = (bytesL s)[i] := by unfold lowI; rw [hu, cond_false]
      rw [mix_same s i hi e] at ih
      simp (disch := omega) only [cond_false, wrap_in]
      exact ih
def lowS (s : ByteArray) : ByteArray := strL ((bytesL s).map lowI)
theorem lowS_size (s : ByteArray) : (lowS s).size = s.size := by unfold lowS; rw [strL_size, List.length_map, bytesL_len]
theorem lower_ev (s : ByteArray) (hs : s.size ≤ 1048576) : Ev (fun k => impl_lower.F k s) (lowS s) := by
  unfold impl_lower.F
  rw [bytesL_len]
  simp (disch := omega) only [cble]
  have := lower_l0 s hs s.size 0 (by omega)
  unfold mix at this
  rw [List.take_zero, List.map_nil, List.nil_append, List.drop_zero] at this
  exact Ev.bind this (Ev.pure _)
end Go.Proofs.YtolcacancfmmiaaGreatDoor
end
section
/- Comparing texts, names and dates. -/
namespace Go.Proofs.YtolcacancfmmiaaGreatDoor
open Go.Gx
set_option linter.unusedVariables false
set_option linter.unusedSimpArgs false
def tc (a b : ByteArray) : Int := Lib.compareBytes (L a) (L b)
theorem cmpS_ev (a b : ByteArray) : strings_Compare.F a b = some (tc a b) := rfl
theorem less_cmp : ∀ a b : List UInt8, Op.bytesLess a b = decide (Lib.compareBytes a b < 0)
  | [], [] => rfl
  | [], _ :: _ => rfl
  | _ :: _, [] => rfl
  | a :: ar, b :: bs => by
    have ih := less_cmp ar bs
    unfold Op.bytesLess Lib.compareBytes
    by_cases h1 : a < b
    · simp [h1]
    · by_cases h2 : b < a
      · have : a ≠ b := by rintro rfl; exact h1 h2
        simp [h1, h2, this]
      · have : a = b := UInt8.le_antisymm (UInt8.not_lt.1 h2) (UInt8.not_lt.1 h1)
        subst this
        simp [h1, ih]
theorem cmp_zero : ∀ a b : List UInt8, Lib.compareBytes a b = 0 ↔ a = b
  | [], [] => by simp [Lib.compareBytes]
  | [], _ :: _ => by simp [Lib.compareBytes]
  | _ :: _, [] => by simp [Lib.compareBytes]
  | a :: ar, b :: bs => by
    have ih := cmp_zero ar bs
    unfold Lib.compareBytes
    by_cases h1 : a < b
    · simp only [h1, if_true]
      constructor
      · intro h; cases h
      · intro h; cases h; exact absurd h1 (UInt8.lt_irrefl _)
    · by_cases h2 : b < a
      · simp only [h1, h2, if_true, if_false]
        constructor
        · intro h; cases h
        · intro h; cases h; exact absurd h2 (UInt8.lt_irrefl _)
      · simp only [h1, h2, if_false, ih]
        have : a = b := by
          have h3 := UInt8.not_lt.1 h1
          have h4 := UInt8.not_lt.1 h2
          exact UInt8.le_antisymm h4 h3
        subst this
        simp
theorem cmp_range : ∀ a b : List UInt8, Lib.compareBytes a b = -1 ∨ Lib.compareBytes a b = 0 ∨ Lib.compareBytes a b = 1
  | [], [] => by simp [Lib.compareBytes]
  | [], _ :: _ => by simp [Lib.compareBytes]
  | _ :: _, [] => by simp [Lib.compareBytes]
  | a :: ar, b :: bs => by
    have ih := cmp_range ar bs
    unfold Lib.compareBytes
    split
    · exact .inl rfl
    · split
      · exact .inr (.inr rfl)
      · exact ih
theorem text_ev (a b : ByteArray) : spec_l2Text.F a b = some (tc a b) := by
  unfold spec_l2Text.F tc
  have h1 : ltS a b = decide (Lib.compareBytes (L a) (L b) < 0) := by unfold ltS; rw [toList_eq, toList_eq]; exact less_cmp _ _
  have h2 : beqS a b = decide (Lib.compareBytes (L a) (L b) = 0) := by
    cases h : beqS a b with
    | true => rw [beqS_iff.1 h]; exact (decide_eq_true ((cmp_zero _ _).2 rfl)).symm
    | false =>
      refine (decide_eq_false fun e => ?_).symm
      rw [beqS_iff.2 (L_inj ((cmp_zero _ _).1 e))] at h
      cases h
  rw [h1, h2]
  rcases cmp_range (L a) (L b) with h | h | h <;> rw [h] <;> rfl
def orI : List Int → Int
  | [] => 0
  | x :: l => if x = 0 then orI l else x
theorem or_l0 (xs : List Int) (hl : xs.length ≤ 100) : ∀ n i : Nat, i + n = xs.length → Ev (fun k => cmp_Or_int.l0 k 0 xs xs.length i) (if orI (xs.drop i) = 0 then .inr 0 else .inl (orI (xs.drop i)))
  | 0, i, h => by
    refine Ev.step (fun k => by rw [cmp_Or_int.l0]) ?_
    simp (disch := omega) only [cneg]
    rw [List.drop_eq_nil_of_le (by omega)]
    exact Ev.pure _
  | n + 1, i, h => by
    have hi : i < xs.length := by omega
    refine Ev.step (fun k => by rw [cmp_Or_int.l0]) ?_
    simp (disch := omega) only [cpos, Int.toNat_natCast, getD_at hi]
    rw [List.drop_eq_getElem_cons hi]
    by_cases h0 : xs[i] = 0
    · simp (disch := omega) only [cbeq, h0, orI, if_true, wrap_in]
      exact or_l0 xs hl n (i + 1) (by omega)
    · simp (disch := omega) only [cbne, orI, if_neg h0]
      exact Ev.pure _
theorem or_ev (xs : List Int) (hl : xs.length ≤ 100) : Ev (fun k => cmp_Or_int.F k xs) (orI xs) := by
  unfold cmp_Or_int.F
  have h := or_l0 xs hl xs.length 0 (by omega)
  rw [List.drop_zero] at h
  by_cases h0 : orI xs = 0
  · rw [if_pos h0] at h
    exact Ev.bind h ((Ev.pure _).eq h0.symm)
  · rw [if_neg h0] at h
    exact Ev.bind h (Ev.pure _)
def ic (a b : Int) : Int := if a < b then -1 else if a > b then 1 else 0
theorem cmpI_ev (a b : Int) : cmp_Compare_int.F a b = some (ic a b) := by
  unfold cmp_Compare_int.F cmp_isNaN_int.F ic
  have e : ∀ x : Int, (x != x) = false := fun x => by simp
  simp only [e, Option.bind_some, cond_false]
  by_cases h1 : a < b
  · rw [cpos h1, if_pos h1]
  · rw [cneg h1, if_neg h1]
    by_cases h2 : a > b
    · rw [cpos h2, if_pos h2]
    · rw [cneg h2, if_neg h2]
theorem specLow_l0 (s : ByteArray) (hs : s.size ≤ 2097152) : ∀ n i : Nat, i + n = s.size → Ev (fun k => spec_l2Low.l0 k (mix s i) i) ((bytesL s).map lowI)
  | 0, i, h => by
    refine Ev.step (fun k => by rw [spec_l2Low.l0]) ?_
    have hm := mix_len s i
    have hl := bytesL_len s
    simp (disch := omega) only [cneg]
    unfold mix
    rw [List.take_of_length_le (by rw [bytesL_len]; omega), List.drop_eq_nil_of_le (by rw [bytesL_len]; omega), List.append_nil]
    exact Ev.pure _
  | n + 1, i, h => by
    have hl := bytesL_len s
    have hi : i < (bytesL s).length := by omega
    have hm := mix_len s i
    have ih := specLow_l0 s hs n (i + 1) (by omega)
    have hb := bytes_range s i hi
    refine Ev.step (fun k => by rw [spec_l2Low.l0]) ?_
    simp (disch := omega) only [cpos, Int.toNat_natCast, mix_at s i hi]
    refine Ev.bind0 (sUpper _) ?_
    cases hu : upc (bytesL s)[i] with
    | true =>
      have hu' := hu
      simp only [upc, Bool.and_eq_true, decide_eq_true_eq] at hu'
      have e : IntKind.wrap .u8 ((bytesL s)[i] + 32) = lowI (bytesL s)[i] := by
        unfold lowI
        unfold upc at hu
        rw [hu, cond_true, IntKind.wrap_u8]; omega
      simp (disch := omega) only [cond_true, cpos, e, mix_set s i hi, wrap_in]
      exact ih
    | false =>
      have e : lowI (bytesL s)[i] = (bytesL s)[i] := by unfold lowI; unfold upc at hu; rw [hu, cond_false]
      rw [mix_same s i hi e] at ih
      simp (disch := omega) only [cond_false, wrap_in]
      exact ih
theorem specLow_ev (s : ByteArray) (hs : s.size ≤ 2097152) : Ev (fun k => spec_l2Low.F k s) (lowS s) := by
  unfold spec_l2Low.F
  simp (disch := omega) only [cble]
  have := specLow_l0 s hs s.size 0 (by omega)
  unfold mix at this
  rw [List.take_zero, List.map_nil, List.nil_append, List.drop_zero] at this
  exact Ev.bind this (Ev.pure _)
theorem room8 {n : Nat} (h : n ≤ 4194304) : room n (.int .u8) = true := by
  unfold room
  rw [Nat.ble_eq]
  have : nb (.int .u8) = 1 := rfl
  rw [this]
  omega
theorem specDig_ev (b : Int) : spec_l8Digit.F b = some (dig b) := by
  unfold spec_l8Digit.F dig
  by_cases h : b ≥ 48
  · rw [cpos h, decide_eq_true (show 48 ≤ b from h)]; rfl
  · rw [cneg h, decide_eq_false (show ¬ 48 ≤ b from h)]; rfl
theorem fold_l0 (s : ByteArray) (hs : s.size ≤ 1048576) : ∀ n i : Nat, i + n = s.size → ∀ (out : List Int) (g : Bool), out.length ≤ 2 * i →
    ∃ r, Ev (fun k => spec_l8Fold.l0 k out g s i) r ∧ Ev (fun k => impl_foldText.l0 k out g (bytesL s) (bytesL s).length i) r ∧ r.length ≤ 2 * s.size
  | 0, i, h, out, g, ho => by
    have hl := bytesL_len s
    refine ⟨out, Ev.step (fun k => by rw [spec_l8Fold.l0]) ?_, Ev.step (fun k => by rw [impl_foldText.l0]) ?_, by omega⟩
    · simp (disch := omega) only [cneg]; exact Ev.pure _
    · simp (disch := omega) only [cneg]; exact Ev.pure _
  | n + 1, i, h, out, g, ho => by
    have hl := bytesL_len s
    have hi : i < (bytesL s).length := by omega
    have hbt := bt_bytes s i hi
    have go : ∀ (out' : List Int) (g' : Bool), out'.length ≤ 2 * (i + 1) → ∃ r, Ev (fun k => spec_l8Fold.l0 k out' g' s (i + 1 : Nat)) r ∧ Ev (fun k => impl_foldText.l0 k out' g' (bytesL s) (bytesL s).length (i + 1 : Nat)) r ∧ r.length ≤ 2 * s.size := fun out' g' ho' => fold_l0 s hs n (i + 1) (by omega) out' g' ho'
    have r1 : ∀ x : Int, room (out.length + ([x] : List Int).length) (.int .u8) = true := fun x => room8 (by simp only [List.length_singleton]; omega)
    have r2 : ∀ x y : Int, room ((out ++ [x]).length + ([y] : List Int).length) (.int .u8) = true := fun x y => room8 (by simp only [List.length_append, List.length_singleton]; omega)
    have one : ∀ x : Int, (out ++ [x]).length ≤ 2 * (i + 1) := fun x => by simp; omega
    have two : ∀ x y : Int, ((out ++ [x]) ++ [y]).length ≤ 2 * (i + 1) := fun x y => by simp; omega
    have key : ∃ out' g', out'.length ≤ 2 * (i + 1) ∧ (∀ r, Ev (fun k => spec_l8Fold.l0 k out' g' s (i + 1 : Nat)) r → Ev (fun k => spec_l8Fold.l0 k out g s i) r) ∧ (∀ r, Ev (fun k => impl_foldText.l0 k out' g' (bytesL s) (bytesL s).length (i + 1 : Nat)) r → Ev (fun k => impl_foldText.l0 k out g (bytesL s) (bytesL s).length i) r) := by
      cases hlo : lowc (bt s i) || dig (bt s i) with
      | false =>
        simp only [Bool.or_eq_false_iff] at hlo
        refine ⟨out, (bif g then true else bt s i == 32), by omega, fun r hr => Ev.step (fun k => by rw [spec_l8Fold.l0]) ?_, fun r hr => Ev.step (fun k => by rw [impl_foldText.l0]) ?_⟩
        · simp (disch := omega) only [cpos, Int.toNat_natCast]
          refine Ev.bind0 (sLower _) ?_
          rw [hlo.1]
          refine Ev.bind0 (specDig_ev _) ?_
          rw [hlo.2]
          simp (disch := omega) only [Bool.not_false, cond_true, wrap_in]
          cases g <;> exact hr
        · simp (disch := omega) only [cpos, Int.toNat_natCast, getD_at hi, ← hbt]
          refine Ev.bind0 (iLower _) ?_
          rw [hlo.1]
          refine Ev.bind0 (iDigit _) ?_
          rw [hlo.2]
          simp (disch := omega) only [Bool.not_false, cond_true, wrap_in]
          cases g <;> exact hr
      | true =>
        refine ⟨(bif g && decide ((out.length : Int) > 0) then (out ++ [32]) ++ [bt s i] else out ++ [bt s i]), false, ?_, fun r hr => Ev.step (fun k => by rw [spec_l8Fold.l0]) ?_, fun r hr => Ev.step (fun k => by rw [impl_foldText.l0]) ?_⟩
        · cases g && decide ((out.length : Int) > 0)
          · exact one _
          · exact two _ _
        · simp (disch := omega) only [cpos, Int.toNat_natCast]
          refine Ev.bind0 (sLower _) ?_
          have fin : Ev (fun k => bif g then (bif decide ((out.length : Int) > 0) then spec_l8Fold.l0 k ((out ++ [32]) ++ [bt s i]) false s (i + 1 : Nat) else spec_l8Fold.l0 k (out ++ [bt s i]) false s (i + 1 : Nat)) else spec_l8Fold.l0 k (out ++ [bt s i]) false s (i + 1 : Nat)) r := by
            revert hr
            cases g <;> cases decide ((out.length : Int) > 0) <;> exact fun hr => hr
          cases hl1 : lowc (bt s i) with
          | true =>
            simp (disch := omega) only [Bool.not_true, cond_false, r1, r2, cond_true, wrap_in]
            exact fin
          | false =>
            rw [hl1, Bool.false_or] at hlo
            refine Ev.bind0 (specDig_ev _) ?_
            rw [hlo]
            simp (disch := omega) only [Bool.not_true, Bool.not_false, cond_false, r1, r2, cond_true, wrap_in]
            exact fin
        · simp (disch := omega) only [cpos, Int.toNat_natCast, getD_at hi, ← hbt]
          refine Ev.bind0 (iLower _) ?_
          have fin : Ev (fun k => bif g then (bif decide ((out.length : Int) > 0) then impl_foldText.l0 k ((out ++ [32]) ++ [bt s i]) false (bytesL s) (bytesL s).length (i + 1 : Nat) else impl_foldText.l0 k (out ++ [bt s i]) false (bytesL s) (bytesL s).length (i + 1 : Nat)) else impl_foldText.l0 k (out ++ [bt s i]) false (bytesL s) (bytesL s).length (i + 1 : Nat)) r := by
            revert hr
            cases g <;> cases decide ((out.length : Int) > 0) <;> exact fun hr => hr
          cases hl1 : lowc (bt s i) with
          | true =>
            simp (disch := omega) only [Bool.not_true, cond_false, r1, r2, cond_true, wrap_in]
            exact fin
          | false =>
            rw [hl1, Bool.false_or] at hlo
            refine Ev.bind0 (iDigit _) ?_
            rw [hlo]
            simp (disch := omega) only [Bool.not_true, Bool.not_false, cond_false, r1, r2, cond_true, wrap_in]
            exact fin
    obtain ⟨out', g', k1, k2, k3⟩ := key
    obtain ⟨r, h1, h2, h3⟩ := go out' g' k1
    exact ⟨r, k2 r h1, k3 r h2, h3⟩
theorem fold_ev (s : ByteArray) (hs : s.size ≤ 1048576) : ∃ r, Ev (fun k => spec_l8Fold.F k s) r ∧ Ev (fun k => impl_foldText.F k s) r := by
  have hz := lowS_size s
  obtain ⟨r, h1, h2, h3⟩ := fold_l0 (lowS s) (by omega) (lowS s).size 0 (by omega) [] false (by simp)
  refine ⟨strL r, ?_, ?_⟩
  · unfold spec_l8Fold.F
    exact Ev.bind (specLow_ev s (by omega)) (Ev.bind h1 (Ev.pure _))
  · unfold impl_foldText.F
    refine Ev.bind (lower_ev s hs) ?_
    simp (disch := omega) only [cble]
    exact Ev.bind h2 (Ev.pure _)
theorem collate_ev (a b : ByteArray) (ha : a.size ≤ 1048576) (hb : b.size ≤ 1048576) : ∃ r, Ev (fun k => spec_l8Collate.F k a b) r ∧ Ev (fun k => impl_collate.F k a b) r := by
  obtain ⟨x, x1, x2⟩ := fold_ev a ha
  obtain ⟨y, y1, y2⟩ := fold_ev b hb
  refine ⟨orI [tc x y, tc a b], ?_, ?_⟩
  · unfold spec_l8Collate.F
    refine Ev.bind x1 (Ev.bind y1 (Ev.bind0 (text_ev x y) ?_))
    by_cases h : tc x y = 0
    · simp only [cbeq h, text_ev, Option.bind_some]
      exact (Ev.pure _).eq (by simp only [orI, if_pos h]; split <;> simp_all)
    · simp only [cbne h]
      exact (Ev.pure _).eq (by simp only [orI, if_neg h])
  · unfold impl_collate.F
    refine Ev.bind x2 (Ev.bind y2 (Ev.bind0 (cmpS_ev x y) (Ev.bind0 (cmpS_ev a b) (Ev.bind (or_ev _ (by simp)) (Ev.pure _)))))
end Go.Proofs.YtolcacancfmmiaaGreatDoor
end
section
/- Comparing entries: articles, names, dates. -/
namespace Go.Proofs.YtolcacancfmmiaaGreatDoor
open Go.Gx
set_option linter.unusedVariables false
set_option linter.unusedSimpArgs false
theorem low_take (s : ByteArray) {n m : Nat} (h : n ≤ m) : (lowS (s.extract 0 m)).extract 0 n = lowS (s.extract 0 n) := by
  apply L_inj
  unfold lowS
  rw [L_extract, L_strL, L_strL, bytesL_map, bytesL_map, L_extract, L_extract, List.drop_zero, List.drop_zero, List.drop_zero, ← List.map_take, ← List.map_take, ← List.map_take, List.take_take, Nat.min_eq_left h]
theorem drop_l0 (s : ByteArray) (hs : s.size ≤ 1048576) (W : List ByteArray) (hl : W.length ≤ 100) (hW : ∀ w ∈ W, w.size ≤ 4) : ∀ n i : Nat, i + n = W.length → ∃ r, Ev (fun k => spec_l8Drop.l0 k s W i) r ∧ Ev (fun k => impl_dropArticle.l0 k s W W.length i) r ∧ (∀ z, r = .inl z → z.size ≤ s.size) ∧ (∀ z, r = .inr z → z = s)
  | 0, i, h => by
    refine ⟨.inr s, Ev.step (fun k => by rw [spec_l8Drop.l0]) ?_, Ev.step (fun k => by rw [impl_dropArticle.l0]) ?_, fun z e => (by cases e), fun z e => (by cases e; rfl)⟩
    · simp (disch := omega) only [cneg]; exact Ev.pure _
    · simp (disch := omega) only [cneg]; exact Ev.pure _
  | n + 1, i, h => by
    have hi : i < W.length := by omega
    obtain ⟨r, h1, h2, h3, h4⟩ := drop_l0 s hs W hl hW n (i + 1) (by omega)
    have hw := hW _ (List.getElem_mem hi)
    have hm : ∃ m : Nat, (if (4 : Int) < (s.size : Int) then (4 : Int) else (s.size : Int)) = (m : Int) ∧ m ≤ s.size ∧ m ≤ 4 ∧ (m = 4 ∨ m = s.size) := by
      by_cases h5 : (4 : Int) < (s.size : Int)
      · exact ⟨4, by rw [if_pos h5]; rfl, by omega, by omega, .inl rfl⟩
      · exact ⟨s.size, by rw [if_neg h5], by omega, by omega, .inr rfl⟩
    obtain ⟨m, m1, m2, m3, m4⟩ := hm
    have hsz : (s.extract 0 m).size = m := by rw [ext_size (Nat.zero_le _) m2]; omega
    have hlow := lower_ev (s.extract 0 m) (by omega)
    have hlz := lowS_size (s.extract 0 m)
    by_cases hn : W[i].size ≤ s.size
    · have hnm : W[i].size ≤ m := by omega
      have hsz2 : (s.extract 0 W[i].size).size = W[i].size := by rw [ext_size (Nat.zero_le _) hn]; omega
      have hlow2 := specLow_ev (s.extract 0 W[i].size) (by omega)
      have hpre : strings_HasPrefix.F (lowS (s.extract 0 m)) W[i] = some (beqS (lowS (s.extract 0 W[i].size)) W[i]) := by
        unfold strings_HasPrefix.F stringslite_HasPrefix.F
        simp (disch := omega) only [cpos, Int.toNat_natCast, low_take s hnm, Option.bind_some]
      cases hb : beqS (lowS (s.extract 0 W[i].size)) W[i] with
      | true =>
        refine ⟨.inl (s.extract W[i].size s.size), Ev.step (fun k => by rw [spec_l8Drop.l0]) ?_, Ev.step (fun k => by rw [impl_dropArticle.l0]) ?_, fun z e => ?_, fun z e => (by cases e)⟩
        · simp (disch := omega) only [cpos, Int.toNat_natCast, getD_at hi]
          refine Ev.bind hlow2 ?_
          simp (disch := omega) only [hb, cond_true, cpos, getD_at hi]
          exact Ev.pure _
        · simp (disch := omega) only [cpos, Int.toNat_natCast, getD_at hi, m1]
          refine Ev.bind hlow ?_
          rw [hpre, hb]
          simp (disch := omega) only [Option.bind_some, cond_true, cpos]
          exact Ev.pure _
        · cases e
          rw [ext_size hn (Nat.le_refl _)]
          omega
      | false =>
        refine ⟨r, Ev.step (fun k => by rw [spec_l8Drop.l0]) ?_, Ev.step (fun k => by rw [impl_dropArticle.l0]) ?_, h3, h4⟩
        · simp (disch := omega) only [cpos, Int.toNat_natCast, getD_at hi]
          refine Ev.bind hlow2 ?_
          simp (disch := omega) only [hb, cond_false, cpos, getD_at hi, wrap_in]
          exact h1
        · simp (disch := omega) only [cpos, Int.toNat_natCast, getD_at hi, m1]
          refine Ev.bind hlow ?_
          rw [hpre, hb]
          simp (disch := omega) only [Option.bind_some, cond_false, wrap_in]
          exact h2
    · have hpre : strings_HasPrefix.F (lowS (s.extract 0 m)) W[i] = some false := by
        unfold strings_HasPrefix.F stringslite_HasPrefix.F
        simp (disch := omega) only [cneg, Option.bind_some]
      refine ⟨r, Ev.step (fun k => by rw [spec_l8Drop.l0]) ?_, Ev.step (fun k => by rw [impl_dropArticle.l0]) ?_, h3, h4⟩
      · simp (disch := omega) only [cpos, cneg, Int.toNat_natCast, getD_at hi, wrap_in]
        exact h1
      · simp (disch := omega) only [cpos, Int.toNat_natCast, getD_at hi, m1]
        refine Ev.bind hlow ?_
        rw [hpre]
        simp (disch := omega) only [Option.bind_some, cond_false, wrap_in]
        exact h2
theorem drop_ev (s : ByteArray) (hs : s.size ≤ 1048576) : ∃ r, Ev (fun k => spec_l8Drop.F k s) r ∧ Ev (fun k => impl_dropArticle.F k s) r ∧ r.size ≤ s.size := by
  obtain ⟨r, h1, h2, h3, h4⟩ := drop_l0 s hs [⟨#[97, 32]⟩, ⟨#[97, 110, 32]⟩, ⟨#[116, 104, 101, 32]⟩] (by simp) (by decide) 3 0 rfl
  unfold spec_l8Drop.F impl_dropArticle.F
  cases r with
  | inl z => exact ⟨z, Ev.bind h1 (Ev.pure _), Ev.bind h2 (Ev.pure _), h3 z rfl⟩
  | inr z => exact ⟨z, Ev.bind h1 (Ev.pure _), Ev.bind h2 (Ev.pure _), by rw [h4 z rfl]; exact Nat.le_refl _⟩
theorem part_w {s : ByteArray} {st i j : Nat} (hi : i ≤ s.size) (h : lowA (s.extract st i) = true) (h1 : st ≤ j) (h2 : j < i) : lowc (bt s j) = true := by
  unfold lowA at h
  have hsz : (s.extract st i).size = i - st := ext_size (by omega) hi
  have := List.all_eq_true.1 h (j - st) (List.mem_range'_1.2 ⟨by omega, by omega⟩)
  rwa [show bt (s.extract st i) (j - st) = bt s j by
    rw [L_bt, L_bt, L_extract]
    congr 1
    congr 1
    rw [List.getD_eq_getElem?_getD, List.getD_eq_getElem?_getD, List.getElem?_drop, List.getElem?_take, if_pos (by omega), show st + (j - st) = j by omega]] at this
theorem part_l (s : ByteArray) : ∀ n i : Nat, i + n = s.size → ∀ st : Nat, st ≤ i → (∀ j, st ≤ j → j < i → (L s)[j]? ≠ some 32) → (wordsFrom s st).all lowA = true → ∀ j, st ≤ j → j < s.size → bt s j = 32 ∨ lowc (bt s j) = true
  | 0, i, h, st, h1, h2, h3, j, h4, h5 => by
    rw [words_end s st (fun j a => by
      by_cases hj : j < i
      · exact h2 j a hj
      · rw [List.getElem?_eq_none (by rw [L_size]; omega)]; simp)] at h3
    simp only [List.all_cons, List.all_nil, Bool.and_true] at h3
    exact .inr (part_w (Nat.le_refl _) h3 h4 h5)
  | n + 1, i, h, st, h1, h2, h3, j, h4, h5 => by
    by_cases hb : (L s)[i]? = some 32
    · rw [words_hit s st i h1 (by omega) hb h2] at h3
      simp only [List.all_cons, Bool.and_eq_true] at h3
      by_cases hj : j < i
      · exact .inr (part_w (by omega) h3.1 h4 hj)
      · by_cases hj2 : j = i
        · subst hj2; exact .inl ((bt_sp (by omega)).2 hb)
        · exact part_l s n (i + 1) (by omega) (i + 1) (Nat.le_refl _) (fun k a b => by omega) h3.2 j (by omega) h5
    · exact part_l s n (i + 1) (by omega) st (by omega) (fun k a b => by
        by_cases e : k = i
        · subst e; exact hb
        · exact h2 k a (by omega)) h3 j h4 h5
theorem low_same (s : ByteArray) (h : ∀ j, j < s.size → bt s j = 32 ∨ lowc (bt s j) = true) : lowS s = s := by
  have hl := bytesL_len s
  have e : (bytesL s).map lowI = bytesL s := by
    apply List.ext_getElem (by simp)
    intro j h1 h2
    rw [List.getElem_map]
    have := h j (by omega)
    rw [bt_bytes s j h2] at this
    unfold lowI
    have hn : (decide (65 ≤ (bytesL s)[j]) && decide ((bytesL s)[j] ≤ 90)) = false := by
      rcases this with h3 | h3
      · rw [h3]; rfl
      · simp only [lowc, Bool.and_eq_true, decide_eq_true_eq] at h3
        rw [Bool.and_eq_false_iff]
        exact .inr (decide_eq_false (by omega))
    rw [hn]; rfl
  unfold lowS
  rw [e, strL_bytes]
theorem part_low {p : ByteArray} (h : particleB p = true) : lowS p = p := by
  refine low_same p fun j hj => ?_
  unfold particleB at h
  simp only [Bool.or_eq_true, decide_eq_true_eq, Bool.and_eq_true] at h
  rcases h with h | ⟨h, _⟩
  · omega
  · refine part_l p p.size 0 (by omega) 0 (Nat.le_refl _) (fun k a b => by omega) ?_ j (Nat.zero_le _) hj
    rw [words_from]
    refine List.all_eq_true.2 fun x hx => ?_
    have := List.all_eq_true.1 h x hx
    unfold pw at this
    simp only [Bool.and_eq_true] at this
    exact this.2
end Go.Proofs.YtolcacancfmmiaaGreatDoor
end
section
/- Comparing entries. -/
namespace Go.Proofs.YtolcacancfmmiaaGreatDoor
open Go.Gx
set_option linter.unusedVariables false
set_option linter.unusedSimpArgs false
theorem lower2_l0 (s : ByteArray) (hs : s.size ≤ 2097152) : ∀ n i : Nat, i + n = s.size → Ev (fun k => impl_lower.l0 k (mix s i) s.size i) ((bytesL s).map lowI)
  | 0, i, h => by
    refine Ev.step (fun k => by rw [impl_lower.l0]) ?_
    simp (disch := omega) only [cneg]
    unfold mix
    rw [List.take_of_length_le (by rw [bytesL_len]; omega), List.drop_eq_nil_of_le (by rw [bytesL_len]; omega), List.append_nil]
    exact Ev.pure _
  | n + 1, i, h => by
    have hl := bytesL_len s
    have hi : i < (bytesL s).length := by omega
    have hm := mix_len s i
    have ih := lower2_l0 s hs n (i + 1) (by omega)
    have hb := bytes_range s i hi
    refine Ev.step (fun k => by rw [impl_lower.l0]) ?_
    simp (disch := omega) only [cpos, Int.toNat_natCast, mix_at s i hi]
    refine Ev.bind0 (isUpper_ev _) ?_
    cases hu : decide (65 ≤ (bytesL s)[i]) && decide ((bytesL s)[i] ≤ 90) with
    | true =>
      have hu' := hu
      simp only [Bool.and_eq_true, decide_eq_true_eq] at hu'
      have e : IntKind.wrap .u8 (IntKind.wrap .u8 ((bytesL s)[i] + 97) - 65) = lowI (bytesL s)[i] := by
        unfold lowI
        rw [hu, cond_true, IntKind.wrap_u8, IntKind.wrap_u8]; omega
      simp (disch := omega) only [cond_true, cpos, e, mix_set s i hi, wrap_in]
      exact ih
    | false =>
      have e : lowI (bytesL s)[i] = (bytesL s)[i] := by unfold lowI; rw [hu, cond_false]
      rw [mix_same s i hi e] at ih
      simp (disch := omega) only [cond_false, wrap_in]
      exact ih
theorem lower2_ev (s : ByteArray) (hs : s.size ≤ 2097152) : Ev (fun k => impl_lower.F k s) (lowS s) := by
  unfold impl_lower.F
  rw [bytesL_len]
  simp (disch := omega) only [cble]
  have := lower2_l0 s hs s.size 0 (by omega)
  unfold mix at this
  rw [List.take_zero, List.map_nil, List.nil_append, List.drop_zero] at this
  exact Ev.bind this (Ev.pure _)
def fullT (n : Name) : ByteArray := joinT [32] ([joinT [32] n.given, n.particle, n.family, n.suffix].filter nonE)
theorem full_size (n : Name) (hs : smallN n) : totS [joinT [32] n.given, n.particle, n.family, n.suffix] ≤ 1048580 ∧ (fullT n).size ≤ 1048590 := by
  have h3 := small_parts hs
  have h2 := gv_size n
  have e : totS [joinT [32] n.given, n.particle, n.family, n.suffix] = (joinT [32] n.given).size + (n.particle.size + (n.family.size + n.suffix.size)) := by simp [totS]
  have h1 := joinT_size [32] ([joinT [32] n.given, n.particle, n.family, n.suffix].filter nonE)
  have h4 := totS_filter nonE [joinT [32] n.given, n.particle, n.family, n.suffix]
  have h5 : ([joinT [32] n.given, n.particle, n.family, n.suffix].filter nonE).length ≤ 4 := List.length_filter_le _ _
  simp only [List.length_singleton, Nat.one_mul] at h1
  unfold fullT
  omega
theorem specFull_ev (n : Name) (hs : smallN n) (hv : nameB n = true) : Ev (fun k => spec_l2Full.F k n) (fullT n) := by
  have h3 := small_parts hs
  have hg := l2Join_ev n.given (by omega) (by omega)
  rw [given_all hv] at hg
  unfold spec_l2Full.F spec_l2Given.F
  exact Ev.bind (Ev.bind hg (Ev.pure _)) (Ev.bind (l2Join_ev _ (by simp) (by have := (full_size n hs).1; omega)) (Ev.pure _))
theorem implFull_ev (n : Name) (hs : smallN n) : Ev (fun k => impl_fullForm.F k n) (fullT n) := by
  have h3 := small_parts hs
  have hg : strings_Join.F n.given ⟨#[32]⟩ = some (joinT [32] n.given) := xJoin_eq ⟨#[32]⟩ n.given (by omega) (by omega) (by decide)
  unfold impl_fullForm.F
  exact Ev.bind0 hg (Ev.bind (spaced_ev _ (by simp) (by have := (full_size n hs).1; omega)) (Ev.pure _))
def nmC (a b : Name) : Int := orI [tc (lowS a.family) (lowS b.family), tc a.particle b.particle, tc (lowS (fullT a)) (lowS (fullT b)), tc (invT a) (invT b)]
theorem name_part {n : Name} (hv : nameB n = true) : particleB n.particle = true := by
  unfold nameB at hv
  simp only [Bool.and_eq_true] at hv
  exact hv.2.2.1
theorem specNm_ev (a b : Name) (ha : smallN a) (hb : smallN b) (va : nameB a = true) (vb : nameB b = true) : Ev (fun k => spec_l2Compare.F k a b) (nmC a b) := by
  have sa := small_parts ha
  have sb := small_parts hb
  have fa := (full_size a ha).2
  have fb := (full_size b hb).2
  unfold spec_l2Compare.F nmC
  refine Ev.bind (specLow_ev _ (by omega)) (Ev.bind (specLow_ev _ (by omega)) (Ev.bind0 (text_ev _ _) ?_))
  by_cases h1 : tc (lowS a.family) (lowS b.family) = 0
  · simp only [cbeq h1, orI, if_pos h1]
    refine Ev.bind0 (text_ev _ _) ?_
    by_cases h2 : tc a.particle b.particle = 0
    · simp only [cbeq h2, if_pos h2]
      refine Ev.bind (specFull_ev a ha va) (Ev.bind (specLow_ev _ (by omega)) (Ev.bind (specFull_ev b hb vb) (Ev.bind (specLow_ev _ (by omega)) (Ev.bind0 (text_ev _ _) ?_))))
      by_cases h3 : tc (lowS (fullT a)) (lowS (fullT b)) = 0
      · simp only [cbeq h3, if_pos h3]
        refine Ev.bind (specInv_ev a ha va) (Ev.bind (specInv_ev b hb vb) (Ev.bind0 (text_ev _ _) ((Ev.pure _).eq ?_)))
        split
        · assumption
        · rfl
      · simp only [cbne h3, if_neg h3]
        exact Ev.pure _
    · simp only [cbne h2, if_neg h2]
      exact Ev.pure _
  · simp only [cbne h1, orI, if_neg h1]
    exact Ev.pure _
theorem implNm_ev (a b : Name) (ha : smallN a) (hb : smallN b) (va : nameB a = true) (vb : nameB b = true) : Ev (fun k => impl_compareNames.F k a b) (nmC a b) := by
  have sa := small_parts ha
  have sb := small_parts hb
  have fa := (full_size a ha).2
  have fb := (full_size b hb).2
  have pa := lower2_ev a.particle (by omega)
  have pb := lower2_ev b.particle (by omega)
  rw [part_low (name_part va)] at pa
  rw [part_low (name_part vb)] at pb
  unfold impl_compareNames.F nmC
  refine Ev.bind (lower2_ev _ (by omega)) (Ev.bind (lower2_ev _ (by omega)) (Ev.bind0 (cmpS_ev _ _) (Ev.bind pa (Ev.bind pb (Ev.bind0 (cmpS_ev _ _) ?_)))))
  refine Ev.bind (implFull_ev a ha) (Ev.bind (lower2_ev _ (by omega)) (Ev.bind (implFull_ev b hb) (Ev.bind (lower2_ev _ (by omega)) (Ev.bind0 (cmpS_ev _ _) ?_))))
  exact Ev.bind (implInv_ev a ha) (Ev.bind (implInv_ev b hb) (Ev.bind0 (cmpS_ev _ _) (Ev.bind (or_ev _ (by simp)) (Ev.pure _))))
def nmsOk (l : List Name) : Prop := l.length ≤ 4 ∧ ∀ n ∈ l, smallN n ∧ nameB n = true
def nmsC : List Name → List Name → Int
  | [], [] => 0
  | [], _ :: _ => -1
  | _ :: _, [] => 1
  | a :: ar, b :: bs => if nmC a b = 0 then nmsC ar bs else nmC a b
theorem nms_l0 (xs ys : List Name) (hx : nmsOk xs) (hy : nmsOk ys) : ∀ n i : Nat, i + n = xs.length → i ≤ ys.length → ∃ r r', Ev (fun k => spec_l8Names.l0 k xs ys i) r ∧ Ev (fun k => slices_CompareFunc_Name_f73.l0 k xs ys xs xs.length i) r' ∧
    (∀ z, r = .inl z → z = nmsC (xs.drop i) (ys.drop i)) ∧ (∀ z, r = .inr z → z = (xs, ys) ∧ (if xs.length < ys.length then -1 else if xs.length > ys.length then 1 else 0) = nmsC (xs.drop i) (ys.drop i)) ∧ (∀ z, r' = .inl z → z = nmsC (xs.drop i) (ys.drop i)) ∧ (∀ z, r' = .inr z → z = (xs, ys) ∧ (if xs.length < ys.length then -1 else 0) = nmsC (xs.drop i) (ys.drop i))
  | 0, i, h, hi2 => by
    have hlx := hx.1
    have hly := hy.1
    have hd : xs.drop i = [] := List.drop_eq_nil_of_le (by omega)
    have hc : nmsC (xs.drop i) (ys.drop i) = if xs.length < ys.length then -1 else 0 := by
      rw [hd]
      by_cases hlt : xs.length < ys.length
      · rw [if_pos hlt, List.drop_eq_getElem_cons (show i < ys.length by omega)]; rfl
      · rw [if_neg hlt, List.drop_eq_nil_of_le (by omega)]; rfl
    refine ⟨.inr (xs, ys), .inr (xs, ys), Ev.step (fun k => by rw [spec_l8Names.l0]) ?_, Ev.step (fun k => by rw [slices_CompareFunc_Name_f73.l0]) ?_, fun z e => (by cases e), fun z e => ?_, fun z e => (by cases e), fun z e => ?_⟩
    · simp (disch := omega) only [cneg]; exact Ev.pure _
    · simp (disch := omega) only [cneg]; exact Ev.pure _
    · cases e
      refine ⟨rfl, ?_⟩
      rw [hc]
      by_cases hlt : xs.length < ys.length
      · rw [if_pos hlt, if_pos hlt]
      · rw [if_neg hlt, if_neg hlt, if_neg (by omega)]
    · cases e; exact ⟨rfl, hc.symm⟩
  | n + 1, i, h, hi2 => by
    have hlx := hx.1
    have hly := hy.1
    have hi : i < xs.length := by omega
    have hdx : xs.drop i = xs[i] :: xs.drop (i + 1) := List.drop_eq_getElem_cons hi
    by_cases hj : i < ys.length
    · have hdy : ys.drop i = ys[i] :: ys.drop (i + 1) := List.drop_eq_getElem_cons hj
      have hc : nmsC (xs.drop i) (ys.drop i) = if nmC xs[i] ys[i] = 0 then nmsC (xs.drop (i + 1)) (ys.drop (i + 1)) else nmC xs[i] ys[i] := by rw [hdx, hdy]; rfl
      obtain ⟨s1, v1⟩ := hx.2 _ (List.getElem_mem hi)
      obtain ⟨s2, v2⟩ := hy.2 _ (List.getElem_mem hj)
      have e1 := specNm_ev _ _ s1 s2 v1 v2
      have e2 := implNm_ev _ _ s1 s2 v1 v2
      by_cases h0 : nmC xs[i] ys[i] = 0
      · obtain ⟨r, r', k1, k2, k3, k4, k5, k6⟩ := nms_l0 xs ys hx hy n (i + 1) (by omega) (by omega)
        rw [hc, if_pos h0]
        refine ⟨r, r', Ev.step (fun k => by rw [spec_l8Names.l0]) ?_, Ev.step (fun k => by rw [slices_CompareFunc_Name_f73.l0]) ?_, k3, k4, k5, k6⟩
        · simp (disch := omega) only [cpos, Int.toNat_natCast, getD_at hi, getD_at hj]
          refine Ev.bind e1 ?_
          simp (disch := omega) only [cbeq, wrap_in]
          exact k1
        · simp (disch := omega) only [cpos, cneg, Int.toNat_natCast, getD_at hi, getD_at hj]
          refine Ev.bind e2 ?_
          simp (disch := omega) only [cbeq, wrap_in]
          exact k2
      · rw [hc, if_neg h0]
        refine ⟨.inl (nmC xs[i] ys[i]), .inl (nmC xs[i] ys[i]), Ev.step (fun k => by rw [spec_l8Names.l0]) ?_, Ev.step (fun k => by rw [slices_CompareFunc_Name_f73.l0]) ?_, fun z e => (by cases e; rfl), fun z e => (by cases e), fun z e => (by cases e; rfl), fun z e => (by cases e)⟩
        · simp (disch := omega) only [cpos, Int.toNat_natCast, getD_at hi, getD_at hj]
          refine Ev.bind e1 ?_
          simp (disch := omega) only [cbne]
          exact Ev.pure _
        · simp (disch := omega) only [cpos, cneg, Int.toNat_natCast, getD_at hi, getD_at hj]
          refine Ev.bind e2 ?_
          simp (disch := omega) only [cbne]
          exact Ev.pure _
    · have hc : nmsC (xs.drop i) (ys.drop i) = 1 := by rw [hdx, List.drop_eq_nil_of_le (show ys.length ≤ i by omega)]; rfl
      refine ⟨.inr (xs, ys), .inl 1, Ev.step (fun k => by rw [spec_l8Names.l0]) ?_, Ev.step (fun k => by rw [slices_CompareFunc_Name_f73.l0]) ?_, fun z e => (by cases e), fun z e => ?_, fun z e => (by cases e; exact hc.symm), fun z e => (by cases e)⟩
      · simp (disch := omega) only [cpos, cneg]; exact Ev.pure _
      · simp (disch := omega) only [cpos]; exact Ev.pure _
      · cases e
        refine ⟨rfl, ?_⟩
        rw [hc, if_neg (by omega), if_pos (by omega)]
theorem nms_ev (xs ys : List Name) (hx : nmsOk xs) (hy : nmsOk ys) : Ev (fun k => spec_l8Names.F k xs ys) (nmsC xs ys) ∧ Ev (fun k => slices_CompareFunc_Name_f73.F k xs ys) (nmsC xs ys) := by
  obtain ⟨r, r', k1, k2, k3, k4, k5, k6⟩ := nms_l0 xs ys hx hy xs.length 0 (by omega) (Nat.zero_le _)
  rw [List.drop_zero, List.drop_zero] at k3 k4 k5 k6
  have hlx := hx.1
  have hly := hy.1
  unfold spec_l8Names.F slices_CompareFunc_Name_f73.F
  constructor
  · cases r with
    | inl z => exact Ev.bind k1 ((Ev.pure _).eq (k3 z rfl))
    | inr z =>
      obtain ⟨rfl, h2⟩ := k4 z rfl
      refine Ev.bind k1 ?_
      rw [← h2]
      show Ev (fun _ => bif decide ((xs.length : Int) < (ys.length : Int)) then some (-1) else (bif decide ((xs.length : Int) > (ys.length : Int)) then some 1 else some 0)) _
      by_cases h5 : xs.length < ys.length
      · simp (disch := omega) only [cpos, if_pos h5]; exact Ev.pure _
      · by_cases h6 : xs.length > ys.length
        · simp (disch := omega) only [cpos, cneg, if_neg h5, if_pos h6]; exact Ev.pure _
        · simp (disch := omega) only [cneg, if_neg h5, if_neg h6]; exact Ev.pure _
  · cases r' with
    | inl z => exact Ev.bind k2 ((Ev.pure _).eq (k5 z rfl))
    | inr z =>
      obtain ⟨rfl, h2⟩ := k6 z rfl
      refine Ev.bind k2 ?_
      rw [← h2]
      show Ev (fun _ => bif decide ((xs.length : Int) < (ys.length : Int)) then some (-1) else some 0) _
      by_cases h5 : xs.length < ys.length
      · simp (disch := omega) only [cpos, if_pos h5]; exact Ev.pure _
      · simp (disch := omega) only [cneg, if_neg h5]; exact Ev.pure _
end Go.Proofs.YtolcacancfmmiaaGreatDoor
end
section
/- Comparing dates and entries. -/
namespace Go.Proofs.YtolcacancfmmiaaGreatDoor
open Go.Gx
set_option linter.unusedVariables false
set_option linter.unusedSimpArgs false
def ole31 (f : Option Int) : Prop := ∀ r, f = some r → r ≤ 31
theorem ole31_cond {b : Bool} {x y : Option Int} (hx : ole31 x) (hy : ole31 y) : ole31 (cond b x y) := by cases b <;> assumption
theorem ole31_none : ole31 none := fun r h => by cases h
theorem ole31_some {n : Int} (h : n ≤ 31) : ole31 (some n) := fun r e => by cases e; exact h
theorem days31 {y m r : Int} (h : impl_daysInMonth.F y m = some r) : r ≤ 31 := by
  refine (?_ : ole31 (impl_daysInMonth.F y m)) r h
  unfold impl_daysInMonth.F
  repeat first | exact ole31_none | exact ole31_some (by decide) | apply ole31_cond
theorem dateB_rng2 {d : Date} (h : dateB d = true) : 0 ≤ d.y ∧ d.y ≤ 2999 ∧ 0 ≤ d.m ∧ d.m ≤ 12 ∧ 0 ≤ d.d ∧ d.d ≤ 31 := by
  have h1 := isDate_ev d
  rw [h] at h1
  unfold impl_IsValidDate.F at h1
  cases hz : (d.y == 0 && (d.m == 0 && (d.d == 0 && d.c == false))) with
  | true =>
    simp only [Bool.and_eq_true, beq_iff_eq] at hz
    omega
  | false =>
    rw [hz] at h1
    simp only [cond_false, inside_ev, Option.bind_some] at h1
    cases hy : (decide (d.y ≥ 1) && decide (d.y ≤ 2999)) with
    | false => rw [hy] at h1; cases h1
    | true =>
      rw [hy] at h1
      cases hm : (decide (d.m ≥ 0) && decide (d.m ≤ 12)) with
      | false => rw [hm] at h1; cases h1
      | true =>
        rw [hm] at h1
        simp only [Bool.and_eq_true, decide_eq_true_eq] at hy hm
        obtain ⟨r, r1, r2⟩ := days_eq d.y d.m (by omega)
        have hr : r ≤ 31 := days31 r2
        rw [r2] at h1
        simp only [Bool.not_true, cond_false, Option.bind_some, inside_ev] at h1
        refine ⟨by omega, by omega, by omega, by omega, ?_⟩
        cases hc : d.c <;> rw [hc] at h1 <;> simp only [cond_true, cond_false] at h1 <;> cases h2 : (d.m == 0) <;> (have h3 : (d.m != 0) = !(d.m == 0) := rfl) <;> simp only [h3, h2, Bool.not_true, Bool.not_false, cond_true, cond_false, Option.some.injEq, beq_iff_eq, Bool.and_eq_true, decide_eq_true_eq] at h1 <;> first | omega | (cases h1; done)
def cirN (d : Date) : Int := bif d.c then 1 else 0
def dtC (a b : Date) : Int := orI [ic a.y b.y, ic a.m b.m, ic a.d b.d, ic (cirN a) (cirN b)]
theorem implDt_ev (a b : Date) : Ev (fun k => impl_compareDates.F k a b) (dtC a b) := by
  unfold impl_compareDates.F dtC
  have hc : ∀ d : Date, impl_circaNumber.F d = some (cirN d) := fun d => by unfold impl_circaNumber.F cirN; cases d.c <;> rfl
  exact Ev.bind0 (cmpI_ev _ _) (Ev.bind0 (cmpI_ev _ _) (Ev.bind0 (cmpI_ev _ _) (Ev.bind0 (hc a) (Ev.bind0 (hc b) (Ev.bind0 (cmpI_ev _ _) (Ev.bind (or_ev _ (by simp)) (Ev.pure _)))))))
theorem ic_lt {a b : Int} (h : a < b) : ic a b = -1 := by unfold ic; rw [if_pos h]
theorem ic_gt {a b : Int} (h : b < a) : ic a b = 1 := by unfold ic; rw [if_neg (by omega), if_pos h]
theorem ic_eq {a b : Int} (h : a = b) : ic a b = 0 := by unfold ic; rw [if_neg (by omega), if_neg (by omega)]
theorem or_pos {x : Int} {l : List Int} (h : x ≠ 0) : orI (x :: l) = x := by simp only [orI, if_neg h]
theorem or_zero {x : Int} {l : List Int} (h : x = 0) : orI (x :: l) = orI l := by simp only [orI, if_pos h]
theorem specDt_ev (a b : Date) (ha : dateB a = true) (hb : dateB b = true) : spec_l3Compare.F a b = some (dtC a b) := by
  obtain ⟨a1, a2, a3, a4, a5, a6⟩ := dateB_rng2 ha
  obtain ⟨b1, b2, b3, b4, b5, b6⟩ := dateB_rng2 hb
  have e : IntKind.wrap .i64 ((IntKind.wrap .i64 ((IntKind.wrap .i64 ((IntKind.wrap .i64 ((IntKind.wrap .i64 ((IntKind.wrap .i64 (a.y * 13)) + a.m)) * 32)) + a.d)) - (IntKind.wrap .i64 ((IntKind.wrap .i64 ((IntKind.wrap .i64 (b.y * 13)) + b.m)) * 32)))) - b.d) = ((a.y * 13 + a.m) * 32 + a.d) - ((b.y * 13 + b.m) * 32 + b.d) := by
    simp (disch := omega) only [wrap_in]
    omega
  unfold spec_l3Compare.F
  rw [e]
  unfold dtC
  by_cases h1 : a.y < b.y
  · rw [ic_lt h1, or_pos (by decide), cpos (by omega)]
  by_cases h1' : b.y < a.y
  · rw [ic_gt h1', or_pos (by decide)]
    simp (disch := omega) only [cneg, cne, cpos]
  have h1 : a.y = b.y := by omega
  rw [ic_eq h1, or_zero rfl]
  by_cases h2 : a.m < b.m
  · rw [ic_lt h2, or_pos (by decide), cpos (by omega)]
  by_cases h2' : b.m < a.m
  · rw [ic_gt h2', or_pos (by decide)]
    simp (disch := omega) only [cneg, cne, cpos]
  have h2 : a.m = b.m := by omega
  rw [ic_eq h2, or_zero rfl]
  by_cases h3 : a.d < b.d
  · rw [ic_lt h3, or_pos (by decide), cpos (by omega)]
  by_cases h3' : b.d < a.d
  · rw [ic_gt h3', or_pos (by decide)]
    simp (disch := omega) only [cneg, cne, cpos]
  have h3 : a.d = b.d := by omega
  rw [ic_eq h3, or_zero rfl]
  simp (disch := omega) only [cneg, ceq]
  unfold cirN
  cases a.c <;> cases b.c <;> rfl
structure EOk (e : Entry) : Prop where
  au : nmsOk e.authors
  ed : nmsOk e.editors
  da : dateB e.date = true
  ti : e.title.size ≤ 1048576
theorem eOk_of {e : Entry} (hs : smallE e) (hv : entryB e = true) : EOk e := by
  obtain ⟨h1, h2, h3, _, _, h6, h7⟩ := okF_of hs hv
  obtain ⟨a1, a2⟩ := names_of h1
  obtain ⟨b1, b2⟩ := names_of h2
  refine ⟨⟨a1, fun n hn => ⟨smallNs_at h6 hn, a2 n hn⟩⟩, ⟨b1, fun n hn => ⟨smallNs_at h7 hn, b2 n hn⟩⟩, h3, ?_⟩
  unfold smallE totE at hs
  omega
def mainN (e : Entry) : List Name := bif decide ((e.authors.length : Int) > 0) then e.authors else e.editors
theorem main_ok {e : Entry} (h : EOk e) : nmsOk (mainN e) := by
  unfold mainN
  cases decide ((e.authors.length : Int) > 0)
  · exact h.ed
  · exact h.au
theorem specMain_ev (e : Entry) : spec_l8Main.F e = some (mainN e) := by unfold spec_l8Main.F mainN; cases decide ((e.authors.length : Int) > 0) <;> rfl
theorem implMain_ev (e : Entry) : impl_mainNames.F e = some (mainN e) := by unfold impl_mainNames.F mainN; cases decide ((e.authors.length : Int) > 0) <;> rfl
theorem cmpE_ev (a b : Entry) (ha : EOk a) (hb : EOk b) : ∃ r, Ev (fun k => spec_l8Compare.F k a b) r ∧ Ev (fun k => impl_compareEntries.F k a b) r := by
  obtain ⟨n1, n2⟩ := nms_ev _ _ (main_ok ha) (main_ok hb)
  have d1 := specDt_ev _ _ ha.da hb.da
  have d2 := implDt_ev a.date b.date
  obtain ⟨x, x1, x2, x3⟩ := drop_ev a.title ha.ti
  obtain ⟨y, y1, y2, y3⟩ := drop_ev b.title hb.ti
  obtain ⟨c, c1, c2⟩ := collate_ev x y (by have := ha.ti; omega) (by have := hb.ti; omega)
  refine ⟨orI [nmsC (mainN a) (mainN b), dtC a.date b.date, c, ic a.volume b.volume, tc a.key b.key], ?_, ?_⟩
  · unfold spec_l8Compare.F
    refine Ev.bind0 (specMain_ev a) (Ev.bind0 (specMain_ev b) (Ev.bind n1 ?_))
    by_cases h1 : nmsC (mainN a) (mainN b) = 0
    · rw [or_zero h1]
      simp only [cbeq h1]
      refine Ev.bind0 d1 ?_
      by_cases h2 : dtC a.date b.date = 0
      · rw [or_zero h2]
        simp only [cbeq h2]
        refine Ev.bind x1 (Ev.bind y1 (Ev.bind c1 ?_))
        by_cases h3 : c = 0
        · rw [or_zero h3]
          simp only [cbeq h3]
          by_cases h4 : a.volume < b.volume
          · rw [ic_lt h4, or_pos (by decide)]
            simp (disch := omega) only [cpos]
            exact Ev.pure _
          · by_cases h5 : b.volume < a.volume
            · rw [ic_gt h5, or_pos (by decide)]
              simp (disch := omega) only [cpos, cneg]
              exact Ev.pure _
            · rw [ic_eq (by omega), or_zero rfl]
              simp (disch := omega) only [cneg]
              refine Ev.bind0 (text_ev _ _) ((Ev.pure _).eq ?_)
              simp only [orI]
              split
              · assumption
              · rfl
        · rw [or_pos h3]
          simp only [cbne h3]
          exact Ev.pure _
      · rw [or_pos h2]
        simp only [cbne h2]
        exact Ev.pure _
    · rw [or_pos h1]
      simp only [cbne h1]
      exact Ev.pure _
  · unfold impl_compareEntries.F
    exact Ev.bind0 (implMain_ev a) (Ev.bind0 (implMain_ev b) (Ev.bind n2 (Ev.bind d2 (Ev.bind x2 (Ev.bind y2 (Ev.bind c2 (Ev.bind0 (cmpI_ev _ _) (Ev.bind0 (cmpS_ev _ _) (Ev.bind (or_ev _ (by simp)) (Ev.pure _))))))))))
end Go.Proofs.YtolcacancfmmiaaGreatDoor
end
section
/- Sorting of short lists by insertion. -/
namespace Go.Proofs.YtolcacancfmmiaaGreatDoor
open Go.Gx
set_option linter.unusedVariables false
set_option linter.unusedSimpArgs false
def posn (lt : ByteArray → ByteArray → Bool) (x : ByteArray) (out : List ByteArray) : Nat → Nat
  | 0 => 0
  | k + 1 => bif lt x (out.getD k ⟨#[]⟩) then posn lt x out k else k + 1
theorem posn_le (lt : ByteArray → ByteArray → Bool) (x : ByteArray) (out : List ByteArray) : ∀ k, posn lt x out k ≤ k
  | 0 => Nat.le_refl _
  | k + 1 => by
    have := posn_le lt x out k
    unfold posn
    cases lt x (out.getD k ⟨#[]⟩) <;> simp only [cond_true, cond_false] <;> omega
def at_ (x : ByteArray) (out rest : List ByteArray) (j : Nat) : List ByteArray := out.take j ++ x :: (out.drop j ++ rest)
def insA (lt : ByteArray → ByteArray → Bool) (out : List ByteArray) (x : ByteArray) : List ByteArray := out.take (posn lt x out out.length) ++ x :: out.drop (posn lt x out out.length)
def isort (lt : ByteArray → ByteArray → Bool) (xs : List ByteArray) : List ByteArray := xs.foldl (insA lt) []
theorem insA_len (lt : ByteArray → ByteArray → Bool) (out : List ByteArray) (x : ByteArray) : (insA lt out x).length = out.length + 1 := by
  have := posn_le lt x out out.length
  unfold insA
  simp only [List.length_append, List.length_take, List.length_cons, List.length_drop]
  omega
theorem insA_mem {lt : ByteArray → ByteArray → Bool} {out : List ByteArray} {x y : ByteArray} (h : y ∈ insA lt out x) : y = x ∨ y ∈ out := by
  unfold insA at h
  simp only [List.mem_append, List.mem_cons] at h
  rcases h with h | h | h
  · exact .inr (List.mem_of_mem_take h)
  · exact .inl h
  · exact .inr (List.mem_of_mem_drop h)
theorem fold_len (lt : ByteArray → ByteArray → Bool) : ∀ (xs out : List ByteArray), (xs.foldl (insA lt) out).length = out.length + xs.length
  | [], out => rfl
  | x :: xs, out => by rw [List.foldl_cons, fold_len lt xs, insA_len, List.length_cons]; omega
theorem fold_mem {lt : ByteArray → ByteArray → Bool} : ∀ {xs out : List ByteArray} {y : ByteArray}, y ∈ xs.foldl (insA lt) out → y ∈ xs ∨ y ∈ out
  | [], out, y, h => .inr h
  | x :: xs, out, y, h => by
    rcases fold_mem (xs := xs) h with h | h
    · exact .inl (List.mem_cons_of_mem _ h)
    · rcases insA_mem h with h | h
      · exact .inl (h ▸ List.mem_cons_self)
      · exact .inr h
theorem isort_len (lt : ByteArray → ByteArray → Bool) (xs : List ByteArray) : (isort lt xs).length = xs.length := by unfold isort; rw [fold_len]; simp
theorem isort_mem {lt : ByteArray → ByteArray → Bool} {xs : List ByteArray} {y : ByteArray} (h : y ∈ isort lt xs) : y ∈ xs := by
  rcases fold_mem h with h | h
  · exact h
  · cases h
theorem at_split (x : ByteArray) (out rest : List ByteArray) (j : Nat) (h : j < out.length) :
    at_ x out rest (j + 1) = out.take j ++ out[j] :: x :: (out.drop (j + 1) ++ rest) ∧ at_ x out rest j = out.take j ++ x :: out[j] :: (out.drop (j + 1) ++ rest) := by
  unfold at_
  constructor
  · rw [← List.take_append_getElem h, List.append_assoc]; rfl
  · rw [List.drop_eq_getElem_cons h]; rfl
theorem at_len (x : ByteArray) (out rest : List ByteArray) (j : Nat) (h : j ≤ out.length) : (at_ x out rest j).length = out.length + 1 + rest.length := by
  unfold at_
  simp only [List.length_append, List.length_take, List.length_cons, List.length_drop]
  omega
theorem at_get (x : ByteArray) (out rest : List ByteArray) (j : Nat) (h : j < out.length) : (at_ x out rest (j + 1)).getD (j + 1) ⟨#[]⟩ = x ∧ (at_ x out rest (j + 1)).getD j ⟨#[]⟩ = out[j] := by
  have hl : (out.take j).length = j := by rw [List.length_take]; omega
  rw [(at_split x out rest j h).1]
  constructor
  · rw [List.getD_eq_getElem?_getD, List.getElem?_append_right (by omega), hl, show j + 1 - j = 1 by omega]; rfl
  · rw [List.getD_eq_getElem?_getD, List.getElem?_append_right (by omega), hl, Nat.sub_self]; rfl
theorem at_swap (x : ByteArray) (out rest : List ByteArray) (j : Nat) (h : j < out.length) : ((at_ x out rest (j + 1)).set (j + 1) out[j]).set j x = at_ x out rest j := by
  have hl : (out.take j).length = j := by rw [List.length_take]; omega
  rw [(at_split x out rest j h).1, (at_split x out rest j h).2, List.set_append_right _ _ (by omega), hl, show j + 1 - j = 1 by omega, List.set_append_right _ _ (by omega), hl, Nat.sub_self]
  rfl
theorem ins_l2_k (l : Library) (lt : ByteArray → ByteArray → Bool) (x : ByteArray) (out rest : List ByteArray) (b i : Int) (hl : out.length + rest.length ≤ 100) (hC : ∀ y ∈ out, ∃ c : Int, Ev (fun k => impl_sortKeys_1.F k x y l) c ∧ decide (c < 0) = lt x y) :
    ∀ j : Nat, j ≤ out.length → Ev (fun k => slices_insertionSortCmpFunc_string_f49.l2 k (at_ x out rest j) 0 b l i j) (at_ x out rest (posn lt x out j), 0, b, l, i)
  | 0, hj => by
    refine Ev.step (fun k => by rw [slices_insertionSortCmpFunc_string_f49.l2]) ?_
    simp (disch := omega) only [cneg]
    exact Ev.pure _
  | j + 1, hj => by
    have ih := ins_l2_k l lt x out rest b i hl hC j (by omega)
    have hlen := at_len x out rest (j + 1) (by omega)
    obtain ⟨g1, g2⟩ := at_get x out rest j (by omega)
    obtain ⟨c, c1, c2⟩ := hC out[j] (List.getElem_mem (by omega))
    have hj1 : IntKind.wrap .i64 (((j + 1 : Nat) : Int) - 1) = (j : Int) := by rw [wrap_in (by omega) (by omega)]; omega
    refine Ev.step (fun k => by rw [slices_insertionSortCmpFunc_string_f49.l2]) ?_
    rw [hj1]
    simp (disch := omega) only [cpos, Int.toNat_natCast, g1, g2]
    refine Ev.bind c1 ?_
    unfold posn
    rw [getD_at (show j < out.length by omega), c2]
    cases lt x out[j] with
    | false => exact Ev.pure _
    | true =>
      simp (disch := omega) only [cond_true, cpos, List.length_set, at_swap x out rest j (by omega)]
      exact ih
theorem ins_l0_k (l : Library) (lt : ByteArray → ByteArray → Bool) (keys : List ByteArray) (hk : keys.length ≤ 100) (hC : ∀ x ∈ keys, ∀ y ∈ keys, ∃ c : Int, Ev (fun k => impl_sortKeys_1.F k x y l) c ∧ decide (c < 0) = lt x y) :
    ∀ n i : Nat, i + n = keys.length → ∀ out : List ByteArray, out.length = i → (∀ y ∈ out, y ∈ keys) → Ev (fun k => slices_insertionSortCmpFunc_string_f49.l0 k (out ++ keys.drop i) 0 keys.length l i) ((keys.drop i).foldl (insA lt) out)
  | 0, i, h, out, ho, hm => by
    refine Ev.step (fun k => by rw [slices_insertionSortCmpFunc_string_f49.l0]) ?_
    simp (disch := omega) only [cneg]
    rw [List.drop_eq_nil_of_le (by omega), List.append_nil]
    exact Ev.pure _
  | n + 1, i, h, out, ho, hm => by
    have hi : i < keys.length := by omega
    have hd : keys.drop i = keys[i] :: keys.drop (i + 1) := List.drop_eq_getElem_cons hi
    have hx : keys[i] ∈ keys := List.getElem_mem hi
    have h2 := ins_l2_k l lt keys[i] out (keys.drop (i + 1)) keys.length i (by rw [List.length_drop]; omega) (fun y hy => hC _ hx _ (hm y hy)) out.length (Nat.le_refl _)
    have e1 : at_ keys[i] out (keys.drop (i + 1)) out.length = out ++ keys.drop i := by unfold at_; rw [List.take_length, List.drop_length, hd]; rfl
    have e2 : at_ keys[i] out (keys.drop (i + 1)) (posn lt keys[i] out out.length) = insA lt out keys[i] ++ keys.drop (i + 1) := by unfold at_ insA; rw [List.append_assoc]; rfl
    rw [e1, e2, ho] at h2
    have ih := ins_l0_k l lt keys hk hC n (i + 1) (by omega) (insA lt out keys[i]) (by rw [insA_len, ho]) (fun y hy => by
      rcases insA_mem hy with h | h
      · exact h ▸ hx
      · exact hm y h)
    refine Ev.step (fun k => by rw [slices_insertionSortCmpFunc_string_f49.l0]) ?_
    simp (disch := omega) only [cpos]
    refine Ev.bind h2 ?_
    simp (disch := omega) only [wrap_in, ho]
    have e3 : (keys.drop i).foldl (insA lt) out = (keys.drop (i + 1)).foldl (insA lt) (insA lt out keys[i]) := by rw [hd, List.foldl_cons]
    rw [e3]
    exact ih
theorem ins_ev_k (l : Library) (lt : ByteArray → ByteArray → Bool) (keys : List ByteArray) (hk : keys.length ≤ 100) (hC : ∀ x ∈ keys, ∀ y ∈ keys, ∃ c : Int, Ev (fun k => impl_sortKeys_1.F k x y l) c ∧ decide (c < 0) = lt x y) : Ev (fun k => slices_insertionSortCmpFunc_string_f49.F k keys 0 keys.length l) (isort lt keys) := by
  unfold slices_insertionSortCmpFunc_string_f49.F
  have h : Ev (fun k => slices_insertionSortCmpFunc_string_f49.l0 k keys 0 keys.length l (1 : Nat)) (isort lt keys) := by
    cases keys with
    | nil =>
      refine Ev.step (fun k => by rw [slices_insertionSortCmpFunc_string_f49.l0]) ?_
      simp (disch := simp) only [cneg]
      exact Ev.pure _
    | cons x r =>
      have := ins_l0_k l lt (x :: r) hk hC r.length 1 (by simp; omega) [x] rfl (fun y hy => by simp at hy; exact hy ▸ List.mem_cons_self)
      exact this
  refine Ev.bind h ?_
  rw [isort_len, Nat.beq_refl]
  exact Ev.pure _
theorem ins_l2_y (l : Library) (lt : ByteArray → ByteArray → Bool) (x : ByteArray) (out rest : List ByteArray) (b i : Int) (hl : out.length + rest.length ≤ 100) (hC : ∀ y ∈ out, ∃ c : Int, Ev (fun k => impl_bibliographyKeys_1.F k x y l) c ∧ decide (c < 0) = lt x y) :
    ∀ j : Nat, j ≤ out.length → Ev (fun k => slices_insertionSortCmpFunc_string_f34.l2 k (at_ x out rest j) 0 b l i j) (at_ x out rest (posn lt x out j), 0, b, l, i)
  | 0, hj => by
    refine Ev.step (fun k => by rw [slices_insertionSortCmpFunc_string_f34.l2]) ?_
    simp (disch := omega) only [cneg]
    exact Ev.pure _
  | j + 1, hj => by
    have ih := ins_l2_y l lt x out rest b i hl hC j (by omega)
    have hlen := at_len x out rest (j + 1) (by omega)
    obtain ⟨g1, g2⟩ := at_get x out rest j (by omega)
    obtain ⟨c, c1, c2⟩ := hC out[j] (List.getElem_mem (by omega))
    have hj1 : IntKind.wrap .i64 (((j + 1 : Nat) : Int) - 1) = (j : Int) := by rw [wrap_in (by omega) (by omega)]; omega
    refine Ev.step (fun k => by rw [slices_insertionSortCmpFunc_string_f34.l2]) ?_
    rw [hj1]
    simp (disch := omega) only [cpos, Int.toNat_natCast, g1, g2]
    refine Ev.bind c1 ?_
    unfold posn
    rw [getD_at (show j < out.length by omega), c2]
    cases lt x out[j] with
    | false => exact Ev.pure _
    | true =>
      simp (disch := omega) only [cond_true, cpos, List.length_set, at_swap x out rest j (by omega)]
      exact ih
theorem ins_l0_y (l : Library) (lt : ByteArray → ByteArray → Bool) (keys : List ByteArray) (hk : keys.length ≤ 100) (hC : ∀ x ∈ keys, ∀ y ∈ keys, ∃ c : Int, Ev (fun k => impl_bibliographyKeys_1.F k x y l) c ∧ decide (c < 0) = lt x y) :
    ∀ n i : Nat, i + n = keys.length → ∀ out : List ByteArray, out.length = i → (∀ y ∈ out, y ∈ keys) → Ev (fun k => slices_insertionSortCmpFunc_string_f34.l0 k (out ++ keys.drop i) 0 keys.length l i) ((keys.drop i).foldl (insA lt) out)
  | 0, i, h, out, ho, hm => by
    refine Ev.step (fun k => by rw [slices_insertionSortCmpFunc_string_f34.l0]) ?_
    simp (disch := omega) only [cneg]
    rw [List.drop_eq_nil_of_le (by omega), List.append_nil]
    exact Ev.pure _
  | n + 1, i, h, out, ho, hm => by
    have hi : i < keys.length := by omega
    have hd : keys.drop i = keys[i] :: keys.drop (i + 1) := List.drop_eq_getElem_cons hi
    have hx : keys[i] ∈ keys := List.getElem_mem hi
    have h2 := ins_l2_y l lt keys[i] out (keys.drop (i + 1)) keys.length i (by rw [List.length_drop]; omega) (fun y hy => hC _ hx _ (hm y hy)) out.length (Nat.le_refl _)
    have e1 : at_ keys[i] out (keys.drop (i + 1)) out.length = out ++ keys.drop i := by unfold at_; rw [List.take_length, List.drop_length, hd]; rfl
    have e2 : at_ keys[i] out (keys.drop (i + 1)) (posn lt keys[i] out out.length) = insA lt out keys[i] ++ keys.drop (i + 1) := by unfold at_ insA; rw [List.append_assoc]; rfl
    rw [e1, e2, ho] at h2
    have ih := ins_l0_y l lt keys hk hC n (i + 1) (by omega) (insA lt out keys[i]) (by rw [insA_len, ho]) (fun y hy => by
      rcases insA_mem hy with h | h
      · exact h ▸ hx
      · exact hm y h)
    refine Ev.step (fun k => by rw [slices_insertionSortCmpFunc_string_f34.l0]) ?_
    simp (disch := omega) only [cpos]
    refine Ev.bind h2 ?_
    simp (disch := omega) only [wrap_in, ho]
    have e3 : (keys.drop i).foldl (insA lt) out = (keys.drop (i + 1)).foldl (insA lt) (insA lt out keys[i]) := by rw [hd, List.foldl_cons]
    rw [e3]
    exact ih
theorem ins_ev_y (l : Library) (lt : ByteArray → ByteArray → Bool) (keys : List ByteArray) (hk : keys.length ≤ 100) (hC : ∀ x ∈ keys, ∀ y ∈ keys, ∃ c : Int, Ev (fun k => impl_bibliographyKeys_1.F k x y l) c ∧ decide (c < 0) = lt x y) : Ev (fun k => slices_insertionSortCmpFunc_string_f34.F k keys 0 keys.length l) (isort lt keys) := by
  unfold slices_insertionSortCmpFunc_string_f34.F
  have h : Ev (fun k => slices_insertionSortCmpFunc_string_f34.l0 k keys 0 keys.length l (1 : Nat)) (isort lt keys) := by
    cases keys with
    | nil =>
      refine Ev.step (fun k => by rw [slices_insertionSortCmpFunc_string_f34.l0]) ?_
      simp (disch := simp) only [cneg]
      exact Ev.pure _
    | cons x r =>
      have := ins_l0_y l lt (x :: r) hk hC r.length 1 (by simp; omega) [x] rfl (fun y hy => by simp at hy; exact hy ▸ List.mem_cons_self)
      exact this
  refine Ev.bind h ?_
  rw [isort_len, Nat.beq_refl]
  exact Ev.pure _
theorem sort_l2 (l : Library) (lt : ByteArray → ByteArray → Bool) (keys out : List ByteArray) (i : Nat) (hi : i < keys.length) (ho : out.length ≤ 100) (hk : keys.length ≤ 100) (hl : l.entries.length ≤ 8)
    (hC : ∀ y ∈ out, ∃ (p q c : Int), 0 ≤ p ∧ p < l.entries.length ∧ 0 ≤ q ∧ q < l.entries.length ∧ Ev (fun k => spec_l4Find.F k l keys[i]) p ∧ Ev (fun k => spec_l4Find.F k l y) q ∧ Ev (fun k => spec_l8Compare.F k (l.entries.getD p.toNat (dflt .entry)) (l.entries.getD q.toNat (dflt .entry))) c ∧ decide (c < 0) = lt keys[i] y) :
    ∀ j : Nat, j ≤ out.length → Ev (fun k => spec_l8Sort.l2 k keys l out i j) (keys, l, out, (i : Int), ((posn lt keys[i] out j : Nat) : Int))
  | 0, hj => by
    refine Ev.step (fun k => by rw [spec_l8Sort.l2]) ?_
    simp (disch := omega) only [cneg]
    exact Ev.pure _
  | j + 1, hj => by
    have ih := sort_l2 l lt keys out i hi ho hk hl hC j (by omega)
    obtain ⟨p, q, c, p0, p1, q0, q1, e1, e2, e3, e4⟩ := hC out[j] (List.getElem_mem (by omega))
    have hj1 : IntKind.wrap .i64 (((j + 1 : Nat) : Int) - 1) = (j : Int) := by rw [wrap_in (by omega) (by omega)]; omega
    refine Ev.step (fun k => by rw [spec_l8Sort.l2]) ?_
    rw [hj1]
    simp (disch := omega) only [cpos, Int.toNat_natCast, getD_at hi]
    refine Ev.bind e1 ?_
    simp (disch := omega) only [cpos, getD_at (show j < out.length by omega)]
    refine Ev.bind e2 ?_
    simp (disch := omega) only [cpos]
    refine Ev.bind e3 ?_
    unfold posn
    rw [getD_at (show j < out.length by omega), e4]
    cases lt keys[i] out[j] with
    | false => exact Ev.pure _
    | true => exact ih
theorem sort_l0 (l : Library) (lt : ByteArray → ByteArray → Bool) (keys : List ByteArray) (hk : keys.length ≤ 100) (hl : l.entries.length ≤ 8)
    (hC : ∀ x ∈ keys, ∀ y ∈ keys, ∃ (p q c : Int), 0 ≤ p ∧ p < l.entries.length ∧ 0 ≤ q ∧ q < l.entries.length ∧ Ev (fun k => spec_l4Find.F k l x) p ∧ Ev (fun k => spec_l4Find.F k l y) q ∧ Ev (fun k => spec_l8Compare.F k (l.entries.getD p.toNat (dflt .entry)) (l.entries.getD q.toNat (dflt .entry))) c ∧ decide (c < 0) = lt x y) :
    ∀ n i : Nat, i + n = keys.length → ∀ out : List ByteArray, out.length = i → (∀ y ∈ out, y ∈ keys) → Ev (fun k => spec_l8Sort.l0 k keys l out i) ((keys.drop i).foldl (insA lt) out)
  | 0, i, h, out, ho, hm => by
    refine Ev.step (fun k => by rw [spec_l8Sort.l0]) ?_
    simp (disch := omega) only [cneg]
    rw [List.drop_eq_nil_of_le (by omega)]
    exact Ev.pure _
  | n + 1, i, h, out, ho, hm => by
    have hi : i < keys.length := by omega
    have hd : keys.drop i = keys[i] :: keys.drop (i + 1) := List.drop_eq_getElem_cons hi
    have hx : keys[i] ∈ keys := List.getElem_mem hi
    have h2 := sort_l2 l lt keys out i hi (by omega) hk hl (fun y hy => hC _ hx _ (hm y hy)) out.length (Nat.le_refl _)
    have hp := posn_le lt keys[i] out out.length
    have ih := sort_l0 l lt keys hk hl hC n (i + 1) (by omega) (insA lt out keys[i]) (by rw [insA_len, ho]) (fun y hy => by
      rcases insA_mem hy with h | h
      · exact h ▸ hx
      · exact hm y h)
    refine Ev.step (fun k => by rw [spec_l8Sort.l0]) ?_
    simp (disch := omega) only [cpos]
    refine Ev.bind h2 ?_
    have r1 : room (([] : List ByteArray).length + (out.take (posn lt keys[i] out out.length)).length) .str = true := room_s (by simp only [List.length_nil, List.length_take]; omega)
    have r2 : room ((([] : List ByteArray) ++ out.take (posn lt keys[i] out out.length)).length + ([keys[i]] : List ByteArray).length) .str = true := room_s (by simp only [List.length_append, List.length_nil, List.length_take, List.length_singleton]; omega)
    have r3 : room (((([] : List ByteArray) ++ out.take (posn lt keys[i] out out.length)) ++ ([keys[i]] : List ByteArray)).length + (out.drop (posn lt keys[i] out out.length)).length) .str = true := room_s (by simp only [List.length_append, List.length_nil, List.length_take, List.length_singleton, List.length_drop]; omega)
    have e : ((([] : List ByteArray) ++ out.take (posn lt keys[i] out out.length)) ++ ([keys[i]] : List ByteArray)) ++ out.drop (posn lt keys[i] out out.length) = insA lt out keys[i] := by unfold insA; simp
    simp (disch := omega) only [cpos, Int.toNat_natCast, getD_at hi, r1, r2, r3, cond_true, e, wrap_in]
    have e3 : (keys.drop i).foldl (insA lt) out = (keys.drop (i + 1)).foldl (insA lt) (insA lt out keys[i]) := by rw [hd, List.foldl_cons]
    rw [e3]
    exact ih
theorem year_l2 (l : Library) (lt : ByteArray → ByteArray → Bool) (keys out : List ByteArray) (i : Nat) (hi : i < keys.length) (ho : out.length ≤ 100) (hk : keys.length ≤ 100)
    (hC : ∀ y ∈ out, ∃ (p q : Int), Ev (fun k => spec_l17Year.F k l keys[i]) p ∧ Ev (fun k => spec_l17Year.F k l y) q ∧ decide (q < p) = lt keys[i] y) :
    ∀ j : Nat, j ≤ out.length → Ev (fun k => spec_l17Keys.l2 k l keys out i j) (l, keys, out, (i : Int), ((posn lt keys[i] out j : Nat) : Int))
  | 0, hj => by
    refine Ev.step (fun k => by rw [spec_l17Keys.l2]) ?_
    simp (disch := omega) only [cneg]
    exact Ev.pure _
  | j + 1, hj => by
    have ih := year_l2 l lt keys out i hi ho hk hC j (by omega)
    obtain ⟨p, q, e1, e2, e4⟩ := hC out[j] (List.getElem_mem (by omega))
    have hj1 : IntKind.wrap .i64 (((j + 1 : Nat) : Int) - 1) = (j : Int) := by rw [wrap_in (by omega) (by omega)]; omega
    refine Ev.step (fun k => by rw [spec_l17Keys.l2]) ?_
    rw [hj1]
    simp (disch := omega) only [cpos, Int.toNat_natCast, getD_at (show j < out.length by omega)]
    refine Ev.bind e2 ?_
    simp (disch := omega) only [cpos, getD_at hi]
    refine Ev.bind e1 ?_
    unfold posn
    rw [getD_at (show j < out.length by omega), e4]
    cases lt keys[i] out[j] with
    | false => exact Ev.pure _
    | true => exact ih
theorem year_l0 (l : Library) (lt : ByteArray → ByteArray → Bool) (keys : List ByteArray) (hk : keys.length ≤ 100)
    (hC : ∀ x ∈ keys, ∀ y ∈ keys, ∃ (p q : Int), Ev (fun k => spec_l17Year.F k l x) p ∧ Ev (fun k => spec_l17Year.F k l y) q ∧ decide (q < p) = lt x y) :
    ∀ n i : Nat, i + n = keys.length → ∀ out : List ByteArray, out.length = i → (∀ y ∈ out, y ∈ keys) → Ev (fun k => spec_l17Keys.l0 k l keys out i) ((keys.drop i).foldl (insA lt) out)
  | 0, i, h, out, ho, hm => by
    refine Ev.step (fun k => by rw [spec_l17Keys.l0]) ?_
    simp (disch := omega) only [cneg]
    rw [List.drop_eq_nil_of_le (by omega)]
    exact Ev.pure _
  | n + 1, i, h, out, ho, hm => by
    have hi : i < keys.length := by omega
    have hd : keys.drop i = keys[i] :: keys.drop (i + 1) := List.drop_eq_getElem_cons hi
    have hx : keys[i] ∈ keys := List.getElem_mem hi
    have h2 := year_l2 l lt keys out i hi (by omega) hk (fun y hy => hC _ hx _ (hm y hy)) out.length (Nat.le_refl _)
    have hp := posn_le lt keys[i] out out.length
    have ih := year_l0 l lt keys hk hC n (i + 1) (by omega) (insA lt out keys[i]) (by rw [insA_len, ho]) (fun y hy => by
      rcases insA_mem hy with h | h
      · exact h ▸ hx
      · exact hm y h)
    refine Ev.step (fun k => by rw [spec_l17Keys.l0]) ?_
    simp (disch := omega) only [cpos]
    refine Ev.bind h2 ?_
    have r1 : room (([] : List ByteArray).length + (out.take (posn lt keys[i] out out.length)).length) .str = true := room_s (by simp only [List.length_nil, List.length_take]; omega)
    have r2 : room ((([] : List ByteArray) ++ out.take (posn lt keys[i] out out.length)).length + ([keys[i]] : List ByteArray).length) .str = true := room_s (by simp only [List.length_append, List.length_nil, List.length_take, List.length_singleton]; omega)
    have r3 : room (((([] : List ByteArray) ++ out.take (posn lt keys[i] out out.length)) ++ ([keys[i]] : List ByteArray)).length + (out.drop (posn lt keys[i] out out.length)).length) .str = true := room_s (by simp only [List.length_append, List.length_nil, List.length_take, List.length_singleton, List.length_drop]; omega)
    have e : ((([] : List ByteArray) ++ out.take (posn lt keys[i] out out.length)) ++ ([keys[i]] : List ByteArray)) ++ out.drop (posn lt keys[i] out out.length) = insA lt out keys[i] := by unfold insA; simp
    simp (disch := omega) only [cpos, Int.toNat_natCast, getD_at hi, r1, r2, r3, cond_true, e, wrap_in]
    have e3 : (keys.drop i).foldl (insA lt) out = (keys.drop (i + 1)).foldl (insA lt) (insA lt out keys[i]) := by rw [hd, List.foldl_cons]
    rw [e3]
    exact ih
end Go.Proofs.YtolcacancfmmiaaGreatDoor
end
section
/- Keys of a library: found, different, sorted. -/
namespace Go.Proofs.YtolcacancfmmiaaGreatDoor
open Go.Gx
set_option linter.unusedVariables false
set_option linter.unusedSimpArgs false
theorem idx_l (xs : List ByteArray) (hl : xs.length ≤ 1048576) (x : ByteArray) : ∀ n i : Nat, i + n = xs.length → ∃ r : Int, -1 ≤ r ∧ r < xs.length ∧ Ev (fun k => slices_Index_string.l0 k xs x xs.length i) (if r < 0 then .inr () else .inl r) ∧
    (r < 0 → ∀ j, i ≤ j → (h : j < xs.length) → xs[j] ≠ x) ∧ (0 ≤ r → x ∈ xs)
  | 0, i, h => by
    refine ⟨-1, by omega, by omega, Ev.step (fun k => by rw [slices_Index_string.l0]) ?_, fun _ j h1 h2 => by omega, fun h => by omega⟩
    simp (disch := omega) only [cneg]; exact Ev.pure _
  | n + 1, i, h => by
    have hi : i < xs.length := by omega
    cases hb : beqS x xs[i] with
    | true =>
      have e := beqS_iff.1 hb
      refine ⟨(i : Int), by omega, by omega, Ev.step (fun k => by rw [slices_Index_string.l0]) ?_, fun h => by omega, fun _ => e ▸ List.getElem_mem hi⟩
      simp (disch := omega) only [cpos, Int.toNat_natCast, getD_at hi, hb, cond_true]
      rw [if_neg (by omega)]
      exact Ev.pure _
    | false =>
      have hne : xs[i] ≠ x := fun e => by rw [beqS_iff.2 e.symm] at hb; cases hb
      obtain ⟨r, r0, r1, k1, k3, k4⟩ := idx_l xs hl x n (i + 1) (by omega)
      refine ⟨r, r0, r1, Ev.step (fun k => by rw [slices_Index_string.l0]) ?_, fun h j h1 h2 => ?_, k4⟩
      · simp (disch := omega) only [cpos, Int.toNat_natCast, getD_at hi, hb, cond_false, wrap_in]
        exact k1
      · by_cases e : j = i
        · subst e; exact hne
        · exact k3 h j (by omega) h2
theorem idx_ev (xs : List ByteArray) (hl : xs.length ≤ 1048576) (x : ByteArray) : ∃ r : Int, -1 ≤ r ∧ r < xs.length ∧ Ev (fun k => slices_Index_string.F k xs x) r ∧ (r < 0 → x ∉ xs) ∧ (0 ≤ r → x ∈ xs) := by
  obtain ⟨r, r0, r1, k1, k3, k4⟩ := idx_l xs hl x xs.length 0 (by omega)
  refine ⟨r, r0, r1, ?_, fun h hx => ?_, k4⟩
  · unfold slices_Index_string.F
    by_cases h : r < 0
    · rw [if_pos h] at k1
      exact Ev.bind k1 ((Ev.pure _).eq (by omega))
    · rw [if_neg h] at k1
      exact Ev.bind k1 (Ev.pure _)
  · obtain ⟨j, hj, e⟩ := List.getElem_of_mem hx
    exact k3 h j (Nat.zero_le _) hj e
theorem dup_l2 (l : Library) (keys : List ByteArray) (i : Nat) (hi : i < keys.length) (hl : keys.length ≤ 1048576) : ∀ n m : Nat, m + n = i → ∃ d : Bool, Ev (fun k => spec_l8Keys.l2 k keys l i m) (if d = true then .inl false else .inr (keys, l, (i : Int))) ∧ (d = true ↔ keys[i] ∈ (keys.take i).drop m)
  | 0, m, h => by
    refine ⟨false, Ev.step (fun k => by rw [spec_l8Keys.l2]) ?_, ?_⟩
    · simp (disch := omega) only [cneg]; exact Ev.pure _
    · rw [List.drop_eq_nil_of_le (by rw [List.length_take]; omega)]; simp
  | n + 1, m, h => by
    have hm : m < keys.length := by omega
    have hd : (keys.take i).drop m = keys[m] :: (keys.take i).drop (m + 1) := by
      rw [List.drop_eq_getElem_cons (show m < (keys.take i).length by rw [List.length_take]; omega), List.getElem_take]
    cases hb : beqS keys[m] keys[i] with
    | true =>
      refine ⟨true, Ev.step (fun k => by rw [spec_l8Keys.l2]) ?_, ?_⟩
      · simp (disch := omega) only [cpos, Int.toNat_natCast, getD_at hm, getD_at hi, hb, cond_true]
        exact Ev.pure _
      · rw [hd, ← beqS_iff.1 hb]; simp
    | false =>
      have hne : keys[i] ≠ keys[m] := fun e => by rw [beqS_iff.2 e.symm] at hb; cases hb
      obtain ⟨d, d1, d2⟩ := dup_l2 l keys i hi hl n (m + 1) (by omega)
      refine ⟨d, Ev.step (fun k => by rw [spec_l8Keys.l2]) ?_, ?_⟩
      · simp (disch := omega) only [cpos, Int.toNat_natCast, getD_at hm, getD_at hi, hb, cond_false, wrap_in]
        exact d1
      · rw [d2, hd]; simp [hne]
theorem keys_l0 (l : Library) (hl : l.entries.length ≤ 1048576) (keys : List ByteArray) (hk : keys.length ≤ 1048576) : ∀ n i : Nat, i + n = keys.length →
    ∃ b : Bool, Ev (fun k => spec_l8Keys.l0 k keys l i) (if b = true then .inr () else .inl false) ∧ Ev (fun k => impl_areKeys.l0 k keys l keys keys.length i) (if b = true then .inr l else .inl false) ∧
      (b = true → ∀ j, i ≤ j → (h : j < keys.length) → (∃ p : Int, 0 ≤ p ∧ p < l.entries.length ∧ kAt l p = keys[j]) ∧ keys[j] ∉ keys.take j)
  | 0, i, h => by
    refine ⟨true, Ev.step (fun k => by rw [spec_l8Keys.l0]) ?_, Ev.step (fun k => by rw [impl_areKeys.l0]) ?_, fun _ j h1 h2 => by omega⟩
    · simp (disch := omega) only [cneg]; exact Ev.pure _
    · simp (disch := omega) only [cneg]; exact Ev.pure _
  | n + 1, i, h => by
    have hi : i < keys.length := by omega
    obtain ⟨p, p1, p2, p3, p4, p5, _⟩ := findK_ev l keys[i] hl
    by_cases hp : p < 0
    · refine ⟨false, Ev.step (fun k => by rw [spec_l8Keys.l0]) ?_, Ev.step (fun k => by rw [impl_areKeys.l0]) ?_, fun h => by cases h⟩
      · simp (disch := omega) only [cpos, Int.toNat_natCast, getD_at hi]
        refine Ev.bind p1 ?_
        simp (disch := omega) only [cpos]
        exact Ev.pure _
      · simp (disch := omega) only [cpos, Int.toNat_natCast, getD_at hi]
        refine Ev.bind p2 ?_
        simp (disch := omega) only [cpos]
        exact Ev.pure _
    · obtain ⟨d, d1, d2⟩ := dup_l2 l keys i hi hk i 0 (by omega)
      rw [List.drop_zero] at d2
      obtain ⟨r, r0, r1, x1, x3, x4⟩ := idx_ev (keys.take i) (by rw [List.length_take]; omega) keys[i]
      have hct : Ev (fun k => slices_Contains_string.F k (keys.take i) keys[i]) d := by
        unfold slices_Contains_string.F
        refine Ev.bind x1 ((Ev.pure _).eq ?_)
        cases d with
        | true =>
          have := d2.1 rfl
          exact decide_eq_true (by
            apply Classical.byContradiction
            intro hn
            exact x3 (by omega) this)
        | false => exact decide_eq_false fun hn => by have := d2.2 (x4 hn); cases this
      cases d with
      | true =>
        refine ⟨false, Ev.step (fun k => by rw [spec_l8Keys.l0]) ?_, Ev.step (fun k => by rw [impl_areKeys.l0]) ?_, fun h => by cases h⟩
        · simp (disch := omega) only [cpos, Int.toNat_natCast, getD_at hi]
          refine Ev.bind p1 ?_
          simp (disch := omega) only [cneg]
          exact Ev.bind d1 (Ev.pure _)
        · simp (disch := omega) only [cpos, Int.toNat_natCast, getD_at hi]
          refine Ev.bind p2 ?_
          simp (disch := omega) only [cneg, cpos]
          refine Ev.bind hct ?_
          exact Ev.pure _
      | false =>
        obtain ⟨b, b1, b2, b3⟩ := keys_l0 l hl keys hk n (i + 1) (by omega)
        refine ⟨b, Ev.step (fun k => by rw [spec_l8Keys.l0]) ?_, Ev.step (fun k => by rw [impl_areKeys.l0]) ?_, fun hb j h1 h2 => ?_⟩
        · simp (disch := omega) only [cpos, Int.toNat_natCast, getD_at hi]
          refine Ev.bind p1 ?_
          simp (disch := omega) only [cneg]
          have d3 : Ev (fun k => spec_l8Keys.l2 k keys l i 0) (.inr (keys, l, (i : Int))) := d1
          refine Ev.bind d3 ?_
          show Ev (fun k => spec_l8Keys.l0 k keys l (IntKind.wrap .i64 ((i : Int) + 1))) _
          rw [wrap_in (by omega) (by omega)]
          exact b1
        · simp (disch := omega) only [cpos, Int.toNat_natCast, getD_at hi]
          refine Ev.bind p2 ?_
          simp (disch := omega) only [cneg, cpos]
          refine Ev.bind hct ?_
          simp (disch := omega) only [cond_false, wrap_in]
          exact b2
        · by_cases e : j = i
          · subst e
            exact ⟨⟨p, by omega, p4, p5 (by omega)⟩, fun hm => by have := d2.2 hm; cases this⟩
          · exact b3 hb j (by omega) h2
theorem nodup_le {α : Type} [DecidableEq α] : ∀ (xs ys : List α), xs.Nodup → (∀ x ∈ xs, x ∈ ys) → xs.length ≤ ys.length
  | [], ys, _, _ => Nat.zero_le _
  | x :: xs, ys, h, hm => by
    rw [List.nodup_cons] at h
    have hx := hm x List.mem_cons_self
    have := nodup_le xs (ys.erase x) h.2 fun y hy => (List.mem_erase_of_ne (fun e => h.1 (by rw [← e]; exact hy))).2 (hm y (List.mem_cons_of_mem _ hy))
    rw [List.length_erase_of_mem hx] at this
    have := List.length_pos_of_mem hx
    rw [List.length_cons]
    omega
theorem nodup_take : ∀ (xs : List ByteArray), (∀ j, (h : j < xs.length) → xs[j] ∉ xs.take j) → xs.Nodup := fun xs h => by
  rw [List.nodup_iff_pairwise_ne, List.pairwise_iff_getElem]
  intro i j hi hj hlt e
  refine h j hj ?_
  rw [← e]
  exact List.mem_take_iff_getElem.2 ⟨i, by omega, rfl⟩
theorem areKeys_ev (l : Library) (hs : smallL l) (keys : List ByteArray) (hk : keys.length ≤ 1048576) : ∃ v : Bool, Ev (fun k => spec_l8Keys.F k l keys) v ∧ Ev (fun k => impl_areKeys.F k l keys) v ∧
    (v = true → libB l = true ∧ l.entries.length ≤ 8 ∧ keys.length ≤ 8 ∧ ∀ x ∈ keys, ∃ p : Int, 0 ≤ p ∧ p < l.entries.length ∧ Ev (fun k => spec_l4Find.F k l x) p ∧ Ev (fun k => impl_entryIndex.F k l x) p) := by
  have hl := smallL_len hs
  have v1 := specLib_ev l hs
  have v2 := isLib_ev l hs
  obtain ⟨b, b1, b2, b3⟩ := keys_l0 l hl keys hk keys.length 0 (by omega)
  refine ⟨libB l && b, ?_, ?_, fun h => ?_⟩
  · unfold spec_l8Keys.F
    refine Ev.bind v1 ?_
    cases libB l with
    | false => exact Ev.pure _
    | true => cases b <;> exact Ev.bind b1 (Ev.pure _)
  · unfold impl_areKeys.F
    cases b with
    | false => exact Ev.bind b2 ((Ev.pure _).eq (by simp))
    | true => exact Ev.bind b2 (Ev.bind v2 ((Ev.pure _).eq (by simp)))
  · simp only [Bool.and_eq_true] at h
    obtain ⟨h1, h2⟩ := h
    have b4 := b3 h2
    have hlen := libB_len h1
    refine ⟨h1, hlen, ?_, fun x hx => ?_⟩
    · have := @nodup_le _ (fun a b => Classical.propDecidable (a = b)) keys (l.entries.map (·.key)) (nodup_take keys fun j h => (b4 j (Nat.zero_le _) h).2) fun x hx => by
        obtain ⟨j, hj, e⟩ := List.getElem_of_mem hx
        obtain ⟨⟨p, p0, p1, p2⟩, _⟩ := b4 j (Nat.zero_le _) hj
        rw [← e, ← p2]
        unfold kAt
        rw [getD_at (show p.toNat < l.entries.length by omega)]
        exact List.mem_map.2 ⟨_, List.getElem_mem _, rfl⟩
      rw [List.length_map] at this
      omega
    · obtain ⟨j, hj, e⟩ := List.getElem_of_mem hx
      obtain ⟨⟨p, p0, p1, p2⟩, _⟩ := b4 j (Nat.zero_le _) hj
      obtain ⟨q, q1, q2, q3, q4, q5, q6⟩ := findK_ev l x hl
      refine ⟨q, ?_, q4, q1, q2⟩
      apply Classical.byContradiction
      intro hn
      refine q6 (by omega) p.toNat (by omega) ?_
      rw [← e, ← p2]
      rfl
theorem len_some : ∀ n : Fin 13, (bits_Len.F (IntKind.wrap .u64 (n.val : Int))).isSome = true := by decide +kernel
theorem lenBits {n : Nat} (h : n ≤ 12) : ∃ r, bits_Len.F (IntKind.wrap .u64 (n : Int)) = some r := by
  exact Option.isSome_iff_exists.1 (len_some ⟨n, by omega⟩)
def Found (l : Library) (keys : List ByteArray) : Prop := ∀ x ∈ keys, ∃ p : Int, 0 ≤ p ∧ p < l.entries.length ∧ Ev (fun k => spec_l4Find.F k l x) p ∧ Ev (fun k => impl_entryIndex.F k l x) p
theorem less_ex (l : Library) (hs : smallL l) (hv : libB l = true) (hl : l.entries.length ≤ 8) (keys : List ByteArray) (hf : Found l keys) : ∃ lt : ByteArray → ByteArray → Bool,
    (∀ x ∈ keys, ∀ y ∈ keys, ∃ c : Int, Ev (fun k => impl_sortKeys_1.F k x y l) c ∧ decide (c < 0) = lt x y) ∧
    (∀ x ∈ keys, ∀ y ∈ keys, ∃ (p q c : Int), 0 ≤ p ∧ p < l.entries.length ∧ 0 ≤ q ∧ q < l.entries.length ∧ Ev (fun k => spec_l4Find.F k l x) p ∧ Ev (fun k => spec_l4Find.F k l y) q ∧ Ev (fun k => spec_l8Compare.F k (l.entries.getD p.toNat (dflt .entry)) (l.entries.getD q.toNat (dflt .entry))) c ∧ decide (c < 0) = lt x y) := by
  have hok : ∀ p : Int, 0 ≤ p → p < l.entries.length → EOk (l.entries.getD p.toNat (dflt .entry)) := fun p p0 p1 => by
    have hp : p.toNat < l.entries.length := by omega
    have hb := hv
    unfold libB at hb
    simp only [Bool.and_eq_true, List.all_eq_true] at hb
    have h1 := hb.1 p.toNat (List.mem_range'_1.2 ⟨Nat.zero_le _, by omega⟩)
    unfold okL at h1
    rw [Bool.and_eq_true] at h1
    rw [getD_at hp] at h1 ⊢
    exact eOk_of (smallL_at hs (List.getElem_mem hp)) h1.1
  have h : ∀ x y, ∃ c : Int, x ∈ keys → y ∈ keys → Ev (fun k => impl_sortKeys_1.F k x y l) c ∧ ∃ (p q : Int), 0 ≤ p ∧ p < l.entries.length ∧ 0 ≤ q ∧ q < l.entries.length ∧ Ev (fun k => spec_l4Find.F k l x) p ∧ Ev (fun k => spec_l4Find.F k l y) q ∧ Ev (fun k => spec_l8Compare.F k (l.entries.getD p.toNat (dflt .entry)) (l.entries.getD q.toNat (dflt .entry))) c := fun x y => by
    by_cases hx : x ∈ keys
    · by_cases hy : y ∈ keys
      · obtain ⟨p, p0, p1, p2, p3⟩ := hf x hx
        obtain ⟨q, q0, q1, q2, q3⟩ := hf y hy
        obtain ⟨c, c1, c2⟩ := cmpE_ev _ _ (hok p p0 p1) (hok q q0 q1)
        refine ⟨c, fun _ _ => ⟨?_, p, q, p0, p1, q0, q1, p2, q2, c1⟩⟩
        unfold impl_sortKeys_1.F
        refine Ev.bind p3 ?_
        simp (disch := omega) only [cpos]
        refine Ev.bind q3 ?_
        simp (disch := omega) only [cpos]
        exact Ev.bind c2 (Ev.pure _)
      · exact ⟨0, fun _ h => absurd h hy⟩
    · exact ⟨0, fun h => absurd h hx⟩
  refine ⟨fun x y => decide (Classical.choose (h x y) < 0), fun x hx y hy => ?_, fun x hx y hy => ?_⟩
  · exact ⟨_, (Classical.choose_spec (h x y) hx hy).1, rfl⟩
  · obtain ⟨p, q, h1, h2, h3, h4, h5, h6, h7⟩ := (Classical.choose_spec (h x y) hx hy).2
    exact ⟨p, q, _, h1, h2, h3, h4, h5, h6, h7, rfl⟩
theorem sortKeys_ev (l : Library) (hs : smallL l) (hv : libB l = true) (hl : l.entries.length ≤ 8) (keys : List ByteArray) (hk : keys.length ≤ 8) (hf : Found l keys) :
    ∃ r, Ev (fun k => spec_l8Sort.F k l keys) r ∧ Ev (fun k => impl_sortKeys.F k l keys) r ∧ r.length = keys.length ∧ Found l r := by
  obtain ⟨lt, h1, h2⟩ := less_ex l hs hv hl keys hf
  refine ⟨isort lt keys, ?_, ?_, isort_len lt keys, fun x hx => hf x (isort_mem hx)⟩
  · unfold spec_l8Sort.F
    have := sort_l0 l lt keys (by omega) hl h2 keys.length 0 (by omega) [] rfl (fun y hy => by cases hy)
    exact Ev.bind this (Ev.pure _)
  · have hi := ins_ev_k l lt keys (by omega) h1
    have hr : room (([] : List ByteArray).length + keys.length) .str = true := room_s (by simp; omega)
    obtain ⟨b, hb⟩ := lenBits (n := keys.length) (by omega)
    unfold impl_sortKeys.F
    rw [hr, List.nil_append]
    simp only [cond_true]
    unfold slices_SortFunc_string_f49.F
    rw [hb]
    refine Ev.bind (a := isort lt keys) ?_ (Ev.pure _)
    simp only [Option.bind_some]
    refine Ev.bind (a := isort lt keys) ?_ (by rw [isort_len, Nat.beq_refl]; exact Ev.pure _)
    unfold slices_pdqsortCmpFunc_string_f49.F
    refine Ev.bind (a := isort lt keys) ?_ (by rw [isort_len, Nat.beq_refl]; exact Ev.pure _)
    refine Ev.step (fun k => by rw [slices_pdqsortCmpFunc_string_f49.l0]) ?_
    have e : IntKind.wrap .i64 ((keys.length : Int) - 0) ≤ 12 := by rw [wrap_in (by omega) (by omega)]; omega
    rw [decide_eq_true e]
    exact Ev.bind hi (Ev.pure _)
theorem year_ev (l : Library) (x : ByteArray) (p : Int) (p0 : 0 ≤ p) (p1 : p < l.entries.length) (h1 : Ev (fun k => spec_l4Find.F k l x) p) (h2 : Ev (fun k => impl_entryIndex.F k l x) p) :
    Ev (fun k => spec_l17Year.F k l x) (l.entries.getD p.toNat (dflt .entry)).date.y ∧ Ev (fun k => impl_entryOf.F k l x) (l.entries.getD p.toNat (dflt .entry)) := by
  unfold spec_l17Year.F impl_entryOf.F
  refine ⟨Ev.bind h1 ?_, Ev.bind h2 ?_⟩
  · simp (disch := omega) only [cpos]
    exact Ev.pure _
  · simp (disch := omega) only [cpos]
    exact Ev.pure _
theorem years_ev (l : Library) (keys : List ByteArray) (hk : keys.length ≤ 8) (hf : Found l keys) : ∃ r, Ev (fun k => spec_l17Keys.l0 k l keys [] 0) r ∧ Ev (fun k => slices_SortStableFunc_string_f34.F k keys l) r ∧ r.length = keys.length := by
  have h : ∀ x, ∃ y : Int, x ∈ keys → Ev (fun k => spec_l17Year.F k l x) y ∧ ∃ e : Entry, e.date.y = y ∧ Ev (fun k => impl_entryOf.F k l x) e := fun x => by
    by_cases hx : x ∈ keys
    · obtain ⟨p, p0, p1, p2, p3⟩ := hf x hx
      obtain ⟨k1, k2⟩ := year_ev l x p p0 p1 p2 p3
      exact ⟨_, fun _ => ⟨k1, _, rfl, k2⟩⟩
    · exact ⟨0, fun h => absurd h hx⟩
  have hY : ∃ Y : ByteArray → Int, ∀ x ∈ keys, Ev (fun k => spec_l17Year.F k l x) (Y x) ∧ ∃ e : Entry, e.date.y = Y x ∧ Ev (fun k => impl_entryOf.F k l x) e := ⟨fun x => Classical.choose (h x), fun x hx => Classical.choose_spec (h x) hx⟩
  obtain ⟨Y, hY⟩ := hY
  have h1 : ∀ x ∈ keys, ∀ y ∈ keys, ∃ c : Int, Ev (fun k => impl_bibliographyKeys_1.F k x y l) c ∧ decide (c < 0) = decide (Y y < Y x) := fun x hx y hy => by
    obtain ⟨_, ex, x1, x2⟩ := hY x hx
    obtain ⟨_, ey, y1, y2⟩ := hY y hy
    refine ⟨ic (Y y) (Y x), ?_, ?_⟩
    · unfold impl_bibliographyKeys_1.F
      refine Ev.bind y2 (Ev.bind x2 ?_)
      rw [x1, y1]
      exact Ev.bind0 (cmpI_ev _ _) (Ev.pure _)
    · unfold ic
      by_cases h : Y y < Y x
      · rw [if_pos h, decide_eq_true h]; rfl
      · rw [if_neg h, decide_eq_false h]; split <;> rfl
  have h2 : ∀ x ∈ keys, ∀ y ∈ keys, ∃ (p q : Int), Ev (fun k => spec_l17Year.F k l x) p ∧ Ev (fun k => spec_l17Year.F k l y) q ∧ decide (q < p) = decide (Y y < Y x) := fun x hx y hy => ⟨_, _, (hY x hx).1, (hY y hy).1, rfl⟩
  refine ⟨isort (fun x y => decide (Y y < Y x)) keys, ?_, ?_, isort_len _ _⟩
  · have := year_l0 l (fun x y => decide (Y y < Y x)) keys (by omega) h2 keys.length 0 (by omega) [] rfl (fun y hy => by cases hy)
    exact this
  · have hi := ins_ev_y l (fun x y => decide (Y y < Y x)) keys (by omega) h1
    unfold slices_SortStableFunc_string_f34.F
    refine Ev.bind (a := isort (fun x y => decide (Y y < Y x)) keys) ?_ (by rw [isort_len, Nat.beq_refl]; exact Ev.pure _)
    unfold slices_stableCmpFunc_string_f34.F
    have h0 : Ev (fun k => slices_stableCmpFunc_string_f34.l0 k keys keys.length l 20 0 20) (keys, (keys.length : Int), l, 20, 0) := by
      refine Ev.step (fun k => by rw [slices_stableCmpFunc_string_f34.l0]) ?_
      simp (disch := omega) only [cneg]
      exact Ev.pure _
    refine Ev.bind h0 (Ev.bind hi (Ev.bind (a := isort (fun x y => decide (Y y < Y x)) keys) ?_ (by rw [isort_len, Nat.beq_refl]; exact Ev.pure _)))
    refine Ev.step (fun k => by rw [slices_stableCmpFunc_string_f34.l2]) ?_
    simp (disch := omega) only [cneg]
    exact Ev.pure _
theorem bibKeys_ev (l : Library) (hs : smallL l) (hv : libB l = true) (hl : l.entries.length ≤ 8) (keys : List ByteArray) (hk : keys.length ≤ 8) (hf : Found l keys) (mode : Int) (hm : 1 ≤ mode) (hm2 : mode ≤ 3) :
    ∃ r, Ev (fun k => spec_l17Keys.F k l keys mode) r ∧ Ev (fun k => impl_bibliographyKeys.F k l keys mode) r ∧ r.length = keys.length := by
  have hr : room (([] : List ByteArray).length + keys.length) .str = true := room_s (by simp; omega)
  unfold spec_l17Keys.F impl_bibliographyKeys.F
  by_cases h2 : mode = 2
  · simp only [ceq h2, hr, cond_true]
    exact ⟨_, Ev.pure _, Ev.pure _, by simp⟩
  simp only [cne h2]
  obtain ⟨r, r1, r2, r3, r4⟩ := sortKeys_ev l hs hv hl keys hk hf
  by_cases h1 : mode = 1
  · refine ⟨r, Ev.bind r1 ?_, Ev.bind r2 ?_, r3⟩
    · simp only [ceq h1]; exact Ev.pure _
    · simp only [cne (show mode ≠ 3 by omega)]; exact Ev.pure _
  · obtain ⟨q, q1, q2, q3⟩ := years_ev l r (by omega) r4
    refine ⟨q, Ev.bind r1 ?_, Ev.bind r2 ?_, by omega⟩
    · simp only [cne h1]; exact Ev.bind q1 (Ev.pure _)
    · simp only [ceq (show mode = 3 by omega)]; exact Ev.bind q2 (Ev.pure _)
theorem asked3_ev (l : Library) (hs : smallL l) (keys : List ByteArray) (hk : keys.length ≤ 1048576) (mode : Int) : ∃ v : Bool, Ev (fun k => spec_l17Asked.F k l keys mode) v ∧ Ev (fun k => impl_isMode.F k l keys mode) v ∧
    (v = true → ∃ r, Ev (fun k => spec_l17Keys.F k l keys mode) r ∧ Ev (fun k => impl_bibliographyKeys.F k l keys mode) r ∧ r.length ≤ 8) := by
  obtain ⟨v, v1, v2, v3⟩ := areKeys_ev l hs keys hk
  refine ⟨v && (decide (mode ≥ 1) && decide (mode ≤ 3)), ?_, ?_, fun hb => ?_⟩
  · unfold spec_l17Asked.F
    exact Ev.bind v1 (and_step' fun _ => by rw [in_ev]; exact Ev.pure _)
  · unfold impl_isMode.F
    exact Ev.bind v2 (and_step' fun _ => by rw [inside_ev]; exact Ev.pure _)
  · simp only [Bool.and_eq_true, decide_eq_true_eq] at hb
    obtain ⟨w1, w2, w3, w4⟩ := v3 hb.1
    obtain ⟨r, r1, r2, r3⟩ := bibKeys_ev l hs w1 w2 keys w3 w4 mode (by omega) (by omega)
    exact ⟨r, r1, r2, by omega⟩
end Go.Proofs.YtolcacancfmmiaaGreatDoor
end
section
/- Plain laws: marks of lists of texts; deep marks of names, entries and libraries. -/
namespace Go.Proofs.YtolcacancfmmiaaGreatDoor
open Go.Gx
set_option linter.unusedVariables false
set_option linter.unusedSimpArgs false
theorem markText_l0 : ∀ n : Nat, n ≤ 1099511627776 → ∀ s : ByteArray, s.size + n ≤ 9223372036854775806 → ∃ r, Ev (fun k => laws_markText.l0 k (n : Int) s) r ∧ r.size ≤ s.size + n := fun n => by
  induction n using Nat.strongRecOn with
  | ind n ih =>
    intro hn s hs
    by_cases c : n = 0
    · refine ⟨s, Ev.step (fun k => by rw [laws_markText.l0]) ?_, by omega⟩
      simp (disch := omega) only [cneg]
      exact Ev.pure _
    · have ed : Int.tdiv (n : Int) 10 = ((n / 10 : Nat) : Int) := by
        rw [Int.tdiv_eq_ediv_of_nonneg (by omega)]; omega
      have e1 : ∀ v : Int, (strL ([v] : List Int)).size = 1 := fun v => rfl
      obtain ⟨r, r1, r2⟩ := ih (n / 10) (by omega) (by omega) (strL ([IntKind.wrap .u8 (IntKind.wrap .i64 (48 + Int.tmod (n : Int) 10))] : List Int) ++ s) (by rw [size_app, e1]; omega)
      rw [size_app, e1] at r2
      refine ⟨r, Ev.step (fun k => by rw [laws_markText.l0]) ?_, by omega⟩
      have w1 : IntKind.wrap .i64 (Int.tdiv (n : Int) 10) = ((n / 10 : Nat) : Int) := by rw [ed, wrap_in (by omega) (by omega)]
      have hz : ((10 : Nat) == 0) = false := rfl
      rw [w1, hz]
      simp only [cond_false]
      simp (disch := (try simp only [e1]); omega) only [cpos, cble]
      exact r1
theorem markText_ev (n : Nat) (hn : n ≤ 1099511627776) : ∃ r, Ev (fun k => laws_markText.F k (n : Int)) r := by
  unfold laws_markText.F
  by_cases c : n = 0
  · refine ⟨⟨#[109, 48]⟩, ?_⟩
    simp (disch := omega) only [cpos]
    exact Ev.pure _
  · obtain ⟨r, r1, r2⟩ := markText_l0 n hn ⟨#[]⟩ (by rw [show (⟨#[]⟩ : ByteArray).size = 0 from rfl]; omega)
    have e0 : (⟨#[]⟩ : ByteArray).size = 0 := rfl
    have e1 : (⟨#[109]⟩ : ByteArray).size = 1 := rfl
    refine ⟨⟨#[109]⟩ ++ r, ?_⟩
    simp (disch := omega) only [cneg]
    refine Ev.bind r1 ?_
    simp (disch := omega) only [e1, cble]
    exact Ev.pure _
open Classical in
noncomputable def mt (n : Nat) : ByteArray := if h : ∃ r, Ev (fun k => laws_markText.F k (n : Int)) r then h.choose else ⟨#[]⟩
theorem mt_ev (n : Nat) (hn : n ≤ 1099511627776) : Ev (fun k => laws_markText.F k (n : Int)) (mt n) := by
  have h := markText_ev n hn
  unfold mt
  rw [dif_pos h]
  exact h.choose_spec
noncomputable def marks (i : Nat) : List ByteArray := (List.range i).map fun j => mt (j + 1)
theorem marks_len (i : Nat) : (marks i).length = i := by simp [marks]
theorem mark_l0 (xs : List ByteArray) (hlen : xs.length ≤ 1048576) : ∀ n i : Nat, i + n = xs.length → Ev (fun k => laws_markStringS.l0 k (marks i ++ xs.drop i) ((1 + i : Nat) : Int) i) (marks xs.length, ((1 + xs.length : Nat) : Int))
  | 0, i, h => by
    have hl : (marks i ++ xs.drop i).length = xs.length := by rw [List.length_append, marks_len, List.length_drop]; omega
    refine Ev.step (fun k => by rw [laws_markStringS.l0]) ?_
    simp (disch := omega) only [cneg]
    rw [List.drop_eq_nil_of_le (by omega), List.append_nil, show i = xs.length by omega]
    exact Ev.pure _
  | n + 1, i, h => by
    have hi : i < xs.length := by omega
    have hl : (marks i ++ xs.drop i).length = xs.length := by rw [List.length_append, marks_len, List.length_drop]; omega
    refine Ev.step (fun k => by rw [laws_markStringS.l0]) ?_
    simp (disch := omega) only [cpos, Int.toNat_natCast]
    refine Ev.bind (mt_ev (1 + i) (by omega)) ?_
    have e : (marks i ++ xs.drop i).set i (mt (1 + i)) = marks (i + 1) ++ xs.drop (i + 1) := by
      rw [List.set_append_right _ _ (by rw [marks_len]; exact Nat.le_refl _), marks_len, Nat.sub_self, List.drop_eq_getElem_cons hi, List.set_cons_zero]
      unfold marks
      rw [List.range_succ, List.map_append, List.append_assoc, Nat.add_comm 1]
      rfl
    simp (disch := omega) only [wrap_in, e]
    rw [show (((1 + i : Nat) : Int) + 1) = ((1 + (i + 1) : Nat) : Int) by omega]
    exact mark_l0 xs hlen n (i + 1) (by omega)
theorem mark_ev (xs : List ByteArray) (hlen : xs.length ≤ 1048576) : Ev (fun k => laws_markStringS.F k xs 1) (marks xs.length, ((1 + xs.length : Nat) : Int)) := by
  unfold laws_markStringS.F
  refine Ev.bind (mark_l0 xs hlen xs.length 0 (by omega)) ?_
  rw [show Nat.beq (marks xs.length, ((1 + xs.length : Nat) : Int)).1.length xs.length = true by rw [Nat.beq_eq]; exact marks_len _]
  exact Ev.pure _
theorem held_l0 (m : Nat) (hlen : m ≤ 1048576) : ∀ n i : Nat, i + n = m → Ev (fun k => laws_heldStringS.l0 k (marks m) ((1 + i : Nat) : Int) i) (.inr ((1 + m : Nat) : Int))
  | 0, i, h => by
    have hl := marks_len m
    refine Ev.step (fun k => by rw [laws_heldStringS.l0]) ?_
    simp (disch := omega) only [cneg]
    rw [show i = m by omega]
    exact Ev.pure _
  | n + 1, i, h => by
    have hl := marks_len m
    have hi : i < (marks m).length := by omega
    have e : (marks m)[i] = mt (1 + i) := by simp [marks, Nat.add_comm]
    refine Ev.step (fun k => by rw [laws_heldStringS.l0]) ?_
    simp (disch := omega) only [cpos, Int.toNat_natCast, getD_at hi, e]
    refine Ev.bind (mt_ev (1 + i) (by omega)) ?_
    simp (disch := omega) only [beqS_self, Bool.not_true, cond_false, wrap_in]
    rw [show (((1 + i : Nat) : Int) + 1) = ((1 + (i + 1) : Nat) : Int) by omega]
    exact held_l0 m hlen n (i + 1) (by omega)
theorem held_ev (m : Nat) (hlen : m ≤ 1048576) : Ev (fun k => laws_heldStringS.F k (marks m) 1) ((1 + m : Nat) : Int) := by
  unfold laws_heldStringS.F
  exact Ev.bind (held_l0 m hlen m 0 (by omega)) (Ev.pure _)
end Go.Proofs.YtolcacancfmmiaaGreatDoor
end
section
/- Plain laws: deep marks of names, entries and libraries. -/
namespace Go.Proofs.YtolcacancfmmiaaGreatDoor
open Go.Gx
set_option linter.unusedVariables false
set_option linter.unusedSimpArgs false
theorem mtI (x : Int) (h0 : 0 ≤ x) (h1 : x ≤ 1099511627776) : ∃ r, Ev (fun k => laws_markText.F k x) r := by
  obtain ⟨n, rfl⟩ : ∃ n : Nat, x = n := ⟨x.toNat, by omega⟩
  exact markText_ev n (by omega)
theorem dmS_l0 (xs : List ByteArray) (hlen : xs.length ≤ 1048576) : ∀ n i : Nat, i + n = xs.length → ∀ z : Int, 0 ≤ z → z + n ≤ 1099511627776 → Ev (fun k => laws_markStringS_d.l0 k xs z i) (xs, z + n)
  | 0, i, h, z, h0, h1 => by
    refine Ev.step (fun k => by rw [laws_markStringS_d.l0]) ?_
    simp (disch := omega) only [cneg]
    exact (Ev.pure _).eq (by simp)
  | n + 1, i, h, z, h0, h1 => by
    have hi : i < xs.length := by omega
    refine Ev.step (fun k => by rw [laws_markStringS_d.l0]) ?_
    simp (disch := omega) only [cpos]
    obtain ⟨r, hr⟩ := mtI z h0 (by omega)
    refine Ev.bind hr ?_
    simp (disch := omega) only [wrap_in]
    refine (dmS_l0 xs hlen n (i + 1) (by omega) (z + 1) (by omega) (by omega)).eq ?_
    rw [show z + 1 + (n : Int) = z + ((n + 1 : Nat) : Int) by omega]
theorem dmS_ev (xs : List ByteArray) (hlen : xs.length ≤ 1048576) (z : Int) (h0 : 0 ≤ z) (h1 : z + xs.length ≤ 1099511627776) : Ev (fun k => laws_markStringS_d.F k xs z) (z + xs.length) := by
  unfold laws_markStringS_d.F
  exact Ev.bind (dmS_l0 xs hlen xs.length 0 (by omega) z h0 h1) (Ev.pure _)
def cntN (n : Name) : Nat := n.given.length + 3
def cntNs (xs : List Name) : Nat := (xs.map cntN).sum
theorem cntNs_drop {xs : List Name} {i : Nat} (hi : i < xs.length) : cntNs (xs.drop i) = cntN xs[i] + cntNs (xs.drop (i + 1)) := by
  unfold cntNs
  rw [List.drop_eq_getElem_cons hi, List.map_cons, List.sum_cons]
theorem dmN_l0 (xs : List Name) (hs : ∀ x ∈ xs, smallN x) (hlen : xs.length ≤ 1048576) : ∀ n i : Nat, i + n = xs.length → ∀ z : Int, 0 ≤ z → z + cntNs (xs.drop i) ≤ 1099511627776 → Ev (fun k => laws_markNameS_d.l0 k xs z i) (xs, z + cntNs (xs.drop i))
  | 0, i, h, z, h0, h1 => by
    refine Ev.step (fun k => by rw [laws_markNameS_d.l0]) ?_
    simp (disch := omega) only [cneg]
    refine (Ev.pure _).eq ?_
    rw [List.drop_eq_nil_of_le (by omega)]
    simp [cntNs]
  | n + 1, i, h, z, h0, h1 => by
    have hi : i < xs.length := by omega
    have hd := cntNs_drop hi
    rw [hd] at h1 ⊢
    unfold cntN at h1 ⊢
    have hg : xs[i].given.length ≤ 1048576 := by have := hs _ (List.getElem_mem hi); unfold smallN totN at this; omega
    refine Ev.step (fun k => by rw [laws_markNameS_d.l0]) ?_
    simp (disch := omega) only [cpos, Int.toNat_natCast, getD_at hi]
    refine Ev.bind (dmS_ev xs[i].given hg z h0 (by omega)) ?_
    obtain ⟨r1, e1⟩ := mtI (z + xs[i].given.length) (by omega) (by omega)
    obtain ⟨r2, e2⟩ := mtI (z + xs[i].given.length + 1) (by omega) (by omega)
    obtain ⟨r3, e3⟩ := mtI (z + xs[i].given.length + 1 + 1) (by omega) (by omega)
    simp (disch := omega) only [wrap_in]
    refine Ev.bind e1 (Ev.bind e2 (Ev.bind e3 ?_))
    refine (dmN_l0 xs hs hlen n (i + 1) (by omega) (z + xs[i].given.length + 1 + 1 + 1) (by omega) (by omega)).eq ?_
    rw [show z + (xs[i].given.length : Int) + 1 + 1 + 1 + (cntNs (xs.drop (i + 1)) : Int) = z + ((xs[i].given.length + 3 + cntNs (xs.drop (i + 1)) : Nat) : Int) by omega]
theorem dmN_ev (xs : List Name) (hs : ∀ x ∈ xs, smallN x) (hlen : xs.length ≤ 1048576) (z : Int) (h0 : 0 ≤ z) (h1 : z + cntNs xs ≤ 1099511627776) : Ev (fun k => laws_markNameS_d.F k xs z) (z + cntNs xs) := by
  unfold laws_markNameS_d.F
  exact Ev.bind (dmN_l0 xs hs hlen xs.length 0 (by omega) z h0 (by simpa using h1)) ((Ev.pure _).eq (by simp))
def cntE (e : Entry) : Nat := cntNs e.authors + cntNs e.editors + 12
def cntEs (xs : List Entry) : Nat := (xs.map cntE).sum
theorem cntEs_drop {xs : List Entry} {i : Nat} (hi : i < xs.length) : cntEs (xs.drop i) = cntE xs[i] + cntEs (xs.drop (i + 1)) := by
  unfold cntEs
  rw [List.drop_eq_getElem_cons hi, List.map_cons, List.sum_cons]
theorem cntNs_le : ∀ xs : List Name, cntNs xs ≤ 3 * totNs xs
  | [] => by simp [cntNs, totNs]
  | x :: xs => by
    have := cntNs_le xs
    unfold cntNs totNs at *
    simp only [List.map_cons, List.sum_cons, List.length_cons]
    have h1 : cntN x ≤ totN x + 3 := by unfold cntN totN; omega
    omega
theorem cntEs_le : ∀ xs : List Entry, cntEs xs ≤ 12 * totEs xs
  | [] => by simp [cntEs, totEs]
  | x :: xs => by
    have := cntEs_le xs
    unfold cntEs totEs at *
    simp only [List.map_cons, List.sum_cons, List.length_cons]
    have h1 : cntE x ≤ 3 * totE x + 12 := by
      have := cntNs_le x.authors
      have := cntNs_le x.editors
      unfold cntE totE
      omega
    omega
theorem dmE_l0 (xs : List Entry) (hs : ∀ x ∈ xs, smallE x) (hlen : xs.length ≤ 1048576) : ∀ n i : Nat, i + n = xs.length → ∀ z : Int, 0 ≤ z → z + cntEs (xs.drop i) ≤ 1099511627776 → Ev (fun k => laws_markEntryS_d.l0 k xs z i) (xs, z + cntEs (xs.drop i))
  | 0, i, h, z, h0, h1 => by
    refine Ev.step (fun k => by rw [laws_markEntryS_d.l0]) ?_
    simp (disch := omega) only [cneg]
    refine (Ev.pure _).eq ?_
    rw [List.drop_eq_nil_of_le (by omega)]
    simp [cntEs]
  | n + 1, i, h, z, h0, h1 => by
    have hi : i < xs.length := by omega
    have hd := cntEs_drop hi
    rw [hd] at h1 ⊢
    unfold cntE at h1 ⊢
    have hsm := hs _ (List.getElem_mem hi)
    have ha := smallE_a hsm
    have he := smallE_e hsm
    refine Ev.step (fun k => by rw [laws_markEntryS_d.l0]) ?_
    obtain ⟨r1, e1⟩ := mtI z (by omega) (by omega)
    simp (disch := omega) only [cpos]
    refine Ev.bind e1 ?_
    simp (disch := omega) only [cpos, Int.toNat_natCast, getD_at hi, wrap_in]
    refine Ev.bind (dmN_ev xs[i].authors (fun x hx => smallNs_at ha hx) (smallNs_len ha) (z + 1 + 1) (by omega) (by omega)) ?_
    refine Ev.bind (dmN_ev xs[i].editors (fun x hx => smallNs_at he hx) (smallNs_len he) (z + 1 + 1 + cntNs xs[i].authors) (by omega) (by omega)) ?_
    generalize hw : z + 1 + 1 + (cntNs xs[i].authors : Int) + (cntNs xs[i].editors : Int) = w
    have h30 : ((3 : Int) == 0) = false := rfl
    obtain ⟨r4, e4⟩ := mtI w (by omega) (by omega)
    obtain ⟨r5, e5⟩ := mtI (w + 1) (by omega) (by omega)
    obtain ⟨r6, e6⟩ := mtI (w + 1 + 1) (by omega) (by omega)
    obtain ⟨r7, e7⟩ := mtI (w + 1 + 1 + 1 + 1 + 1 + 1 + 1 + 1) (by omega) (by omega)
    obtain ⟨r8, e8⟩ := mtI (w + 1 + 1 + 1 + 1 + 1 + 1 + 1 + 1 + 1) (by omega) (by omega)
    simp (disch := omega) only [wrap_in, h30, cond_false]
    refine Ev.bind e4 (Ev.bind e5 (Ev.bind e6 (Ev.bind e7 (Ev.bind e8 ?_))))
    refine (dmE_l0 xs hs hlen n (i + 1) (by omega) (w + 1 + 1 + 1 + 1 + 1 + 1 + 1 + 1 + 1 + 1) (by omega) (by omega)).eq ?_
    rw [show w + 1 + 1 + 1 + 1 + 1 + 1 + 1 + 1 + 1 + 1 + (cntEs (xs.drop (i + 1)) : Int) = z + ((cntNs xs[i].authors + cntNs xs[i].editors + 12 + cntEs (xs.drop (i + 1)) : Nat) : Int) by omega]
end Go.Proofs.YtolcacancfmmiaaGreatDoor
end
section
/- The plain law of BibliographyKeys. -/
namespace Go.Proofs.YtolcacancfmmiaaGreatDoor
open Go.Gx
set_option linter.unusedVariables false
set_option linter.unusedSimpArgs false
theorem markAt_l0 : ∀ n i : Nat, ∀ ys : List ByteArray, i + n = ys.length → ys.length ≤ 1048576 → ∀ m : Nat, m + n ≤ 1099511627776 → ∃ r, Ev (fun k => laws_markStringS.l0 k ys (m : Int) i) (r, ((m + n : Nat) : Int)) ∧ r.length = ys.length
  | 0, i, ys, h, hl, m, hm => by
    refine ⟨ys, Ev.step (fun k => by rw [laws_markStringS.l0]) ?_, rfl⟩
    simp (disch := omega) only [cneg]
    exact Ev.pure _
  | n + 1, i, ys, h, hl, m, hm => by
    obtain ⟨t, ht⟩ := markText_ev m (by omega)
    obtain ⟨r, r1, r2⟩ := markAt_l0 n (i + 1) (ys.set i t) (by rw [List.length_set]; omega) (by rw [List.length_set]; exact hl) (m + 1) (by omega)
    rw [List.length_set] at r2
    refine ⟨r, Ev.step (fun k => by rw [laws_markStringS.l0]) ?_, r2⟩
    simp (disch := omega) only [cpos, Int.toNat_natCast]
    refine Ev.bind ht ?_
    simp (disch := omega) only [wrap_in]
    rw [show m + (n + 1) = m + 1 + n by omega]
    exact r1
theorem markAt_ev (ys : List ByteArray) (hl : ys.length ≤ 1048576) (m : Nat) (hm : m ≤ 1099500000000) : ∃ r, Ev (fun k => laws_markStringS.F k ys (m : Int)) (r, ((m + ys.length : Nat) : Int)) := by
  obtain ⟨r, r1, r2⟩ := markAt_l0 ys.length 0 ys (by omega) hl m (by omega)
  unfold laws_markStringS.F
  refine ⟨r, Ev.bind r1 ?_⟩
  rw [show Nat.beq (r, ((m + ys.length : Nat) : Int)).1.length ys.length = true by rw [Nat.beq_eq]; exact r2]
  exact Ev.pure _
theorem dmL2_ev (l : Library) (hs : smallL l) : ∃ m : Nat, m ≤ 1099500000000 ∧ Ev (fun k => laws_markLibrary_d.F k l 1) (m : Int) := by
  have h1 := cntEs_le l.entries
  have h2 : totEs l.entries ≤ 1048576 := hs
  unfold laws_markLibrary_d.F laws_markEntryS_d.F
  refine ⟨1 + cntEs l.entries, by omega, Ev.bind (Ev.bind (dmE_l0 l.entries (fun x hx => smallL_at hs hx) (smallL_len hs) l.entries.length 0 (by omega) 1 (by omega) (by simp; omega)) ((Ev.pure _).eq (by simp))) (Ev.pure _)⟩
theorem bib_ev (l : Library) (hs : smallL l) (keys : List ByteArray) (hk : keys.length ≤ 1048576) (mode : Int) : ∃ r v, Ev (fun k => spec_BibliographyKeys.F k l keys mode) (r, v) ∧ Ev (fun k => impl_BibliographyKeys.F k l keys mode) (r, v) ∧ r.length ≤ 8 := by
  obtain ⟨v, a1, a2, a3⟩ := asked3_ev l hs keys hk mode
  unfold spec_BibliographyKeys.F impl_BibliographyKeys.F
  cases v with
  | false => exact ⟨[], false, Ev.bind a1 (Ev.pure _), Ev.bind a2 (Ev.pure _), by simp⟩
  | true =>
    obtain ⟨r, r1, r2, r3⟩ := a3 rfl
    exact ⟨r, true, Ev.bind a1 (Ev.bind r1 (Ev.pure _)), Ev.bind a2 (Ev.bind r2 (Ev.pure _)), r3⟩
theorem bib_law (l : Library) (keys : List ByteArray) (mode : Int) (hw : WF .lib l) (hwk : WF (.sl .str) keys) (hwm : WF (.int .i64) mode) : ∃ k, laws_FnExactBibliographyKeys.F k l keys mode = some true := by
  refine Ev.get (?_ : Ev (fun k => laws_FnExactBibliographyKeys.F k l keys mode) true)
  unfold laws_FnExactBibliographyKeys.F
  obtain ⟨r, h1, h2⟩ := szL_ev l 1048576 (by omega) (by omega) hw
  refine Ev.bind h1 ?_
  by_cases c : r < 0
  · simp (disch := omega) only [cpos]
    exact Ev.pure _
  simp (disch := omega) only [cneg]
  have hs : smallL l := by have := h2 (by omega); unfold smallL; omega
  obtain ⟨r', h3, h4⟩ := szS_ev keys r (by omega) (by have := h2 (by omega); omega) hwk
  refine Ev.bind h3 ?_
  by_cases c' : r' < 0
  · simp (disch := omega) only [cpos]
    exact Ev.pure _
  simp (disch := omega) only [cneg]
  have hk : keys.length ≤ 1048576 := by have := h4 (by omega); have := h2 (by omega); omega
  obtain ⟨v, w, v1, v2, v3⟩ := bib_ev l hs keys hk mode
  have tl := toL_ev l hs
  have ts := toS_ev keys hk
  have eqv := eqS_ev v (by omega)
  refine Ev.bind tl (Ev.bind ts (Ev.bind v1 (Ev.bind tl (Ev.bind ts (Ev.bind v2 (Ev.bind eqv ?_))))))
  simp only [beq_self_eq_true, Bool.not_true, cond_false]
  refine Ev.bind tl (Ev.bind (eqL_ev l hs) ?_)
  simp only [Bool.not_true, cond_false]
  refine Ev.bind ts (Ev.bind (eqS_ev keys hk) ?_)
  simp only [Bool.not_true, cond_false]
  obtain ⟨m, m0, m1⟩ := dmL2_ev l hs
  obtain ⟨q, q1⟩ := markAt_ev keys hk m m0
  refine Ev.bind m1 (Ev.bind q1 ?_)
  simp (disch := omega) only [cneg]
  refine Ev.bind eqv ?_
  simp only [Bool.not_true, cond_false]
  refine Ev.bind (mark_ev v (by omega)) (Ev.bind (held_ev v.length (by omega)) ?_)
  simp (disch := omega) only [cneg, cbeq]
  refine Ev.bind tl (Ev.bind ts (Ev.bind v2 (Ev.bind eqv ?_)))
  simp only [beq_self_eq_true, Bool.not_true, cond_false]
  refine Ev.bind (held_ev v.length (by omega)) ?_
  simp (disch := omega) only [cneg, cbeq]
  exact Ev.pure _
end Go.Proofs.YtolcacancfmmiaaGreatDoor
end
section
/- The law FnExactBibliographyKeys returns true for every input, the listed package variables being as the program's text lays it: the card. -/
namespace Go.Proofs.YtolcacancfmmiaaGreatDoor
open Go.Gx Go.RowKit Go.ChangeShapes Go.WideShapes Go.ChangeAt
set_option linter.unusedVariables false
theorem fnExactBibliographyKeys_own : ownKnob Tryz.prog.godebug = none := by kernel_rfl
set_option maxRecDepth 100000 in
theorem fnExactBibliographyKeys_contract (H : Type) (enc : TypeId × Value → H) (W : World) (base : Nat) (args : Array Value) (ds gs : List (DataW H)) (before : List MemPlace)
    (hval : ∀ (j : Nat) t v, Tryz.f3.params[j]? = some t → args[j]? = some v → Value.okWide Tryz.prog W .any base t v)
    (hW : DataW.Whole enc Tryz.prog Tryz.f3.params.toList Rows.fnExactBibliographyKeysSpec.vars false W args.toList ds gs before) (hsh : W.ShapedOpen Tryz.prog) :
    Calls Tryz.prog 3 args W fun e W' => ∃ v, e = .returned v ∧ Rows.fnExactBibliographyKeysSpec.post enc Tryz.prog Tryz.f3 false true false false W args v W' := by
  have hgs : gs = [] := by
    obtain ⟨p, q, _, hV, _⟩ := hW
    exact (trodVars_none hV).1
  subst hgs
  have hds : ∃ d1 d2 d3, ds = [d1, d2, d3] := by
    obtain ⟨p, q, hA, _⟩ := hW
    obtain ⟨_, _, d1, e0, _, _, _, rfl, _, _, h0⟩ := trodAll_cons hA
    obtain ⟨_, _, d2, e1, _, _, _, rfl, _, _, h1⟩ := trodAll_cons h0
    obtain ⟨_, _, d3, e2, _, _, _, rfl, _, _, h2⟩ := trodAll_cons h1
    obtain ⟨_, rfl, _⟩ := trodAll_nil h2
    exact ⟨d1, d2, d3, rfl⟩
  obtain ⟨d1, d2, d3, rfl⟩ := hds
  have hgl : GlOk envX (fun _ => undef) (Lt W) W := by
    refine GlOk.mk0 (fun g b h => (by cases h)) (fun g hg => ?_)
    have hg' : giT g = true := hg
    unfold giT at hg'
    split at hg'
    · obtain ⟨m, hm⟩ := cell_of_shapedOpen_int (P := Tryz.prog) (g := 0) (t := 3) (zero := #[.int .i64 0]) hsh (of_decide_eq_true (by kernel_rfl)) (by kernel_rfl) rfl (by kernel_rfl) (by kernel_rfl) (by kernel_rfl)
      exact ⟨World.block_lt_of_cell? _ _ hm, m, hm⟩
    · cases hg'
  refine law_contract (τs := [.lib, (.sl .str), (.int .i64)]) (r := .t .bool true) envOk (by kernel_rfl) rfl (by kernel_rfl) (by kernel_rfl) rfl (by kernel_rfl) (by kernel_rfl) (fun t ht => ?_) rfl (fun x hx => by
      obtain ⟨k, hk⟩ := bib_law x.1 x.2.1 x.2.2.1 hx.1 hx.2.1 hx.2.2.1
      exact laws_FnExactBibliographyKeys.good envOk _ k _ _ _ hk) rfl hval hW hgl (fun q hq W' _ => ?_)
  · have : t ∈ [24, 25, 3] := ht
    simp only [List.mem_cons, List.not_mem_nil, or_false] at this
    rcases this with rfl | rfl | rfl <;> exact ⟨by kernel_rfl, Nat.le_of_ble_eq_true (by kernel_rfl)⟩
  · obtain ⟨_, rfl⟩ := trodVars_none hq
    exact rfl
set_option maxRecDepth 100000 in
noncomputable def fnExactBibliographyKeys_world (os : Os) : World :=
  { World.holding Tryz.prog os ⟨#[], #[], []⟩ with heap := (((World.holding Tryz.prog os ⟨#[], #[], []⟩).heap.modify 2 fun
      | .cells _ t frozen => .cells #[.int .u8 128, .int .u8 191, .int .u8 160, .int .u8 191, .int .u8 128, .int .u8 159, .int .u8 144, .int .u8 191, .int .u8 128, .int .u8 143, .int .u8 0, .int .u8 0, .int .u8 0, .int .u8 0, .int .u8 0, .int .u8 0, .int .u8 0, .int .u8 0, .int .u8 0, .int .u8 0, .int .u8 0, .int .u8 0, .int .u8 0, .int .u8 0, .int .u8 0, .int .u8 0, .int .u8 0, .int .u8 0, .int .u8 0, .int .u8 0, .int .u8 0, .int .u8 0] t frozen
      | o => o).modify 1 fun
      | .cells _ t frozen => .cells (Pinned.utf8FirstZ.map fun (n : Nat) => Value.int .u8 (n : Int)).toArray t frozen
      | o => o) }
theorem fnExactBibliographyKeys_met (os : Os) : laidMet Tryz.prog Rows.fnExactBibliographyKeysRow.laid ((fnExactBibliographyKeys_world os).forCall (fun _ _ => 0) ⟨#[], #[.agg #[.slice none 0 0], .slice none 0 0, .int .i64 0], []⟩).memory :=
  laidMet_of_run' 8 (by kernel_rfl) (by kernel_rfl)
theorem fnExactBibliographyKeys_reads (os : Os) {H : Type} (enc : TypeId × Value → H) : ∃ places, DataW.whole enc Tryz.prog ((fnExactBibliographyKeys_world os).forCall (fun _ _ => 0) ⟨#[], #[.agg #[.slice none 0 0], .slice none 0 0, .int .i64 0], []⟩).memory Tryz.f3.params.toList Rows.fnExactBibliographyKeysSpec.vars false #[.agg #[.slice none 0 0], .slice none 0 0, .int .i64 0].toList 8 = some ([.agg [.nil], .nil, .lit (.int .i64 0)], [], places) :=
  ⟨[], by kernel_rfl⟩
set_option maxRecDepth 100000 in
theorem fnExactBibliographyKeys_lifted (os : Os) (started : os.Started) (H : Type) (enc : TypeId × Value → H) (F : Stop.Interp) :
    ReturnsInHanded {} Tryz.checked os 3 .any ((OpenSpec.ofChange Rows.fnExactBibliographyKeysSpec).preRow enc Tryz.prog Tryz.f3 Rows.fnExactBibliographyKeysRow.domain false Rows.fnExactBibliographyKeysRow.laid) (((OpenSpec.ofChange Rows.fnExactBibliographyKeysSpec).at F).post enc Tryz.prog Tryz.f3 false true false false) := by
  obtain ⟨places, hx⟩ := fnExactBibliographyKeys_reads os enc
  refine returnsInHanded_of_row (C := Tryz.checked) (s := OpenSpec.ofChange Rows.fnExactBibliographyKeysSpec) fnExactBibliographyKeys_own started (by kernel_rfl) (by kernel_rfl)
    (witness_row_at (enc := enc) (C := Tryz.checked) false (fnExactBibliographyKeys_world os) #[.agg #[.slice none 0 0], .slice none 0 0, .int .i64 0] rfl (by kernel_rfl) (by kernel_rfl) (by kernel_rfl)
      (OpenSpec.preRow_of_cond 8 hx (by kernel_rfl) (fun k hk => by cases hk) (by kernel_rfl) (fnExactBibliographyKeys_met os))) ?_
  intro W base args ds gs before hval hW _ _ _ _ hsh _
  exact fnExactBibliographyKeys_contract H enc W base args ds gs before hval hW hsh
theorem fnExactBibliographyKeys_said : Rows.FnExactBibliographyKeysSaid :=
  OpenClaim.holds_of_cond 3 Tryz.f3 rfl rfl rfl rfl rfl rfl rfl ⟨rfl, rfl, rfl, rfl, rfl⟩ rfl rfl rfl rfl rfl (by kernel_rfl) (by kernel_rfl) (by kernel_rfl)
    (of_decide_eq_true (by kernel_rfl)) (by unfold Func.isWrapper; first | (rw [if_pos (by decide +kernel)]; kernel_rfl) | (rw [if_neg (by decide +kernel)]; exact ⟨rfl, rfl⟩))
    (fun os started H enc _ F => by rw [OpenClaim.pre_eq_preRow]; exact fnExactBibliographyKeys_lifted os started H enc F)
theorem fnExactBibliographyKeys_plain (f : FuncId) (fn : Func) (hf : Tryz.pinned.checked.prog.funcNamed "loop.example/g00896/laws.FnExactBibliographyKeys" = some f) (hfn : Tryz.pinned.checked.prog.funcs[f]? = some fn) :
    false = Tryz.pinned.checked.prog.looks [] ∧ ∀ (j : Nat) t, fn.params[j]? = some t → Tryz.pinned.checked.prog.wantsStandIn t = false := by
  obtain rfl : f = 3 := (Option.some.inj ((show Tryz.prog.funcNamed "loop.example/g00896/laws.FnExactBibliographyKeys" = some 3 by kernel_rfl).symm.trans hf)).symm
  obtain rfl : fn = Tryz.f3 := (Option.some.inj ((show Tryz.prog.funcs[3]? = some Tryz.f3 by kernel_rfl).symm.trans hfn)).symm
  refine ⟨by kernel_rfl, fun j t ht => ?_⟩
  have ht' : t ∈ [24, 25, 3] := by simpa using Array.mem_of_getElem? (show (#[24, 25, 3] : Array Nat)[j]? = some t from ht)
  simp only [List.mem_cons, List.not_mem_nil, or_false] at ht'
  rcases ht' with rfl | rfl | rfl
  · exact (show Tryz.prog.wantsStandIn 24 = false by kernel_rfl)
  · exact (show Tryz.prog.wantsStandIn 25 = false by kernel_rfl)
  · exact (show Tryz.prog.wantsStandIn 3 = false by kernel_rfl)
theorem FnExactBibliographyKeys_holds : Rows.FnExactBibliographyKeysCardSaid :=
  Claim7.holds_tied_plain_at .later [] _ _ _ _ fnExactBibliographyKeys_said (fun _ h => by cases h) (by kernel_rfl) (fun _ h => by cases h) fnExactBibliographyKeys_row_tie rfl ⟨rfl, rfl⟩ (by kernel_rfl) rfl fnExactBibliographyKeys_plain (by kernel_rfl)
#print axioms FnExactBibliographyKeys_holds
end Go.Proofs.YtolcacancfmmiaaGreatDoor
end
