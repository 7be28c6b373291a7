/- The law FnExactInheritedFields returns true for every input, the listed package variables being as the program's text lays it: the card. -/
import Derived.Test.YtgihehbpbjejlaaGreatDoorMif6
import Derived.Lib.ItoaNum
import Derived.Test.YtgihehbpbjejlaaGreatDoorCards
import Derived.Test.YtgihehbpbjejlaaGreatDoorTie
import Derived.Test.YtgihehbpbjejlaaGreatDoorMif3
import Derived.Shelf.Vars
import Derived.WalkKit
import Derived.ProofKit
import Derived.OpenShut
import Derived.Deep.DeepHandedRow
import Derived.Lib.LaidTab
section
namespace Go.Proofs.YtgihehbpbjejlaaGreatDoor
open Go.Gx
set_option linter.unusedVariables false
set_option linter.unusedSimpArgs false

/-! ### Texts joined -/
def nonE (x : ByteArray) : Bool := !beqS x ⟨#[]⟩
theorem nonE_no {x : ByteArray} (h : nonE x = false) : x = ⟨#[]⟩ := by
  unfold nonE at h
  exact beqS_iff.1 (by simpa using h)
theorem nonE_pos {x : ByteArray} (h : 1 ≤ x.size) : nonE x = true := by
  unfold nonE; rw [size_pos]; exact decide_eq_true h
def joinT (sep : List UInt8) (xs : List ByteArray) : ByteArray := ⟨(Lib.join (xs.map L) sep).toArray⟩
theorem L_joinT (sep : List UInt8) (xs : List ByteArray) : L (joinT sep xs) = Lib.join (xs.map L) sep := by unfold joinT; exact L_mk _
theorem tail_len (sep : List UInt8) : ∀ xs : List ByteArray, (Lib.joinTail sep (xs.map L)).length = totS xs + sep.length * xs.length
  | [] => by simp [Lib.joinTail, totS]
  | x :: r => by
    have := tail_len sep r
    simp only [Lib.joinTail, totS, List.map_cons, List.flatten_cons, List.length_append, List.sum_cons, List.length_cons, L_size] at this ⊢
    rw [this, Nat.mul_succ]; omega
theorem joinT_size (sep : List UInt8) (xs : List ByteArray) : (joinT sep xs).size ≤ totS xs + sep.length * xs.length := by
  rw [← L_size, L_joinT]
  cases xs with
  | nil => simp [Lib.join_nil]
  | cons x r =>
    rw [List.map_cons, Lib.join_cons, List.length_append, tail_len, L_size]
    simp only [totS, List.map_cons, List.sum_cons, List.length_cons, Nat.mul_succ]
    omega
theorem xJoin_eq (sep : ByteArray) (xs : List ByteArray) (h1 : xs.length ≤ 4194304) (h2 : totS xs ≤ 8388608) (h3 : sep.size ≤ 2) : xJoin xs sep = some (joinT (L sep) xs) := by
  unfold xJoin
  have hl : (Lib.join (xs.map (·.data.toList)) sep.data.toList).length ≤ 140737488355328 := by
    have := joinT_size (L sep) xs
    rw [← L_size, L_joinT, L_size] at this
    have h4 : sep.size * xs.length ≤ 2 * xs.length := Nat.mul_le_mul_right _ h3
    exact Nat.le_trans this (by omega)
  rw [Nat.ble_eq_true_of_le (by omega : xs.length ≤ 140737488355328), Nat.ble_eq_true_of_le hl]
  rfl
def jn : ByteArray → List ByteArray → ByteArray
  | s, [] => s
  | s, x :: r => jn (bif nonE s then (bif nonE x then (s ++ ⟨#[32]⟩) ++ x else s ++ x) else s ++ x) r
theorem nonE_app {s t : ByteArray} (h : nonE s = true) : nonE (s ++ t) = true := by
  unfold nonE at h ⊢
  rw [size_pos] at h ⊢
  have := of_decide_eq_true h
  rw [size_app]
  exact decide_eq_true (by omega)
theorem app_empty (s : ByteArray) : s ++ (⟨#[]⟩ : ByteArray) = s := by apply L_inj; rw [L_append]; simp [L]
theorem empty_app (s : ByteArray) : (⟨#[]⟩ : ByteArray) ++ s = s := by apply L_inj; rw [L_append]; simp [L]
theorem L_jn : ∀ (r : List ByteArray) (s : ByteArray), (nonE s = true → L (jn s r) = L s ++ Lib.joinTail [32] ((r.filter nonE).map L)) ∧ (nonE s = false → L (jn s r) = Lib.join ((r.filter nonE).map L) [32])
  | [], s => ⟨fun _ => by simp [jn, Lib.joinTail], fun h => by rw [nonE_no h]; rfl⟩
  | x :: r, s => by
    refine ⟨fun h => ?_, fun h => ?_⟩
    · simp only [jn, h, cond_true]
      cases hx : nonE x with
      | true =>
        simp only [cond_true]
        rw [(L_jn r _).1 (nonE_app (nonE_app h)), List.filter_cons_of_pos hx, List.map_cons, tail_cons, L_append, L_append, L32]
        simp
      | false =>
        rw [List.filter_cons_of_neg (by simp [hx]), nonE_no hx]
        simp only [cond_false, app_empty]
        exact (L_jn r _).1 h
    · simp only [jn, h, cond_false]
      rw [nonE_no h, empty_app]
      cases hx : nonE x with
      | true => rw [(L_jn r x).1 hx, List.filter_cons_of_pos hx, List.map_cons, Lib.join_cons]
      | false =>
        rw [List.filter_cons_of_neg (by simp [hx])]
        exact (L_jn r x).2 hx
theorem totS_drop {xs : List ByteArray} {i : Nat} (hi : i < xs.length) : totS (xs.drop i) = xs[i].size + totS (xs.drop (i + 1)) := by
  rw [List.drop_eq_getElem_cons hi]; simp only [totS, List.map_cons, List.sum_cons]
theorem l2Join_l0 (xs : List ByteArray) (hlen : xs.length ≤ 4194304) : ∀ n i : Nat, i + n = xs.length → ∀ s : ByteArray, s.size + n + totS (xs.drop i) ≤ 1099511627776 → Ev (fun k => spec_l2Join.l0 k xs s i) (jn s (xs.drop i))
  | 0, i, h, s, hs => by
    rw [List.drop_eq_nil_of_le (by omega)]
    refine Ev.step (fun k => by rw [spec_l2Join.l0]) ?_
    simp (disch := omega) only [cneg]
    exact Ev.pure _
  | n + 1, i, h, s, hs => by
    have hi : i < xs.length := by omega
    rw [totS_drop hi] at hs
    rw [List.drop_eq_getElem_cons hi]
    simp only [jn]
    refine Ev.step (fun k => by rw [spec_l2Join.l0]) ?_
    have ih := fun s hs => l2Join_l0 xs hlen n (i + 1) (by omega) s hs
    have e1 : (⟨#[32]⟩ : ByteArray).size = 1 := rfl
    have hb1 : (!beqS s ⟨#[]⟩) = nonE s := rfl
    have hb2 : (!beqS xs[i] ⟨#[]⟩) = nonE xs[i] := rfl
    simp (disch := omega) only [cpos, Int.toNat_natCast, getD_at hi, hb1, hb2, wrap_in, cble, size_app, e1]
    cases nonE s with
    | false => exact ih _ (by rw [size_app]; omega)
    | true =>
      cases nonE xs[i] with
      | false => exact ih _ (by rw [size_app]; omega)
      | true => exact ih _ (by rw [size_app, size_app, e1]; omega)
theorem l2Join_ev (xs : List ByteArray) (hlen : xs.length ≤ 4194304) (ht : totS xs ≤ 8388608) : Ev (fun k => spec_l2Join.F k xs) (joinT [32] (xs.filter nonE)) := by
  unfold spec_l2Join.F
  have := l2Join_l0 xs hlen xs.length 0 (by omega) ⟨#[]⟩ (by rw [List.drop_zero, show (⟨#[]⟩ : ByteArray).size = 0 from rfl]; omega)
  refine Ev.bind this ((Ev.pure _).eq ?_)
  apply L_inj
  rw [List.drop_zero, (L_jn xs ⟨#[]⟩).2 (by unfold nonE; rw [beqS_self]; rfl), L_joinT]
theorem totS_filter (p : ByteArray → Bool) : ∀ xs : List ByteArray, totS (xs.filter p) ≤ totS xs
  | [] => Nat.le_refl _
  | x :: r => by
    have := totS_filter p r
    cases h : p x with
    | true => rw [List.filter_cons_of_pos h]; simp only [totS, List.map_cons, List.sum_cons] at this ⊢; omega
    | false => rw [List.filter_cons_of_neg (by simp [h])]; simp only [totS, List.map_cons, List.sum_cons] at this ⊢; omega
theorem spaced_ev (xs : List ByteArray) (hlen : xs.length ≤ 4194304) (ht : totS xs ≤ 8388608) : Ev (fun k => impl_spaced.F k xs) (joinT [32] (xs.filter nonE)) := by
  unfold impl_spaced.F
  have hq : ∀ x, x ∈ xs → Ev (fun _ => impl_spaced_1.F x) (beqS x ⟨#[]⟩) := fun x _ => Ev.pure _
  have hdel := delete_ev (d := (⟨#[]⟩ : ByteArray)) (p := fun x => beqS x ⟨#[]⟩) (q := fun _ x => impl_spaced_1.F x) (xs := xs) (l0 := slices_DeleteFunc_string_f137.l0) (fun k x0 x5 x6 => by rw [slices_DeleteFunc_string_f137.l0]) hq (by omega) (I := slices_IndexFunc_string_f137.F) (F := slices_DeleteFunc_string_f137.F)
    (idx_ev (d := (⟨#[]⟩ : ByteArray)) (p := fun x => beqS x ⟨#[]⟩) (q := fun _ x => impl_spaced_1.F x) (l0 := slices_IndexFunc_string_f137.l0) (fun k x0 x7 x8 => by rw [slices_IndexFunc_string_f137.l0]) hq (by omega) (fun k a0 => rfl)) (fun k a0 => rfl)
  refine Ev.bind hdel (Ev.bind0 ?_ (Ev.pure _))
  have hf : (xs.filter nonE).length ≤ xs.length := List.length_filter_le _ _
  exact xJoin_eq ⟨#[32]⟩ (xs.filter nonE) (by omega) (by have := totS_filter nonE xs; omega) (by decide)

/-! ### Names -/
def cs2 : ByteArray := ⟨#[44, 32]⟩
def invT (n : Name) : ByteArray :=
  let r1 := joinT [32] ([n.particle, n.family].filter nonE)
  let r2 := bif decide ((n.given.length : Int) > 0) || nonE n.suffix then (r1 ++ cs2) ++ joinT [32] n.given else r1
  bif nonE n.suffix then (r2 ++ cs2) ++ n.suffix else r2
theorem given_all {n : Name} (h : nameB n = true) : n.given.filter nonE = n.given := by
  unfold nameB at h
  simp only [Bool.and_eq_true] at h
  refine List.filter_eq_self.2 fun x hx => ?_
  have := List.all_eq_true.1 h.1 x hx
  unfold gw at this
  simp only [Bool.and_eq_true] at this
  exact nonE_pos (word_size this.1)
theorem small_parts {n : Name} (hs : smallN n) : n.given.length + totS n.given + n.particle.size + n.family.size + n.suffix.size ≤ 1048576 := hs
theorem tot2 (a b : ByteArray) : totS [a, b] = a.size + b.size := by simp [totS]
theorem r1_size (n : Name) : (joinT [32] ([n.particle, n.family].filter nonE)).size ≤ n.particle.size + n.family.size + 2 := by
  have h1 := joinT_size [32] ([n.particle, n.family].filter nonE)
  have h2 := totS_filter nonE [n.particle, n.family]
  have h3 : ([n.particle, n.family].filter nonE).length ≤ 2 := List.length_filter_le _ _
  rw [tot2] at h2
  simp only [List.length_singleton, Nat.one_mul] at h1
  omega
theorem gv_size (n : Name) : (joinT [32] n.given).size ≤ totS n.given + n.given.length := by
  have h1 := joinT_size [32] n.given
  simpa using h1
theorem invT_size (n : Name) (hs : smallN n) : (invT n).size ≤ 1048590 := by
  have h1 := r1_size n
  have h2 := gv_size n
  have h3 := small_parts hs
  have e2 : cs2.size = 2 := rfl
  unfold invT
  dsimp only
  cases nonE n.suffix <;> cases decide ((n.given.length : Int) > 0) <;> simp only [Bool.or_true, Bool.or_false, cond_true, cond_false, Bool.true_or, Bool.false_or, size_app, e2] <;> omega
theorem app_assoc (a b c : ByteArray) : (a ++ b) ++ c = a ++ (b ++ c) := by apply L_inj; simp only [L_append, List.append_assoc]
theorem specInv_ev (n : Name) (hs : smallN n) (hv : nameB n = true) : Ev (fun k => spec_l2Inverse.F k n) (invT n) := by
  have h3 := small_parts hs
  have h1 := r1_size n
  have h2 := gv_size n
  have hj := l2Join_ev [n.particle, n.family] (by simp) (by rw [tot2]; omega)
  have hg := l2Join_ev n.given (by omega) (by omega)
  rw [given_all hv] at hg
  have hg' : Ev (fun k => spec_l2Given.F k n) (joinT [32] n.given) := by unfold spec_l2Given.F; exact Ev.bind hg (Ev.pure _)
  unfold spec_l2Inverse.F invT
  refine Ev.bind hj ?_
  have e2 : (⟨#[44, 32]⟩ : ByteArray).size = 2 := rfl
  have hb : (!beqS n.suffix ⟨#[]⟩) = nonE n.suffix := rfl
  simp (disch := omega) only [hb, size_app, e2, cble]
  cases hx : decide ((n.given.length : Int) > 0) with
  | true =>
    simp only [cond_true, Bool.true_or]
    refine Ev.bind hg' ?_
    simp (disch := omega) only [size_app, e2, cble]
    cases nonE n.suffix <;> exact Ev.pure _
  | false =>
    cases nonE n.suffix with
    | false => exact Ev.pure _
    | true =>
      simp only [cond_true, cond_false, Bool.or_true]
      refine Ev.bind hg' ?_
      simp (disch := omega) only [size_app, e2, cble]
      exact Ev.pure _
theorem implInv_ev (n : Name) (hs : smallN n) : Ev (fun k => impl_inverseForm.F k n) (invT n) := by
  have h3 := small_parts hs
  have h1 := r1_size n
  have h2 := gv_size n
  have hj := spaced_ev [n.particle, n.family] (by simp) (by rw [tot2]; omega)
  have hg : strings_Join.F n.given ⟨#[32]⟩ = some (joinT [32] n.given) := xJoin_eq ⟨#[32]⟩ n.given (by omega) (by omega) (by decide)
  unfold impl_inverseForm.F invT
  refine Ev.bind hj ?_
  have e2 : (⟨#[44, 32]⟩ : ByteArray).size = 2 := rfl
  have hb : (!beqS n.suffix ⟨#[]⟩) = nonE n.suffix := rfl
  simp (disch := omega) only [hb, hg, Option.bind_some, size_app, e2, cble, app_assoc]
  cases decide ((n.given.length : Int) > 0) <;> cases nonE n.suffix <;> simp only [cond_true, cond_false, Bool.or_true, Bool.or_false, Bool.true_or, Bool.false_or, app_assoc] <;> exact Ev.pure _
def sc2 : List UInt8 := [59, 32]
def namesT (l : List Name) : ByteArray := joinT sc2 (l.map invT)
theorem tail_cons2 (x : List UInt8) (r : List (List UInt8)) : Lib.joinTail sc2 (x :: r) = sc2 ++ (x ++ Lib.joinTail sc2 r) := by simp [Lib.joinTail]
theorem specNamesT_l0 (xs : List Name) (hl : xs.length ≤ 4) (hs : ∀ n ∈ xs, smallN n) (hv : ∀ n ∈ xs, nameB n = true) : ∀ m i : Nat, i + m = xs.length → 1 ≤ i → ∀ s : ByteArray, s.size ≤ i * 1048600 →
    Ev (fun k => spec_l4Names.l0 k xs s i) ⟨(L s ++ Lib.joinTail sc2 (((xs.drop i).map invT).map L)).toArray⟩
  | 0, i, h, h1, s, hz => by
    rw [List.drop_eq_nil_of_le (by omega)]
    refine Ev.step (fun k => by rw [spec_l4Names.l0]) ?_
    simp (disch := omega) only [cneg]
    refine (Ev.pure _).eq ?_
    apply L_inj; rw [L_mk]; exact (List.append_nil _).symm
  | m + 1, i, h, h1, s, hz => by
    have hi : i < xs.length := by omega
    have hm := List.getElem_mem hi
    have hq := invT_size xs[i] (hs _ hm)
    have e2 : (⟨#[59, 32]⟩ : ByteArray).size = 2 := rfl
    have hz2 : s.size ≤ 4194400 := by have : i * 1048600 ≤ 4 * 1048600 := Nat.mul_le_mul_right _ (by omega); omega
    refine Ev.step (fun k => by rw [spec_l4Names.l0]) ?_
    simp (disch := omega) only [cpos, Int.toNat_natCast, getD_at hi, size_app, e2, cble]
    refine Ev.bind (specInv_ev _ (hs _ hm) (hv _ hm)) ?_
    simp (disch := omega) only [cble, wrap_in]
    have ih := specNamesT_l0 xs hl hs hv m (i + 1) (by omega) (by omega) ((s ++ ⟨#[59, 32]⟩) ++ invT xs[i]) (by rw [size_app, size_app, e2, Nat.add_mul]; omega)
    refine Ev.eq ih ?_
    rw [List.drop_eq_getElem_cons hi, List.map_cons, List.map_cons, tail_cons2, L_append, L_append]
    simp only [List.append_assoc]
    rfl
theorem specNamesT_ev (xs : List Name) (hl : xs.length ≤ 4) (hs : ∀ n ∈ xs, smallN n) (hv : ∀ n ∈ xs, nameB n = true) : Ev (fun k => spec_l4Names.F k xs) (namesT xs) := by
  unfold spec_l4Names.F
  have e0 : (⟨#[]⟩ : ByteArray).size = 0 := rfl
  refine Ev.bind (a := namesT xs) ?_ (Ev.pure _)
  refine Ev.step (fun k => by rw [spec_l4Names.l0]) ?_
  cases xs with
  | nil => exact Ev.pure _
  | cons n r =>
    have hm : n ∈ n :: r := List.mem_cons_self
    have hq := invT_size n (hs _ hm)
    simp (disch := first | omega | (simp only [List.length_cons]; omega)) only [cpos, cneg, show ((0 : Int).toNat) = 0 from rfl, List.getD_cons_zero]
    refine Ev.bind (specInv_ev _ (hs _ hm) (hv _ hm)) ?_
    simp (disch := omega) only [cble, wrap_in, e0]
    have := specNamesT_l0 (n :: r) hl hs hv r.length 1 (by simp; omega) (by omega) (⟨#[]⟩ ++ invT n) (by rw [size_app, e0]; omega)
    refine Ev.eq this ?_
    unfold namesT joinT
    rw [empty_app, List.drop_one, List.tail_cons, List.map_cons, List.map_cons, Lib.join_cons]
theorem namesT_l0 (xs : List Name) (hl : xs.length ≤ 4) (hs : ∀ n ∈ xs, smallN n) : ∀ m i : Nat, i + m = xs.length → ∀ acc : List ByteArray, acc.length = i → Ev (fun k => impl_namesText.l0 k acc xs xs.length i) (acc ++ (xs.drop i).map invT)
  | 0, i, h, acc, ha => by
    rw [List.drop_eq_nil_of_le (by omega), List.map_nil, List.append_nil]
    refine Ev.step (fun k => by rw [impl_namesText.l0]) ?_
    simp (disch := omega) only [cneg]
    exact Ev.pure _
  | m + 1, i, h, acc, ha => by
    have hi : i < xs.length := by omega
    have hr : ∀ z : ByteArray, room (acc.length + ([z] : List ByteArray).length) .str = true := fun z => room_s (by simp; omega)
    refine Ev.step (fun k => by rw [impl_namesText.l0]) ?_
    simp (disch := omega) only [cpos, Int.toNat_natCast, getD_at hi]
    refine Ev.bind (implInv_ev _ (hs _ (List.getElem_mem hi))) ?_
    simp (disch := omega) only [hr, cond_true, wrap_in]
    have ih := namesT_l0 xs hl hs m (i + 1) (by omega) (acc ++ [invT xs[i]]) (by simp; omega)
    refine Ev.eq ih ?_
    rw [List.drop_eq_getElem_cons hi, List.map_cons]; simp
theorem totS_inv : ∀ xs : List Name, (∀ n ∈ xs, smallN n) → totS (xs.map invT) ≤ xs.length * 1048600
  | [], _ => by simp [totS]
  | n :: r, h => by
    have h1 := totS_inv r fun x hx => h x (List.mem_cons_of_mem _ hx)
    have h2 := invT_size n (h n List.mem_cons_self)
    simp only [totS, List.map_cons, List.sum_cons, List.length_cons] at h1 ⊢
    rw [Nat.add_mul]; omega
theorem namesT_ev (xs : List Name) (hl : xs.length ≤ 4) (hs : ∀ n ∈ xs, smallN n) : Ev (fun k => impl_namesText.F k xs) (namesT xs) := by
  unfold impl_namesText.F
  have h0 := namesT_l0 xs hl hs xs.length 0 (by omega) [] rfl
  refine Ev.bind h0 (Ev.bind0 ?_ (Ev.pure _))
  rw [List.drop_zero, List.nil_append]
  have ht := totS_inv xs hs
  have h4 : xs.length * 1048600 ≤ 4 * 1048600 := Nat.mul_le_mul_right _ hl
  exact xJoin_eq ⟨#[59, 32]⟩ (xs.map invT) (by simp; omega) (by omega) (by decide)

/-! ### Numbers -/
def numT (n : Nat) : ByteArray := ⟨(Lib.decDigits n).toArray⟩
def D10 : ByteArray := ⟨#[48, 49, 50, 51, 52, 53, 54, 55, 56, 57]⟩
theorem D10_at : ∀ i : Fin 10, L (D10.extract i.val (i.val + 1)) = [UInt8.ofNat (48 + i.val)] := by decide +kernel
theorem D10_ext {i : Nat} (h : i < 10) : D10.extract i (i + 1) = ⟨#[UInt8.ofNat (48 + i)]⟩ := by
  apply L_inj; exact (D10_at ⟨i, h⟩).trans rfl
theorem numT_size (n : Nat) : (numT n).size ≤ n + 1 := by
  induction n using Nat.strongRecOn with
  | _ n ih =>
    rw [← L_size]
    unfold numT
    rw [L_mk, Lib.decDigits]
    split
    · simp
    · rename_i h
      have := ih (n / 10) (by omega)
      rw [← L_size] at this
      unfold numT at this
      rw [L_mk] at this
      rw [List.length_append, List.length_singleton]
      omega
theorem l1Num_ev (n : Nat) (hn : n ≤ 1000000) : Ev (fun k => spec_l1Num.F k (n : Int)) (numT n) := by
  induction n using Nat.strongRecOn with
  | _ n ih =>
    have hD : (⟨#[48, 49, 50, 51, 52, 53, 54, 55, 56, 57]⟩ : ByteArray) = D10 := rfl
    have hz : D10.size = 10 := rfl
    have h10 : ((10 : Int) == 0) = false := rfl
    refine Ev.step (fun k => by rw [spec_l1Num.F]) ?_
    by_cases h : n < 10
    · have e : ((n : Int) + 1).toNat = n + 1 := by omega
      simp (disch := omega) only [cneg, cpos, wrap_in, hD, hz, e, Int.toNat_natCast, D10_ext h]
      refine (Ev.pure _).eq ?_
      unfold numT
      rw [Lib.decDigits, dif_pos h]
    · have hd : Int.tdiv (n : Int) 10 = ((n / 10 : Nat) : Int) := rfl
      have hm : Int.tmod (n : Int) 10 = ((n % 10 : Nat) : Int) := rfl
      have h9 : n % 10 < 10 := Nat.mod_lt _ (by decide)
      have e : (((n % 10 : Nat) : Int) + 1).toNat = n % 10 + 1 := by omega
      have hsz := numT_size (n / 10)
      have e1 : (⟨#[UInt8.ofNat (48 + n % 10)]⟩ : ByteArray).size = 1 := rfl
      simp (disch := omega) only [cneg, h10, cond_false, hd, hm, wrap_in]
      refine Ev.bind (ih (n / 10) (by omega) (by omega)) ?_
      simp (disch := omega) only [cpos, hD, hz, e, Int.toNat_natCast, D10_ext h9, cble, e1]
      refine (Ev.pure _).eq ?_
      apply L_inj
      rw [L_append]
      unfold numT
      rw [L_mk, L_mk, Lib.decDigits.eq_def n, dif_neg h]
      rfl
theorem itoa_ev (n : Nat) (hn : n ≤ 1000000) : strconv_Itoa.F (n : Int) = some (numT n) := by
  unfold strconv_Itoa.F xItoaN
  rw [decide_eq_true (by omega : -9223372036854775808 ≤ (n : Int)), decide_eq_true (by omega : (n : Int) ≤ 9223372036854775807)]
  simp only [Bool.and_self, cond_true, Lib.itoa, if_neg (by omega : ¬ (n : Int) < 0), Int.toNat_natCast]
  rfl
theorem pad_l0 (w : Nat) (hw : w ≤ 10) : ∀ (d : Nat) (s : ByteArray), d = w - s.size → s.size ≤ 1000001 → ∃ r, Ev (fun k => spec_l3Pad.l0 k w s) r ∧ Ev (fun k => impl_digits.l0 k w s) r ∧ r.size ≤ 1000001
  | 0, s, h, hs => by
    refine ⟨s, Ev.step (fun k => by rw [spec_l3Pad.l0]) ?_, Ev.step (fun k => by rw [impl_digits.l0]) ?_, hs⟩ <;>
      (simp (disch := omega) only [cneg]; exact Ev.pure _)
  | d + 1, s, h, hs => by
    have e1 : (⟨#[48]⟩ : ByteArray).size = 1 := rfl
    obtain ⟨r, r1, r2, r3⟩ := pad_l0 w hw d (⟨#[48]⟩ ++ s) (by rw [size_app, e1]; omega) (by rw [size_app, e1]; omega)
    refine ⟨r, Ev.step (fun k => by rw [spec_l3Pad.l0]) ?_, Ev.step (fun k => by rw [impl_digits.l0]) ?_, r3⟩
    · simp (disch := omega) only [cpos, e1, cble]; exact r1
    · simp (disch := omega) only [cpos, e1, cble]; exact r2
theorem pad_ev (n w : Nat) (hn : n ≤ 1000000) (hw : w ≤ 10) : ∃ r, Ev (fun k => spec_l3Pad.F k n w) r ∧ Ev (fun k => impl_digits.F k n w) r ∧ r.size ≤ 1000001 := by
  obtain ⟨r, r1, r2, r3⟩ := pad_l0 w hw _ (numT n) rfl (by have := numT_size n; omega)
  refine ⟨r, ?_, ?_, r3⟩
  · unfold spec_l3Pad.F; exact Ev.bind (l1Num_ev n hn) (Ev.bind r1 (Ev.pure _))
  · unfold impl_digits.F; exact Ev.bind0 (itoa_ev n hn) (Ev.bind r2 (Ev.pure _))

/-! ### Dates -/
def ole (f : Option Int) : Prop := ∀ r, f = some r → r ≤ 100
theorem ole_cond {b : Bool} {x y : Option Int} (hx : ole x) (hy : ole y) : ole (cond b x y) := by cases b <;> assumption
theorem ole_none : ole none := fun r h => by cases h
theorem ole_some {n : Int} (h : n ≤ 100) : ole (some n) := fun r e => by cases e; exact h
theorem days_le {y m r : Int} (h : impl_daysInMonth.F y m = some r) : r ≤ 100 := by
  refine (?_ : ole (impl_daysInMonth.F y m)) r h
  unfold impl_daysInMonth.F
  repeat first | exact ole_none | exact ole_some (by decide) | apply ole_cond
theorem dateB_rng {d : Date} (h : dateB d = true) : 0 ≤ d.y ∧ d.y ≤ 2999 ∧ (d.y ≠ 0 → 0 ≤ d.m ∧ d.m ≤ 12 ∧ 0 ≤ d.d ∧ d.d ≤ 100) := by
  have h1 := isDate_ev d
  rw [h] at h1
  unfold impl_IsValidDate.F at h1
  cases hz : (d.y == 0 && (d.m == 0 && (d.d == 0 && d.c == false))) with
  | true =>
    simp only [Bool.and_eq_true, beq_iff_eq] at hz
    exact ⟨by omega, by omega, fun hn => absurd hz.1 hn⟩
  | false =>
    rw [hz] at h1
    simp only [cond_false, inside_ev, Option.bind_some] at h1
    cases hy : (decide (d.y ≥ 1) && decide (d.y ≤ 2999)) with
    | false => rw [hy] at h1; cases h1
    | true =>
      rw [hy] at h1
      cases hm : (decide (d.m ≥ 0) && decide (d.m ≤ 12)) with
      | false => rw [hm] at h1; cases h1
      | true =>
        rw [hm] at h1
        simp only [Bool.and_eq_true, decide_eq_true_eq] at hy hm
        obtain ⟨r, r1, r2⟩ := days_eq d.y d.m (by omega)
        have hr : r ≤ 100 := days_le r2
        rw [r2] at h1
        simp only [Bool.not_true, cond_false, Option.bind_some, inside_ev] at h1
        refine ⟨by omega, by omega, fun _ => ⟨by omega, by omega, ?_⟩⟩
        cases hc : d.c <;> rw [hc] at h1 <;> simp only [cond_true, cond_false] at h1 <;> cases h2 : (d.m == 0) <;> (have h3 : (d.m != 0) = !(d.m == 0) := rfl) <;> simp only [h3, h2, Bool.not_true, Bool.not_false, cond_true, cond_false, Option.some.injEq, beq_iff_eq, Bool.and_eq_true, decide_eq_true_eq] at h1 <;> first | omega | (cases h1; done)
def dateX (c m d : Bool) (ry rm rd : ByteArray) : ByteArray :=
  let r2 := bif m then (ry ++ ⟨#[45]⟩) ++ rm else ry
  let r3 := bif d then (r2 ++ ⟨#[45]⟩) ++ rd else r2
  bif c then ⟨#[99]⟩ ++ r3 else r3
theorem dateT_ev (d : Date) (h : dateB d = true) (hy : d.y ≠ 0) : ∃ r, Ev (fun k => spec_l3Text.F k d) r ∧ Ev (fun k => impl_formatDate.F k d) r := by
  obtain ⟨h1, h2, h3⟩ := dateB_rng h
  obtain ⟨h4, h5, h6, h7⟩ := h3 hy
  obtain ⟨ry, y1, y2, y3⟩ := pad_ev d.y.toNat 4 (by omega) (by omega)
  obtain ⟨rm, m1, m2, m3⟩ := pad_ev d.m.toNat 2 (by omega) (by omega)
  obtain ⟨rd, d1, d2, d3⟩ := pad_ev d.d.toNat 2 (by omega) (by omega)
  rw [Int.toNat_of_nonneg h1] at y1 y2
  replace y1 : Ev (fun k => spec_l3Pad.F k d.y 4) ry := y1
  replace y2 : Ev (fun k => impl_digits.F k d.y 4) ry := y2
  rw [Int.toNat_of_nonneg h4] at m1 m2
  replace m1 : Ev (fun k => spec_l3Pad.F k d.m 2) rm := m1
  replace m2 : Ev (fun k => impl_digits.F k d.m 2) rm := m2
  rw [Int.toNat_of_nonneg h6] at d1 d2
  replace d1 : Ev (fun k => spec_l3Pad.F k d.d 2) rd := d1
  replace d2 : Ev (fun k => impl_digits.F k d.d 2) rd := d2
  have e45 : (⟨#[45]⟩ : ByteArray).size = 1 := rfl
  have e99 : (⟨#[99]⟩ : ByteArray).size = 1 := rfl
  unfold spec_l3Text.F impl_formatDate.F
  simp (disch := omega) only [cne]
  refine ⟨dateX d.c (decide (d.m > 0)) (decide (d.d > 0)) ry rm rd, ?_, ?_⟩
  all_goals
    unfold dateX
    dsimp only
    by_cases hm : d.m > 0 <;> by_cases hd : d.d > 0 <;> cases d.c
    all_goals
      simp (disch := omega) only [cpos, cneg, cond_true, cond_false]
      repeat (first | exact (Ev.pure _).eq (by apply L_inj; simp only [L_append, List.append_assoc]) | refine Ev.bind y1 ?_ | refine Ev.bind m1 ?_ | refine Ev.bind d1 ?_ | refine Ev.bind y2 ?_ | refine Ev.bind m2 ?_ | refine Ev.bind d2 ?_ | simp (disch := omega) only [size_app, e45, e99, cble])

/-! ### Fields -/
theorem fw_0_1 : beqS (⟨#[97, 117, 116, 104, 111, 114, 115]⟩ : ByteArray) (⟨#[101, 100, 105, 116, 111, 114, 115]⟩ : ByteArray) = false := by rw [beqS_eq]; decide
theorem fw_0_2 : beqS (⟨#[97, 117, 116, 104, 111, 114, 115]⟩ : ByteArray) (⟨#[116, 105, 116, 108, 101]⟩ : ByteArray) = false := by rw [beqS_eq]; decide
theorem fw_0_3 : beqS (⟨#[97, 117, 116, 104, 111, 114, 115]⟩ : ByteArray) (⟨#[99, 111, 110, 116, 97, 105, 110, 101, 114]⟩ : ByteArray) = false := by rw [beqS_eq]; decide
theorem fw_0_4 : beqS (⟨#[97, 117, 116, 104, 111, 114, 115]⟩ : ByteArray) (⟨#[112, 117, 98, 108, 105, 115, 104, 101, 114]⟩ : ByteArray) = false := by rw [beqS_eq]; decide
theorem fw_0_5 : beqS (⟨#[97, 117, 116, 104, 111, 114, 115]⟩ : ByteArray) (⟨#[100, 97, 116, 101]⟩ : ByteArray) = false := by rw [beqS_eq]; decide
theorem fw_0_6 : beqS (⟨#[97, 117, 116, 104, 111, 114, 115]⟩ : ByteArray) (⟨#[118, 111, 108, 117, 109, 101]⟩ : ByteArray) = false := by rw [beqS_eq]; decide
theorem fw_0_7 : beqS (⟨#[97, 117, 116, 104, 111, 114, 115]⟩ : ByteArray) (⟨#[112, 97, 103, 101, 115]⟩ : ByteArray) = false := by rw [beqS_eq]; decide
theorem fw_1_0 : beqS (⟨#[101, 100, 105, 116, 111, 114, 115]⟩ : ByteArray) (⟨#[97, 117, 116, 104, 111, 114, 115]⟩ : ByteArray) = false := by rw [beqS_eq]; decide
theorem fw_1_2 : beqS (⟨#[101, 100, 105, 116, 111, 114, 115]⟩ : ByteArray) (⟨#[116, 105, 116, 108, 101]⟩ : ByteArray) = false := by rw [beqS_eq]; decide
theorem fw_1_3 : beqS (⟨#[101, 100, 105, 116, 111, 114, 115]⟩ : ByteArray) (⟨#[99, 111, 110, 116, 97, 105, 110, 101, 114]⟩ : ByteArray) = false := by rw [beqS_eq]; decide
theorem fw_1_4 : beqS (⟨#[101, 100, 105, 116, 111, 114, 115]⟩ : ByteArray) (⟨#[112, 117, 98, 108, 105, 115, 104, 101, 114]⟩ : ByteArray) = false := by rw [beqS_eq]; decide
theorem fw_1_5 : beqS (⟨#[101, 100, 105, 116, 111, 114, 115]⟩ : ByteArray) (⟨#[100, 97, 116, 101]⟩ : ByteArray) = false := by rw [beqS_eq]; decide
theorem fw_1_6 : beqS (⟨#[101, 100, 105, 116, 111, 114, 115]⟩ : ByteArray) (⟨#[118, 111, 108, 117, 109, 101]⟩ : ByteArray) = false := by rw [beqS_eq]; decide
theorem fw_1_7 : beqS (⟨#[101, 100, 105, 116, 111, 114, 115]⟩ : ByteArray) (⟨#[112, 97, 103, 101, 115]⟩ : ByteArray) = false := by rw [beqS_eq]; decide
theorem fw_2_0 : beqS (⟨#[116, 105, 116, 108, 101]⟩ : ByteArray) (⟨#[97, 117, 116, 104, 111, 114, 115]⟩ : ByteArray) = false := by rw [beqS_eq]; decide
theorem fw_2_1 : beqS (⟨#[116, 105, 116, 108, 101]⟩ : ByteArray) (⟨#[101, 100, 105, 116, 111, 114, 115]⟩ : ByteArray) = false := by rw [beqS_eq]; decide
theorem fw_2_3 : beqS (⟨#[116, 105, 116, 108, 101]⟩ : ByteArray) (⟨#[99, 111, 110, 116, 97, 105, 110, 101, 114]⟩ : ByteArray) = false := by rw [beqS_eq]; decide
theorem fw_2_4 : beqS (⟨#[116, 105, 116, 108, 101]⟩ : ByteArray) (⟨#[112, 117, 98, 108, 105, 115, 104, 101, 114]⟩ : ByteArray) = false := by rw [beqS_eq]; decide
theorem fw_2_5 : beqS (⟨#[116, 105, 116, 108, 101]⟩ : ByteArray) (⟨#[100, 97, 116, 101]⟩ : ByteArray) = false := by rw [beqS_eq]; decide
theorem fw_2_6 : beqS (⟨#[116, 105, 116, 108, 101]⟩ : ByteArray) (⟨#[118, 111, 108, 117, 109, 101]⟩ : ByteArray) = false := by rw [beqS_eq]; decide
theorem fw_2_7 : beqS (⟨#[116, 105, 116, 108, 101]⟩ : ByteArray) (⟨#[112, 97, 103, 101, 115]⟩ : ByteArray) = false := by rw [beqS_eq]; decide
theorem fw_3_0 : beqS (⟨#[99, 111, 110, 116, 97, 105, 110, 101, 114]⟩ : ByteArray) (⟨#[97, 117, 116, 104, 111, 114, 115]⟩ : ByteArray) = false := by rw [beqS_eq]; decide
theorem fw_3_1 : beqS (⟨#[99, 111, 110, 116, 97, 105, 110, 101, 114]⟩ : ByteArray) (⟨#[101, 100, 105, 116, 111, 114, 115]⟩ : ByteArray) = false := by rw [beqS_eq]; decide
theorem fw_3_2 : beqS (⟨#[99, 111, 110, 116, 97, 105, 110, 101, 114]⟩ : ByteArray) (⟨#[116, 105, 116, 108, 101]⟩ : ByteArray) = false := by rw [beqS_eq]; decide
theorem fw_3_4 : beqS (⟨#[99, 111, 110, 116, 97, 105, 110, 101, 114]⟩ : ByteArray) (⟨#[112, 117, 98, 108, 105, 115, 104, 101, 114]⟩ : ByteArray) = false := by rw [beqS_eq]; decide
theorem fw_3_5 : beqS (⟨#[99, 111, 110, 116, 97, 105, 110, 101, 114]⟩ : ByteArray) (⟨#[100, 97, 116, 101]⟩ : ByteArray) = false := by rw [beqS_eq]; decide
theorem fw_3_6 : beqS (⟨#[99, 111, 110, 116, 97, 105, 110, 101, 114]⟩ : ByteArray) (⟨#[118, 111, 108, 117, 109, 101]⟩ : ByteArray) = false := by rw [beqS_eq]; decide
theorem fw_3_7 : beqS (⟨#[99, 111, 110, 116, 97, 105, 110, 101, 114]⟩ : ByteArray) (⟨#[112, 97, 103, 101, 115]⟩ : ByteArray) = false := by rw [beqS_eq]; decide
theorem fw_4_0 : beqS (⟨#[112, 117, 98, 108, 105, 115, 104, 101, 114]⟩ : ByteArray) (⟨#[97, 117, 116, 104, 111, 114, 115]⟩ : ByteArray) = false := by rw [beqS_eq]; decide
theorem fw_4_1 : beqS (⟨#[112, 117, 98, 108, 105, 115, 104, 101, 114]⟩ : ByteArray) (⟨#[101, 100, 105, 116, 111, 114, 115]⟩ : ByteArray) = false := by rw [beqS_eq]; decide
theorem fw_4_2 : beqS (⟨#[112, 117, 98, 108, 105, 115, 104, 101, 114]⟩ : ByteArray) (⟨#[116, 105, 116, 108, 101]⟩ : ByteArray) = false := by rw [beqS_eq]; decide
theorem fw_4_3 : beqS (⟨#[112, 117, 98, 108, 105, 115, 104, 101, 114]⟩ : ByteArray) (⟨#[99, 111, 110, 116, 97, 105, 110, 101, 114]⟩ : ByteArray) = false := by rw [beqS_eq]; decide
theorem fw_4_5 : beqS (⟨#[112, 117, 98, 108, 105, 115, 104, 101, 114]⟩ : ByteArray) (⟨#[100, 97, 116, 101]⟩ : ByteArray) = false := by rw [beqS_eq]; decide
theorem fw_4_6 : beqS (⟨#[112, 117, 98, 108, 105, 115, 104, 101, 114]⟩ : ByteArray) (⟨#[118, 111, 108, 117, 109, 101]⟩ : ByteArray) = false := by rw [beqS_eq]; decide
theorem fw_4_7 : beqS (⟨#[112, 117, 98, 108, 105, 115, 104, 101, 114]⟩ : ByteArray) (⟨#[112, 97, 103, 101, 115]⟩ : ByteArray) = false := by rw [beqS_eq]; decide
theorem fw_5_0 : beqS (⟨#[100, 97, 116, 101]⟩ : ByteArray) (⟨#[97, 117, 116, 104, 111, 114, 115]⟩ : ByteArray) = false := by rw [beqS_eq]; decide
theorem fw_5_1 : beqS (⟨#[100, 97, 116, 101]⟩ : ByteArray) (⟨#[101, 100, 105, 116, 111, 114, 115]⟩ : ByteArray) = false := by rw [beqS_eq]; decide
theorem fw_5_2 : beqS (⟨#[100, 97, 116, 101]⟩ : ByteArray) (⟨#[116, 105, 116, 108, 101]⟩ : ByteArray) = false := by rw [beqS_eq]; decide
theorem fw_5_3 : beqS (⟨#[100, 97, 116, 101]⟩ : ByteArray) (⟨#[99, 111, 110, 116, 97, 105, 110, 101, 114]⟩ : ByteArray) = false := by rw [beqS_eq]; decide
theorem fw_5_4 : beqS (⟨#[100, 97, 116, 101]⟩ : ByteArray) (⟨#[112, 117, 98, 108, 105, 115, 104, 101, 114]⟩ : ByteArray) = false := by rw [beqS_eq]; decide
theorem fw_5_6 : beqS (⟨#[100, 97, 116, 101]⟩ : ByteArray) (⟨#[118, 111, 108, 117, 109, 101]⟩ : ByteArray) = false := by rw [beqS_eq]; decide
theorem fw_5_7 : beqS (⟨#[100, 97, 116, 101]⟩ : ByteArray) (⟨#[112, 97, 103, 101, 115]⟩ : ByteArray) = false := by rw [beqS_eq]; decide
theorem fw_6_0 : beqS (⟨#[118, 111, 108, 117, 109, 101]⟩ : ByteArray) (⟨#[97, 117, 116, 104, 111, 114, 115]⟩ : ByteArray) = false := by rw [beqS_eq]; decide
theorem fw_6_1 : beqS (⟨#[118, 111, 108, 117, 109, 101]⟩ : ByteArray) (⟨#[101, 100, 105, 116, 111, 114, 115]⟩ : ByteArray) = false := by rw [beqS_eq]; decide
theorem fw_6_2 : beqS (⟨#[118, 111, 108, 117, 109, 101]⟩ : ByteArray) (⟨#[116, 105, 116, 108, 101]⟩ : ByteArray) = false := by rw [beqS_eq]; decide
theorem fw_6_3 : beqS (⟨#[118, 111, 108, 117, 109, 101]⟩ : ByteArray) (⟨#[99, 111, 110, 116, 97, 105, 110, 101, 114]⟩ : ByteArray) = false := by rw [beqS_eq]; decide
theorem fw_6_4 : beqS (⟨#[118, 111, 108, 117, 109, 101]⟩ : ByteArray) (⟨#[112, 117, 98, 108, 105, 115, 104, 101, 114]⟩ : ByteArray) = false := by rw [beqS_eq]; decide
theorem fw_6_5 : beqS (⟨#[118, 111, 108, 117, 109, 101]⟩ : ByteArray) (⟨#[100, 97, 116, 101]⟩ : ByteArray) = false := by rw [beqS_eq]; decide
theorem fw_6_7 : beqS (⟨#[118, 111, 108, 117, 109, 101]⟩ : ByteArray) (⟨#[112, 97, 103, 101, 115]⟩ : ByteArray) = false := by rw [beqS_eq]; decide
theorem fw_7_0 : beqS (⟨#[112, 97, 103, 101, 115]⟩ : ByteArray) (⟨#[97, 117, 116, 104, 111, 114, 115]⟩ : ByteArray) = false := by rw [beqS_eq]; decide
theorem fw_7_1 : beqS (⟨#[112, 97, 103, 101, 115]⟩ : ByteArray) (⟨#[101, 100, 105, 116, 111, 114, 115]⟩ : ByteArray) = false := by rw [beqS_eq]; decide
theorem fw_7_2 : beqS (⟨#[112, 97, 103, 101, 115]⟩ : ByteArray) (⟨#[116, 105, 116, 108, 101]⟩ : ByteArray) = false := by rw [beqS_eq]; decide
theorem fw_7_3 : beqS (⟨#[112, 97, 103, 101, 115]⟩ : ByteArray) (⟨#[99, 111, 110, 116, 97, 105, 110, 101, 114]⟩ : ByteArray) = false := by rw [beqS_eq]; decide
theorem fw_7_4 : beqS (⟨#[112, 97, 103, 101, 115]⟩ : ByteArray) (⟨#[112, 117, 98, 108, 105, 115, 104, 101, 114]⟩ : ByteArray) = false := by rw [beqS_eq]; decide
theorem fw_7_5 : beqS (⟨#[112, 97, 103, 101, 115]⟩ : ByteArray) (⟨#[100, 97, 116, 101]⟩ : ByteArray) = false := by rw [beqS_eq]; decide
theorem fw_7_6 : beqS (⟨#[112, 97, 103, 101, 115]⟩ : ByteArray) (⟨#[118, 111, 108, 117, 109, 101]⟩ : ByteArray) = false := by rw [beqS_eq]; decide

theorem parts_of {e : Entry} (h : entryB e = true) : namesB e.authors = true ∧ namesB e.editors = true ∧ dateB e.date = true ∧ 0 ≤ e.volume ∧ e.volume ≤ 9999 := by
  unfold entryB insI at h
  simp only [Bool.and_eq_true, decide_eq_true_eq] at h
  exact ⟨h.2.2.1, h.2.2.2.1, h.2.2.2.2.2.2.2.2.1, h.2.2.2.2.2.2.2.2.2.1.1, h.2.2.2.2.2.2.2.2.2.1.2⟩
theorem names_of {l : List Name} (h : namesB l = true) : l.length ≤ 4 ∧ ∀ n ∈ l, nameB n = true := by
  unfold namesB at h
  simp only [Bool.and_eq_true, decide_eq_true_eq] at h
  exact ⟨h.2, fun n hn => List.all_eq_true.1 h.1 n hn⟩
def fw8 : List ByteArray := [⟨#[97, 117, 116, 104, 111, 114, 115]⟩, ⟨#[101, 100, 105, 116, 111, 114, 115]⟩, ⟨#[116, 105, 116, 108, 101]⟩, ⟨#[99, 111, 110, 116, 97, 105, 110, 101, 114]⟩, ⟨#[112, 117, 98, 108, 105, 115, 104, 101, 114]⟩, ⟨#[100, 97, 116, 101]⟩, ⟨#[118, 111, 108, 117, 109, 101]⟩, ⟨#[112, 97, 103, 101, 115]⟩]
/-- What the fields' texts ask for. -/
def okF (e : Entry) : Prop := namesB e.authors = true ∧ namesB e.editors = true ∧ dateB e.date = true ∧ 0 ≤ e.volume ∧ e.volume ≤ 9999 ∧ totNs e.authors ≤ 1048576 ∧ totNs e.editors ≤ 1048576
theorem okF_of {e : Entry} (hs : smallE e) (hv : entryB e = true) : okF e := by
  obtain ⟨ha, he, hd, v0, v1⟩ := parts_of hv
  exact ⟨ha, he, hd, v0, v1, smallE_a hs, smallE_e hs⟩
theorem field_ev (e : Entry) (hk : okF e) (f : ByteArray) (hf : f ∈ fw8) : ∃ t b, Ev (fun k => spec_l4Field.F k e f) (t, b) ∧ Ev (fun k => impl_fieldText.F k e f) t := by
  obtain ⟨ha, he, hd, v0, v1, ta, te⟩ := hk
  obtain ⟨a1, a2⟩ := names_of ha
  obtain ⟨e1, e2⟩ := names_of he
  have sa : ∀ n ∈ e.authors, smallN n := fun n hn => smallNs_at ta hn
  have se : ∀ n ∈ e.editors, smallN n := fun n hn => smallNs_at te hn
  unfold fw8 at hf
  simp only [List.mem_cons, List.not_mem_nil, or_false] at hf
  unfold spec_l4Field.F impl_fieldText.F
  rcases hf with rfl | rfl | rfl | rfl | rfl | rfl | rfl | rfl
  all_goals simp only [fw_0_1, fw_0_2, fw_0_3, fw_0_4, fw_0_5, fw_0_6, fw_0_7, fw_1_0, fw_1_2, fw_1_3, fw_1_4, fw_1_5, fw_1_6, fw_1_7, fw_2_0, fw_2_1, fw_2_3, fw_2_4, fw_2_5, fw_2_6, fw_2_7, fw_3_0, fw_3_1, fw_3_2, fw_3_4, fw_3_5, fw_3_6, fw_3_7, fw_4_0, fw_4_1, fw_4_2, fw_4_3, fw_4_5, fw_4_6, fw_4_7, fw_5_0, fw_5_1, fw_5_2, fw_5_3, fw_5_4, fw_5_6, fw_5_7, fw_6_0, fw_6_1, fw_6_2, fw_6_3, fw_6_4, fw_6_5, fw_6_7, fw_7_0, fw_7_1, fw_7_2, fw_7_3, fw_7_4, fw_7_5, fw_7_6, beqS_self, cond_true, cond_false]
  · exact ⟨_, _, Ev.bind (specNamesT_ev _ a1 sa a2) (Ev.pure _), Ev.bind (namesT_ev _ a1 sa) (Ev.pure _)⟩
  · exact ⟨_, _, Ev.bind (specNamesT_ev _ e1 se e2) (Ev.pure _), Ev.bind (namesT_ev _ e1 se) (Ev.pure _)⟩
  · exact ⟨_, _, Ev.pure _, Ev.pure _⟩
  · exact ⟨_, _, Ev.pure _, Ev.pure _⟩
  · exact ⟨_, _, Ev.pure _, Ev.pure _⟩
  · obtain ⟨y0, _, _⟩ := dateB_rng hd
    by_cases hy : e.date.y = 0
    · simp (disch := omega) only [ceq, cneg]
      exact ⟨_, _, Ev.pure _, Ev.pure _⟩
    · obtain ⟨r, r1, r2⟩ := dateT_ev e.date hd hy
      simp (disch := omega) only [cne, cpos]
      exact ⟨_, _, Ev.bind r1 (Ev.pure _), Ev.bind r2 (Ev.pure _)⟩
  · by_cases hy : e.volume = 0
    · simp (disch := omega) only [ceq, cneg]
      exact ⟨_, _, Ev.pure _, Ev.pure _⟩
    · have n1 := l1Num_ev e.volume.toNat (by omega)
      have n2 := itoa_ev e.volume.toNat (by omega)
      rw [Int.toNat_of_nonneg v0] at n1 n2
      simp (disch := omega) only [cne, cpos, n2, Option.bind_some]
      exact ⟨_, _, Ev.bind n1 (Ev.pure _), Ev.pure _⟩
  · exact ⟨_, _, Ev.pure _, Ev.pure _⟩
end Go.Proofs.YtgihehbpbjejlaaGreatDoor
end
section
/- Entries with what they inherit: both ways answer alike. -/
namespace Go.Proofs.YtgihehbpbjejlaaGreatDoor
open Go.Gx
set_option linter.unusedVariables false
set_option linter.unusedSimpArgs false

theorem room_20 {n : Nat} (h : n ≤ 2097152) : room n .str = true := by
  show Nat.ble (n * 16) 140737488355328 = true
  exact Nat.ble_eq_true_of_le (by omega)
theorem room_n20 {n : Nat} (h : n ≤ 2097152) : room n .name = true := by
  show Nat.ble (n * 72) 140737488355328 = true
  exact Nat.ble_eq_true_of_le (by omega)
theorem own_l0 (xs : List Name) (ht : totNs xs ≤ 1048576) : ∀ n i : Nat, i + n = xs.length → Ev (fun k => spec_l2Own.l0 k xs (xs.take i) i) xs ∧ Ev (fun k => impl_newNames.l0 k (xs.take i) xs xs.length i) xs
  | 0, i, h => by
    have hl := smallNs_len ht
    refine ⟨Ev.step (fun k => by rw [spec_l2Own.l0]) ?_, Ev.step (fun k => by rw [impl_newNames.l0]) ?_⟩ <;>
      (simp (disch := omega) only [cneg]; exact (Ev.pure _).eq (List.take_of_length_le (by omega)))
  | n + 1, i, h => by
    have hl := smallNs_len ht
    have hi : i < xs.length := by omega
    have hg : xs[i].given.length ≤ 1048576 := by
      have := smallNs_at ht (List.getElem_mem hi)
      unfold smallN totN at this; omega
    have r1 : room (([] : List ByteArray).length + xs[i].given.length) .str = true := room_20 (by simp; omega)
    have r2 : ∀ z : Name, room ((xs.take i).length + ([z] : List Name).length) .name = true := fun z => room_n20 (by simp; omega)
    obtain ⟨h1, h2⟩ := own_l0 xs ht n (i + 1) (by omega)
    have e : xs.take i ++ [(⟨[] ++ xs[i].given, xs[i].particle, xs[i].family, xs[i].suffix⟩ : Name)] = xs.take (i + 1) := by
      rw [List.take_succ_eq_append_getElem hi]; rfl
    refine ⟨Ev.step (fun k => by rw [spec_l2Own.l0]) ?_, Ev.step (fun k => by rw [impl_newNames.l0]) ?_⟩
    · simp (disch := omega) only [cpos, Int.toNat_natCast, getD_at hi, r1, r2, cond_true, wrap_in, e]; exact h1
    · simp (disch := omega) only [cpos, Int.toNat_natCast, getD_at hi, r1, r2, cond_true, wrap_in, e]; exact h2
theorem own_ev (xs : List Name) (ht : totNs xs ≤ 1048576) : Ev (fun k => spec_l2Own.F k xs) xs := by
  unfold spec_l2Own.F; exact Ev.bind (own_l0 xs ht xs.length 0 (by omega)).1 (Ev.pure _)
theorem newNames_ev (xs : List Name) (ht : totNs xs ≤ 1048576) : Ev (fun k => impl_newNames.F k xs) xs := by
  unfold impl_newNames.F; exact Ev.bind (own_l0 xs ht xs.length 0 (by omega)).2 (Ev.pure _)
theorem copy_ev (e : Entry) (h : okF e) : Ev (fun k => spec_l4Copy.F k e) e := by
  unfold spec_l4Copy.F; exact Ev.bind (own_ev _ h.2.2.2.2.2.1) (Ev.bind (own_ev _ h.2.2.2.2.2.2) (Ev.pure _))
theorem newEntry_ev (e : Entry) (h : okF e) : Ev (fun k => impl_newEntry.F k e) e := by
  unfold impl_newEntry.F; exact Ev.bind (newNames_ev _ h.2.2.2.2.2.1) (Ev.bind (newNames_ev _ h.2.2.2.2.2.2) (Ev.pure _))
def orT (a b : ByteArray) : ByteArray := bif beqS a ⟨#[]⟩ then b else a
def inhV (e p : Entry) : Entry := ⟨e.key, e.kind, e.authors,
  bif e.kind == 3 then (bif (e.editors.length : Int) == 0 then (bif (p.editors.length : Int) == 0 then p.authors else p.editors) else e.editors) else e.editors,
  e.title, bif e.kind == 3 then orT e.container p.title else (bif e.kind == 2 then orT e.container p.title else orT e.container p.container),
  orT e.publisher p.publisher, bif e.date.y == 0 then p.date else e.date, bif e.volume == 0 then p.volume else e.volume, e.pages, e.cross⟩
theorem firstS (a b : ByteArray) : spec_l20First.F a b = some (orT a b) := by unfold spec_l20First.F orT; cases beqS a ⟨#[]⟩ <;> rfl
theorem orTextS (a b : ByteArray) : impl_orText.F a b = some (orT a b) := by unfold impl_orText.F orT; cases beqS a ⟨#[]⟩ <;> rfl
theorem specInh_ev (e p : Entry) (he : okF e) (hp : okF p) : Ev (fun k => spec_l21Inherit.F k e p) (inhV e p) := by
  unfold spec_l21Inherit.F inhV
  have oe := own_ev _ hp.2.2.2.2.2.2
  have oa := own_ev _ hp.2.2.2.2.2.1
  refine Ev.bind (copy_ev e he) ?_
  simp only [firstS, Option.bind_some]
  cases (e.date.y == 0) <;> cases (e.volume == 0) <;> cases (e.kind == 3) <;> cases (e.kind == 2) <;> cases ((e.editors.length : Int) == 0) <;> cases ((p.editors.length : Int) == 0) <;> simp only [cond_true, cond_false] <;>
    first | exact Ev.pure _ | exact Ev.bind oe (Ev.pure _) | exact Ev.bind oe (Ev.bind oa (Ev.pure _))
theorem orNames_ev (a b : List Name) (ha : totNs a ≤ 1048576) (hb : totNs b ≤ 1048576) : Ev (fun k => impl_orNames.F k a b) (bif (a.length : Int) == 0 then b else a) := by
  unfold impl_orNames.F
  cases ((a.length : Int) == 0)
  · exact Ev.bind (newNames_ev _ ha) (Ev.pure _)
  · exact Ev.bind (newNames_ev _ hb) (Ev.pure _)
theorem implInh_ev (e p : Entry) (he : okF e) (hp : okF p) : Ev (fun k => impl_inherit.F k e p) (inhV e p) := by
  unfold impl_inherit.F inhV
  have o1 := orNames_ev p.editors p.authors hp.2.2.2.2.2.2 hp.2.2.2.2.2.1
  have hd : impl_orDate.F e.date p.date = some (bif e.date.y == 0 then p.date else e.date) := by unfold impl_orDate.F; cases (e.date.y == 0) <;> rfl
  have hv : impl_orVolume.F e.volume p.volume = some (bif e.volume == 0 then p.volume else e.volume) := by unfold impl_orVolume.F; cases (e.volume == 0) <;> rfl
  simp only [orTextS, hd, hv, Option.bind_some]
  have hq : totNs (bif (p.editors.length : Int) == 0 then p.authors else p.editors) ≤ 1048576 := by
    cases ((p.editors.length : Int) == 0)
    · exact hp.2.2.2.2.2.2
    · exact hp.2.2.2.2.2.1
  have o2 := orNames_ev e.editors _ he.2.2.2.2.2.2 hq
  cases (e.kind == 3) with
  | true => exact Ev.bind o1 (Ev.bind o2 (Ev.pure _))
  | false => cases (e.kind == 2) <;> exact Ev.pure _
theorem inh_ok (e p : Entry) (he : okF e) (hp : okF p) : okF (inhV e p) := by
  obtain ⟨a1, a2, a3, a4, a5, a6, a7⟩ := he
  obtain ⟨b1, b2, b3, b4, b5, b6, b7⟩ := hp
  unfold okF inhV
  dsimp only
  cases (e.date.y == 0) <;> cases (e.volume == 0) <;> cases (e.kind == 3) <;> cases ((e.editors.length : Int) == 0) <;> cases ((p.editors.length : Int) == 0) <;> simp only [cond_true, cond_false] <;> refine ⟨?_, ?_, ?_, ?_, ?_, ?_, ?_⟩ <;> assumption
theorem lib_ok {l : Library} (hs : smallL l) (h : libB l = true) {i : Nat} (hi : i < l.entries.length) : okF l.entries[i] := by
  refine okF_of (smallL_at hs (List.getElem_mem hi)) ?_
  unfold libB at h
  simp only [Bool.and_eq_true, List.all_eq_true] at h
  have := h.1 i (by rw [List.mem_range'_1]; omega)
  unfold okL at this
  simp only [Bool.and_eq_true, getD_at hi] at this
  exact this.1
theorem res_l (l : Library) (hs : smallL l) (hB : libB l = true) (x4 : Entry) (c : List Int) (hc : ∀ x ∈ c, 0 ≤ x ∧ x < l.entries.length) (hcl : c.length ≤ 8) : ∀ n : Nat, n ≤ c.length → ∀ out : Entry, okF out →
    ∃ r, okF r ∧ Ev (fun k => spec_l21Resolve.l0 k l x4 c out ((n : Int) - 1)) (x4, r) ∧ Ev (fun k => impl_resolveEntry.l0 k l x4 c out ((n : Int) - 1)) (x4, r)
  | 0, h, out, ho => by
    refine ⟨out, ho, Ev.step (fun k => by rw [spec_l21Resolve.l0]) ?_, Ev.step (fun k => by rw [impl_resolveEntry.l0]) ?_⟩ <;>
      (simp (disch := omega) only [cneg]; exact Ev.pure _)
  | n + 1, h, out, ho => by
    have hn : n < c.length := by omega
    obtain ⟨x0, x1⟩ := hc _ (List.getElem_mem hn)
    have hx : c[n].toNat < l.entries.length := by omega
    have hk := lib_ok hs hB hx
    obtain ⟨r, r1, r2, r3⟩ := res_l l hs hB x4 c hc hcl n (by omega) (inhV l.entries[c[n].toNat] out) (inh_ok _ _ hk ho)
    rw [show ((n + 1 : Nat) : Int) - 1 = (n : Int) by omega]
    refine ⟨r, r1, Ev.step (fun k => by rw [spec_l21Resolve.l0]) ?_, Ev.step (fun k => by rw [impl_resolveEntry.l0]) ?_⟩
    · simp (disch := omega) only [cpos, Int.toNat_natCast, getD_at hn, getD_at hx, wrap_in]
      exact Ev.bind (specInh_ev _ _ hk ho) r2
    · simp (disch := omega) only [cpos, Int.toNat_natCast, getD_at hn, getD_at hx, wrap_in]
      exact Ev.bind (newEntry_ev _ hk) (Ev.bind (implInh_ev _ _ hk ho) r3)
theorem resolve_ev (l : Library) (hs : smallL l) (hB : libB l = true) (hl : l.entries.length ≤ 8) (i : Int) (h0 : 0 ≤ i) (h1 : i < l.entries.length) :
    ∃ r b, Ev (fun k => spec_l21Resolve.F k l i) (r, b) ∧ Ev (fun k => impl_resolveEntry.F k l i) (r, b) ∧ (b = true → okF r) := by
  obtain ⟨c, b, c1, c2, c3, c4, c5, c6⟩ := chain_ev1 l hl i h0 h1
  unfold spec_l21Resolve.F impl_resolveEntry.F
  cases b with
  | true => exact ⟨_, false, Ev.bind c1 (Ev.pure _), Ev.bind c2 (Ev.pure _), fun h => by cases h⟩
  | false =>
    have hn : c.length - 1 < c.length := by omega
    obtain ⟨x0, x1⟩ := c4 _ (List.getElem_mem hn)
    have hx : c[c.length - 1].toNat < l.entries.length := by omega
    have hk := lib_ok hs hB hx
    have e1 : ((c.length : Int) - 1).toNat = c.length - 1 := by omega
    obtain ⟨r, r1, r2, r3⟩ := res_l l hs hB (dflt .entry) c c4 (by omega) (c.length - 1) (by omega) _ hk
    have e2 : ((c.length - 1 : Nat) : Int) - 1 = (c.length : Int) - 2 := by omega
    rw [e2] at r2 r3
    refine ⟨r, true, Ev.bind c1 ?_, Ev.bind c2 ?_, fun _ => r1⟩
    · simp (disch := omega) only [cond_false, wrap_in, e1, cpos, getD_at hn, getD_at hx]
      exact Ev.bind (copy_ev _ hk) (Ev.bind r2 (Ev.pure _))
    · simp (disch := omega) only [cond_false, wrap_in, e1, cpos, getD_at hn, getD_at hx]
      exact Ev.bind (newEntry_ev _ hk) (Ev.bind r3 (Ev.pure _))
end Go.Proofs.YtgihehbpbjejlaaGreatDoor
end
section
/- Plain laws: marks of lists of texts; deep marks of names, entries and libraries. -/
namespace Go.Proofs.YtgihehbpbjejlaaGreatDoor
open Go.Gx
set_option linter.unusedVariables false
set_option linter.unusedSimpArgs false

theorem markText_l0 : ∀ n : Nat, n ≤ 1099511627776 → ∀ s : ByteArray, s.size + n ≤ 9223372036854775806 → ∃ r, Ev (fun k => laws_markText.l0 k (n : Int) s) r ∧ r.size ≤ s.size + n := fun n => by
  induction n using Nat.strongRecOn with
  | ind n ih =>
    intro hn s hs
    by_cases c : n = 0
    · refine ⟨s, Ev.step (fun k => by rw [laws_markText.l0]) ?_, by omega⟩
      simp (disch := omega) only [cneg]
      exact Ev.pure _
    · have ed : Int.tdiv (n : Int) 10 = ((n / 10 : Nat) : Int) := by
        rw [Int.tdiv_eq_ediv_of_nonneg (by omega)]; omega
      have e1 : ∀ v : Int, (strL ([v] : List Int)).size = 1 := fun v => rfl
      obtain ⟨r, r1, r2⟩ := ih (n / 10) (by omega) (by omega) (strL ([IntKind.wrap .u8 (IntKind.wrap .i64 (48 + Int.tmod (n : Int) 10))] : List Int) ++ s) (by rw [size_app, e1]; omega)
      rw [size_app, e1] at r2
      refine ⟨r, Ev.step (fun k => by rw [laws_markText.l0]) ?_, by omega⟩
      have w1 : IntKind.wrap .i64 (Int.tdiv (n : Int) 10) = ((n / 10 : Nat) : Int) := by rw [ed, wrap_in (by omega) (by omega)]
      have hz : ((10 : Nat) == 0) = false := rfl
      rw [w1, hz]
      simp only [cond_false]
      simp (disch := (try simp only [e1]); omega) only [cpos, cble]
      exact r1
theorem markText_ev (n : Nat) (hn : n ≤ 1099511627776) : ∃ r, Ev (fun k => laws_markText.F k (n : Int)) r := by
  unfold laws_markText.F
  by_cases c : n = 0
  · refine ⟨⟨#[109, 48]⟩, ?_⟩
    simp (disch := omega) only [cpos]
    exact Ev.pure _
  · obtain ⟨r, r1, r2⟩ := markText_l0 n hn ⟨#[]⟩ (by rw [show (⟨#[]⟩ : ByteArray).size = 0 from rfl]; omega)
    have e0 : (⟨#[]⟩ : ByteArray).size = 0 := rfl
    have e1 : (⟨#[109]⟩ : ByteArray).size = 1 := rfl
    refine ⟨⟨#[109]⟩ ++ r, ?_⟩
    simp (disch := omega) only [cneg]
    refine Ev.bind r1 ?_
    simp (disch := omega) only [e1, cble]
    exact Ev.pure _
open Classical in
noncomputable def mt (n : Nat) : ByteArray := if h : ∃ r, Ev (fun k => laws_markText.F k (n : Int)) r then h.choose else ⟨#[]⟩
theorem mt_ev (n : Nat) (hn : n ≤ 1099511627776) : Ev (fun k => laws_markText.F k (n : Int)) (mt n) := by
  have h := markText_ev n hn
  unfold mt
  rw [dif_pos h]
  exact h.choose_spec
noncomputable def marks (i : Nat) : List ByteArray := (List.range i).map fun j => mt (j + 1)
theorem marks_len (i : Nat) : (marks i).length = i := by simp [marks]
theorem mark_l0 (xs : List ByteArray) (hlen : xs.length ≤ 1048576) : ∀ n i : Nat, i + n = xs.length → Ev (fun k => laws_markStringS.l0 k (marks i ++ xs.drop i) ((1 + i : Nat) : Int) i) (marks xs.length, ((1 + xs.length : Nat) : Int))
  | 0, i, h => by
    have hl : (marks i ++ xs.drop i).length = xs.length := by rw [List.length_append, marks_len, List.length_drop]; omega
    refine Ev.step (fun k => by rw [laws_markStringS.l0]) ?_
    simp (disch := omega) only [cneg]
    rw [List.drop_eq_nil_of_le (by omega), List.append_nil, show i = xs.length by omega]
    exact Ev.pure _
  | n + 1, i, h => by
    have hi : i < xs.length := by omega
    have hl : (marks i ++ xs.drop i).length = xs.length := by rw [List.length_append, marks_len, List.length_drop]; omega
    refine Ev.step (fun k => by rw [laws_markStringS.l0]) ?_
    simp (disch := omega) only [cpos, Int.toNat_natCast]
    refine Ev.bind (mt_ev (1 + i) (by omega)) ?_
    have e : (marks i ++ xs.drop i).set i (mt (1 + i)) = marks (i + 1) ++ xs.drop (i + 1) := by
      rw [List.set_append_right _ _ (by rw [marks_len]; exact Nat.le_refl _), marks_len, Nat.sub_self, List.drop_eq_getElem_cons hi, List.set_cons_zero]
      unfold marks
      rw [List.range_succ, List.map_append, List.append_assoc, Nat.add_comm 1]
      rfl
    simp (disch := omega) only [wrap_in, e]
    rw [show (((1 + i : Nat) : Int) + 1) = ((1 + (i + 1) : Nat) : Int) by omega]
    exact mark_l0 xs hlen n (i + 1) (by omega)
theorem mark_ev (xs : List ByteArray) (hlen : xs.length ≤ 1048576) : Ev (fun k => laws_markStringS.F k xs 1) (marks xs.length, ((1 + xs.length : Nat) : Int)) := by
  unfold laws_markStringS.F
  refine Ev.bind (mark_l0 xs hlen xs.length 0 (by omega)) ?_
  rw [show Nat.beq (marks xs.length, ((1 + xs.length : Nat) : Int)).1.length xs.length = true by rw [Nat.beq_eq]; exact marks_len _]
  exact Ev.pure _
theorem held_l0 (m : Nat) (hlen : m ≤ 1048576) : ∀ n i : Nat, i + n = m → Ev (fun k => laws_heldStringS.l0 k (marks m) ((1 + i : Nat) : Int) i) (.inr ((1 + m : Nat) : Int))
  | 0, i, h => by
    have hl := marks_len m
    refine Ev.step (fun k => by rw [laws_heldStringS.l0]) ?_
    simp (disch := omega) only [cneg]
    rw [show i = m by omega]
    exact Ev.pure _
  | n + 1, i, h => by
    have hl := marks_len m
    have hi : i < (marks m).length := by omega
    have e : (marks m)[i] = mt (1 + i) := by simp [marks, Nat.add_comm]
    refine Ev.step (fun k => by rw [laws_heldStringS.l0]) ?_
    simp (disch := omega) only [cpos, Int.toNat_natCast, getD_at hi, e]
    refine Ev.bind (mt_ev (1 + i) (by omega)) ?_
    simp (disch := omega) only [beqS_self, Bool.not_true, cond_false, wrap_in]
    rw [show (((1 + i : Nat) : Int) + 1) = ((1 + (i + 1) : Nat) : Int) by omega]
    exact held_l0 m hlen n (i + 1) (by omega)
theorem held_ev (m : Nat) (hlen : m ≤ 1048576) : Ev (fun k => laws_heldStringS.F k (marks m) 1) ((1 + m : Nat) : Int) := by
  unfold laws_heldStringS.F
  exact Ev.bind (held_l0 m hlen m 0 (by omega)) (Ev.pure _)
end Go.Proofs.YtgihehbpbjejlaaGreatDoor
end
section
/- Plain laws: deep marks of names, entries and libraries. -/
namespace Go.Proofs.YtgihehbpbjejlaaGreatDoor
open Go.Gx
set_option linter.unusedVariables false
set_option linter.unusedSimpArgs false

/-! ### Deep marks: numbers go up -/
theorem mtI (x : Int) (h0 : 0 ≤ x) (h1 : x ≤ 1099511627776) : ∃ r, Ev (fun k => laws_markText.F k x) r := by
  obtain ⟨n, rfl⟩ : ∃ n : Nat, x = n := ⟨x.toNat, by omega⟩
  exact markText_ev n (by omega)
theorem dmS_l0 (xs : List ByteArray) (hlen : xs.length ≤ 1048576) : ∀ n i : Nat, i + n = xs.length → ∀ z : Int, 0 ≤ z → z + n ≤ 1099511627776 → Ev (fun k => laws_markStringS_d.l0 k xs z i) (xs, z + n)
  | 0, i, h, z, h0, h1 => by
    refine Ev.step (fun k => by rw [laws_markStringS_d.l0]) ?_
    simp (disch := omega) only [cneg]
    exact (Ev.pure _).eq (by simp)
  | n + 1, i, h, z, h0, h1 => by
    have hi : i < xs.length := by omega
    refine Ev.step (fun k => by rw [laws_markStringS_d.l0]) ?_
    simp (disch := omega) only [cpos]
    obtain ⟨r, hr⟩ := mtI z h0 (by omega)
    refine Ev.bind hr ?_
    simp (disch := omega) only [wrap_in]
    refine (dmS_l0 xs hlen n (i + 1) (by omega) (z + 1) (by omega) (by omega)).eq ?_
    rw [show z + 1 + (n : Int) = z + ((n + 1 : Nat) : Int) by omega]
theorem dmS_ev (xs : List ByteArray) (hlen : xs.length ≤ 1048576) (z : Int) (h0 : 0 ≤ z) (h1 : z + xs.length ≤ 1099511627776) : Ev (fun k => laws_markStringS_d.F k xs z) (z + xs.length) := by
  unfold laws_markStringS_d.F
  exact Ev.bind (dmS_l0 xs hlen xs.length 0 (by omega) z h0 h1) (Ev.pure _)
def cntN (n : Name) : Nat := n.given.length + 3
def cntNs (xs : List Name) : Nat := (xs.map cntN).sum
theorem cntNs_drop {xs : List Name} {i : Nat} (hi : i < xs.length) : cntNs (xs.drop i) = cntN xs[i] + cntNs (xs.drop (i + 1)) := by
  unfold cntNs
  rw [List.drop_eq_getElem_cons hi, List.map_cons, List.sum_cons]
theorem dmN_l0 (xs : List Name) (hs : ∀ x ∈ xs, smallN x) (hlen : xs.length ≤ 1048576) : ∀ n i : Nat, i + n = xs.length → ∀ z : Int, 0 ≤ z → z + cntNs (xs.drop i) ≤ 1099511627776 → Ev (fun k => laws_markNameS_d.l0 k xs z i) (xs, z + cntNs (xs.drop i))
  | 0, i, h, z, h0, h1 => by
    refine Ev.step (fun k => by rw [laws_markNameS_d.l0]) ?_
    simp (disch := omega) only [cneg]
    refine (Ev.pure _).eq ?_
    rw [List.drop_eq_nil_of_le (by omega)]
    simp [cntNs]
  | n + 1, i, h, z, h0, h1 => by
    have hi : i < xs.length := by omega
    have hd := cntNs_drop hi
    rw [hd] at h1 ⊢
    unfold cntN at h1 ⊢
    have hg : xs[i].given.length ≤ 1048576 := by have := hs _ (List.getElem_mem hi); unfold smallN totN at this; omega
    refine Ev.step (fun k => by rw [laws_markNameS_d.l0]) ?_
    simp (disch := omega) only [cpos, Int.toNat_natCast, getD_at hi]
    refine Ev.bind (dmS_ev xs[i].given hg z h0 (by omega)) ?_
    obtain ⟨r1, e1⟩ := mtI (z + xs[i].given.length) (by omega) (by omega)
    obtain ⟨r2, e2⟩ := mtI (z + xs[i].given.length + 1) (by omega) (by omega)
    obtain ⟨r3, e3⟩ := mtI (z + xs[i].given.length + 1 + 1) (by omega) (by omega)
    simp (disch := omega) only [wrap_in]
    refine Ev.bind e1 (Ev.bind e2 (Ev.bind e3 ?_))
    refine (dmN_l0 xs hs hlen n (i + 1) (by omega) (z + xs[i].given.length + 1 + 1 + 1) (by omega) (by omega)).eq ?_
    rw [show z + (xs[i].given.length : Int) + 1 + 1 + 1 + (cntNs (xs.drop (i + 1)) : Int) = z + ((xs[i].given.length + 3 + cntNs (xs.drop (i + 1)) : Nat) : Int) by omega]
theorem dmN_ev (xs : List Name) (hs : ∀ x ∈ xs, smallN x) (hlen : xs.length ≤ 1048576) (z : Int) (h0 : 0 ≤ z) (h1 : z + cntNs xs ≤ 1099511627776) : Ev (fun k => laws_markNameS_d.F k xs z) (z + cntNs xs) := by
  unfold laws_markNameS_d.F
  exact Ev.bind (dmN_l0 xs hs hlen xs.length 0 (by omega) z h0 (by simpa using h1)) ((Ev.pure _).eq (by simp))
def cntE (e : Entry) : Nat := cntNs e.authors + cntNs e.editors + 12
def cntEs (xs : List Entry) : Nat := (xs.map cntE).sum
theorem cntEs_drop {xs : List Entry} {i : Nat} (hi : i < xs.length) : cntEs (xs.drop i) = cntE xs[i] + cntEs (xs.drop (i + 1)) := by
  unfold cntEs
  rw [List.drop_eq_getElem_cons hi, List.map_cons, List.sum_cons]
theorem cntNs_le : ∀ xs : List Name, cntNs xs ≤ 3 * totNs xs
  | [] => by simp [cntNs, totNs]
  | x :: xs => by
    have := cntNs_le xs
    unfold cntNs totNs at *
    simp only [List.map_cons, List.sum_cons, List.length_cons]
    have h1 : cntN x ≤ totN x + 3 := by unfold cntN totN; omega
    omega
theorem cntEs_le : ∀ xs : List Entry, cntEs xs ≤ 12 * totEs xs
  | [] => by simp [cntEs, totEs]
  | x :: xs => by
    have := cntEs_le xs
    unfold cntEs totEs at *
    simp only [List.map_cons, List.sum_cons, List.length_cons]
    have h1 : cntE x ≤ 3 * totE x + 12 := by
      have := cntNs_le x.authors
      have := cntNs_le x.editors
      unfold cntE totE
      omega
    omega
theorem dmE_l0 (xs : List Entry) (hs : ∀ x ∈ xs, smallE x) (hlen : xs.length ≤ 1048576) : ∀ n i : Nat, i + n = xs.length → ∀ z : Int, 0 ≤ z → z + cntEs (xs.drop i) ≤ 1099511627776 → Ev (fun k => laws_markEntryS_d.l0 k xs z i) (xs, z + cntEs (xs.drop i))
  | 0, i, h, z, h0, h1 => by
    refine Ev.step (fun k => by rw [laws_markEntryS_d.l0]) ?_
    simp (disch := omega) only [cneg]
    refine (Ev.pure _).eq ?_
    rw [List.drop_eq_nil_of_le (by omega)]
    simp [cntEs]
  | n + 1, i, h, z, h0, h1 => by
    have hi : i < xs.length := by omega
    have hd := cntEs_drop hi
    rw [hd] at h1 ⊢
    unfold cntE at h1 ⊢
    have hsm := hs _ (List.getElem_mem hi)
    have ha := smallE_a hsm
    have he := smallE_e hsm
    refine Ev.step (fun k => by rw [laws_markEntryS_d.l0]) ?_
    obtain ⟨r1, e1⟩ := mtI z (by omega) (by omega)
    simp (disch := omega) only [cpos]
    refine Ev.bind e1 ?_
    simp (disch := omega) only [cpos, Int.toNat_natCast, getD_at hi, wrap_in]
    refine Ev.bind (dmN_ev xs[i].authors (fun x hx => smallNs_at ha hx) (smallNs_len ha) (z + 1 + 1) (by omega) (by omega)) ?_
    refine Ev.bind (dmN_ev xs[i].editors (fun x hx => smallNs_at he hx) (smallNs_len he) (z + 1 + 1 + cntNs xs[i].authors) (by omega) (by omega)) ?_
    generalize hw : z + 1 + 1 + (cntNs xs[i].authors : Int) + (cntNs xs[i].editors : Int) = w
    have h30 : ((3 : Int) == 0) = false := rfl
    obtain ⟨r4, e4⟩ := mtI w (by omega) (by omega)
    obtain ⟨r5, e5⟩ := mtI (w + 1) (by omega) (by omega)
    obtain ⟨r6, e6⟩ := mtI (w + 1 + 1) (by omega) (by omega)
    obtain ⟨r7, e7⟩ := mtI (w + 1 + 1 + 1 + 1 + 1 + 1 + 1 + 1) (by omega) (by omega)
    obtain ⟨r8, e8⟩ := mtI (w + 1 + 1 + 1 + 1 + 1 + 1 + 1 + 1 + 1) (by omega) (by omega)
    simp (disch := omega) only [wrap_in, h30, cond_false]
    refine Ev.bind e4 (Ev.bind e5 (Ev.bind e6 (Ev.bind e7 (Ev.bind e8 ?_))))
    refine (dmE_l0 xs hs hlen n (i + 1) (by omega) (w + 1 + 1 + 1 + 1 + 1 + 1 + 1 + 1 + 1 + 1) (by omega) (by omega)).eq ?_
    rw [show w + 1 + 1 + 1 + 1 + 1 + 1 + 1 + 1 + 1 + 1 + (cntEs (xs.drop (i + 1)) : Int) = z + ((cntNs xs[i].authors + cntNs xs[i].editors + 12 + cntEs (xs.drop (i + 1)) : Nat) : Int) by omega]
theorem dmL_ev (l : Library) (hs : smallL l) : EvP (fun k => laws_markLibrary_d.F k l 1) fun r => 0 ≤ r := by
  have h1 := cntEs_le l.entries
  have h2 : totEs l.entries ≤ 1048576 := hs
  unfold laws_markLibrary_d.F laws_markEntryS_d.F
  refine ⟨1 + cntEs l.entries, Ev.bind (Ev.bind (dmE_l0 l.entries (fun x hx => smallL_at hs hx) (smallL_len hs) l.entries.length 0 (by omega) 1 (by omega) (by simp; omega)) ((Ev.pure _).eq (by simp))) (Ev.pure _), by omega⟩
end Go.Proofs.YtgihehbpbjejlaaGreatDoor
end
section
/- The plain laws of CrossChain, ChildrenOf, BrokenCrosses and DependentsOf. -/
namespace Go.Proofs.YtgihehbpbjejlaaGreatDoor
open Go.Gx
set_option linter.unusedVariables false
set_option linter.unusedSimpArgs false

theorem room_s8 {n : Nat} (h : n ≤ 8192) : room n .str = true := room_s h
/-- What both ask first. -/
theorem asked_ev (l : Library) (hs : smallL l) (key : ByteArray) : ∃ (v : Bool) (i : Int), Ev (fun k => spec_l21Asked.F k l key) (v && decide (i ≥ 0)) ∧ Ev (fun k => spec_l4Good.F k l) v ∧ Ev (fun k => impl_IsValidLibrary.F k l) v ∧ Ev (fun k => spec_l4Find.F k l key) i ∧ Ev (fun k => impl_entryIndex.F k l key) i ∧ -1 ≤ i ∧ i < l.entries.length ∧ (v = true → l.entries.length ≤ 8 ∧ libB l = true) ∧ (0 ≤ i → kAt l i = key) := by
  have hl := smallL_len hs
  have v1 := specLib_ev l hs
  have v2 := isLib_ev l hs
  obtain ⟨i, i1, i2, i3, i4, i5, _⟩ := findK_ev l key hl
  refine ⟨libB l, i, ?_, v1, v2, i1, i2, i3, i4, fun h => ⟨libB_len h, h⟩, i5⟩
  unfold spec_l21Asked.F
  cases hv : libB l with
  | false => rw [hv] at v1; exact Ev.bind v1 (Ev.pure _)
  | true => rw [hv] at v1; exact Ev.bind v1 (Ev.bind i1 (Ev.pure _))

/-! ### CrossChain -/
/-! ### ChildrenOf -/
/-! ### BrokenCrosses -/
/-! ### DependentsOf -/
end Go.Proofs.YtgihehbpbjejlaaGreatDoor
end
section
/- The plain law of InheritedFields. -/
namespace Go.Proofs.YtgihehbpbjejlaaGreatDoor
open Go.Gx
set_option linter.unusedVariables false
set_option linter.unusedSimpArgs false

def fw5 : List ByteArray := [⟨#[101, 100, 105, 116, 111, 114, 115]⟩, ⟨#[99, 111, 110, 116, 97, 105, 110, 101, 114]⟩, ⟨#[112, 117, 98, 108, 105, 115, 104, 101, 114]⟩, ⟨#[100, 97, 116, 101]⟩, ⟨#[118, 111, 108, 117, 109, 101]⟩]
theorem fw5_len : fw5.length = 5 := rfl
theorem fw5_sub {f : ByteArray} (h : f ∈ fw5) : f ∈ fw8 := by
  unfold fw5 at h
  unfold fw8
  simp only [List.mem_cons, List.not_mem_nil, or_false] at h ⊢
  rcases h with rfl | rfl | rfl | rfl | rfl <;> simp
theorem inhF_l (a b : Entry) (ha : okF a) (hb : okF b) : ∀ n i : Nat, i + n = 5 → ∀ acc : List ByteArray, acc.length ≤ i →
    ∃ r, Ev (fun k => spec_InheritedFields.l0 k acc b a fw5 i) r ∧ Ev (fun k => impl_InheritedFields.l0 k b a acc fw5 5 i) r ∧ r.length ≤ 5
  | 0, i, h, acc, hc => by
    refine ⟨acc, Ev.step (fun k => by rw [spec_InheritedFields.l0]) ?_, Ev.step (fun k => by rw [impl_InheritedFields.l0]) ?_, by omega⟩
    · simp (disch := (try rw [fw5_len]); omega) only [cneg]; exact Ev.pure _
    · simp (disch := omega) only [cneg]; exact Ev.pure _
  | n + 1, i, h, acc, hc => by
    have hl := fw5_len
    have hi : i < fw5.length := by omega
    have hr : ∀ z : ByteArray, room (acc.length + ([z] : List ByteArray).length) .str = true := fun z => room_s (by simp; omega)
    have hm := fw5_sub (List.getElem_mem hi)
    obtain ⟨t1, b1, x1, x2⟩ := field_ev a ha _ hm
    obtain ⟨t2, b2, y1, y2⟩ := field_ev b hb _ hm
    obtain ⟨r, r1, r2, r3⟩ := inhF_l a b ha hb n (i + 1) (by omega) acc (by omega)
    obtain ⟨q, q1, q2, q3⟩ := inhF_l a b ha hb n (i + 1) (by omega) (acc ++ [fw5[i]]) (by simp; omega)
    refine ⟨bif beqS t1 ⟨#[]⟩ && (!beqS t2 ⟨#[]⟩) then q else r, Ev.step (fun k => by rw [spec_InheritedFields.l0]) ?_, Ev.step (fun k => by rw [impl_InheritedFields.l0]) ?_, ?_⟩
    · simp (disch := omega) only [cpos, Int.toNat_natCast, getD_at hi]
      refine Ev.bind x1 (Ev.bind y1 ?_)
      cases beqS t1 ⟨#[]⟩ <;> cases beqS t2 ⟨#[]⟩ <;> simp (disch := omega) only [Bool.not_true, Bool.not_false, cond_true, cond_false, Bool.and_true, Bool.and_false, Bool.true_and, Bool.false_and, hr, wrap_in] <;> first | exact q1 | exact r1
    · simp (disch := omega) only [cpos, Int.toNat_natCast, getD_at hi]
      refine Ev.bind x2 ?_
      cases beqS t1 ⟨#[]⟩ with
      | false =>
        simp (disch := omega) only [cond_false, Bool.false_and, wrap_in]
        exact r2
      | true =>
        simp only [cond_true, Bool.true_and]
        refine Ev.bind y2 ?_
        cases beqS t2 ⟨#[]⟩ <;> simp (disch := omega) only [Bool.not_true, Bool.not_false, cond_true, cond_false, hr, wrap_in] <;> first | exact q2 | exact r2
    · cases (beqS t1 ⟨#[]⟩ && (!beqS t2 ⟨#[]⟩)) <;> assumption
theorem resolveEntry_ev (l : Library) (hs : smallL l) (key : ByteArray) : ∃ r b, Ev (fun k => spec_ResolveEntry.F k l key) (r, b) ∧ Ev (fun k => impl_ResolveEntry.F k l key) (r, b) ∧
    (b = true → okF r ∧ libB l = true ∧ l.entries.length ≤ 8 ∧ ∃ i : Int, 0 ≤ i ∧ i < l.entries.length ∧ Ev (fun k => spec_l4Find.F k l key) i ∧ Ev (fun k => impl_entryIndex.F k l key) i) := by
  obtain ⟨v, i, a1, a2, a3, a4, a5, a6, a7, a8, a9⟩ := asked_ev l hs key
  unfold spec_ResolveEntry.F impl_ResolveEntry.F
  cases v with
  | false => exact ⟨_, false, Ev.bind a1 (Ev.pure _), Ev.bind a5 (Ev.bind a3 (Ev.pure _)), fun h => by cases h⟩
  | true =>
    by_cases hi : i < 0
    · rw [decide_eq_false (by omega)] at a1
      refine ⟨_, false, Ev.bind a1 (Ev.pure _), Ev.bind a5 (Ev.bind a3 ?_), fun h => by cases h⟩
      simp (disch := omega) only [Bool.not_true, cond_false, cpos]
      exact Ev.pure _
    · rw [decide_eq_true (by omega)] at a1
      obtain ⟨hl, hB⟩ := a8 rfl
      obtain ⟨r, b, r1, r2, r3⟩ := resolve_ev l hs hB hl i (by omega) a7
      refine ⟨r, b, Ev.bind a1 (Ev.bind a4 (Ev.bind r1 (Ev.pure _))), Ev.bind a5 (Ev.bind a3 ?_), fun h => ⟨r3 h, hB, hl, i, by omega, a7, a4, a5⟩⟩
      simp (disch := omega) only [Bool.not_true, cond_false, cneg]
      exact Ev.bind r2 (Ev.pure _)
theorem inherited_ev (l : Library) (hs : smallL l) (key : ByteArray) : ∃ r v, Ev (fun k => spec_InheritedFields.F k l key) (r, v) ∧ Ev (fun k => impl_InheritedFields.F k l key) (r, v) ∧ r.length ≤ 5 := by
  obtain ⟨e, b, e1, e2, e3⟩ := resolveEntry_ev l hs key
  unfold spec_InheritedFields.F impl_InheritedFields.F
  cases b with
  | false => exact ⟨[], false, Ev.bind e1 (Ev.pure _), Ev.bind e2 (Ev.pure _), by simp⟩
  | true =>
    obtain ⟨hk, hB, hl, i, i0, i1, f1, f2⟩ := e3 rfl
    have hx : i.toNat < l.entries.length := by omega
    have ho := lib_ok hs hB hx
    obtain ⟨r, r1, r2, r3⟩ := inhF_l l.entries[i.toNat] e ho hk 5 0 (by omega) [] (by simp)
    have hof : Ev (fun k => impl_entryOf.F k l key) l.entries[i.toNat] := by
      unfold impl_entryOf.F
      refine Ev.bind f2 ?_
      simp (disch := omega) only [cpos, getD_at hx]
      exact Ev.pure _
    refine ⟨r, true, Ev.bind e1 (Ev.bind f1 ?_), Ev.bind e2 (Ev.bind hof (Ev.bind r2 (Ev.pure _))), r3⟩
    simp (disch := omega) only [cpos, getD_at hx]
    exact Ev.bind r1 (Ev.pure _)
theorem inheritedFields_law (l : Library) (key : ByteArray) (hw : WF .lib l) (hwk : WF .str key) : ∃ k, laws_FnExactInheritedFields.F k l key = some true := by
  refine Ev.get (?_ : Ev (fun k => laws_FnExactInheritedFields.F k l key) true)
  unfold laws_FnExactInheritedFields.F
  by_cases c0 : (key.size : Int) > 1048576
  · simp (disch := omega) only [cpos]
    exact Ev.pure _
  simp (disch := omega) only [cneg]
  obtain ⟨r, h1, h2⟩ := szL_ev l 1048576 (by omega) (by omega) hw
  refine Ev.bind h1 ?_
  by_cases c : r < 0
  · simp (disch := omega) only [cpos]
    exact Ev.pure _
  simp (disch := omega) only [cneg]
  have hs : smallL l := by have := h2 (by omega); unfold smallL; omega
  obtain ⟨v, w, v1, v2, v3⟩ := inherited_ev l hs key
  have tl := toL_ev l hs
  have eqv := eqS_ev v (by omega)
  refine Ev.bind tl (Ev.bind v1 (Ev.bind tl (Ev.bind v2 (Ev.bind eqv ?_))))
  simp only [beq_self_eq_true, Bool.not_true, cond_false]
  refine Ev.bind tl (Ev.bind (eqL_ev l hs) ?_)
  simp only [Bool.not_true, cond_false]
  obtain ⟨m, m1, m2⟩ := dmL_ev l hs
  refine Ev.bind m1 ?_
  simp (disch := omega) only [cneg]
  refine Ev.bind eqv ?_
  simp only [beq_self_eq_true, Bool.not_true, cond_false]
  refine Ev.bind (mark_ev v (by omega)) (Ev.bind (held_ev v.length (by omega)) ?_)
  simp (disch := omega) only [cneg, cbeq]
  refine Ev.bind tl (Ev.bind v2 (Ev.bind eqv ?_))
  simp only [beq_self_eq_true, Bool.not_true, cond_false]
  refine Ev.bind (held_ev v.length (by omega)) ?_
  simp (disch := omega) only [cneg, cbeq]
  exact Ev.pure _
end Go.Proofs.YtgihehbpbjejlaaGreatDoor
end
section
/- The law FnExactInheritedFields returns true for every input, the listed package variables being as the program's text lays it: the card. -/
namespace Go.Proofs.YtgihehbpbjejlaaGreatDoor
open Go.Gx Go.RowKit Go.ChangeShapes Go.WideShapes Go.ChangeAt
set_option linter.unusedVariables false
theorem fnExactInheritedFields_own : ownKnob Tryz.prog.godebug = none := by kernel_rfl
set_option maxRecDepth 100000 in
theorem fnExactInheritedFields_contract (H : Type) (enc : TypeId × Value → H) (W : World) (base : Nat) (args : Array Value) (ds gs : List (DataW H)) (before : List MemPlace)
    (hval : ∀ (j : Nat) t v, Tryz.f3.params[j]? = some t → args[j]? = some v → Value.okWide Tryz.prog W .any base t v)
    (hW : DataW.Whole enc Tryz.prog Tryz.f3.params.toList Rows.fnExactInheritedFieldsSpec.vars false W args.toList ds gs before) (hL : laidMetH Tryz.prog Rows.fnExactInheritedFieldsRow.laid W) (hsh : W.ShapedOpen Tryz.prog) :
    Calls Tryz.prog 3 args W fun e W' => ∃ v, e = .returned v ∧ Rows.fnExactInheritedFieldsSpec.post enc Tryz.prog Tryz.f3 false true false false W args v W' := by
  have hgs : gs = [] := by
    obtain ⟨p, q, _, hV, _⟩ := hW
    exact (trodVars_none hV).1
  subst hgs
  have hds : ∃ d1 d2, ds = [d1, d2] := by
    obtain ⟨p, q, hA, _⟩ := hW
    obtain ⟨_, _, d1, e0, _, _, _, rfl, _, _, h0⟩ := trodAll_cons hA
    obtain ⟨_, _, d2, e1, _, _, _, rfl, _, _, h1⟩ := trodAll_cons h0
    obtain ⟨_, rfl, _⟩ := trodAll_nil h1
    exact ⟨d1, d2, rfl⟩
  obtain ⟨d1, d2, rfl⟩ := hds
  have hgl : GlOk envX (fun _ => undef) (Lt W) W := by
    refine GlOk.mk0 (fun g b h => ?_) (fun g hg => ?_)
    · have h' : glT g = some b := h
      unfold glT at h'
      split at h'
      · cases h'; exact laid_ints (zs := Lib.pow10Tab) (name := "internal/strconv.uint64pow10") (g := 0) (t := 155) (e := 141) (n := 20) 2 (by kernel_rfl) (by kernel_rfl) (by kernel_rfl) (by kernel_rfl) (by kernel_rfl) (by kernel_rfl) (by kernel_rfl) hL (by kernel_rfl)
      · cases h'
    · have hg' : giT g = true := hg
      unfold giT at hg'
      split at hg'
      · obtain ⟨m, hm⟩ := cell_of_shapedOpen_int (P := Tryz.prog) (g := 1) (t := 3) (zero := #[.int .i64 0]) hsh (of_decide_eq_true (by kernel_rfl)) (by kernel_rfl) rfl (by kernel_rfl) (by kernel_rfl) (by kernel_rfl)
        exact ⟨World.block_lt_of_cell? _ _ hm, m, hm⟩
      · cases hg'
  refine law_contract (τs := [.lib, .str]) (r := .t .bool true) envOk (by kernel_rfl) rfl (by kernel_rfl) (by kernel_rfl) rfl (by kernel_rfl) (by kernel_rfl) (fun t ht => ?_) rfl (fun x hx => by
      obtain ⟨k, hk⟩ := inheritedFields_law x.1 x.2.1 hx.1 hx.2.1
      exact laws_FnExactInheritedFields.good envOk _ k _ _ hk) rfl hval hW hgl (fun q hq W' _ => ?_)
  · have : t ∈ [24, 9] := ht
    simp only [List.mem_cons, List.not_mem_nil, or_false] at this
    rcases this with rfl | rfl <;> exact ⟨by kernel_rfl, Nat.le_of_ble_eq_true (by kernel_rfl)⟩
  · obtain ⟨_, rfl⟩ := trodVars_none hq
    exact rfl
set_option maxRecDepth 100000 in
noncomputable def fnExactInheritedFields_world (os : Os) : World :=
  { World.holding Tryz.prog os ⟨#[], #[], []⟩ with heap := ((((((World.holding Tryz.prog os ⟨#[], #[], []⟩).heap.modify 2 fun
      | .cells _ t frozen => .cells #[.int .u8 0, .int .u8 1, .int .u8 28, .int .u8 2, .int .u8 29, .int .u8 14, .int .u8 24, .int .u8 3, .int .u8 30, .int .u8 22, .int .u8 20, .int .u8 15, .int .u8 25, .int .u8 17, .int .u8 4, .int .u8 8, .int .u8 31, .int .u8 27, .int .u8 13, .int .u8 23, .int .u8 21, .int .u8 19, .int .u8 16, .int .u8 7, .int .u8 26, .int .u8 12, .int .u8 18, .int .u8 6, .int .u8 11, .int .u8 5, .int .u8 10, .int .u8 9] t frozen
      | o => o).modify 3 fun
      | .cells _ t frozen => .cells #[.int .u8 0, .int .u8 1, .int .u8 56, .int .u8 2, .int .u8 57, .int .u8 49, .int .u8 28, .int .u8 3, .int .u8 61, .int .u8 58, .int .u8 42, .int .u8 50, .int .u8 38, .int .u8 29, .int .u8 17, .int .u8 4, .int .u8 62, .int .u8 47, .int .u8 59, .int .u8 36, .int .u8 45, .int .u8 43, .int .u8 51, .int .u8 22, .int .u8 53, .int .u8 39, .int .u8 33, .int .u8 30, .int .u8 24, .int .u8 18, .int .u8 12, .int .u8 5, .int .u8 63, .int .u8 55, .int .u8 48, .int .u8 27, .int .u8 60, .int .u8 41, .int .u8 37, .int .u8 16, .int .u8 46, .int .u8 35, .int .u8 44, .int .u8 21, .int .u8 52, .int .u8 32, .int .u8 23, .int .u8 11, .int .u8 54, .int .u8 26, .int .u8 40, .int .u8 15, .int .u8 34, .int .u8 20, .int .u8 31, .int .u8 10, .int .u8 25, .int .u8 14, .int .u8 19, .int .u8 9, .int .u8 13, .int .u8 8, .int .u8 7, .int .u8 6] t frozen
      | o => o).modify 0 fun
      | .cells _ t frozen => .cells #[.int .u64 1, .int .u64 10, .int .u64 100, .int .u64 1000, .int .u64 10000, .int .u64 100000, .int .u64 1000000, .int .u64 10000000, .int .u64 100000000, .int .u64 1000000000, .int .u64 10000000000, .int .u64 100000000000, .int .u64 1000000000000, .int .u64 10000000000000, .int .u64 100000000000000, .int .u64 1000000000000000, .int .u64 10000000000000000, .int .u64 100000000000000000, .int .u64 1000000000000000000, .int .u64 10000000000000000000] t frozen
      | o => o).modify 5 fun
      | .cells _ t frozen => .cells #[.int .u8 128, .int .u8 191, .int .u8 160, .int .u8 191, .int .u8 128, .int .u8 159, .int .u8 144, .int .u8 191, .int .u8 128, .int .u8 143, .int .u8 0, .int .u8 0, .int .u8 0, .int .u8 0, .int .u8 0, .int .u8 0, .int .u8 0, .int .u8 0, .int .u8 0, .int .u8 0, .int .u8 0, .int .u8 0, .int .u8 0, .int .u8 0, .int .u8 0, .int .u8 0, .int .u8 0, .int .u8 0, .int .u8 0, .int .u8 0, .int .u8 0, .int .u8 0] t frozen
      | o => o).modify 4 fun
      | .cells _ t frozen => .cells (Pinned.utf8FirstZ.map fun (n : Nat) => Value.int .u8 (n : Int)).toArray t frozen
      | o => o) }
theorem fnExactInheritedFields_met (os : Os) : laidMet Tryz.prog Rows.fnExactInheritedFieldsRow.laid ((fnExactInheritedFields_world os).forCall (fun _ _ => 0) ⟨#[], #[.agg #[.slice none 0 0], .string ⟨#[]⟩], []⟩).memory :=
  laidMet_of_run' 8 (by kernel_rfl) (by kernel_rfl)
theorem fnExactInheritedFields_reads (os : Os) {H : Type} (enc : TypeId × Value → H) : ∃ places, DataW.whole enc Tryz.prog ((fnExactInheritedFields_world os).forCall (fun _ _ => 0) ⟨#[], #[.agg #[.slice none 0 0], .string ⟨#[]⟩], []⟩).memory Tryz.f3.params.toList Rows.fnExactInheritedFieldsSpec.vars false #[.agg #[.slice none 0 0], .string ⟨#[]⟩].toList 8 = some ([.agg [.nil], .lit (.string [])], [], places) :=
  ⟨[], by kernel_rfl⟩
set_option maxRecDepth 100000 in
theorem fnExactInheritedFields_lifted (os : Os) (started : os.Started) (H : Type) (enc : TypeId × Value → H) (F : Stop.Interp) :
    ReturnsInHanded {} Tryz.checked os 3 .any ((OpenSpec.ofChange Rows.fnExactInheritedFieldsSpec).preRow enc Tryz.prog Tryz.f3 Rows.fnExactInheritedFieldsRow.domain false Rows.fnExactInheritedFieldsRow.laid) (((OpenSpec.ofChange Rows.fnExactInheritedFieldsSpec).at F).post enc Tryz.prog Tryz.f3 false true false false) := by
  obtain ⟨places, hx⟩ := fnExactInheritedFields_reads os enc
  refine returnsInHanded_of_row (C := Tryz.checked) (s := OpenSpec.ofChange Rows.fnExactInheritedFieldsSpec) fnExactInheritedFields_own started (by kernel_rfl) (by kernel_rfl)
    (witness_row_at (enc := enc) (C := Tryz.checked) false (fnExactInheritedFields_world os) #[.agg #[.slice none 0 0], .string ⟨#[]⟩] rfl (by kernel_rfl) (by kernel_rfl) (by kernel_rfl)
      (OpenSpec.preRow_of_cond 8 hx (by kernel_rfl) (fun k hk => by cases hk) (by kernel_rfl) (fnExactInheritedFields_met os))) ?_
  intro W base args ds gs before hval hW _ _ _ hL hsh _
  exact fnExactInheritedFields_contract H enc W base args ds gs before hval hW hL hsh
theorem fnExactInheritedFields_said : Rows.FnExactInheritedFieldsSaid :=
  OpenClaim.holds_of_cond 3 Tryz.f3 rfl rfl rfl rfl rfl rfl rfl ⟨rfl, rfl, rfl, rfl, rfl⟩ rfl rfl rfl rfl rfl (by kernel_rfl) (by kernel_rfl) (by kernel_rfl)
    (of_decide_eq_true (by kernel_rfl)) (by unfold Func.isWrapper; first | (rw [if_pos (by decide +kernel)]; kernel_rfl) | (rw [if_neg (by decide +kernel)]; exact ⟨rfl, rfl⟩))
    (fun os started H enc _ F => by rw [OpenClaim.pre_eq_preRow]; exact fnExactInheritedFields_lifted os started H enc F)
theorem fnExactInheritedFields_plain (f : FuncId) (fn : Func) (hf : Tryz.pinned.checked.prog.funcNamed "loop.example/g00896/laws.FnExactInheritedFields" = some f) (hfn : Tryz.pinned.checked.prog.funcs[f]? = some fn) :
    false = Tryz.pinned.checked.prog.looks [] ∧ ∀ (j : Nat) t, fn.params[j]? = some t → Tryz.pinned.checked.prog.wantsStandIn t = false := by
  obtain rfl : f = 3 := (Option.some.inj ((show Tryz.prog.funcNamed "loop.example/g00896/laws.FnExactInheritedFields" = some 3 by kernel_rfl).symm.trans hf)).symm
  obtain rfl : fn = Tryz.f3 := (Option.some.inj ((show Tryz.prog.funcs[3]? = some Tryz.f3 by kernel_rfl).symm.trans hfn)).symm
  refine ⟨by kernel_rfl, fun j t ht => ?_⟩
  have ht' : t ∈ [24, 9] := by simpa using Array.mem_of_getElem? (show (#[24, 9] : Array Nat)[j]? = some t from ht)
  simp only [List.mem_cons, List.not_mem_nil, or_false] at ht'
  rcases ht' with rfl | rfl
  · exact (show Tryz.prog.wantsStandIn 24 = false by kernel_rfl)
  · exact (show Tryz.prog.wantsStandIn 9 = false by kernel_rfl)
theorem FnExactInheritedFields_holds : Rows.FnExactInheritedFieldsCardSaid :=
  Claim7.holds_tied_plain_at .later [] _ _ _ _ fnExactInheritedFields_said (fun _ h => by cases h) (by kernel_rfl) (fun _ h => by cases h) fnExactInheritedFields_row_tie rfl ⟨rfl, rfl⟩ (by kernel_rfl) rfl fnExactInheritedFields_plain (by kernel_rfl)
#print axioms FnExactInheritedFields_holds
end Go.Proofs.YtgihehbpbjejlaaGreatDoor
end
