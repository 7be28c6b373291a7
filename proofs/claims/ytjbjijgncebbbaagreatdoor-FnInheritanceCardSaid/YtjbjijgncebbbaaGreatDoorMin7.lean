/- The law FnInheritance returns true for every input, the listed package variables being as the program's text lays it: the card. -/
import Derived.Test.YtjbjijgncebbbaaGreatDoorMin6
import Derived.Lib.ItoaNum
import Derived.Test.YtjbjijgncebbbaaGreatDoorCards
import Derived.Test.YtjbjijgncebbbaaGreatDoorTie
import Derived.Test.YtjbjijgncebbbaaGreatDoorMin3
import Derived.Shelf.Vars
import Derived.WalkKit
import Derived.ProofKit
import Derived.OpenShut
import Derived.Deep.DeepHandedRow
import Derived.Lib.LaidTab
section
namespace Go.Proofs.YtjbjijgncebbbaaGreatDoor
open Go.Gx
set_option linter.unusedVariables false
set_option linter.unusedSimpArgs false

/-! ### Texts joined -/
def nonE (x : ByteArray) : Bool := !beqS x ⟨#[]⟩
theorem nonE_no {x : ByteArray} (h : nonE x = false) : x = ⟨#[]⟩ := by
  unfold nonE at h
  exact beqS_iff.1 (by simpa using h)
theorem nonE_pos {x : ByteArray} (h : 1 ≤ x.size) : nonE x = true := by
  unfold nonE; rw [size_pos]; exact decide_eq_true h
def joinT (sep : List UInt8) (xs : List ByteArray) : ByteArray := ⟨(Lib.join (xs.map L) sep).toArray⟩
theorem L_joinT (sep : List UInt8) (xs : List ByteArray) : L (joinT sep xs) = Lib.join (xs.map L) sep := by unfold joinT; exact L_mk _
theorem tail_len (sep : List UInt8) : ∀ xs : List ByteArray, (Lib.joinTail sep (xs.map L)).length = totS xs + sep.length * xs.length
  | [] => by simp [Lib.joinTail, totS]
  | x :: r => by
    have := tail_len sep r
    simp only [Lib.joinTail, totS, List.map_cons, List.flatten_cons, List.length_append, List.sum_cons, List.length_cons, L_size] at this ⊢
    rw [this, Nat.mul_succ]; omega
theorem joinT_size (sep : List UInt8) (xs : List ByteArray) : (joinT sep xs).size ≤ totS xs + sep.length * xs.length := by
  rw [← L_size, L_joinT]
  cases xs with
  | nil => simp [Lib.join_nil]
  | cons x r =>
    rw [List.map_cons, Lib.join_cons, List.length_append, tail_len, L_size]
    simp only [totS, List.map_cons, List.sum_cons, List.length_cons, Nat.mul_succ]
    omega
theorem xJoin_eq (sep : ByteArray) (xs : List ByteArray) (h1 : xs.length ≤ 4194304) (h2 : totS xs ≤ 8388608) (h3 : sep.size ≤ 2) : xJoin xs sep = some (joinT (L sep) xs) := by
  unfold xJoin
  have hl : (Lib.join (xs.map (·.data.toList)) sep.data.toList).length ≤ 140737488355328 := by
    have := joinT_size (L sep) xs
    rw [← L_size, L_joinT, L_size] at this
    have h4 : sep.size * xs.length ≤ 2 * xs.length := Nat.mul_le_mul_right _ h3
    exact Nat.le_trans this (by omega)
  rw [Nat.ble_eq_true_of_le (by omega : xs.length ≤ 140737488355328), Nat.ble_eq_true_of_le hl]
  rfl
def jn : ByteArray → List ByteArray → ByteArray
  | s, [] => s
  | s, x :: r => jn (bif nonE s then (bif nonE x then (s ++ ⟨#[32]⟩) ++ x else s ++ x) else s ++ x) r
theorem nonE_app {s t : ByteArray} (h : nonE s = true) : nonE (s ++ t) = true := by
  unfold nonE at h ⊢
  rw [size_pos] at h ⊢
  have := of_decide_eq_true h
  rw [size_app]
  exact decide_eq_true (by omega)
theorem app_empty (s : ByteArray) : s ++ (⟨#[]⟩ : ByteArray) = s := by apply L_inj; rw [L_append]; simp [L]
theorem empty_app (s : ByteArray) : (⟨#[]⟩ : ByteArray) ++ s = s := by apply L_inj; rw [L_append]; simp [L]
theorem L_jn : ∀ (r : List ByteArray) (s : ByteArray), (nonE s = true → L (jn s r) = L s ++ Lib.joinTail [32] ((r.filter nonE).map L)) ∧ (nonE s = false → L (jn s r) = Lib.join ((r.filter nonE).map L) [32])
  | [], s => ⟨fun _ => by simp [jn, Lib.joinTail], fun h => by rw [nonE_no h]; rfl⟩
  | x :: r, s => by
    refine ⟨fun h => ?_, fun h => ?_⟩
    · simp only [jn, h, cond_true]
      cases hx : nonE x with
      | true =>
        simp only [cond_true]
        rw [(L_jn r _).1 (nonE_app (nonE_app h)), List.filter_cons_of_pos hx, List.map_cons, tail_cons, L_append, L_append, L32]
        simp
      | false =>
        rw [List.filter_cons_of_neg (by simp [hx]), nonE_no hx]
        simp only [cond_false, app_empty]
        exact (L_jn r _).1 h
    · simp only [jn, h, cond_false]
      rw [nonE_no h, empty_app]
      cases hx : nonE x with
      | true => rw [(L_jn r x).1 hx, List.filter_cons_of_pos hx, List.map_cons, Lib.join_cons]
      | false =>
        rw [List.filter_cons_of_neg (by simp [hx])]
        exact (L_jn r x).2 hx
theorem totS_drop {xs : List ByteArray} {i : Nat} (hi : i < xs.length) : totS (xs.drop i) = xs[i].size + totS (xs.drop (i + 1)) := by
  rw [List.drop_eq_getElem_cons hi]; simp only [totS, List.map_cons, List.sum_cons]
theorem l2Join_l0 (xs : List ByteArray) (hlen : xs.length ≤ 4194304) : ∀ n i : Nat, i + n = xs.length → ∀ s : ByteArray, s.size + n + totS (xs.drop i) ≤ 1099511627776 → Ev (fun k => spec_l2Join.l0 k xs s i) (jn s (xs.drop i))
  | 0, i, h, s, hs => by
    rw [List.drop_eq_nil_of_le (by omega)]
    refine Ev.step (fun k => by rw [spec_l2Join.l0]) ?_
    simp (disch := omega) only [cneg]
    exact Ev.pure _
  | n + 1, i, h, s, hs => by
    have hi : i < xs.length := by omega
    rw [totS_drop hi] at hs
    rw [List.drop_eq_getElem_cons hi]
    simp only [jn]
    refine Ev.step (fun k => by rw [spec_l2Join.l0]) ?_
    have ih := fun s hs => l2Join_l0 xs hlen n (i + 1) (by omega) s hs
    have e1 : (⟨#[32]⟩ : ByteArray).size = 1 := rfl
    have hb1 : (!beqS s ⟨#[]⟩) = nonE s := rfl
    have hb2 : (!beqS xs[i] ⟨#[]⟩) = nonE xs[i] := rfl
    simp (disch := omega) only [cpos, Int.toNat_natCast, getD_at hi, hb1, hb2, wrap_in, cble, size_app, e1]
    cases nonE s with
    | false => exact ih _ (by rw [size_app]; omega)
    | true =>
      cases nonE xs[i] with
      | false => exact ih _ (by rw [size_app]; omega)
      | true => exact ih _ (by rw [size_app, size_app, e1]; omega)
theorem l2Join_ev (xs : List ByteArray) (hlen : xs.length ≤ 4194304) (ht : totS xs ≤ 8388608) : Ev (fun k => spec_l2Join.F k xs) (joinT [32] (xs.filter nonE)) := by
  unfold spec_l2Join.F
  have := l2Join_l0 xs hlen xs.length 0 (by omega) ⟨#[]⟩ (by rw [List.drop_zero, show (⟨#[]⟩ : ByteArray).size = 0 from rfl]; omega)
  refine Ev.bind this ((Ev.pure _).eq ?_)
  apply L_inj
  rw [List.drop_zero, (L_jn xs ⟨#[]⟩).2 (by unfold nonE; rw [beqS_self]; rfl), L_joinT]
theorem totS_filter (p : ByteArray → Bool) : ∀ xs : List ByteArray, totS (xs.filter p) ≤ totS xs
  | [] => Nat.le_refl _
  | x :: r => by
    have := totS_filter p r
    cases h : p x with
    | true => rw [List.filter_cons_of_pos h]; simp only [totS, List.map_cons, List.sum_cons] at this ⊢; omega
    | false => rw [List.filter_cons_of_neg (by simp [h])]; simp only [totS, List.map_cons, List.sum_cons] at this ⊢; omega
theorem spaced_ev (xs : List ByteArray) (hlen : xs.length ≤ 4194304) (ht : totS xs ≤ 8388608) : Ev (fun k => impl_spaced.F k xs) (joinT [32] (xs.filter nonE)) := by
  unfold impl_spaced.F
  have hq : ∀ x, x ∈ xs → Ev (fun _ => impl_spaced_1.F x) (beqS x ⟨#[]⟩) := fun x _ => Ev.pure _
  have hdel := delete_ev (d := (⟨#[]⟩ : ByteArray)) (p := fun x => beqS x ⟨#[]⟩) (q := fun _ x => impl_spaced_1.F x) (xs := xs) (l0 := slices_DeleteFunc_string_f134.l0) (fun k x0 x5 x6 => by rw [slices_DeleteFunc_string_f134.l0]) hq (by omega) (I := slices_IndexFunc_string_f134.F) (F := slices_DeleteFunc_string_f134.F)
    (idx_ev (d := (⟨#[]⟩ : ByteArray)) (p := fun x => beqS x ⟨#[]⟩) (q := fun _ x => impl_spaced_1.F x) (l0 := slices_IndexFunc_string_f134.l0) (fun k x0 x7 x8 => by rw [slices_IndexFunc_string_f134.l0]) hq (by omega) (fun k a0 => rfl)) (fun k a0 => rfl)
  refine Ev.bind hdel (Ev.bind0 ?_ (Ev.pure _))
  have hf : (xs.filter nonE).length ≤ xs.length := List.length_filter_le _ _
  exact xJoin_eq ⟨#[32]⟩ (xs.filter nonE) (by omega) (by have := totS_filter nonE xs; omega) (by decide)

/-! ### Names -/
def cs2 : ByteArray := ⟨#[44, 32]⟩
def invT (n : Name) : ByteArray :=
  let r1 := joinT [32] ([n.particle, n.family].filter nonE)
  let r2 := bif decide ((n.given.length : Int) > 0) || nonE n.suffix then (r1 ++ cs2) ++ joinT [32] n.given else r1
  bif nonE n.suffix then (r2 ++ cs2) ++ n.suffix else r2
theorem given_all {n : Name} (h : nameB n = true) : n.given.filter nonE = n.given := by
  unfold nameB at h
  simp only [Bool.and_eq_true] at h
  refine List.filter_eq_self.2 fun x hx => ?_
  have := List.all_eq_true.1 h.1 x hx
  unfold gw at this
  simp only [Bool.and_eq_true] at this
  exact nonE_pos (word_size this.1)
theorem small_parts {n : Name} (hs : smallN n) : n.given.length + totS n.given + n.particle.size + n.family.size + n.suffix.size ≤ 1048576 := hs
theorem tot2 (a b : ByteArray) : totS [a, b] = a.size + b.size := by simp [totS]
theorem r1_size (n : Name) : (joinT [32] ([n.particle, n.family].filter nonE)).size ≤ n.particle.size + n.family.size + 2 := by
  have h1 := joinT_size [32] ([n.particle, n.family].filter nonE)
  have h2 := totS_filter nonE [n.particle, n.family]
  have h3 : ([n.particle, n.family].filter nonE).length ≤ 2 := List.length_filter_le _ _
  rw [tot2] at h2
  simp only [List.length_singleton, Nat.one_mul] at h1
  omega
theorem gv_size (n : Name) : (joinT [32] n.given).size ≤ totS n.given + n.given.length := by
  have h1 := joinT_size [32] n.given
  simpa using h1
theorem invT_size (n : Name) (hs : smallN n) : (invT n).size ≤ 1048590 := by
  have h1 := r1_size n
  have h2 := gv_size n
  have h3 := small_parts hs
  have e2 : cs2.size = 2 := rfl
  unfold invT
  dsimp only
  cases nonE n.suffix <;> cases decide ((n.given.length : Int) > 0) <;> simp only [Bool.or_true, Bool.or_false, cond_true, cond_false, Bool.true_or, Bool.false_or, size_app, e2] <;> omega
theorem app_assoc (a b c : ByteArray) : (a ++ b) ++ c = a ++ (b ++ c) := by apply L_inj; simp only [L_append, List.append_assoc]
theorem specInv_ev (n : Name) (hs : smallN n) (hv : nameB n = true) : Ev (fun k => spec_l2Inverse.F k n) (invT n) := by
  have h3 := small_parts hs
  have h1 := r1_size n
  have h2 := gv_size n
  have hj := l2Join_ev [n.particle, n.family] (by simp) (by rw [tot2]; omega)
  have hg := l2Join_ev n.given (by omega) (by omega)
  rw [given_all hv] at hg
  have hg' : Ev (fun k => spec_l2Given.F k n) (joinT [32] n.given) := by unfold spec_l2Given.F; exact Ev.bind hg (Ev.pure _)
  unfold spec_l2Inverse.F invT
  refine Ev.bind hj ?_
  have e2 : (⟨#[44, 32]⟩ : ByteArray).size = 2 := rfl
  have hb : (!beqS n.suffix ⟨#[]⟩) = nonE n.suffix := rfl
  simp (disch := omega) only [hb, size_app, e2, cble]
  cases hx : decide ((n.given.length : Int) > 0) with
  | true =>
    simp only [cond_true, Bool.true_or]
    refine Ev.bind hg' ?_
    simp (disch := omega) only [size_app, e2, cble]
    cases nonE n.suffix <;> exact Ev.pure _
  | false =>
    cases nonE n.suffix with
    | false => exact Ev.pure _
    | true =>
      simp only [cond_true, cond_false, Bool.or_true]
      refine Ev.bind hg' ?_
      simp (disch := omega) only [size_app, e2, cble]
      exact Ev.pure _
theorem implInv_ev (n : Name) (hs : smallN n) : Ev (fun k => impl_inverseForm.F k n) (invT n) := by
  have h3 := small_parts hs
  have h1 := r1_size n
  have h2 := gv_size n
  have hj := spaced_ev [n.particle, n.family] (by simp) (by rw [tot2]; omega)
  have hg : strings_Join.F n.given ⟨#[32]⟩ = some (joinT [32] n.given) := xJoin_eq ⟨#[32]⟩ n.given (by omega) (by omega) (by decide)
  unfold impl_inverseForm.F invT
  refine Ev.bind hj ?_
  have e2 : (⟨#[44, 32]⟩ : ByteArray).size = 2 := rfl
  have hb : (!beqS n.suffix ⟨#[]⟩) = nonE n.suffix := rfl
  simp (disch := omega) only [hb, hg, Option.bind_some, size_app, e2, cble, app_assoc]
  cases decide ((n.given.length : Int) > 0) <;> cases nonE n.suffix <;> simp only [cond_true, cond_false, Bool.or_true, Bool.or_false, Bool.true_or, Bool.false_or, app_assoc] <;> exact Ev.pure _
def sc2 : List UInt8 := [59, 32]
def namesT (l : List Name) : ByteArray := joinT sc2 (l.map invT)
theorem tail_cons2 (x : List UInt8) (r : List (List UInt8)) : Lib.joinTail sc2 (x :: r) = sc2 ++ (x ++ Lib.joinTail sc2 r) := by simp [Lib.joinTail]
theorem specNamesT_l0 (xs : List Name) (hl : xs.length ≤ 4) (hs : ∀ n ∈ xs, smallN n) (hv : ∀ n ∈ xs, nameB n = true) : ∀ m i : Nat, i + m = xs.length → 1 ≤ i → ∀ s : ByteArray, s.size ≤ i * 1048600 →
    Ev (fun k => spec_l4Names.l0 k xs s i) ⟨(L s ++ Lib.joinTail sc2 (((xs.drop i).map invT).map L)).toArray⟩
  | 0, i, h, h1, s, hz => by
    rw [List.drop_eq_nil_of_le (by omega)]
    refine Ev.step (fun k => by rw [spec_l4Names.l0]) ?_
    simp (disch := omega) only [cneg]
    refine (Ev.pure _).eq ?_
    apply L_inj; rw [L_mk]; exact (List.append_nil _).symm
  | m + 1, i, h, h1, s, hz => by
    have hi : i < xs.length := by omega
    have hm := List.getElem_mem hi
    have hq := invT_size xs[i] (hs _ hm)
    have e2 : (⟨#[59, 32]⟩ : ByteArray).size = 2 := rfl
    have hz2 : s.size ≤ 4194400 := by have : i * 1048600 ≤ 4 * 1048600 := Nat.mul_le_mul_right _ (by omega); omega
    refine Ev.step (fun k => by rw [spec_l4Names.l0]) ?_
    simp (disch := omega) only [cpos, Int.toNat_natCast, getD_at hi, size_app, e2, cble]
    refine Ev.bind (specInv_ev _ (hs _ hm) (hv _ hm)) ?_
    simp (disch := omega) only [cble, wrap_in]
    have ih := specNamesT_l0 xs hl hs hv m (i + 1) (by omega) (by omega) ((s ++ ⟨#[59, 32]⟩) ++ invT xs[i]) (by rw [size_app, size_app, e2, Nat.add_mul]; omega)
    refine Ev.eq ih ?_
    rw [List.drop_eq_getElem_cons hi, List.map_cons, List.map_cons, tail_cons2, L_append, L_append]
    simp only [List.append_assoc]
    rfl
theorem specNamesT_ev (xs : List Name) (hl : xs.length ≤ 4) (hs : ∀ n ∈ xs, smallN n) (hv : ∀ n ∈ xs, nameB n = true) : Ev (fun k => spec_l4Names.F k xs) (namesT xs) := by
  unfold spec_l4Names.F
  have e0 : (⟨#[]⟩ : ByteArray).size = 0 := rfl
  refine Ev.bind (a := namesT xs) ?_ (Ev.pure _)
  refine Ev.step (fun k => by rw [spec_l4Names.l0]) ?_
  cases xs with
  | nil => exact Ev.pure _
  | cons n r =>
    have hm : n ∈ n :: r := List.mem_cons_self
    have hq := invT_size n (hs _ hm)
    simp (disch := first | omega | (simp only [List.length_cons]; omega)) only [cpos, cneg, show ((0 : Int).toNat) = 0 from rfl, List.getD_cons_zero]
    refine Ev.bind (specInv_ev _ (hs _ hm) (hv _ hm)) ?_
    simp (disch := omega) only [cble, wrap_in, e0]
    have := specNamesT_l0 (n :: r) hl hs hv r.length 1 (by simp; omega) (by omega) (⟨#[]⟩ ++ invT n) (by rw [size_app, e0]; omega)
    refine Ev.eq this ?_
    unfold namesT joinT
    rw [empty_app, List.drop_one, List.tail_cons, List.map_cons, List.map_cons, Lib.join_cons]
theorem namesT_l0 (xs : List Name) (hl : xs.length ≤ 4) (hs : ∀ n ∈ xs, smallN n) : ∀ m i : Nat, i + m = xs.length → ∀ acc : List ByteArray, acc.length = i → Ev (fun k => impl_namesText.l0 k acc xs xs.length i) (acc ++ (xs.drop i).map invT)
  | 0, i, h, acc, ha => by
    rw [List.drop_eq_nil_of_le (by omega), List.map_nil, List.append_nil]
    refine Ev.step (fun k => by rw [impl_namesText.l0]) ?_
    simp (disch := omega) only [cneg]
    exact Ev.pure _
  | m + 1, i, h, acc, ha => by
    have hi : i < xs.length := by omega
    have hr : ∀ z : ByteArray, room (acc.length + ([z] : List ByteArray).length) .str = true := fun z => room_s (by simp; omega)
    refine Ev.step (fun k => by rw [impl_namesText.l0]) ?_
    simp (disch := omega) only [cpos, Int.toNat_natCast, getD_at hi]
    refine Ev.bind (implInv_ev _ (hs _ (List.getElem_mem hi))) ?_
    simp (disch := omega) only [hr, cond_true, wrap_in]
    have ih := namesT_l0 xs hl hs m (i + 1) (by omega) (acc ++ [invT xs[i]]) (by simp; omega)
    refine Ev.eq ih ?_
    rw [List.drop_eq_getElem_cons hi, List.map_cons]; simp
theorem totS_inv : ∀ xs : List Name, (∀ n ∈ xs, smallN n) → totS (xs.map invT) ≤ xs.length * 1048600
  | [], _ => by simp [totS]
  | n :: r, h => by
    have h1 := totS_inv r fun x hx => h x (List.mem_cons_of_mem _ hx)
    have h2 := invT_size n (h n List.mem_cons_self)
    simp only [totS, List.map_cons, List.sum_cons, List.length_cons] at h1 ⊢
    rw [Nat.add_mul]; omega
theorem namesT_ev (xs : List Name) (hl : xs.length ≤ 4) (hs : ∀ n ∈ xs, smallN n) : Ev (fun k => impl_namesText.F k xs) (namesT xs) := by
  unfold impl_namesText.F
  have h0 := namesT_l0 xs hl hs xs.length 0 (by omega) [] rfl
  refine Ev.bind h0 (Ev.bind0 ?_ (Ev.pure _))
  rw [List.drop_zero, List.nil_append]
  have ht := totS_inv xs hs
  have h4 : xs.length * 1048600 ≤ 4 * 1048600 := Nat.mul_le_mul_right _ hl
  exact xJoin_eq ⟨#[59, 32]⟩ (xs.map invT) (by simp; omega) (by omega) (by decide)

/-! ### Numbers -/
def numT (n : Nat) : ByteArray := ⟨(Lib.decDigits n).toArray⟩
def D10 : ByteArray := ⟨#[48, 49, 50, 51, 52, 53, 54, 55, 56, 57]⟩
theorem D10_at : ∀ i : Fin 10, L (D10.extract i.val (i.val + 1)) = [UInt8.ofNat (48 + i.val)] := by decide +kernel
theorem D10_ext {i : Nat} (h : i < 10) : D10.extract i (i + 1) = ⟨#[UInt8.ofNat (48 + i)]⟩ := by
  apply L_inj; exact (D10_at ⟨i, h⟩).trans rfl
theorem numT_size (n : Nat) : (numT n).size ≤ n + 1 := by
  induction n using Nat.strongRecOn with
  | _ n ih =>
    rw [← L_size]
    unfold numT
    rw [L_mk, Lib.decDigits]
    split
    · simp
    · rename_i h
      have := ih (n / 10) (by omega)
      rw [← L_size] at this
      unfold numT at this
      rw [L_mk] at this
      rw [List.length_append, List.length_singleton]
      omega
theorem l1Num_ev (n : Nat) (hn : n ≤ 1000000) : Ev (fun k => spec_l1Num.F k (n : Int)) (numT n) := by
  induction n using Nat.strongRecOn with
  | _ n ih =>
    have hD : (⟨#[48, 49, 50, 51, 52, 53, 54, 55, 56, 57]⟩ : ByteArray) = D10 := rfl
    have hz : D10.size = 10 := rfl
    have h10 : ((10 : Int) == 0) = false := rfl
    refine Ev.step (fun k => by rw [spec_l1Num.F]) ?_
    by_cases h : n < 10
    · have e : ((n : Int) + 1).toNat = n + 1 := by omega
      simp (disch := omega) only [cneg, cpos, wrap_in, hD, hz, e, Int.toNat_natCast, D10_ext h]
      refine (Ev.pure _).eq ?_
      unfold numT
      rw [Lib.decDigits, dif_pos h]
    · have hd : Int.tdiv (n : Int) 10 = ((n / 10 : Nat) : Int) := rfl
      have hm : Int.tmod (n : Int) 10 = ((n % 10 : Nat) : Int) := rfl
      have h9 : n % 10 < 10 := Nat.mod_lt _ (by decide)
      have e : (((n % 10 : Nat) : Int) + 1).toNat = n % 10 + 1 := by omega
      have hsz := numT_size (n / 10)
      have e1 : (⟨#[UInt8.ofNat (48 + n % 10)]⟩ : ByteArray).size = 1 := rfl
      simp (disch := omega) only [cneg, h10, cond_false, hd, hm, wrap_in]
      refine Ev.bind (ih (n / 10) (by omega) (by omega)) ?_
      simp (disch := omega) only [cpos, hD, hz, e, Int.toNat_natCast, D10_ext h9, cble, e1]
      refine (Ev.pure _).eq ?_
      apply L_inj
      rw [L_append]
      unfold numT
      rw [L_mk, L_mk, Lib.decDigits.eq_def n, dif_neg h]
      rfl
theorem itoa_ev (n : Nat) (hn : n ≤ 1000000) : strconv_Itoa.F (n : Int) = some (numT n) := by
  unfold strconv_Itoa.F xItoaN
  rw [decide_eq_true (by omega : -9223372036854775808 ≤ (n : Int)), decide_eq_true (by omega : (n : Int) ≤ 9223372036854775807)]
  simp only [Bool.and_self, cond_true, Lib.itoa, if_neg (by omega : ¬ (n : Int) < 0), Int.toNat_natCast]
  rfl
theorem pad_l0 (w : Nat) (hw : w ≤ 10) : ∀ (d : Nat) (s : ByteArray), d = w - s.size → s.size ≤ 1000001 → ∃ r, Ev (fun k => spec_l3Pad.l0 k w s) r ∧ Ev (fun k => impl_digits.l0 k w s) r ∧ r.size ≤ 1000001
  | 0, s, h, hs => by
    refine ⟨s, Ev.step (fun k => by rw [spec_l3Pad.l0]) ?_, Ev.step (fun k => by rw [impl_digits.l0]) ?_, hs⟩ <;>
      (simp (disch := omega) only [cneg]; exact Ev.pure _)
  | d + 1, s, h, hs => by
    have e1 : (⟨#[48]⟩ : ByteArray).size = 1 := rfl
    obtain ⟨r, r1, r2, r3⟩ := pad_l0 w hw d (⟨#[48]⟩ ++ s) (by rw [size_app, e1]; omega) (by rw [size_app, e1]; omega)
    refine ⟨r, Ev.step (fun k => by rw [spec_l3Pad.l0]) ?_, Ev.step (fun k => by rw [impl_digits.l0]) ?_, r3⟩
    · simp (disch := omega) only [cpos, e1, cble]; exact r1
    · simp (disch := omega) only [cpos, e1, cble]; exact r2
theorem pad_ev (n w : Nat) (hn : n ≤ 1000000) (hw : w ≤ 10) : ∃ r, Ev (fun k => spec_l3Pad.F k n w) r ∧ Ev (fun k => impl_digits.F k n w) r ∧ r.size ≤ 1000001 := by
  obtain ⟨r, r1, r2, r3⟩ := pad_l0 w hw _ (numT n) rfl (by have := numT_size n; omega)
  refine ⟨r, ?_, ?_, r3⟩
  · unfold spec_l3Pad.F; exact Ev.bind (l1Num_ev n hn) (Ev.bind r1 (Ev.pure _))
  · unfold impl_digits.F; exact Ev.bind0 (itoa_ev n hn) (Ev.bind r2 (Ev.pure _))

/-! ### Dates -/
def ole (f : Option Int) : Prop := ∀ r, f = some r → r ≤ 100
theorem ole_cond {b : Bool} {x y : Option Int} (hx : ole x) (hy : ole y) : ole (cond b x y) := by cases b <;> assumption
theorem ole_none : ole none := fun r h => by cases h
theorem ole_some {n : Int} (h : n ≤ 100) : ole (some n) := fun r e => by cases e; exact h
theorem days_le {y m r : Int} (h : impl_daysInMonth.F y m = some r) : r ≤ 100 := by
  refine (?_ : ole (impl_daysInMonth.F y m)) r h
  unfold impl_daysInMonth.F
  repeat first | exact ole_none | exact ole_some (by decide) | apply ole_cond
theorem dateB_rng {d : Date} (h : dateB d = true) : 0 ≤ d.y ∧ d.y ≤ 2999 ∧ (d.y ≠ 0 → 0 ≤ d.m ∧ d.m ≤ 12 ∧ 0 ≤ d.d ∧ d.d ≤ 100) := by
  have h1 := isDate_ev d
  rw [h] at h1
  unfold impl_IsValidDate.F at h1
  cases hz : (d.y == 0 && (d.m == 0 && (d.d == 0 && d.c == false))) with
  | true =>
    simp only [Bool.and_eq_true, beq_iff_eq] at hz
    exact ⟨by omega, by omega, fun hn => absurd hz.1 hn⟩
  | false =>
    rw [hz] at h1
    simp only [cond_false, inside_ev, Option.bind_some] at h1
    cases hy : (decide (d.y ≥ 1) && decide (d.y ≤ 2999)) with
    | false => rw [hy] at h1; cases h1
    | true =>
      rw [hy] at h1
      cases hm : (decide (d.m ≥ 0) && decide (d.m ≤ 12)) with
      | false => rw [hm] at h1; cases h1
      | true =>
        rw [hm] at h1
        simp only [Bool.and_eq_true, decide_eq_true_eq] at hy hm
        obtain ⟨r, r1, r2⟩ := days_eq d.y d.m (by omega)
        have hr : r ≤ 100 := days_le r2
        rw [r2] at h1
        simp only [Bool.not_true, cond_false, Option.bind_some, inside_ev] at h1
        refine ⟨by omega, by omega, fun _ => ⟨by omega, by omega, ?_⟩⟩
        cases hc : d.c <;> rw [hc] at h1 <;> simp only [cond_true, cond_false] at h1 <;> cases h2 : (d.m == 0) <;> (have h3 : (d.m != 0) = !(d.m == 0) := rfl) <;> simp only [h3, h2, Bool.not_true, Bool.not_false, cond_true, cond_false, Option.some.injEq, beq_iff_eq, Bool.and_eq_true, decide_eq_true_eq] at h1 <;> first | omega | (cases h1; done)
def dateX (c m d : Bool) (ry rm rd : ByteArray) : ByteArray :=
  let r2 := bif m then (ry ++ ⟨#[45]⟩) ++ rm else ry
  let r3 := bif d then (r2 ++ ⟨#[45]⟩) ++ rd else r2
  bif c then ⟨#[99]⟩ ++ r3 else r3
theorem dateT_ev (d : Date) (h : dateB d = true) (hy : d.y ≠ 0) : ∃ r, Ev (fun k => spec_l3Text.F k d) r ∧ Ev (fun k => impl_formatDate.F k d) r := by
  obtain ⟨h1, h2, h3⟩ := dateB_rng h
  obtain ⟨h4, h5, h6, h7⟩ := h3 hy
  obtain ⟨ry, y1, y2, y3⟩ := pad_ev d.y.toNat 4 (by omega) (by omega)
  obtain ⟨rm, m1, m2, m3⟩ := pad_ev d.m.toNat 2 (by omega) (by omega)
  obtain ⟨rd, d1, d2, d3⟩ := pad_ev d.d.toNat 2 (by omega) (by omega)
  rw [Int.toNat_of_nonneg h1] at y1 y2
  replace y1 : Ev (fun k => spec_l3Pad.F k d.y 4) ry := y1
  replace y2 : Ev (fun k => impl_digits.F k d.y 4) ry := y2
  rw [Int.toNat_of_nonneg h4] at m1 m2
  replace m1 : Ev (fun k => spec_l3Pad.F k d.m 2) rm := m1
  replace m2 : Ev (fun k => impl_digits.F k d.m 2) rm := m2
  rw [Int.toNat_of_nonneg h6] at d1 d2
  replace d1 : Ev (fun k => spec_l3Pad.F k d.d 2) rd := d1
  replace d2 : Ev (fun k => impl_digits.F k d.d 2) rd := d2
  have e45 : (⟨#[45]⟩ : ByteArray).size = 1 := rfl
  have e99 : (⟨#[99]⟩ : ByteArray).size = 1 := rfl
  unfold spec_l3Text.F impl_formatDate.F
  simp (disch := omega) only [cne]
  refine ⟨dateX d.c (decide (d.m > 0)) (decide (d.d > 0)) ry rm rd, ?_, ?_⟩
  all_goals
    unfold dateX
    dsimp only
    by_cases hm : d.m > 0 <;> by_cases hd : d.d > 0 <;> cases d.c
    all_goals
      simp (disch := omega) only [cpos, cneg, cond_true, cond_false]
      repeat (first | exact (Ev.pure _).eq (by apply L_inj; simp only [L_append, List.append_assoc]) | refine Ev.bind y1 ?_ | refine Ev.bind m1 ?_ | refine Ev.bind d1 ?_ | refine Ev.bind y2 ?_ | refine Ev.bind m2 ?_ | refine Ev.bind d2 ?_ | simp (disch := omega) only [size_app, e45, e99, cble])

/-! ### Fields -/
theorem fw_0_1 : beqS (⟨#[97, 117, 116, 104, 111, 114, 115]⟩ : ByteArray) (⟨#[101, 100, 105, 116, 111, 114, 115]⟩ : ByteArray) = false := by rw [beqS_eq]; decide
theorem fw_0_2 : beqS (⟨#[97, 117, 116, 104, 111, 114, 115]⟩ : ByteArray) (⟨#[116, 105, 116, 108, 101]⟩ : ByteArray) = false := by rw [beqS_eq]; decide
theorem fw_0_3 : beqS (⟨#[97, 117, 116, 104, 111, 114, 115]⟩ : ByteArray) (⟨#[99, 111, 110, 116, 97, 105, 110, 101, 114]⟩ : ByteArray) = false := by rw [beqS_eq]; decide
theorem fw_0_4 : beqS (⟨#[97, 117, 116, 104, 111, 114, 115]⟩ : ByteArray) (⟨#[112, 117, 98, 108, 105, 115, 104, 101, 114]⟩ : ByteArray) = false := by rw [beqS_eq]; decide
theorem fw_0_5 : beqS (⟨#[97, 117, 116, 104, 111, 114, 115]⟩ : ByteArray) (⟨#[100, 97, 116, 101]⟩ : ByteArray) = false := by rw [beqS_eq]; decide
theorem fw_0_6 : beqS (⟨#[97, 117, 116, 104, 111, 114, 115]⟩ : ByteArray) (⟨#[118, 111, 108, 117, 109, 101]⟩ : ByteArray) = false := by rw [beqS_eq]; decide
theorem fw_0_7 : beqS (⟨#[97, 117, 116, 104, 111, 114, 115]⟩ : ByteArray) (⟨#[112, 97, 103, 101, 115]⟩ : ByteArray) = false := by rw [beqS_eq]; decide
theorem fw_1_0 : beqS (⟨#[101, 100, 105, 116, 111, 114, 115]⟩ : ByteArray) (⟨#[97, 117, 116, 104, 111, 114, 115]⟩ : ByteArray) = false := by rw [beqS_eq]; decide
theorem fw_1_2 : beqS (⟨#[101, 100, 105, 116, 111, 114, 115]⟩ : ByteArray) (⟨#[116, 105, 116, 108, 101]⟩ : ByteArray) = false := by rw [beqS_eq]; decide
theorem fw_1_3 : beqS (⟨#[101, 100, 105, 116, 111, 114, 115]⟩ : ByteArray) (⟨#[99, 111, 110, 116, 97, 105, 110, 101, 114]⟩ : ByteArray) = false := by rw [beqS_eq]; decide
theorem fw_1_4 : beqS (⟨#[101, 100, 105, 116, 111, 114, 115]⟩ : ByteArray) (⟨#[112, 117, 98, 108, 105, 115, 104, 101, 114]⟩ : ByteArray) = false := by rw [beqS_eq]; decide
theorem fw_1_5 : beqS (⟨#[101, 100, 105, 116, 111, 114, 115]⟩ : ByteArray) (⟨#[100, 97, 116, 101]⟩ : ByteArray) = false := by rw [beqS_eq]; decide
theorem fw_1_6 : beqS (⟨#[101, 100, 105, 116, 111, 114, 115]⟩ : ByteArray) (⟨#[118, 111, 108, 117, 109, 101]⟩ : ByteArray) = false := by rw [beqS_eq]; decide
theorem fw_1_7 : beqS (⟨#[101, 100, 105, 116, 111, 114, 115]⟩ : ByteArray) (⟨#[112, 97, 103, 101, 115]⟩ : ByteArray) = false := by rw [beqS_eq]; decide
theorem fw_2_0 : beqS (⟨#[116, 105, 116, 108, 101]⟩ : ByteArray) (⟨#[97, 117, 116, 104, 111, 114, 115]⟩ : ByteArray) = false := by rw [beqS_eq]; decide
theorem fw_2_1 : beqS (⟨#[116, 105, 116, 108, 101]⟩ : ByteArray) (⟨#[101, 100, 105, 116, 111, 114, 115]⟩ : ByteArray) = false := by rw [beqS_eq]; decide
theorem fw_2_3 : beqS (⟨#[116, 105, 116, 108, 101]⟩ : ByteArray) (⟨#[99, 111, 110, 116, 97, 105, 110, 101, 114]⟩ : ByteArray) = false := by rw [beqS_eq]; decide
theorem fw_2_4 : beqS (⟨#[116, 105, 116, 108, 101]⟩ : ByteArray) (⟨#[112, 117, 98, 108, 105, 115, 104, 101, 114]⟩ : ByteArray) = false := by rw [beqS_eq]; decide
theorem fw_2_5 : beqS (⟨#[116, 105, 116, 108, 101]⟩ : ByteArray) (⟨#[100, 97, 116, 101]⟩ : ByteArray) = false := by rw [beqS_eq]; decide
theorem fw_2_6 : beqS (⟨#[116, 105, 116, 108, 101]⟩ : ByteArray) (⟨#[118, 111, 108, 117, 109, 101]⟩ : ByteArray) = false := by rw [beqS_eq]; decide
theorem fw_2_7 : beqS (⟨#[116, 105, 116, 108, 101]⟩ : ByteArray) (⟨#[112, 97, 103, 101, 115]⟩ : ByteArray) = false := by rw [beqS_eq]; decide
theorem fw_3_0 : beqS (⟨#[99, 111, 110, 116, 97, 105, 110, 101, 114]⟩ : ByteArray) (⟨#[97, 117, 116, 104, 111, 114, 115]⟩ : ByteArray) = false := by rw [beqS_eq]; decide
theorem fw_3_1 : beqS (⟨#[99, 111, 110, 116, 97, 105, 110, 101, 114]⟩ : ByteArray) (⟨#[101, 100, 105, 116, 111, 114, 115]⟩ : ByteArray) = false := by rw [beqS_eq]; decide
theorem fw_3_2 : beqS (⟨#[99, 111, 110, 116, 97, 105, 110, 101, 114]⟩ : ByteArray) (⟨#[116, 105, 116, 108, 101]⟩ : ByteArray) = false := by rw [beqS_eq]; decide
theorem fw_3_4 : beqS (⟨#[99, 111, 110, 116, 97, 105, 110, 101, 114]⟩ : ByteArray) (⟨#[112, 117, 98, 108, 105, 115, 104, 101, 114]⟩ : ByteArray) = false := by rw [beqS_eq]; decide
theorem fw_3_5 : beqS (⟨#[99, 111, 110, 116, 97, 105, 110, 101, 114]⟩ : ByteArray) (⟨#[100, 97, 116, 101]⟩ : ByteArray) = false := by rw [beqS_eq]; decide
theorem fw_3_6 : beqS (⟨#[99, 111, 110, 116, 97, 105, 110, 101, 114]⟩ : ByteArray) (⟨#[118, 111, 108, 117, 109, 101]⟩ : ByteArray) = false := by rw [beqS_eq]; decide
theorem fw_3_7 : beqS (⟨#[99, 111, 110, 116, 97, 105, 110, 101, 114]⟩ : ByteArray) (⟨#[112, 97, 103, 101, 115]⟩ : ByteArray) = false := by rw [beqS_eq]; decide
theorem fw_4_0 : beqS (⟨#[112, 117, 98, 108, 105, 115, 104, 101, 114]⟩ : ByteArray) (⟨#[97, 117, 116, 104, 111, 114, 115]⟩ : ByteArray) = false := by rw [beqS_eq]; decide
theorem fw_4_1 : beqS (⟨#[112, 117, 98, 108, 105, 115, 104, 101, 114]⟩ : ByteArray) (⟨#[101, 100, 105, 116, 111, 114, 115]⟩ : ByteArray) = false := by rw [beqS_eq]; decide
theorem fw_4_2 : beqS (⟨#[112, 117, 98, 108, 105, 115, 104, 101, 114]⟩ : ByteArray) (⟨#[116, 105, 116, 108, 101]⟩ : ByteArray) = false := by rw [beqS_eq]; decide
theorem fw_4_3 : beqS (⟨#[112, 117, 98, 108, 105, 115, 104, 101, 114]⟩ : ByteArray) (⟨#[99, 111, 110, 116, 97, 105, 110, 101, 114]⟩ : ByteArray) = false := by rw [beqS_eq]; decide
theorem fw_4_5 : beqS (⟨#[112, 117, 98, 108, 105, 115, 104, 101, 114]⟩ : ByteArray) (⟨#[100, 97, 116, 101]⟩ : ByteArray) = false := by rw [beqS_eq]; decide
theorem fw_4_6 : beqS (⟨#[112, 117, 98, 108, 105, 115, 104, 101, 114]⟩ : ByteArray) (⟨#[118, 111, 108, 117, 109, 101]⟩ : ByteArray) = false := by rw [beqS_eq]; decide
theorem fw_4_7 : beqS (⟨#[112, 117, 98, 108, 105, 115, 104, 101, 114]⟩ : ByteArray) (⟨#[112, 97, 103, 101, 115]⟩ : ByteArray) = false := by rw [beqS_eq]; decide
theorem fw_5_0 : beqS (⟨#[100, 97, 116, 101]⟩ : ByteArray) (⟨#[97, 117, 116, 104, 111, 114, 115]⟩ : ByteArray) = false := by rw [beqS_eq]; decide
theorem fw_5_1 : beqS (⟨#[100, 97, 116, 101]⟩ : ByteArray) (⟨#[101, 100, 105, 116, 111, 114, 115]⟩ : ByteArray) = false := by rw [beqS_eq]; decide
theorem fw_5_2 : beqS (⟨#[100, 97, 116, 101]⟩ : ByteArray) (⟨#[116, 105, 116, 108, 101]⟩ : ByteArray) = false := by rw [beqS_eq]; decide
theorem fw_5_3 : beqS (⟨#[100, 97, 116, 101]⟩ : ByteArray) (⟨#[99, 111, 110, 116, 97, 105, 110, 101, 114]⟩ : ByteArray) = false := by rw [beqS_eq]; decide
theorem fw_5_4 : beqS (⟨#[100, 97, 116, 101]⟩ : ByteArray) (⟨#[112, 117, 98, 108, 105, 115, 104, 101, 114]⟩ : ByteArray) = false := by rw [beqS_eq]; decide
theorem fw_5_6 : beqS (⟨#[100, 97, 116, 101]⟩ : ByteArray) (⟨#[118, 111, 108, 117, 109, 101]⟩ : ByteArray) = false := by rw [beqS_eq]; decide
theorem fw_5_7 : beqS (⟨#[100, 97, 116, 101]⟩ : ByteArray) (⟨#[112, 97, 103, 101, 115]⟩ : ByteArray) = false := by rw [beqS_eq]; decide
theorem fw_6_0 : beqS (⟨#[118, 111, 108, 117, 109, 101]⟩ : ByteArray) (⟨#[97, 117, 116, 104, 111, 114, 115]⟩ : ByteArray) = false := by rw [beqS_eq]; decide
theorem fw_6_1 : beqS (⟨#[118, 111, 108, 117, 109, 101]⟩ : ByteArray) (⟨#[101, 100, 105, 116, 111, 114, 115]⟩ : ByteArray) = false := by rw [beqS_eq]; decide
theorem fw_6_2 : beqS (⟨#[118, 111, 108, 117, 109, 101]⟩ : ByteArray) (⟨#[116, 105, 116, 108, 101]⟩ : ByteArray) = false := by rw [beqS_eq]; decide
theorem fw_6_3 : beqS (⟨#[118, 111, 108, 117, 109, 101]⟩ : ByteArray) (⟨#[99, 111, 110, 116, 97, 105, 110, 101, 114]⟩ : ByteArray) = false := by rw [beqS_eq]; decide
theorem fw_6_4 : beqS (⟨#[118, 111, 108, 117, 109, 101]⟩ : ByteArray) (⟨#[112, 117, 98, 108, 105, 115, 104, 101, 114]⟩ : ByteArray) = false := by rw [beqS_eq]; decide
theorem fw_6_5 : beqS (⟨#[118, 111, 108, 117, 109, 101]⟩ : ByteArray) (⟨#[100, 97, 116, 101]⟩ : ByteArray) = false := by rw [beqS_eq]; decide
theorem fw_6_7 : beqS (⟨#[118, 111, 108, 117, 109, 101]⟩ : ByteArray) (⟨#[112, 97, 103, 101, 115]⟩ : ByteArray) = false := by rw [beqS_eq]; decide
theorem fw_7_0 : beqS (⟨#[112, 97, 103, 101, 115]⟩ : ByteArray) (⟨#[97, 117, 116, 104, 111, 114, 115]⟩ : ByteArray) = false := by rw [beqS_eq]; decide
theorem fw_7_1 : beqS (⟨#[112, 97, 103, 101, 115]⟩ : ByteArray) (⟨#[101, 100, 105, 116, 111, 114, 115]⟩ : ByteArray) = false := by rw [beqS_eq]; decide
theorem fw_7_2 : beqS (⟨#[112, 97, 103, 101, 115]⟩ : ByteArray) (⟨#[116, 105, 116, 108, 101]⟩ : ByteArray) = false := by rw [beqS_eq]; decide
theorem fw_7_3 : beqS (⟨#[112, 97, 103, 101, 115]⟩ : ByteArray) (⟨#[99, 111, 110, 116, 97, 105, 110, 101, 114]⟩ : ByteArray) = false := by rw [beqS_eq]; decide
theorem fw_7_4 : beqS (⟨#[112, 97, 103, 101, 115]⟩ : ByteArray) (⟨#[112, 117, 98, 108, 105, 115, 104, 101, 114]⟩ : ByteArray) = false := by rw [beqS_eq]; decide
theorem fw_7_5 : beqS (⟨#[112, 97, 103, 101, 115]⟩ : ByteArray) (⟨#[100, 97, 116, 101]⟩ : ByteArray) = false := by rw [beqS_eq]; decide
theorem fw_7_6 : beqS (⟨#[112, 97, 103, 101, 115]⟩ : ByteArray) (⟨#[118, 111, 108, 117, 109, 101]⟩ : ByteArray) = false := by rw [beqS_eq]; decide

theorem parts_of {e : Entry} (h : entryB e = true) : namesB e.authors = true ∧ namesB e.editors = true ∧ dateB e.date = true ∧ 0 ≤ e.volume ∧ e.volume ≤ 9999 := by
  unfold entryB insI at h
  simp only [Bool.and_eq_true, decide_eq_true_eq] at h
  exact ⟨h.2.2.1, h.2.2.2.1, h.2.2.2.2.2.2.2.2.1, h.2.2.2.2.2.2.2.2.2.1.1, h.2.2.2.2.2.2.2.2.2.1.2⟩
theorem names_of {l : List Name} (h : namesB l = true) : l.length ≤ 4 ∧ ∀ n ∈ l, nameB n = true := by
  unfold namesB at h
  simp only [Bool.and_eq_true, decide_eq_true_eq] at h
  exact ⟨h.2, fun n hn => List.all_eq_true.1 h.1 n hn⟩
def fw8 : List ByteArray := [⟨#[97, 117, 116, 104, 111, 114, 115]⟩, ⟨#[101, 100, 105, 116, 111, 114, 115]⟩, ⟨#[116, 105, 116, 108, 101]⟩, ⟨#[99, 111, 110, 116, 97, 105, 110, 101, 114]⟩, ⟨#[112, 117, 98, 108, 105, 115, 104, 101, 114]⟩, ⟨#[100, 97, 116, 101]⟩, ⟨#[118, 111, 108, 117, 109, 101]⟩, ⟨#[112, 97, 103, 101, 115]⟩]
/-- What the fields' texts ask for. -/
def okF (e : Entry) : Prop := namesB e.authors = true ∧ namesB e.editors = true ∧ dateB e.date = true ∧ 0 ≤ e.volume ∧ e.volume ≤ 9999 ∧ totNs e.authors ≤ 1048576 ∧ totNs e.editors ≤ 1048576
theorem okF_of {e : Entry} (hs : smallE e) (hv : entryB e = true) : okF e := by
  obtain ⟨ha, he, hd, v0, v1⟩ := parts_of hv
  exact ⟨ha, he, hd, v0, v1, smallE_a hs, smallE_e hs⟩
theorem field_ev (e : Entry) (hk : okF e) (f : ByteArray) (hf : f ∈ fw8) : ∃ t b, Ev (fun k => spec_l4Field.F k e f) (t, b) ∧ Ev (fun k => impl_fieldText.F k e f) t := by
  obtain ⟨ha, he, hd, v0, v1, ta, te⟩ := hk
  obtain ⟨a1, a2⟩ := names_of ha
  obtain ⟨e1, e2⟩ := names_of he
  have sa : ∀ n ∈ e.authors, smallN n := fun n hn => smallNs_at ta hn
  have se : ∀ n ∈ e.editors, smallN n := fun n hn => smallNs_at te hn
  unfold fw8 at hf
  simp only [List.mem_cons, List.not_mem_nil, or_false] at hf
  unfold spec_l4Field.F impl_fieldText.F
  rcases hf with rfl | rfl | rfl | rfl | rfl | rfl | rfl | rfl
  all_goals simp only [fw_0_1, fw_0_2, fw_0_3, fw_0_4, fw_0_5, fw_0_6, fw_0_7, fw_1_0, fw_1_2, fw_1_3, fw_1_4, fw_1_5, fw_1_6, fw_1_7, fw_2_0, fw_2_1, fw_2_3, fw_2_4, fw_2_5, fw_2_6, fw_2_7, fw_3_0, fw_3_1, fw_3_2, fw_3_4, fw_3_5, fw_3_6, fw_3_7, fw_4_0, fw_4_1, fw_4_2, fw_4_3, fw_4_5, fw_4_6, fw_4_7, fw_5_0, fw_5_1, fw_5_2, fw_5_3, fw_5_4, fw_5_6, fw_5_7, fw_6_0, fw_6_1, fw_6_2, fw_6_3, fw_6_4, fw_6_5, fw_6_7, fw_7_0, fw_7_1, fw_7_2, fw_7_3, fw_7_4, fw_7_5, fw_7_6, beqS_self, cond_true, cond_false]
  · exact ⟨_, _, Ev.bind (specNamesT_ev _ a1 sa a2) (Ev.pure _), Ev.bind (namesT_ev _ a1 sa) (Ev.pure _)⟩
  · exact ⟨_, _, Ev.bind (specNamesT_ev _ e1 se e2) (Ev.pure _), Ev.bind (namesT_ev _ e1 se) (Ev.pure _)⟩
  · exact ⟨_, _, Ev.pure _, Ev.pure _⟩
  · exact ⟨_, _, Ev.pure _, Ev.pure _⟩
  · exact ⟨_, _, Ev.pure _, Ev.pure _⟩
  · obtain ⟨y0, _, _⟩ := dateB_rng hd
    by_cases hy : e.date.y = 0
    · simp (disch := omega) only [ceq, cneg]
      exact ⟨_, _, Ev.pure _, Ev.pure _⟩
    · obtain ⟨r, r1, r2⟩ := dateT_ev e.date hd hy
      simp (disch := omega) only [cne, cpos]
      exact ⟨_, _, Ev.bind r1 (Ev.pure _), Ev.bind r2 (Ev.pure _)⟩
  · by_cases hy : e.volume = 0
    · simp (disch := omega) only [ceq, cneg]
      exact ⟨_, _, Ev.pure _, Ev.pure _⟩
    · have n1 := l1Num_ev e.volume.toNat (by omega)
      have n2 := itoa_ev e.volume.toNat (by omega)
      rw [Int.toNat_of_nonneg v0] at n1 n2
      simp (disch := omega) only [cne, cpos, n2, Option.bind_some]
      exact ⟨_, _, Ev.bind n1 (Ev.pure _), Ev.pure _⟩
  · exact ⟨_, _, Ev.pure _, Ev.pure _⟩
end Go.Proofs.YtjbjijgncebbbaaGreatDoor
end
section
/- Entries with what they inherit: both ways answer alike. -/
namespace Go.Proofs.YtjbjijgncebbbaaGreatDoor
open Go.Gx
set_option linter.unusedVariables false
set_option linter.unusedSimpArgs false

theorem room_20 {n : Nat} (h : n ≤ 2097152) : room n .str = true := by
  show Nat.ble (n * 16) 140737488355328 = true
  exact Nat.ble_eq_true_of_le (by omega)
theorem room_n20 {n : Nat} (h : n ≤ 2097152) : room n .name = true := by
  show Nat.ble (n * 72) 140737488355328 = true
  exact Nat.ble_eq_true_of_le (by omega)
theorem own_l0 (xs : List Name) (ht : totNs xs ≤ 1048576) : ∀ n i : Nat, i + n = xs.length → Ev (fun k => spec_l2Own.l0 k xs (xs.take i) i) xs ∧ Ev (fun k => impl_newNames.l0 k (xs.take i) xs xs.length i) xs
  | 0, i, h => by
    have hl := smallNs_len ht
    refine ⟨Ev.step (fun k => by rw [spec_l2Own.l0]) ?_, Ev.step (fun k => by rw [impl_newNames.l0]) ?_⟩ <;>
      (simp (disch := omega) only [cneg]; exact (Ev.pure _).eq (List.take_of_length_le (by omega)))
  | n + 1, i, h => by
    have hl := smallNs_len ht
    have hi : i < xs.length := by omega
    have hg : xs[i].given.length ≤ 1048576 := by
      have := smallNs_at ht (List.getElem_mem hi)
      unfold smallN totN at this; omega
    have r1 : room (([] : List ByteArray).length + xs[i].given.length) .str = true := room_20 (by simp; omega)
    have r2 : ∀ z : Name, room ((xs.take i).length + ([z] : List Name).length) .name = true := fun z => room_n20 (by simp; omega)
    obtain ⟨h1, h2⟩ := own_l0 xs ht n (i + 1) (by omega)
    have e : xs.take i ++ [(⟨[] ++ xs[i].given, xs[i].particle, xs[i].family, xs[i].suffix⟩ : Name)] = xs.take (i + 1) := by
      rw [List.take_succ_eq_append_getElem hi]; rfl
    refine ⟨Ev.step (fun k => by rw [spec_l2Own.l0]) ?_, Ev.step (fun k => by rw [impl_newNames.l0]) ?_⟩
    · simp (disch := omega) only [cpos, Int.toNat_natCast, getD_at hi, r1, r2, cond_true, wrap_in, e]; exact h1
    · simp (disch := omega) only [cpos, Int.toNat_natCast, getD_at hi, r1, r2, cond_true, wrap_in, e]; exact h2
theorem own_ev (xs : List Name) (ht : totNs xs ≤ 1048576) : Ev (fun k => spec_l2Own.F k xs) xs := by
  unfold spec_l2Own.F; exact Ev.bind (own_l0 xs ht xs.length 0 (by omega)).1 (Ev.pure _)
theorem newNames_ev (xs : List Name) (ht : totNs xs ≤ 1048576) : Ev (fun k => impl_newNames.F k xs) xs := by
  unfold impl_newNames.F; exact Ev.bind (own_l0 xs ht xs.length 0 (by omega)).2 (Ev.pure _)
theorem copy_ev (e : Entry) (h : okF e) : Ev (fun k => spec_l4Copy.F k e) e := by
  unfold spec_l4Copy.F; exact Ev.bind (own_ev _ h.2.2.2.2.2.1) (Ev.bind (own_ev _ h.2.2.2.2.2.2) (Ev.pure _))
theorem newEntry_ev (e : Entry) (h : okF e) : Ev (fun k => impl_newEntry.F k e) e := by
  unfold impl_newEntry.F; exact Ev.bind (newNames_ev _ h.2.2.2.2.2.1) (Ev.bind (newNames_ev _ h.2.2.2.2.2.2) (Ev.pure _))
def orT (a b : ByteArray) : ByteArray := bif beqS a ⟨#[]⟩ then b else a
def inhV (e p : Entry) : Entry := ⟨e.key, e.kind, e.authors,
  bif e.kind == 3 then (bif (e.editors.length : Int) == 0 then (bif (p.editors.length : Int) == 0 then p.authors else p.editors) else e.editors) else e.editors,
  e.title, bif e.kind == 3 then orT e.container p.title else (bif e.kind == 2 then orT e.container p.title else orT e.container p.container),
  orT e.publisher p.publisher, bif e.date.y == 0 then p.date else e.date, bif e.volume == 0 then p.volume else e.volume, e.pages, e.cross⟩
theorem firstS (a b : ByteArray) : spec_l20First.F a b = some (orT a b) := by unfold spec_l20First.F orT; cases beqS a ⟨#[]⟩ <;> rfl
theorem orTextS (a b : ByteArray) : impl_orText.F a b = some (orT a b) := by unfold impl_orText.F orT; cases beqS a ⟨#[]⟩ <;> rfl
theorem specInh_ev (e p : Entry) (he : okF e) (hp : okF p) : Ev (fun k => spec_l21Inherit.F k e p) (inhV e p) := by
  unfold spec_l21Inherit.F inhV
  have oe := own_ev _ hp.2.2.2.2.2.2
  have oa := own_ev _ hp.2.2.2.2.2.1
  refine Ev.bind (copy_ev e he) ?_
  simp only [firstS, Option.bind_some]
  cases (e.date.y == 0) <;> cases (e.volume == 0) <;> cases (e.kind == 3) <;> cases (e.kind == 2) <;> cases ((e.editors.length : Int) == 0) <;> cases ((p.editors.length : Int) == 0) <;> simp only [cond_true, cond_false] <;>
    first | exact Ev.pure _ | exact Ev.bind oe (Ev.pure _) | exact Ev.bind oe (Ev.bind oa (Ev.pure _))
theorem orNames_ev (a b : List Name) (ha : totNs a ≤ 1048576) (hb : totNs b ≤ 1048576) : Ev (fun k => impl_orNames.F k a b) (bif (a.length : Int) == 0 then b else a) := by
  unfold impl_orNames.F
  cases ((a.length : Int) == 0)
  · exact Ev.bind (newNames_ev _ ha) (Ev.pure _)
  · exact Ev.bind (newNames_ev _ hb) (Ev.pure _)
theorem implInh_ev (e p : Entry) (he : okF e) (hp : okF p) : Ev (fun k => impl_inherit.F k e p) (inhV e p) := by
  unfold impl_inherit.F inhV
  have o1 := orNames_ev p.editors p.authors hp.2.2.2.2.2.2 hp.2.2.2.2.2.1
  have hd : impl_orDate.F e.date p.date = some (bif e.date.y == 0 then p.date else e.date) := by unfold impl_orDate.F; cases (e.date.y == 0) <;> rfl
  have hv : impl_orVolume.F e.volume p.volume = some (bif e.volume == 0 then p.volume else e.volume) := by unfold impl_orVolume.F; cases (e.volume == 0) <;> rfl
  simp only [orTextS, hd, hv, Option.bind_some]
  have hq : totNs (bif (p.editors.length : Int) == 0 then p.authors else p.editors) ≤ 1048576 := by
    cases ((p.editors.length : Int) == 0)
    · exact hp.2.2.2.2.2.2
    · exact hp.2.2.2.2.2.1
  have o2 := orNames_ev e.editors _ he.2.2.2.2.2.2 hq
  cases (e.kind == 3) with
  | true => exact Ev.bind o1 (Ev.bind o2 (Ev.pure _))
  | false => cases (e.kind == 2) <;> exact Ev.pure _
theorem inh_ok (e p : Entry) (he : okF e) (hp : okF p) : okF (inhV e p) := by
  obtain ⟨a1, a2, a3, a4, a5, a6, a7⟩ := he
  obtain ⟨b1, b2, b3, b4, b5, b6, b7⟩ := hp
  unfold okF inhV
  dsimp only
  cases (e.date.y == 0) <;> cases (e.volume == 0) <;> cases (e.kind == 3) <;> cases ((e.editors.length : Int) == 0) <;> cases ((p.editors.length : Int) == 0) <;> simp only [cond_true, cond_false] <;> refine ⟨?_, ?_, ?_, ?_, ?_, ?_, ?_⟩ <;> assumption
theorem lib_ok {l : Library} (hs : smallL l) (h : libB l = true) {i : Nat} (hi : i < l.entries.length) : okF l.entries[i] := by
  refine okF_of (smallL_at hs (List.getElem_mem hi)) ?_
  unfold libB at h
  simp only [Bool.and_eq_true, List.all_eq_true] at h
  have := h.1 i (by rw [List.mem_range'_1]; omega)
  unfold okL at this
  simp only [Bool.and_eq_true, getD_at hi] at this
  exact this.1
end Go.Proofs.YtjbjijgncebbbaaGreatDoor
end
section
/- Plain laws: marks of lists of texts; deep marks of names, entries and libraries. -/
namespace Go.Proofs.YtjbjijgncebbbaaGreatDoor
open Go.Gx
set_option linter.unusedVariables false
set_option linter.unusedSimpArgs false

end Go.Proofs.YtjbjijgncebbbaaGreatDoor
end
section
/- Plain laws: deep marks of names, entries and libraries. -/
namespace Go.Proofs.YtjbjijgncebbbaaGreatDoor
open Go.Gx
set_option linter.unusedVariables false
set_option linter.unusedSimpArgs false

/-! ### Deep marks: numbers go up -/
end Go.Proofs.YtjbjijgncebbbaaGreatDoor
end
section
/- Conflicts of two entries: both ways answer alike. -/
namespace Go.Proofs.YtjbjijgncebbbaaGreatDoor
open Go.Gx
set_option linter.unusedVariables false
set_option linter.unusedSimpArgs false

theorem gw_eq : glV0 = fw8 := rfl
theorem fw_len : glV0.length = 8 := rfl
end Go.Proofs.YtjbjijgncebbbaaGreatDoor
end
section
/- The plain laws of CrossChain, ChildrenOf, BrokenCrosses and DependentsOf. -/
namespace Go.Proofs.YtjbjijgncebbbaaGreatDoor
open Go.Gx
set_option linter.unusedVariables false
set_option linter.unusedSimpArgs false

/-- What both ask first. -/
theorem asked_ev (l : Library) (hs : smallL l) (key : ByteArray) : ∃ (v : Bool) (i : Int), Ev (fun k => spec_l21Asked.F k l key) (v && decide (i ≥ 0)) ∧ Ev (fun k => spec_l4Good.F k l) v ∧ Ev (fun k => impl_IsValidLibrary.F k l) v ∧ Ev (fun k => spec_l4Find.F k l key) i ∧ Ev (fun k => impl_entryIndex.F k l key) i ∧ -1 ≤ i ∧ i < l.entries.length ∧ (v = true → l.entries.length ≤ 8 ∧ libB l = true) ∧ (0 ≤ i → kAt l i = key) := by
  have hl := smallL_len hs
  have v1 := specLib_ev l hs
  have v2 := isLib_ev l hs
  obtain ⟨i, i1, i2, i3, i4, i5, _⟩ := findK_ev l key hl
  refine ⟨libB l, i, ?_, v1, v2, i1, i2, i3, i4, fun h => ⟨libB_len h, h⟩, i5⟩
  unfold spec_l21Asked.F
  cases hv : libB l with
  | false => rw [hv] at v1; exact Ev.bind v1 (Ev.pure _)
  | true => rw [hv] at v1; exact Ev.bind v1 (Ev.bind i1 (Ev.pure _))

/-! ### CrossChain -/
/-! ### ChildrenOf -/
/-! ### BrokenCrosses -/
/-! ### DependentsOf -/
end Go.Proofs.YtjbjijgncebbbaaGreatDoor
end
section
/- What the laws draw: cursors, texts, names, dates, entries. -/
namespace Go.Proofs.YtjbjijgncebbbaaGreatDoor
open Go.Gx
set_option linter.unusedVariables false
set_option linter.unusedSimpArgs false

theorem EvP.cond {α : Type} {b : Bool} {f g : Nat → Option α} {Q : α → Prop} (h1 : b = true → EvP f Q) (h2 : b = false → EvP g Q) : EvP (fun k => cond b (f k) (g k)) Q := by
  cases b with
  | true => exact h1 rfl
  | false => exact h2 rfl
theorem and255 (z : Int) : 0 ≤ IntKind.wrap .i64 (IntKind.wrap .u64 ((BitVec.ofInt (IntKind.bits .u64) z &&& BitVec.ofInt (IntKind.bits .u64) 255).toNat : Int)) ∧ IntKind.wrap .i64 (IntKind.wrap .u64 ((BitVec.ofInt (IntKind.bits .u64) z &&& BitVec.ofInt (IntKind.bits .u64) 255).toNat : Int)) ≤ 255 := by
  have h1 : (BitVec.ofInt (IntKind.bits .u64) z &&& BitVec.ofInt (IntKind.bits .u64) 255).toNat ≤ 255 := by
    rw [BitVec.toNat_and]
    exact Nat.le_trans Nat.and_le_right (Nat.le_of_eq rfl)
  generalize (BitVec.ofInt (IntKind.bits .u64) z &&& BitVec.ofInt (IntKind.bits .u64) 255).toNat = m at h1
  have h2 : IntKind.wrap .u64 (m : Int) = m := by rw [IntKind.wrap_u64]; omega
  rw [h2, wrap_in (by omega) (by omega)]
  omega
def byt (l : List Int) : Prop := (∀ b ∈ l, 0 ≤ b ∧ b ≤ 255) ∧ l.length ≤ 65536
theorem byt_of {code : List Int} (hw : WF (.sl (.int .u8)) code) (hl : (code.length : Int) ≤ 65536) : byt code := by
  refine ⟨fun b hb => ?_, by omega⟩
  obtain ⟨i, hi, rfl⟩ := List.getElem_of_mem hb
  cases hw with
  | sl _ _ _ h =>
    have := h i hi
    cases this with
    | int _ _ h =>
      have h1 : IntKind.u8.min = 0 := rfl
      have h2 : IntKind.u8.max = 255 := rfl
      simp only [Lit.wf, Bool.and_eq_true, decide_eq_true_eq] at h
      omega
theorem next_ev (c : Cur) (hc : byt c.code) (h0 : 0 ≤ c.at_) (h1 : c.at_ ≤ 1000000) : ∃ c' x, spec_l1Cur_next.F c = some (c', x) ∧ c'.code = c.code ∧ c'.at_ = c.at_ + 1 ∧ 0 ≤ x ∧ x ≤ 255 := by
  unfold spec_l1Cur_next.F
  have hl := hc.2
  have z40 : (decide ((0 : Nat) ≤ 40)) = true := rfl
  by_cases c1 : c.at_ < (c.code.length : Int)
  · have hi : c.at_.toNat < c.code.length := by omega
    have hb : 0 ≤ c.code.getD c.at_.toNat 0 ∧ c.code.getD c.at_.toNat 0 ≤ 255 := by
      have : c.code.getD c.at_.toNat 0 = c.code[c.at_.toNat] := by simp [List.getD, hi]
      rw [this]; exact hc.1 _ (List.getElem_mem hi)
    by_cases c2 : c.at_ + 1 ≤ (c.code.length : Int)
    · refine ⟨⟨c.code, c.at_ + 1, _⟩, _, by simp (disch := omega) only [cpos, wrap_in]; rfl, rfl, rfl, hb⟩
    · omega
  · have c2 : ¬ c.at_ + 1 ≤ (c.code.length : Int) := by omega
    refine ⟨⟨c.code, c.at_ + 1, _⟩, _, by simp (disch := omega) only [cneg, wrap_in, z40, cond_true]; rfl, rfl, rfl, and255 _⟩
theorem pick_ev (c : Cur) (hc : byt c.code) (h0 : 0 ≤ c.at_) (h1 : c.at_ ≤ 1000000) (n : Int) (hn : 1 ≤ n) (hn2 : n ≤ 200) : ∃ c' x, spec_l1Cur_pick.F c n = some (c', x) ∧ c'.code = c.code ∧ 0 ≤ c'.at_ ∧ c'.at_ ≤ c.at_ + 1 ∧ 0 ≤ x ∧ x < n := by
  unfold spec_l1Cur_pick.F
  by_cases c1 : n ≤ 1
  · refine ⟨c, 0, by simp (disch := omega) only [cpos], rfl, h0, by omega, by omega, by omega⟩
  · obtain ⟨c', x, e1, e2, e3, e4, e5⟩ := next_ev c hc h0 h1
    refine ⟨c', Int.tmod x n, ?_, e2, by omega, by omega, Int.tmod_nonneg _ e4, Int.tmod_lt_of_pos _ (by omega)⟩
    have hz : (n == 0) = false := by rw [beq_eq_false_iff_ne]; omega
    simp (disch := omega) only [cneg, e1, Option.bind_some, hz, cond_false]

/-! ### Cursors -/
/-- A cursor that has drawn at most n times. -/
def cu (n : Int) (c : Cur) : Prop := byt c.code ∧ 0 ≤ c.at_ ∧ c.at_ ≤ n
theorem cu.mono {n m : Int} {c : Cur} (h : cu n c) (hn : n ≤ m) : cu m c := ⟨h.1, h.2.1, Int.le_trans h.2.2 hn⟩
theorem cu.start {code : List Int} (h : byt code) : cu 0 ⟨code, 0, 0⟩ := ⟨h, Int.le_refl 0, Int.le_refl 0⟩
section
variable {β : Type} {Q : β → Prop} {n : Int} {c : Cur}
theorem pick_b {m : Int} {g : Nat → Cur × Int → Option β} (h : cu n c) (hn : n ≤ 900000) (h1 : 1 ≤ m) (h2 : m ≤ 200) (hg : ∀ c' x, cu (n + 1) c' → 0 ≤ x → x < m → EvP (fun k => g k (c', x)) Q) : EvP (fun k => (spec_l1Cur_pick.F c m).bind (g k)) Q := by
  obtain ⟨h3, h4, h5⟩ := h
  obtain ⟨c', x, e1, e2, e3, e4, e5, e6⟩ := pick_ev c h3 h4 (by omega) m h1 h2
  exact EvP.of0 e1 (hg c' x ⟨by rw [e2]; exact h3, e3, by omega⟩ e5 e6)
theorem one_b {m : Int} {g : Nat → Cur × Bool → Option β} (h : cu n c) (hn : n ≤ 900000) (h1 : 1 ≤ m) (h2 : m ≤ 200) (hg : ∀ c' x, cu (n + 1) c' → EvP (fun k => g k (c', x)) Q) : EvP (fun k => (spec_l1Cur_one.F c m).bind (g k)) Q := by
  obtain ⟨h3, h4, h5⟩ := h
  obtain ⟨c', x, e1, e2, e3, e4, e5, e6⟩ := pick_ev c h3 h4 (by omega) m h1 h2
  refine EvP.of0 (a := (c', x == 0)) ?_ (hg c' (x == 0) ⟨by rw [e2]; exact h3, e3, by omega⟩)
  unfold spec_l1Cur_one.F
  rw [e1]; rfl
theorem of_b {l : List ByteArray} {g : Nat → Cur × ByteArray → Option β} (h : cu n c) (hn : n ≤ 900000) (h1 : 1 ≤ l.length) (h2 : l.length ≤ 200) (hs : ∀ y ∈ l, y.size ≤ 50) (hg : ∀ c' x, cu (n + 1) c' → x.size ≤ 50 → EvP (fun k => g k (c', x)) Q) : EvP (fun k => (spec_l1Cur_of.F c l).bind (g k)) Q := by
  obtain ⟨h3, h4, h5⟩ := h
  obtain ⟨c', x, e1, e2, e3, e4, e5, e6⟩ := pick_ev c h3 h4 (by omega) (l.length : Int) (by omega) (by omega)
  have hi : x.toNat < l.length := by omega
  refine EvP.of0 (a := (c', l.getD x.toNat ⟨#[]⟩)) ?_ (hg c' _ ⟨by rw [e2]; exact h3, e3, by omega⟩ (by rw [getD_at hi]; exact hs _ (List.getElem_mem hi)))
  unfold spec_l1Cur_of.F
  simp (disch := omega) only [e1, Option.bind_some, cpos]
theorem among_b {l : List Int} {g : Nat → Cur × Int → Option β} (h : cu n c) (hn : n ≤ 900000) (h1 : 1 ≤ l.length) (h2 : l.length ≤ 200) (hg : ∀ c' x, cu (n + 1) c' → EvP (fun k => g k (c', x)) Q) : EvP (fun k => (spec_l1Cur_among.F c l).bind (g k)) Q := by
  obtain ⟨h3, h4, h5⟩ := h
  obtain ⟨c', x, e1, e2, e3, e4, e5, e6⟩ := pick_ev c h3 h4 (by omega) (l.length : Int) (by omega) (by omega)
  have hi : x.toNat < l.length := by omega
  refine EvP.of0 (a := (c', l.getD x.toNat 0)) ?_ (hg c' _ ⟨by rw [e2]; exact h3, e3, by omega⟩)
  unfold spec_l1Cur_among.F
  simp (disch := omega) only [e1, Option.bind_some, cpos]
end
theorem size_app2 (s t : ByteArray) : (s ++ t).size = s.size + t.size := by rw [← L_size, L_append, List.length_append]; rfl
theorem size_ext (s : ByteArray) (a b : Nat) : (s.extract a b).size ≤ s.size := by
  rw [← L_size, L_extract, List.length_drop, List.length_take, L_size]
  omega

/-! ### Dates, texts -/
theorem date_b {n : Int} {c : Cur} (h : cu n c) (hn : n ≤ 800000) : EvP (fun _ => spec_l1Cur_date.F c) fun r => cu (n + 5) r.1 := by
  unfold spec_l1Cur_date.F
  refine among_b h (by omega) (by decide) (by decide) fun c1 x hc1 => ?_
  refine pick_b hc1 (by omega) (by omega) (by omega) fun c2 y hc2 y0 y1 => ?_
  dsimp only
  repeat' refine EvP.cond (fun _ => ?_) (fun _ => ?_)
  all_goals first
    | exact EvP.pure _ (hc2.mono (by omega))
    | (refine pick_b hc2 (by omega) (by omega) (by omega) fun c3 z hc3 z0 z1 => ?_
       dsimp only
       first
         | exact EvP.pure _ (hc3.mono (by omega))
         | (refine pick_b hc3 (by omega) (by omega) (by omega) fun c4 u hc4 u0 u1 => ?_
            exact EvP.pure _ (hc4.mono (by omega))))
theorem date_ev {n : Int} {c : Cur} (h : cu n c) (hn : n ≤ 800000) : ∃ r, spec_l1Cur_date.F c = some r ∧ cu (n + 5) r.1 := by
  obtain ⟨r, ⟨K, hK⟩, hr⟩ := date_b h hn
  exact ⟨r, hK K (Nat.le_refl _), hr⟩
theorem anyDate_b {n : Int} {c : Cur} (h : cu n c) (hn : n ≤ 800000) : EvP (fun _ => spec_l1Cur_anyDate.F c) fun r => cu (n + 10) r.1 := by
  unfold spec_l1Cur_anyDate.F
  obtain ⟨r, e1, h1⟩ := date_ev h hn
  refine EvP.of0 e1 ?_
  refine pick_b h1 (by omega) (by omega) (by omega) fun c2 y hc2 y0 y1 => ?_
  dsimp only
  repeat' refine EvP.cond (fun _ => ?_) (fun _ => ?_)
  all_goals first
    | exact EvP.pure _ (hc2.mono (by omega))
    | (refine among_b hc2 (by omega) (by decide) (by decide) fun c3 z hc3 => ?_
       exact EvP.pure _ (hc3.mono (by omega)))
theorem anyDate_ev {n : Int} {c : Cur} (h : cu n c) (hn : n ≤ 800000) : ∃ r, spec_l1Cur_anyDate.F c = some r ∧ cu (n + 10) r.1 := by
  obtain ⟨r, ⟨K, hK⟩, hr⟩ := anyDate_b h hn
  exact ⟨r, hK K (Nat.le_refl _), hr⟩
/-! ### Names -/
def nameOk (n : Name) : Prop := n.given.length ≤ 8 ∧ (∀ w ∈ n.given, w.size ≤ 50) ∧ n.particle.size ≤ 50 ∧ n.family.size ≤ 50 ∧ n.suffix.size ≤ 50
def namesOk (m : Nat) (l : List Name) : Prop := l.length ≤ m ∧ ∀ n ∈ l, nameOk n
theorem room8 {n : Nat} {τ : Ty} (hn : n ≤ 1000) (ht : nb τ ≤ 1000) : room n τ = true := by
  unfold room
  have : n * nb τ ≤ 1000 * 1000 := Nat.mul_le_mul hn ht
  exact Nat.ble_eq_true_of_le (by omega)
theorem name_l0 : ∀ m : Nat, m ≤ 5 → ∀ {n : Int} {c : Cur}, cu n c → n + m ≤ 800000 → ∀ (q : List ByteArray) (q1 q2 q3 : ByteArray) (g : List ByteArray) (p f s : ByteArray), g.length + m ≤ 6 → (∀ w ∈ g, w.size ≤ 50) →
    EvP (fun k => spec_l1Cur_name.l0 k c q q1 q2 q3 g p f s m) fun r => ∃ g', r.2 = (q, q1, q2, q3, g', p, f, s) ∧ cu (n + m) r.1 ∧ g'.length ≤ 6 ∧ ∀ w ∈ g', w.size ≤ 50
  | 0, _, n, c, hc, hn, q, q1, q2, q3, g, p, f, s, hg, hw => by
    refine EvP.step (fun k => by rw [spec_l1Cur_name.l0]) ?_
    simp (disch := omega) only [cneg]
    exact EvP.pure _ ⟨g, rfl, hc.mono (by omega), by omega, hw⟩
  | m + 1, hm, n, c, hc, hn, q, q1, q2, q3, g, p, f, s, hg, hw => by
    refine EvP.step (fun k => by rw [spec_l1Cur_name.l0]) ?_
    simp (disch := omega) only [cpos]
    refine of_b hc (by omega) (by decide) (by decide) (by decide) fun c1 x hc1 hx => ?_
    dsimp only
    have hr : room (g.length + ([x] : List ByteArray).length) .str = true := room8 (by simp; omega) (by decide)
    rw [show (((m + 1 : Nat) : Int) - 1) = (m : Int) by omega]
    simp (disch := omega) only [hr, cond_true, wrap_in]
    refine EvP.mono (name_l0 m (by omega) hc1 (by omega) q q1 q2 q3 (g ++ [x]) p f s (by simp; omega) fun w h => ?_) fun r hr => ?_
    · rcases List.mem_append.1 h with h | h
      · exact hw w h
      · rw [List.mem_singleton.1 h]; exact hx
    · obtain ⟨g', h1, h2, h3⟩ := hr
      exact ⟨g', h1, h2.mono (by omega), h3⟩
theorem name_b {n : Int} {c : Cur} (h : cu n c) (hn : n ≤ 700000) : EvP (fun k => spec_l1Cur_name.F k c) fun r => cu (n + 10) r.1 ∧ nameOk r.2 ∧ r.2.given.length ≤ 6 := by
  unfold spec_l1Cur_name.F
  simp (disch := decide) only [cpos]
  refine of_b h (by omega) (by decide) (by decide) (by decide) fun c1 x hc1 hx => ?_
  refine pick_b hc1 (by omega) (by omega) (by omega) fun c2 y hc2 y0 y1 => ?_
  obtain ⟨m, rfl⟩ : ∃ m : Nat, y = m := ⟨y.toNat, by omega⟩
  refine EvP.bind (name_l0 m (by omega) hc2 (by omega) [] _ _ _ [] ⟨#[]⟩ x ⟨#[]⟩ (by simp; omega) (by simp)) fun r hr => ?_
  obtain ⟨r1, r2⟩ := r
  obtain ⟨g, rfl, h2, h3, h4⟩ := hr
  have h2 : cu (n + 1 + 1 + m) r1 := h2
  dsimp only
  have z : (⟨#[]⟩ : ByteArray).size ≤ 50 := by decide
  refine one_b h2 (by omega) (by decide) (by decide) fun c3 b3 hc3 => ?_
  refine EvP.cond (fun _ => ?_) (fun _ => ?_)
  · refine of_b hc3 (by omega) (by decide) (by decide) (by decide) fun c4 x4 hc4 hx4 => ?_
    refine one_b hc4 (by omega) (by decide) (by decide) fun c5 b5 hc5 => ?_
    refine EvP.cond (fun _ => ?_) (fun _ => ?_)
    · refine of_b hc5 (by omega) (by decide) (by decide) (by decide) fun c6 x6 hc6 hx6 => ?_
      exact EvP.pure _ ⟨hc6.mono (by omega), ⟨by show g.length ≤ 8; omega, h4, hx4, hx, hx6⟩, h3⟩
    · exact EvP.pure _ ⟨hc5.mono (by omega), ⟨by show g.length ≤ 8; omega, h4, hx4, hx, z⟩, h3⟩
  · refine one_b hc3 (by omega) (by decide) (by decide) fun c5 b5 hc5 => ?_
    refine EvP.cond (fun _ => ?_) (fun _ => ?_)
    · refine of_b hc5 (by omega) (by decide) (by decide) (by decide) fun c6 x6 hc6 hx6 => ?_
      exact EvP.pure _ ⟨hc6.mono (by omega), ⟨by show g.length ≤ 8; omega, h4, z, hx, hx6⟩, h3⟩
    · exact EvP.pure _ ⟨hc5.mono (by omega), ⟨by show g.length ≤ 8; omega, h4, z, hx, z⟩, h3⟩
theorem names_put {m : Nat} {l : List Name} {n : Name} (h : namesOk m l) (hn : nameOk n) : namesOk (m + 1) (l ++ [n]) := by
  refine ⟨by have := h.1; simp; omega, fun x hx => ?_⟩
  rcases List.mem_append.1 hx with hx | hx
  · exact h.2 x hx
  · rw [List.mem_singleton.1 hx]; exact hn
theorem names_l0 : ∀ m : Nat, m ≤ 6 → ∀ {n : Int} {c : Cur}, cu n c → n + 10 * m ≤ 600000 → ∀ (q : Nat) (l : List Name), q + m ≤ 20 → namesOk q l → EvP (fun k => spec_l1Cur_names.l0 k c l m) fun r => cu (n + 10 * m) r.1 ∧ namesOk (q + m) r.2
  | 0, _, n, c, hc, hn, q, l, hq, hl => by
    refine EvP.step (fun k => by rw [spec_l1Cur_names.l0]) ?_
    simp (disch := omega) only [cneg]
    exact EvP.pure _ ⟨hc.mono (by omega), hl⟩
  | m + 1, hm, n, c, hc, hn, q, l, hq, hl => by
    refine EvP.step (fun k => by rw [spec_l1Cur_names.l0]) ?_
    simp (disch := omega) only [cpos]
    refine EvP.bind (name_b hc (by omega)) fun r hr => ?_
    obtain ⟨h1, h2, _⟩ := hr
    have hrm : room (l.length + ([(⟨r.2.given, r.2.particle, r.2.family, r.2.suffix⟩ : Name)] : List Name).length) .name = true := room8 (by have := hl.1; simp; omega) (by decide)
    rw [show (((m + 1 : Nat) : Int) - 1) = (m : Int) by omega]
    simp (disch := omega) only [hrm, cond_true, wrap_in]
    refine EvP.mono (names_l0 m (by omega) h1 (by omega) (q + 1) _ (by omega) (names_put hl (n := ⟨r.2.given, r.2.particle, r.2.family, r.2.suffix⟩) h2)) fun y hy => ⟨hy.1.mono (by omega), ?_⟩
    rw [show q + (m + 1) = q + 1 + m by omega]
    exact hy.2
theorem names_b {n : Int} {c : Cur} (h : cu n c) (hn : n ≤ 500000) : EvP (fun k => spec_l1Cur_names.F k c) fun r => cu (n + 60) r.1 ∧ namesOk 6 r.2 := by
  unfold spec_l1Cur_names.F
  refine pick_b h (by omega) (by omega) (by omega) fun c2 y hc2 y0 y1 => ?_
  obtain ⟨m, rfl⟩ : ∃ m : Nat, y = m := ⟨y.toNat, by omega⟩
  refine EvP.bind (names_l0 m (by omega) hc2 (by omega) 0 [] (by omega) ⟨Nat.le_refl _, fun n h => by cases h⟩) fun r hr => ?_
  exact EvP.pure _ ⟨hr.1.mono (by omega), by have := hr.2.1; show r.2.length ≤ 6; omega, hr.2.2⟩
theorem anyName_b {n : Int} {c : Cur} (h : cu n c) (hn : n ≤ 600000) : EvP (fun k => spec_l1Cur_anyName.F k c) fun r => cu (n + 20) r.1 ∧ nameOk r.2 := by
  unfold spec_l1Cur_anyName.F
  refine EvP.bind (name_b h (by omega)) fun r hr => ?_
  obtain ⟨h1, ⟨g1, g2, g3, g4, g5⟩, h3⟩ := hr
  refine pick_b h1 (by omega) (by omega) (by omega) fun c2 y hc2 y0 y1 => ?_
  dsimp only
  repeat' refine EvP.cond (fun _ => ?_) (fun _ => ?_)
  · refine of_b hc2 (by omega) (by decide) (by decide) (by decide) fun c6 x6 hc6 hx6 => ?_
    exact EvP.pure _ ⟨hc6.mono (by omega), g1, g2, g3, hx6, g5⟩
  · refine of_b hc2 (by omega) (by decide) (by decide) (by decide) fun c6 x6 hc6 hx6 => ?_
    exact EvP.pure _ ⟨hc6.mono (by omega), g1, g2, hx6, g4, g5⟩
  · refine of_b hc2 (by omega) (by decide) (by decide) (by decide) fun c6 x6 hc6 hx6 => ?_
    exact EvP.pure _ ⟨hc6.mono (by omega), g1, g2, g3, g4, hx6⟩
  · refine of_b hc2 (by omega) (by decide) (by decide) (by decide) fun c6 x6 hc6 hx6 => ?_
    dsimp only
    have hrm : room (r.2.given.length + ([x6, (⟨#[69, 118, 101]⟩ : ByteArray)] : List ByteArray).length) .str = true := room8 (by simp; omega) (by decide)
    rw [hrm]
    refine EvP.pure _ ⟨hc6.mono (by omega), ?_, fun w hw => ?_, g3, g4, g5⟩
    · show (r.2.given ++ _).length ≤ 8
      simp; omega
    · rcases List.mem_append.1 hw with hw | hw
      · exact g2 w hw
      · simp only [List.mem_cons, List.not_mem_nil, or_false] at hw
        rcases hw with rfl | rfl
        · exact hx6
        · decide
  · exact EvP.pure _ ⟨hc2.mono (by omega), g1, g2, g3, g4, g5⟩
theorem anyNames_l1 : ∀ m : Nat, m ≤ 6 → ∀ {n : Int} {c : Cur}, cu n c → n + 20 * m ≤ 550000 → ∀ (l : List Name), l.length + m = 6 → namesOk 6 l → EvP (fun k => spec_l1Cur_anyNames.l1 k c l) fun r => cu (n + 20 * m + 20) r.1 ∧ namesOk 7 r.2
  | m, hm, n, c, hc, hn, l, hl, hq => by
    refine EvP.step (fun k => by rw [spec_l1Cur_anyNames.l1]) ?_
    refine pick_b hc (by omega) (by omega) (by omega) fun c1 x hc1 x0 x1 => ?_
    dsimp only
    by_cases h1 : (l.length : Int) < 4 + x
    · simp (disch := omega) only [cpos, wrap_in]
      refine EvP.bind (name_b hc1 (by omega)) fun r hr => ?_
      obtain ⟨h2, h3, _⟩ := hr
      have hrm : room (l.length + ([(⟨r.2.given, r.2.particle, r.2.family, r.2.suffix⟩ : Name)] : List Name).length) .name = true := room8 (by simp; omega) (by decide)
      simp only [hrm, cond_true]
      cases m with
      | zero => omega
      | succ m =>
        have hp := names_put hq (n := ⟨r.2.given, r.2.particle, r.2.family, r.2.suffix⟩) h3
        refine EvP.mono (anyNames_l1 m (by omega) h2 (by omega) _ (by simp; omega) ⟨by simp; omega, hp.2⟩) fun y hy => ⟨hy.1.mono (by omega), hy.2⟩
    · simp (disch := omega) only [cneg, wrap_in]
      exact EvP.pure _ ⟨hc1.mono (by omega), by show l.length ≤ 7; omega, hq.2⟩
theorem anyNames_b {n : Int} {c : Cur} (h : cu n c) (hn : n ≤ 450000) : EvP (fun k => spec_l1Cur_anyNames.F k c) fun r => cu (n + 250) r.1 ∧ namesOk 7 r.2 := by
  unfold spec_l1Cur_anyNames.F
  refine EvP.bind (names_b h (by omega)) fun r hr => ?_
  obtain ⟨h1, h2⟩ := hr
  have hl := h2.1
  refine pick_b h1 (by omega) (by omega) (by omega) fun c1 x hc1 x0 x1 => ?_
  dsimp only
  refine EvP.cond (fun _ => ?_) (fun _ => EvP.cond (fun _ => ?_) (fun _ => ?_))
  · refine EvP.bind (anyName_b hc1 (by omega)) fun y hy => ?_
    have hrm : room (r.2.length + ([(⟨y.2.given, y.2.particle, y.2.family, y.2.suffix⟩ : Name)] : List Name).length) .name = true := room8 (by simp; omega) (by decide)
    simp only [hrm, cond_true]
    exact EvP.pure _ ⟨hy.1.mono (by omega), names_put h2 (n := ⟨y.2.given, y.2.particle, y.2.family, y.2.suffix⟩) hy.2⟩
  · refine EvP.bind (anyNames_l1 (6 - r.2.length) (by omega) hc1 (by omega) r.2 (by omega) h2) fun y hy => ?_
    exact EvP.pure _ ⟨hy.1.mono (by omega), hy.2⟩
  · exact EvP.pure _ ⟨hc1.mono (by omega), by show r.2.length ≤ 7; omega, h2.2⟩
end Go.Proofs.YtjbjijgncebbbaaGreatDoor
end
section
/- Plain laws: lower case. -/
namespace Go.Proofs.YtjbjijgncebbbaaGreatDoor
open Go.Gx
set_option linter.unusedVariables false
set_option linter.unusedSimpArgs false

end Go.Proofs.YtjbjijgncebbbaaGreatDoor
end
section
/- Plain laws: lower case, the other way. -/
namespace Go.Proofs.YtjbjijgncebbbaaGreatDoor
open Go.Gx
set_option linter.unusedVariables false
set_option linter.unusedSimpArgs false

end Go.Proofs.YtjbjijgncebbbaaGreatDoor
end
section
/- What the laws draw: entries, entries near to others, containers. -/
namespace Go.Proofs.YtjbjijgncebbbaaGreatDoor
open Go.Gx
set_option linter.unusedVariables false
set_option linter.unusedSimpArgs false
set_option maxRecDepth 4000

/-! ### Entries -/
def entryOk (m : Nat) (e : Entry) : Prop := e.key.size ≤ 200 ∧ e.title.size ≤ m ∧ e.container.size ≤ 200 ∧ e.publisher.size ≤ 200 ∧ e.pages.size ≤ 200 ∧ e.cross.size ≤ 200 ∧ namesOk 8 e.authors ∧ namesOk 8 e.editors
theorem totS_le (l : List ByteArray) (h : ∀ w ∈ l, w.size ≤ 50) : totS l ≤ 50 * l.length := by
  induction l with
  | nil => exact Nat.le_refl _
  | cons x l ih =>
    have h1 := h x List.mem_cons_self
    have h2 := ih fun w hw => h w (List.mem_cons_of_mem _ hw)
    have : totS (x :: l) = x.size + totS l := by simp [totS]
    rw [this, List.length_cons]
    omega
theorem totN_le {n : Name} (h : nameOk n) : totN n ≤ 600 := by
  obtain ⟨h1, h2, h3, h4, h5⟩ := h
  have := totS_le _ h2
  unfold totN
  omega
theorem totNs_le {m : Nat} {l : List Name} (h : namesOk m l) (hm : m ≤ 10) : totNs l ≤ 10000 := by
  have : ∀ l : List Name, (∀ n ∈ l, nameOk n) → (l.map totN).sum ≤ 600 * l.length := fun l => by
    induction l with
    | nil => intro _; exact Nat.le_refl _
    | cons x l ih =>
      intro h
      have h1 := totN_le (h x List.mem_cons_self)
      have h2 := ih fun w hw => h w (List.mem_cons_of_mem _ hw)
      simp only [List.map_cons, List.sum_cons, List.length_cons]
      omega
  have h1 := this l h.2
  have h2 := h.1
  unfold totNs
  omega
theorem entryOk_tot {m : Nat} (hm : m ≤ 200) {e : Entry} (h : entryOk m e) : totE e ≤ 30000 := by
  obtain ⟨h1, h2, h3, h4, h5, h6, h7, h8⟩ := h
  have := totNs_le h7 (by omega)
  have := totNs_le h8 (by omega)
  unfold totE
  omega
theorem entryOk_small {m : Nat} (hm : m ≤ 200) {e : Entry} (h : entryOk m e) : smallE e := by have := entryOk_tot hm h; unfold smallE; omega
theorem ok50 {x : ByteArray} (h : x.size ≤ 50) : x.size ≤ 200 := by omega
theorem namesUp {m k : Nat} {l : List Name} (h : namesOk m l) (hk : m ≤ k) : namesOk k l := ⟨Nat.le_trans h.1 hk, h.2⟩
theorem names0 (k : Nat) : namesOk k ([] : List Name) := ⟨Nat.zero_le _, fun n h => by cases h⟩
/-- What is drawn from the container on. -/
theorem entry_b {n : Int} {c : Cur} (h : cu n c) (hn : n ≤ 400000) : EvP (fun k => spec_l1Cur_entry.F k c) fun r => cu (n + 200) r.1 ∧ entryOk 50 r.2 := by
  unfold spec_l1Cur_entry.F
  refine of_b h (by omega) (by decide) (by decide) (by decide) fun c1 x1 hc1 hx1 => ?_
  refine pick_b hc1 (by omega) (by omega) (by omega) fun c2 x2 hc2 _ _ => ?_
  refine EvP.bind (names_b hc2 (by omega)) fun r3 hr3 => ?_
  obtain ⟨hc3, hn3⟩ := hr3
  refine EvP.of0 (a := [(⟨#[79, 110, 32, 114, 105, 118, 101, 114, 115]⟩ : ByteArray), (⟨#[65, 32, 104, 105, 115, 116, 111, 114, 121, 32, 111, 102, 32, 109, 97, 112, 115]⟩ : ByteArray), (⟨#[84, 104, 101, 32, 110, 111, 114, 116, 104]⟩ : ByteArray), (⟨#[79, 108, 100, 32, 114, 111, 97, 100, 115, 58, 32, 97, 32, 103, 117, 105, 100, 101]⟩ : ByteArray), (⟨#[79, 110, 32, 114, 105, 118, 101, 114, 115]⟩ : ByteArray), (⟨#[]⟩ : ByteArray)]) rfl ?_
  refine of_b hc3 (by omega) (by decide) (by decide) (by decide) fun c5 x5 hc5 hx5 => ?_
  dsimp only
  obtain ⟨r6, e6, hc6⟩ := date_ev hc5 (by omega)
  refine EvP.of0 e6 ?_
  refine one_b hc6 (by omega) (by decide) (by decide) fun c7 b7 hc7 => ?_
  dsimp only
  have a1 := ok50 hx1
  have a5 := hx5
  have n3 := namesUp hn3 (show 6 ≤ 8 by omega)
  have z : (⟨#[]⟩ : ByteArray).size ≤ 200 := by decide
  have n0 := names0 8
  refine EvP.cond (fun _ => ?_) (fun _ => ?_)
  · refine EvP.bind (names_b hc7 (by omega)) fun r8 hr8 => ?_
    obtain ⟨hc8, hn8⟩ := hr8
    have n8 := namesUp hn8 (show 6 ≤ 8 by omega)
    refine one_b hc8 (by omega) (by decide) (by decide) fun c9 b9 hc9 => ?_
    refine EvP.cond (fun _ => ?_) (fun _ => ?_)
    · refine of_b hc9 (by omega) (by decide) (by decide) (by decide) fun c10 x10 hc10 hx10 => ?_
      refine among_b hc10 (by omega) (by decide) (by decide) fun c11 x11 hc11 => ?_
      refine of_b hc11 (by omega) (by decide) (by decide) (by decide) fun c12 x12 hc12 hx12 => ?_
      refine one_b hc12 (by omega) (by decide) (by decide) fun c13 b13 hc13 => ?_
      have a10 := ok50 hx10
      have a12 := ok50 hx12
      refine EvP.cond (fun _ => ?_) (fun _ => ?_)
      · refine of_b hc13 (by omega) (by decide) (by decide) (by decide) fun c14 x14 hc14 hx14 => ?_
        refine one_b hc14 (by omega) (by decide) (by decide) fun c15 b15 hc15 => ?_
        have a14 := ok50 hx14
        refine EvP.cond (fun _ => ?_) (fun _ => ?_)
        · refine of_b hc15 (by omega) (by decide) (by decide) (by decide) fun c16 x16 hc16 hx16 => ?_
          exact EvP.pure _ ⟨hc16.mono (by omega), a1, a5, a10, a14, a12, ok50 hx16, n3, n8⟩
        · exact EvP.pure _ ⟨hc15.mono (by omega), a1, a5, a10, a14, a12, z, n3, n8⟩
      · refine one_b hc13 (by omega) (by decide) (by decide) fun c15 b15 hc15 => ?_
        refine EvP.cond (fun _ => ?_) (fun _ => ?_)
        · refine of_b hc15 (by omega) (by decide) (by decide) (by decide) fun c16 x16 hc16 hx16 => ?_
          exact EvP.pure _ ⟨hc16.mono (by omega), a1, a5, a10, z, a12, ok50 hx16, n3, n8⟩
        · exact EvP.pure _ ⟨hc15.mono (by omega), a1, a5, a10, z, a12, z, n3, n8⟩
    · refine one_b hc9 (by omega) (by decide) (by decide) fun c13 b13 hc13 => ?_
      refine EvP.cond (fun _ => ?_) (fun _ => ?_)
      · refine of_b hc13 (by omega) (by decide) (by decide) (by decide) fun c14 x14 hc14 hx14 => ?_
        refine one_b hc14 (by omega) (by decide) (by decide) fun c15 b15 hc15 => ?_
        have a14 := ok50 hx14
        refine EvP.cond (fun _ => ?_) (fun _ => ?_)
        · refine of_b hc15 (by omega) (by decide) (by decide) (by decide) fun c16 x16 hc16 hx16 => ?_
          exact EvP.pure _ ⟨hc16.mono (by omega), a1, a5, z, a14, z, ok50 hx16, n3, n8⟩
        · exact EvP.pure _ ⟨hc15.mono (by omega), a1, a5, z, a14, z, z, n3, n8⟩
      · refine one_b hc13 (by omega) (by decide) (by decide) fun c15 b15 hc15 => ?_
        refine EvP.cond (fun _ => ?_) (fun _ => ?_)
        · refine of_b hc15 (by omega) (by decide) (by decide) (by decide) fun c16 x16 hc16 hx16 => ?_
          exact EvP.pure _ ⟨hc16.mono (by omega), a1, a5, z, z, z, ok50 hx16, n3, n8⟩
        · exact EvP.pure _ ⟨hc15.mono (by omega), a1, a5, z, z, z, z, n3, n8⟩
  · refine one_b hc7 (by omega) (by decide) (by decide) fun c9 b9 hc9 => ?_
    refine EvP.cond (fun _ => ?_) (fun _ => ?_)
    · refine of_b hc9 (by omega) (by decide) (by decide) (by decide) fun c10 x10 hc10 hx10 => ?_
      refine among_b hc10 (by omega) (by decide) (by decide) fun c11 x11 hc11 => ?_
      refine of_b hc11 (by omega) (by decide) (by decide) (by decide) fun c12 x12 hc12 hx12 => ?_
      refine one_b hc12 (by omega) (by decide) (by decide) fun c13 b13 hc13 => ?_
      have a10 := ok50 hx10
      have a12 := ok50 hx12
      refine EvP.cond (fun _ => ?_) (fun _ => ?_)
      · refine of_b hc13 (by omega) (by decide) (by decide) (by decide) fun c14 x14 hc14 hx14 => ?_
        refine one_b hc14 (by omega) (by decide) (by decide) fun c15 b15 hc15 => ?_
        have a14 := ok50 hx14
        refine EvP.cond (fun _ => ?_) (fun _ => ?_)
        · refine of_b hc15 (by omega) (by decide) (by decide) (by decide) fun c16 x16 hc16 hx16 => ?_
          exact EvP.pure _ ⟨hc16.mono (by omega), a1, a5, a10, a14, a12, ok50 hx16, n3, n0⟩
        · exact EvP.pure _ ⟨hc15.mono (by omega), a1, a5, a10, a14, a12, z, n3, n0⟩
      · refine one_b hc13 (by omega) (by decide) (by decide) fun c15 b15 hc15 => ?_
        refine EvP.cond (fun _ => ?_) (fun _ => ?_)
        · refine of_b hc15 (by omega) (by decide) (by decide) (by decide) fun c16 x16 hc16 hx16 => ?_
          exact EvP.pure _ ⟨hc16.mono (by omega), a1, a5, a10, z, a12, ok50 hx16, n3, n0⟩
        · exact EvP.pure _ ⟨hc15.mono (by omega), a1, a5, a10, z, a12, z, n3, n0⟩
    · refine one_b hc9 (by omega) (by decide) (by decide) fun c13 b13 hc13 => ?_
      refine EvP.cond (fun _ => ?_) (fun _ => ?_)
      · refine of_b hc13 (by omega) (by decide) (by decide) (by decide) fun c14 x14 hc14 hx14 => ?_
        refine one_b hc14 (by omega) (by decide) (by decide) fun c15 b15 hc15 => ?_
        have a14 := ok50 hx14
        refine EvP.cond (fun _ => ?_) (fun _ => ?_)
        · refine of_b hc15 (by omega) (by decide) (by decide) (by decide) fun c16 x16 hc16 hx16 => ?_
          exact EvP.pure _ ⟨hc16.mono (by omega), a1, a5, z, a14, z, ok50 hx16, n3, n0⟩
        · exact EvP.pure _ ⟨hc15.mono (by omega), a1, a5, z, a14, z, z, n3, n0⟩
      · refine one_b hc13 (by omega) (by decide) (by decide) fun c15 b15 hc15 => ?_
        refine EvP.cond (fun _ => ?_) (fun _ => ?_)
        · refine of_b hc15 (by omega) (by decide) (by decide) (by decide) fun c16 x16 hc16 hx16 => ?_
          exact EvP.pure _ ⟨hc16.mono (by omega), a1, a5, z, z, z, ok50 hx16, n3, n0⟩
        · exact EvP.pure _ ⟨hc15.mono (by omega), a1, a5, z, z, z, z, n3, n0⟩
theorem anyEntry_b {n : Int} {c : Cur} (h : cu n c) (hn : n ≤ 300000) : EvP (fun k => spec_l1Cur_anyEntry.F k c) fun r => cu (n + 500) r.1 ∧ entryOk 50 r.2 := by
  unfold spec_l1Cur_anyEntry.F
  refine EvP.bind (entry_b h (by omega)) fun r hr => ?_
  obtain ⟨h1, g1, g2, g3, g4, g5, g6, g7, g8⟩ := hr
  refine pick_b h1 (by omega) (by omega) (by omega) fun c2 y hc2 y0 y1 => ?_
  dsimp only
  refine EvP.cond (fun _ => ?_) (fun _ => EvP.cond (fun _ => ?_) (fun _ => EvP.cond (fun _ => ?_) (fun _ => EvP.cond (fun _ => ?_) (fun _ => EvP.cond (fun _ => ?_) (fun _ => EvP.cond (fun _ => ?_) (fun _ => EvP.cond (fun _ => ?_) (fun _ => EvP.cond (fun _ => ?_) (fun _ => ?_))))))))
  · refine of_b hc2 (by omega) (by decide) (by decide) (by decide) fun c6 x6 hc6 hx6 => ?_
    exact EvP.pure _ ⟨hc6.mono (by omega), ok50 hx6, g2, g3, g4, g5, g6, g7, g8⟩
  · refine pick_b hc2 (by omega) (by omega) (by omega) fun c6 x6 hc6 _ _ => ?_
    exact EvP.pure _ ⟨hc6.mono (by omega), g1, g2, g3, g4, g5, g6, g7, g8⟩
  · refine EvP.bind (anyNames_b hc2 (by omega)) fun q hq => ?_
    exact EvP.pure _ ⟨hq.1.mono (by omega), g1, g2, g3, g4, g5, g6, namesUp hq.2 (by omega), g8⟩
  · refine of_b hc2 (by omega) (by decide) (by decide) (by decide) fun c6 x6 hc6 hx6 => ?_
    exact EvP.pure _ ⟨hc6.mono (by omega), g1, hx6, g3, g4, g5, g6, g7, g8⟩
  · obtain ⟨r6, e6, hc6⟩ := anyDate_ev hc2 (by omega)
    refine EvP.of0 e6 ?_
    exact EvP.pure _ ⟨hc6.mono (by omega), g1, g2, g3, g4, g5, g6, g7, g8⟩
  · refine among_b hc2 (by omega) (by decide) (by decide) fun c6 x6 hc6 => ?_
    exact EvP.pure _ ⟨hc6.mono (by omega), g1, g2, g3, g4, g5, g6, g7, g8⟩
  · obtain ⟨k1, k2, k3⟩ := hc2
    obtain ⟨c', x, e1, e2, e3, e4, e5, e6⟩ := pick_ev c2 k1 k2 (by omega) 3 (by omega) (by omega)
    have hi : x.toNat < 3 := by omega
    refine EvP.of0 (a := (c', ([r.2.key, (⟨#[65]⟩ : ByteArray), (⟨#[98, 50]⟩ : ByteArray)]).getD x.toNat ⟨#[]⟩)) ?_ (EvP.pure _ ⟨⟨by rw [e2]; exact k1, e3, by show c'.at_ ≤ _; omega⟩, g1, g2, g3, g4, g5, ?_, g7, g8⟩)
    · unfold spec_l1Cur_of.F
      have hl : (([r.2.key, (⟨#[65]⟩ : ByteArray), (⟨#[98, 50]⟩ : ByteArray)]).length : Int) = 3 := rfl
      rw [hl, e1]
      simp (disch := omega) only [Option.bind_some, cpos]
    · show (([r.2.key, (⟨#[65]⟩ : ByteArray), (⟨#[98, 50]⟩ : ByteArray)]).getD x.toNat ⟨#[]⟩).size ≤ 200
      match x.toNat, hi with
      | 0, _ => exact g1
      | 1, _ => show (⟨#[65]⟩ : ByteArray).size ≤ 200; decide
      | 2, _ => show (⟨#[98, 50]⟩ : ByteArray).size ≤ 200; decide
  · refine EvP.bind (anyNames_b hc2 (by omega)) fun q hq => ?_
    exact EvP.pure _ ⟨hq.1.mono (by omega), g1, g2, g3, g4, g5, g6, g7, namesUp hq.2 (by omega)⟩
  · exact EvP.pure _ ⟨hc2.mono (by omega), g1, g2, g3, g4, g5, g6, g7, g8⟩

/-! ### Copies, entries near to others -/
theorem ownN_l0 (xs : List Name) (hx : namesOk 8 xs) : ∀ n i : Nat, i + n = xs.length → Ev (fun k => spec_l2Own.l0 k xs (xs.take i) i) xs
  | 0, i, h => by
    refine Ev.step (fun k => by rw [spec_l2Own.l0]) ?_
    simp (disch := omega) only [cneg]
    rw [List.take_of_length_le (by omega)]
    exact Ev.pure _
  | n + 1, i, h => by
    have hl := hx.1
    have hi : i < xs.length := by omega
    have hg := (hx.2 _ (List.getElem_mem hi)).1
    have e : xs.getD i (dflt .name) = xs[i] := getD_at hi _
    have r1 : ∀ (g : List ByteArray), g.length ≤ 8 → room (([] : List ByteArray).length + g.length) .str = true := fun g hg => room8 (by simp; omega) (by decide)
    have r2 : ∀ x : Name, room ((xs.take i).length + ([x] : List Name).length) .name = true := fun x => room8 (by simp; omega) (by decide)
    refine Ev.step (fun k => by rw [spec_l2Own.l0]) ?_
    simp (disch := omega) only [cpos, Int.toNat_natCast, e, r1 _ hg, r2, cond_true, wrap_in, List.nil_append]
    have : xs.take i ++ [xs[i]] = xs.take (i + 1) := by simp
    rw [show (⟨xs[i].given, xs[i].particle, xs[i].family, xs[i].suffix⟩ : Name) = xs[i] from rfl, this]
    exact ownN_l0 xs hx n (i + 1) (by omega)
theorem ownN_ev (xs : List Name) (hx : namesOk 8 xs) : Ev (fun k => spec_l2Own.F k xs) xs := by
  unfold spec_l2Own.F
  exact Ev.bind (ownN_l0 xs hx xs.length 0 (by omega)) (Ev.pure _)
theorem copyE_ev {m : Nat} (e : Entry) (h : entryOk m e) : Ev (fun k => spec_l4Copy.F k e) e := by
  obtain ⟨h1, h2, h3, h4, h5, h6, h7, h8⟩ := h
  unfold spec_l4Copy.F
  exact Ev.bind (ownN_ev _ h7) (Ev.bind (ownN_ev _ h8) (Ev.pure _))
theorem entryOk.up {m k : Nat} {e : Entry} (h : entryOk m e) (hk : m ≤ k) : entryOk k e := ⟨h.1, Nat.le_trans h.2.1 hk, h.2.2⟩
/-! ### Containers -/
end Go.Proofs.YtjbjijgncebbbaaGreatDoor
end
section
/- What the laws draw: libraries. -/
namespace Go.Proofs.YtjbjijgncebbbaaGreatDoor
open Go.Gx
set_option linter.unusedVariables false
set_option linter.unusedSimpArgs false
set_option maxRecDepth 4000

def libOk (m : Nat) (l : List Entry) : Prop := l.length ≤ m ∧ ∀ e ∈ l, entryOk 50 e
theorem libOk_small {m : Nat} {l : List Entry} (h : libOk m l) (hm : m ≤ 20) : smallL ⟨l⟩ := by
  have : ∀ l : List Entry, (∀ n ∈ l, entryOk 50 n) → (l.map totE).sum ≤ 30000 * l.length := fun l => by
    induction l with
    | nil => intro _; exact Nat.le_refl _
    | cons x l ih =>
      intro h
      have h1 := entryOk_tot (by omega) (h x List.mem_cons_self)
      have h2 := ih fun w hw => h w (List.mem_cons_of_mem _ hw)
      simp only [List.map_cons, List.sum_cons, List.length_cons]
      omega
  have h1 := this l h.2
  have h2 := h.1
  unfold smallL totEs
  show l.length + (l.map totE).sum ≤ 1048576
  omega
theorem libOk_put {m : Nat} {l : List Entry} {n : Entry} (h : ∀ e ∈ l, entryOk 50 e) (hn : entryOk 50 n) : ∀ e ∈ l ++ [n], entryOk 50 e := fun x hx => by
  rcases List.mem_append.1 hx with hx | hx
  · exact h x hx
  · rw [List.mem_singleton.1 hx]; exact hn
theorem libOk_getD {l : List Entry} {i : Nat} (h : ∀ e ∈ l, entryOk 50 e) (hi : i < l.length) (d : Entry) : entryOk 50 (l.getD i d) := by
  rw [getD_at hi]; exact h _ (List.getElem_mem hi)
theorem libOk_set {l : List Entry} {i : Nat} {n : Entry} (h : ∀ e ∈ l, entryOk 50 e) (hn : entryOk 50 n) : ∀ e ∈ l.set i n, entryOk 50 e := fun x hx => by
  rcases List.mem_or_eq_of_mem_set hx with hx | rfl
  · exact h x hx
  · exact hn
theorem zero200 : (⟨#[]⟩ : ByteArray).size ≤ 200 := by decide
theorem roomE {n : Nat} (hn : n ≤ 1000) : room n .entry = true := room8 hn (by decide)
def wB (b : Bool) : Nat := bif b then 0 else 1
theorem put_l0 (xs : List Entry) (hx : ∀ e ∈ xs, entryOk 50 e) (hl : xs.length ≤ 20) (e : Entry) (he : entryOk 50 e) : ∀ n i : Nat, i + n = xs.length → ∀ (z acc : List Entry) (b : Bool), acc.length + n + wB b ≤ 40 → (∀ e ∈ acc, entryOk 50 e) →
    EvP (fun k => spec_l4Put.l0 k ⟨xs⟩ e z acc b i) fun r => r.1 = e ∧ r.2.2.1.length + wB r.2.2.2 ≤ acc.length + n + wB b ∧ ∀ e ∈ r.2.2.1, entryOk 50 e
  | 0, i, h, z, acc, b, hb, ha => by
    refine EvP.step (fun k => by rw [spec_l4Put.l0]) ?_
    dsimp only
    simp (disch := omega) only [cneg]
    exact EvP.pure _ ⟨rfl, by show acc.length + wB b ≤ _; omega, ha⟩
  | n + 1, i, h, z, acc, b, hb, ha => by
    have hi : i < xs.length := by omega
    have hm := hx _ (List.getElem_mem hi)
    have c1 := copyE_ev e he
    have c2 := copyE_ev xs[i] hm
    have r1 : ∀ x : Entry, room (acc.length + ([x] : List Entry).length) .entry = true := fun x => roomE (by simp; omega)
    have r2 : ∀ x y : Entry, room ((acc ++ [x]).length + ([y] : List Entry).length) .entry = true := fun x y => roomE (by simp; omega)
    -- the entry itself, or not
    have old : ∀ (acc' : List Entry) (b' : Bool), acc'.length + wB b' ≤ acc.length + wB b → (∀ e ∈ acc', entryOk 50 e) → (∀ y : Entry, room (acc'.length + ([y] : List Entry).length) .entry = true) →
        EvP (fun k => bif decide (0 ≤ (i : Int)) then (bif decide ((i : Int) < (xs.length : Int)) then (bif (!beqS ((xs.getD (i : Int).toNat (dflt .entry)).key) e.key) then (bif decide (0 ≤ (i : Int)) then (bif decide ((i : Int) < (xs.length : Int)) then ((spec_l4Copy.F k (xs.getD (i : Int).toNat (dflt .entry))).bind fun r2 => bif room (acc'.length + ([r2] : List Entry).length) .entry then (spec_l4Put.l0 k ⟨xs⟩ e z (acc' ++ ([r2] : List Entry)) b' (IntKind.wrap .i64 ((i : Int) + 1))) else none) else none) else none) else (spec_l4Put.l0 k ⟨xs⟩ e z acc' b' (IntKind.wrap .i64 ((i : Int) + 1)))) else none) else none)
          fun r => r.1 = e ∧ r.2.2.1.length + wB r.2.2.2 ≤ acc.length + (n + 1) + wB b ∧ ∀ e ∈ r.2.2.1, entryOk 50 e := fun acc' b' h1 h2 h3 => by
      simp (disch := omega) only [cpos, Int.toNat_natCast, getD_at hi]
      refine EvP.cond (fun _ => ?_) (fun _ => ?_)
      · refine EvP.of c2 ?_
        simp (disch := omega) only [h3, cond_true, wrap_in]
        refine EvP.mono (put_l0 xs hx hl e he n (i + 1) (by omega) z (acc' ++ [xs[i]]) b' (by simp; omega) (libOk_put (m := 0) h2 hm)) fun r hr => ⟨hr.1, ?_, hr.2.2⟩
        have := hr.2.1
        simp at this
        omega
      · simp (disch := omega) only [wrap_in]
        refine EvP.mono (put_l0 xs hx hl e he n (i + 1) (by omega) z acc' b' (by omega) h2) fun r hr => ⟨hr.1, ?_, hr.2.2⟩
        have := hr.2.1
        omega
    refine EvP.step (fun k => by rw [spec_l4Put.l0]) ?_
    dsimp only
    have e1 := old acc b (Nat.le_refl _) ha r1
    simp (disch := omega) only [cpos, Int.toNat_natCast, getD_at hi] at e1
    simp (disch := omega) only [cpos, Int.toNat_natCast, getD_at hi]
    refine EvP.cond (fun _ => ?_) (fun _ => ?_)
    · cases b with
      | true =>
        simp only [Bool.not_true, cond_false]
        exact e1
      | false =>
        simp only [Bool.not_false, cond_true]
        refine EvP.of c1 ?_
        simp only [r1, cond_true]
        have e2 := old (acc ++ [e]) true (by simp [wB]) (libOk_put (m := 0) ha he) (r2 e)
        simp (disch := omega) only [cpos, Int.toNat_natCast, getD_at hi] at e2
        exact e2
    · exact e1
theorem put_b {m : Nat} {xs : List Entry} (hx : libOk m xs) (hm : m ≤ 15) {e : Entry} (he : entryOk 50 e) : EvP (fun k => spec_l4Put.F k ⟨xs⟩ e) fun r => libOk (m + 1) r.entries := by
  unfold spec_l4Put.F
  have hl := hx.1
  refine EvP.bind (put_l0 xs hx.2 (by omega) e he xs.length 0 (by omega) [] [] false (by simp [wB]; omega) (by simp)) fun r hr => ?_
  obtain ⟨h1, h2, h3⟩ := hr
  have h2 : r.2.2.1.length + wB r.2.2.2 ≤ xs.length + 1 := by simpa [wB] using h2
  refine EvP.cond (fun hb => ?_) (fun hb => ?_)
  · rw [h1]
    refine EvP.of (copyE_ev e he) ?_
    rw [roomE (by simp; omega)]
    refine EvP.pure _ ⟨?_, libOk_put (m := 0) h3 he⟩
    have : r.2.2.2 = false := by cases h : r.2.2.2 <;> rw [h] at hb <;> first | rfl | cases hb
    rw [this] at h2
    show (r.2.2.1 ++ [e]).length ≤ m + 1
    simp [wB] at h2 ⊢
    omega
  · exact EvP.pure _ ⟨by show r.2.2.1.length ≤ m + 1; omega, h3⟩
theorem library_l0 : ∀ m : Nat, m ≤ 6 → ∀ {n : Int} {c : Cur}, cu n c → n + 250 * m ≤ 300000 → ∀ (q : Nat) (z l : List Entry), q + m ≤ 8 → libOk q l → EvP (fun k => spec_l1Cur_library.l0 k c z l m) fun r => cu (n + 250 * m) r.1 ∧ libOk (q + m) r.2.2
  | 0, _, n, c, hc, hn, q, z, l, hq, hl => by
    refine EvP.step (fun k => by rw [spec_l1Cur_library.l0]) ?_
    simp (disch := omega) only [cneg]
    exact EvP.pure _ ⟨hc.mono (by omega), hl⟩
  | m + 1, hm, n, c, hc, hn, q, z, l, hq, hl => by
    refine EvP.step (fun k => by rw [spec_l1Cur_library.l0]) ?_
    simp (disch := omega) only [cpos]
    refine EvP.bind (entry_b hc (by omega)) fun r hr => ?_
    obtain ⟨h1, g1, g2, g3, g4, g5, g6, g7, g8⟩ := hr
    have w1 : IntKind.wrap .i64 (((m + 1 : Nat) : Int) - 1) = (m : Int) := by rw [wrap_in (by omega) (by omega)]; omega
    have next : ∀ {n' : Int} {c' : Cur} {l' : Library}, cu n' c' → n' ≤ n + 250 → libOk (q + 1) l'.entries → EvP (fun k => spec_l1Cur_library.l0 k c' z l'.entries (IntKind.wrap .i64 (((m + 1 : Nat) : Int) - 1))) fun r => cu (n + 250 * (m + 1 : Nat)) r.1 ∧ libOk (q + (m + 1)) r.2.2 := fun {n' c' l'} hc' hn' hl' => by
      rw [w1]
      refine EvP.mono (library_l0 m (by omega) hc' (by omega) (q + 1) z _ (by omega) hl') fun y hy => ⟨hy.1.mono (by omega), ?_⟩
      rw [show q + (m + 1) = q + 1 + m by omega]
      exact hy.2
    refine one_b h1 (by omega) (by decide) (by decide) fun c3 b3 hc3 => ?_
    refine EvP.cond (fun _ => ?_) (fun _ => ?_)
    · refine of_b hc3 (by omega) (by decide) (by decide) (by decide) fun c4 x4 hc4 hx4 => ?_
      refine EvP.cond (fun _ => ?_) (fun _ => ?_)
      · refine EvP.bind (put_b hl (by omega) (e := ⟨r.2.key, r.2.kind, r.2.authors, r.2.editors, r.2.title, r.2.container, r.2.publisher, r.2.date, r.2.volume, r.2.pages, ⟨#[]⟩⟩) ⟨g1, g2, g3, g4, g5, zero200, g7, g8⟩) fun y hy => ?_
        exact next hc4 (by omega) hy
      · refine EvP.bind (put_b hl (by omega) (e := ⟨r.2.key, r.2.kind, r.2.authors, r.2.editors, r.2.title, r.2.container, r.2.publisher, r.2.date, r.2.volume, r.2.pages, x4⟩) ⟨g1, g2, g3, g4, g5, ok50 hx4, g7, g8⟩) fun y hy => ?_
        exact next hc4 (by omega) hy
    · refine EvP.bind (put_b hl (by omega) (e := r.2) ⟨g1, g2, g3, g4, g5, g6, g7, g8⟩) fun y hy => ?_
      exact next hc3 (by omega) hy
theorem library_b {n : Int} {c : Cur} (h : cu n c) (hn : n ≤ 200000) : EvP (fun k => spec_l1Cur_library.F k c) fun r => cu (n + 2000) r.1 ∧ libOk 6 r.2.entries := by
  unfold spec_l1Cur_library.F
  refine pick_b h (by omega) (by omega) (by omega) fun c2 y hc2 y0 y1 => ?_
  obtain ⟨m, rfl⟩ : ∃ m : Nat, y = m := ⟨y.toNat, by omega⟩
  refine EvP.bind (library_l0 m (by omega) hc2 (by omega) 0 [] [] (by omega) ⟨Nat.le_refl _, fun n h => by cases h⟩) fun r hr => ?_
  exact EvP.pure _ ⟨hr.1.mono (by omega), by have := hr.2.1; show r.2.2.length ≤ 6; omega, hr.2.2⟩
theorem num_ev (n : Nat) (hn : n < 10) : EvP (fun k => spec_l1Num.F k n) fun r => r.size ≤ 10 := by
  refine EvP.step (fun k => by rw [spec_l1Num.F]) ?_
  have z : (⟨#[48, 49, 50, 51, 52, 53, 54, 55, 56, 57]⟩ : ByteArray).size = 10 := rfl
  have w1 : IntKind.wrap .i64 ((n : Int) + 1) = ((n + 1 : Nat) : Int) := by rw [wrap_in (by omega) (by omega)]; omega
  simp (disch := omega) only [cpos, cneg, w1, z]
  exact EvP.pure _ (by have := size_ext ⟨#[48, 49, 50, 51, 52, 53, 54, 55, 56, 57]⟩ (n : Int).toNat (((n + 1 : Nat) : Int)).toNat; rw [z] at this; exact this)
theorem anyLib_l1 : ∀ m : Nat, ∀ {n : Int} {c : Cur}, cu n c → n + 250 * m ≤ 290000 → ∀ (z l : List Entry) (i : Nat), i + m = 10 → l.length ≤ 10 → (∀ e ∈ l, entryOk 50 e) → EvP (fun k => spec_l1Cur_anyLibrary.l1 k c z l i) fun r => cu (n + 250 * m + 10) r.1 ∧ libOk 10 r.2.2
  | m, n, c, hc, hn, z, l, i, hi, hl, hq => by
    refine EvP.step (fun k => by rw [spec_l1Cur_anyLibrary.l1]) ?_
    refine pick_b hc (by omega) (by omega) (by omega) fun c1 x hc1 x0 x1 => ?_
    dsimp only
    by_cases h1 : (l.length : Int) < 8 + x
    · simp (disch := omega) only [cpos, wrap_in]
      cases m with
      | zero =>
        simp (disch := omega) only [cneg]
        exact EvP.pure _ ⟨hc1.mono (by omega), hl, hq⟩
      | succ m =>
        simp (disch := omega) only [cpos]
        refine EvP.bind (entry_b hc1 (by omega)) fun r hr => ?_
        obtain ⟨h1, g1, g2, g3, g4, g5, g6, g7, g8⟩ := hr
        refine EvP.bind (num_ev i (by omega)) fun t ht => ?_
        have e120 : (⟨#[120]⟩ : ByteArray).size = 1 := rfl
        have hk : ((⟨#[120]⟩ : ByteArray) ++ t).size ≤ 200 := by rw [size_app2, e120]; omega
        have hr : ∀ e : Entry, room (l.length + ([e] : List Entry).length) .entry = true := fun e => roomE (by simp; omega)
        simp (disch := (try simp only [e120]); omega) only [cble, hr, cond_true, wrap_in]
        refine EvP.mono (anyLib_l1 m h1 (by omega) z _ (i + 1) (by omega) (by simp; omega) (libOk_put (m := 0) hq (n := ⟨⟨#[120]⟩ ++ t, r.2.kind, r.2.authors, r.2.editors, r.2.title, r.2.container, r.2.publisher, r.2.date, r.2.volume, r.2.pages, r.2.cross⟩) ⟨hk, g2, g3, g4, g5, g6, g7, g8⟩)) fun y hy => ⟨hy.1.mono (by omega), hy.2⟩
    · simp (disch := omega) only [cneg, wrap_in]
      exact EvP.pure _ ⟨hc1.mono (by omega), hl, hq⟩
theorem anyLib_b {n : Int} {c : Cur} (h : cu n c) (hn : n ≤ 150000) : EvP (fun k => spec_l1Cur_anyLibrary.F k c) fun r => cu (n + 10000) r.1 ∧ libOk 10 r.2.entries := by
  unfold spec_l1Cur_anyLibrary.F
  refine EvP.bind (library_b h (by omega)) fun r hr => ?_
  obtain ⟨h1, hl, hq⟩ := hr
  by_cases c0 : (r.2.entries.length : Int) = 0
  · simp (disch := exact c0) only [ceq]
    exact EvP.pure _ ⟨h1.mono (by omega), by show r.2.entries.length ≤ 10; omega, hq⟩
  · simp (disch := exact c0) only [cne]
    refine pick_b h1 (by omega) (by omega) (by omega) fun c1 x hc1 x0 x1 => ?_
    dsimp only
    refine EvP.cond (fun _ => ?_) (fun _ => EvP.cond (fun _ => ?_) (fun _ => EvP.cond (fun _ => ?_) (fun _ => ?_)))
    · refine pick_b hc1 (by omega) (by omega) (by omega) fun c2 x2 hc2 y0 y1 => ?_
      refine EvP.bind (anyEntry_b hc2 (by omega)) fun y hy => ?_
      simp (disch := omega) only [cpos]
      exact EvP.pure _ ⟨hy.1.mono (by omega), by show (r.2.entries.set _ _).length ≤ 10; rw [List.length_set]; omega, libOk_set hq hy.2⟩
    · simp (disch := omega) only [cpos]
      rw [roomE (by simp; omega)]
      refine EvP.pure _ ⟨hc1.mono (by omega), ?_, libOk_put (m := 0) hq (libOk_getD hq (by show (0 : Int).toNat < _; have : (0 : Int).toNat = 0 := rfl; omega) _)⟩
      show (r.2.entries ++ _).length ≤ 10
      simp; omega
    · refine EvP.bind (anyLib_l1 10 hc1 (by omega) [] r.2.entries 0 (by omega) (by omega) hq) fun y hy => ?_
      exact EvP.pure _ ⟨hy.1.mono (by omega), hy.2⟩
    · exact EvP.pure _ ⟨hc1.mono (by omega), by show r.2.entries.length ≤ 10; omega, hq⟩
theorem crossed_l0 : ∀ m : Nat, ∀ {n : Int} {c : Cur}, cu n c → n + 10 * m ≤ 250000 → ∀ (z l : List Entry) (i : Nat), i + m = l.length → l.length ≤ 10 → (∀ e ∈ l, entryOk 50 e) → EvP (fun k => spec_l1Cur_crossed.l0 k c z l i) fun r => cu (n + 10 * m) r.1 ∧ libOk 10 r.2.2
  | 0, n, c, hc, hn, z, l, i, hi, hl, hq => by
    refine EvP.step (fun k => by rw [spec_l1Cur_crossed.l0]) ?_
    simp (disch := omega) only [cneg]
    exact EvP.pure _ ⟨hc.mono (by omega), hl, hq⟩
  | m + 1, n, c, hc, hn, z, l, i, hi, hl, hq => by
    have hlt : i < l.length := by omega
    obtain ⟨g1, g2, g3, g4, g5, g6, g7, g8⟩ := hq _ (List.getElem_mem hlt)
    have w1 : IntKind.wrap .i64 ((i : Int) + 1) = ((i + 1 : Nat) : Int) := by rw [wrap_in (by omega) (by omega)]; omega
    have n0 := names0 8
    have z0 := zero200
    have fin : ∀ {n' : Int} {c' : Cur} (e : Entry), cu n' c' → n' ≤ n + 10 → entryOk 50 e → EvP (fun k => spec_l1Cur_crossed.l0 k c' z (l.set i e) ((i + 1 : Nat) : Int)) fun r => cu (n + 10 * (m + 1 : Nat)) r.1 ∧ libOk 10 r.2.2 := fun {n' c'} e hc' hn' he =>
      EvP.mono (crossed_l0 m hc' (by omega) z (l.set i e) (i + 1) (by rw [List.length_set]; omega) (by rw [List.length_set]; omega) (libOk_set hq he)) fun y hy => ⟨hy.1.mono (by omega), hy.2⟩
    refine EvP.step (fun k => by rw [spec_l1Cur_crossed.l0]) ?_
    simp (disch := omega) only [cpos, Int.toNat_natCast, getD_at hlt, w1]
    refine one_b hc (by omega) (by decide) (by decide) fun c3 b3 hc3 => ?_
    dsimp only
    refine EvP.cond (fun _ => ?_) (fun _ => ?_)
    · refine pick_b hc3 (by omega) (by omega) (by omega) fun c4 x4 hc4 y0 y1 => ?_
      have hx4 : x4.toNat < l.length := by omega
      have hcr := (hq _ (List.getElem_mem hx4)).1
      dsimp only
      simp (disch := omega) only [cpos, getD_at hx4]
      refine EvP.cond (fun _ => ?_) (fun _ => ?_)
      · refine of_b hc4 (by omega) (by decide) (by decide) (by decide) fun c5 x5 hc5 hx5 => ?_
        have hx5 := ok50 hx5
        refine one_b hc5 (by omega) (by decide) (by decide) fun c6 b6 hc6 => ?_
        dsimp only
        refine EvP.cond (fun _ => ?_) (fun _ => ?_) <;> refine one_b hc6 (by omega) (by decide) (by decide) fun c7 b7 hc7 => ?_ <;> refine EvP.cond (fun _ => ?_) (fun _ => ?_)
        · exact fin _ hc7 (by omega) ⟨g1, g2, z0, z0, g5, hx5, g7, n0⟩
        · exact fin _ hc7 (by omega) ⟨g1, g2, z0, g4, g5, hx5, g7, n0⟩
        · exact fin _ hc7 (by omega) ⟨g1, g2, g3, z0, g5, hx5, g7, g8⟩
        · exact fin _ hc7 (by omega) ⟨g1, g2, g3, g4, g5, hx5, g7, g8⟩
      · refine one_b hc4 (by omega) (by decide) (by decide) fun c6 b6 hc6 => ?_
        dsimp only
        refine EvP.cond (fun _ => ?_) (fun _ => ?_) <;> refine one_b hc6 (by omega) (by decide) (by decide) fun c7 b7 hc7 => ?_ <;> refine EvP.cond (fun _ => ?_) (fun _ => ?_)
        · exact fin _ hc7 (by omega) ⟨g1, g2, z0, z0, g5, hcr, g7, n0⟩
        · exact fin _ hc7 (by omega) ⟨g1, g2, z0, g4, g5, hcr, g7, n0⟩
        · exact fin _ hc7 (by omega) ⟨g1, g2, g3, z0, g5, hcr, g7, g8⟩
        · exact fin _ hc7 (by omega) ⟨g1, g2, g3, g4, g5, hcr, g7, g8⟩
    · refine EvP.cond (fun _ => ?_) (fun _ => ?_)
      · refine of_b hc3 (by omega) (by decide) (by decide) (by decide) fun c5 x5 hc5 hx5 => ?_
        have hx5 := ok50 hx5
        refine one_b hc5 (by omega) (by decide) (by decide) fun c6 b6 hc6 => ?_
        dsimp only
        refine EvP.cond (fun _ => ?_) (fun _ => ?_) <;> refine one_b hc6 (by omega) (by decide) (by decide) fun c7 b7 hc7 => ?_ <;> refine EvP.cond (fun _ => ?_) (fun _ => ?_)
        · exact fin _ hc7 (by omega) ⟨g1, g2, z0, z0, g5, hx5, g7, n0⟩
        · exact fin _ hc7 (by omega) ⟨g1, g2, z0, g4, g5, hx5, g7, n0⟩
        · exact fin _ hc7 (by omega) ⟨g1, g2, g3, z0, g5, hx5, g7, g8⟩
        · exact fin _ hc7 (by omega) ⟨g1, g2, g3, g4, g5, hx5, g7, g8⟩
      · refine one_b hc3 (by omega) (by decide) (by decide) fun c6 b6 hc6 => ?_
        dsimp only
        refine EvP.cond (fun _ => ?_) (fun _ => ?_) <;> refine one_b hc6 (by omega) (by decide) (by decide) fun c7 b7 hc7 => ?_ <;> refine EvP.cond (fun _ => ?_) (fun _ => ?_)
        · exact fin _ hc7 (by omega) ⟨g1, g2, z0, z0, g5, g6, g7, n0⟩
        · exact fin _ hc7 (by omega) ⟨g1, g2, z0, g4, g5, g6, g7, n0⟩
        · exact fin _ hc7 (by omega) ⟨g1, g2, g3, z0, g5, g6, g7, g8⟩
        · exact fin _ hc7 (by omega) ⟨g1, g2, g3, g4, g5, g6, g7, g8⟩
theorem crossed_b {n : Int} {c : Cur} (h : cu n c) (hn : n ≤ 100000) : EvP (fun k => spec_l1Cur_crossed.F k c) fun r => cu (n + 20000) r.1 ∧ libOk 10 r.2.entries := by
  unfold spec_l1Cur_crossed.F
  refine EvP.bind (anyLib_b h (by omega)) fun r hr => ?_
  obtain ⟨h1, hl⟩ := hr
  have hs : smallL r.2 := libOk_small hl (by omega)
  refine EvP.of (specLib_ev r.2 hs) ?_
  refine EvP.cond (fun _ => ?_) (fun _ => ?_)
  · exact EvP.pure _ ⟨h1.mono (by omega), hl⟩
  · have := hl.1
    refine EvP.bind (crossed_l0 r.2.entries.length h1 (by omega) [] r.2.entries 0 (by omega) hl.1 hl.2) fun y hy => ?_
    exact EvP.pure _ ⟨hy.1.mono (by omega), hy.2⟩
theorem keyOf_b {n : Int} {c : Cur} (h : cu n c) (hn : n ≤ 400000) {l : Library} (hl : libOk 10 l.entries) : EvP (fun _ => spec_l1Cur_keyOf.F c l) fun r => cu (n + 5) r.1 ∧ r.2.size ≤ 200 := by
  unfold spec_l1Cur_keyOf.F
  have hlen := hl.1
  by_cases c0 : (l.entries.length : Int) = 0
  · simp (disch := exact c0) only [ceq]
    refine of_b h (by omega) (by decide) (by decide) (by decide) fun c5 x5 hc5 hx5 => ?_
    exact EvP.pure _ ⟨hc5.mono (by omega), ok50 hx5⟩
  · simp (disch := exact c0) only [cne]
    refine one_b h (by omega) (by decide) (by decide) fun c6 b6 hc6 => ?_
    refine EvP.cond (fun _ => ?_) (fun _ => ?_)
    · refine of_b hc6 (by omega) (by decide) (by decide) (by decide) fun c5 x5 hc5 hx5 => ?_
      exact EvP.pure _ ⟨hc5.mono (by omega), ok50 hx5⟩
    · refine pick_b hc6 (by omega) (by omega) (by omega) fun c2 x2 hc2 y0 y1 => ?_
      dsimp only
      simp (disch := omega) only [cpos]
      exact EvP.pure _ ⟨hc2.mono (by omega), (libOk_getD hl.2 (by omega) _).1⟩
theorem drawParent_b {code : List Int} (h : byt code) : EvP (fun k => spec_DrawParentOf.F k code) fun r => libOk 10 r.1.entries ∧ r.2.size ≤ 200 := by
  unfold spec_DrawParentOf.F
  refine EvP.bind (crossed_b (cu.start h) (by omega)) fun r hr => ?_
  obtain ⟨r2, ⟨K, hK⟩, h2⟩ := keyOf_b hr.1 (by omega) hr.2
  exact EvP.of0 (hK K (Nat.le_refl _)) (EvP.pure _ ⟨hr.2, h2.2⟩)
end Go.Proofs.YtjbjijgncebbbaaGreatDoor
end
section
/- The plain law of FnCrosses. -/
namespace Go.Proofs.YtjbjijgncebbbaaGreatDoor
open Go.Gx
set_option linter.unusedVariables false
set_option linter.unusedSimpArgs false

/-! ### Chains, link by link -/
abbrev PI (l : Library) (i p : Int) : Prop := Ev (fun k => impl_parentIndex.F k l i) p
def lastV (c : List Int) : Int := c.getD (c.length - 1) 0
def Lk (l : Library) (c : List Int) : Prop := ∀ j, j + 1 < c.length → PI l (c.getD j 0) (c.getD (j + 1) 0)
theorem getD_app1 {c : List Int} {x : Int} {j : Nat} (h : j < c.length) : (c ++ [x]).getD j 0 = c.getD j 0 := by
  rw [List.getD_eq_getElem?_getD, List.getElem?_append_left h, ← List.getD_eq_getElem?_getD]
theorem getD_app2 {c : List Int} {x : Int} : (c ++ [x]).getD c.length 0 = x := by
  rw [List.getD_eq_getElem?_getD, List.getElem?_append_right (Nat.le_refl _), Nat.sub_self]; rfl
theorem lastV_app {c : List Int} {x : Int} : lastV (c ++ [x]) = x := by
  unfold lastV
  rw [show (c ++ [x]).length - 1 = c.length by simp]
  exact getD_app2
theorem Lk.put {l : Library} {c : List Int} {x : Int} (h : Lk l c) (hp : 0 < c.length → PI l (lastV c) x) : Lk l (c ++ [x]) := fun j hj => by
  have hj : j + 1 < c.length + 1 := by simpa using hj
  by_cases e : j + 1 = c.length
  · rw [getD_app1 (by omega), e, getD_app2]
    have := hp (by omega)
    unfold lastV at this
    rw [show c.length - 1 = j by omega] at this
    exact this
  · rw [getD_app1 (by omega), getD_app1 (by omega)]
    exact h j (by omega)
def chE (l : Library) : Sum (List Int × Bool) (List Int) → Prop
  | .inl p => ∃ z, z ∈ p.1 ∧ PI l (lastV p.1) z
  | .inr c => c ≠ [] → ∃ z, z < 0 ∧ PI l (lastV c) z
theorem chain_k (l : Library) (hl : l.entries.length ≤ 8) : ∀ (d : Nat) (acc : List Int) (i : Int), acc.length + d = l.entries.length + 1 → -1 ≤ i → i < l.entries.length → acc.Nodup → (∀ x ∈ acc, 0 ≤ x ∧ x < l.entries.length) → Lk l acc → (0 < acc.length → PI l (lastV acc) i) →
    ∃ r, Ev (fun k => impl_chainOf.l0 k i l acc) r ∧ chR l r ∧ Lk l (chL r) ∧ chE l r ∧ ∃ t, chL r = acc ++ t ∧ (0 ≤ i → i ∉ acc → ∃ t', t = i :: t')
  | 0, acc, i, hd, _, _, hn, ha, _, _ => by have := pigeon _ _ hn ha; omega
  | d + 1, acc, i, hd, h0, h1, hn, ha, hk, hp => by
    have hlen := pigeon _ _ hn ha
    by_cases hi : i < 0
    · refine ⟨.inr acc, Ev.step (fun k => by rw [impl_chainOf.l0]) ?_, ⟨hn, ha⟩, hk, fun hne => ⟨i, hi, hp (by cases acc with | nil => exact absurd rfl hne | cons a b => simp)⟩, [], by simp [chL], fun h => absurd hi (by omega)⟩
      simp (disch := omega) only [cneg]; exact Ev.pure _
    · obtain ⟨e1, e2⟩ := has_ev acc i (by omega)
      by_cases hm : i ∈ acc
      · rw [decide_eq_true hm] at e2
        refine ⟨.inl (acc, true), Ev.step (fun k => by rw [impl_chainOf.l0]) ?_, ⟨rfl, hn, ha⟩, hk, ⟨i, hm, hp (by cases acc with | nil => cases hm | cons a b => simp)⟩, [], by simp [chL], fun _ h => absurd hm h⟩
        simp (disch := omega) only [cpos]; exact Ev.bind e2 (Ev.pure _)
      · rw [decide_eq_false hm] at e2
        obtain ⟨p, p1, p2, p3, p4⟩ := parent_ev l (by omega) i (by omega) h1
        obtain ⟨r, r2, r3, r4, r5, t, r6, _⟩ := chain_k l hl d (acc ++ [i]) p (by simp; omega) p3 p4 (List.nodup_append.2 ⟨hn, by simp, fun a ha' b hb => by simp at hb; subst hb; exact fun e => hm (e ▸ ha')⟩) (fun x hx => by
          rcases List.mem_append.1 hx with hx | hx
          · exact ha x hx
          · simp at hx; subst hx; omega) (hk.put hp) (fun _ => by rw [lastV_app]; exact p2)
        have hr : room (acc.length + ([i] : List Int).length) (.int .i64) = true := room_i8 (by simp; omega)
        refine ⟨r, Ev.step (fun k => by rw [impl_chainOf.l0]) ?_, r3, r4, r5, i :: t, by rw [r6]; simp, fun _ _ => ⟨t, rfl⟩⟩
        simp (disch := omega) only [cpos]
        refine Ev.bind e2 ?_
        simp only [cond_false, hr, cond_true]
        exact Ev.bind p2 r2
theorem chain_kv (l : Library) (hl : l.entries.length ≤ 8) (i : Int) (h0 : 0 ≤ i) (h1 : i < l.entries.length) :
    ∃ c b, Ev (fun k => impl_chainOf.F k l i) (c, b) ∧ (∃ t, c = i :: t) ∧ (∀ x ∈ c, 0 ≤ x ∧ x < l.entries.length) ∧ c.length ≤ 8 ∧ Lk l c ∧ (b = true → ∃ z, z ∈ c ∧ PI l (lastV c) z) ∧ (b = false → ∃ z, z < 0 ∧ PI l (lastV c) z) := by
  obtain ⟨r, r2, r3, r4, r5, t, r6, r7⟩ := chain_k l hl (l.entries.length + 1) [] i (by simp) (by omega) h1 List.nodup_nil (fun x hx => by cases hx) (fun j hj => by simp at hj) (fun h => by simp at h)
  obtain ⟨t', rfl⟩ := r7 h0 (by simp)
  have r6 : chL r = i :: t' := by simpa using r6
  unfold impl_chainOf.F
  cases r with
  | inl p =>
    obtain ⟨c, b⟩ := p
    obtain ⟨hb, hn, ha⟩ := r3
    have hb : b = true := hb
    subst hb
    exact ⟨c, true, Ev.bind r2 (Ev.pure _), ⟨t', r6⟩, ha, Nat.le_trans (pigeon _ _ hn ha) hl, r4, fun _ => r5, fun h => by cases h⟩
  | inr c =>
    have r6 : c = i :: t' := r6
    exact ⟨c, false, Ev.bind r2 (Ev.pure _), ⟨t', r6⟩, r3.2, Nat.le_trans (pigeon _ _ r3.1 r3.2) hl, r4, (fun h => by cases h), fun _ => r5 (by rw [r6]; simp)⟩

/-! ### Entries by their keys -/
section
variable {l : Library} (hs : smallL l) (hB : libB l = true)
set_option linter.unusedSectionVars false
include hs hB
theorem idx_ev {i : Int} (h0 : 0 ≤ i) (h1 : i < l.entries.length) : Ev (fun k => impl_entryIndex.F k l (kAt l i)) i := by
  obtain ⟨r, r1, r2, r3, r4, r5, r6⟩ := findK_ev l (kAt l i) (smallL_len hs)
  have hi : i.toNat < l.entries.length := by omega
  by_cases hr : r < 0
  · exact absurd rfl (r6 hr i.toNat hi)
  · have := r5 (by omega)
    have := keys_ne hB (i := r.toNat) (j := i.toNat) (by omega) hi this
    have : r = i := by omega
    exact Ev.eq r2 this
theorem valid_at {j : Nat} (hj : j < l.entries.length) : entryB l.entries[j] = true := by
  have h := hB
  unfold libB at h
  rw [Bool.and_eq_true, List.all_eq_true] at h
  have := h.1 j (by rw [List.mem_range'_1]; omega)
  unfold okL at this
  rw [Bool.and_eq_true, getD_at hj] at this
  exact this.1
/-! ### What the program answers -/
omit hs hB in
end

/-! ### The law's own checks -/
theorem rTexts_l0 (xs : List ByteArray) (hlen : xs.length ≤ 1048576) : ∀ n i : Nat, i + n = xs.length → Ev (fun k => laws_rTexts.l0 k xs xs i) (.inr ())
  | 0, i, h => by
    refine Ev.step (fun k => by rw [laws_rTexts.l0]) ?_
    simp (disch := omega) only [cneg]
    exact Ev.pure _
  | n + 1, i, h => by
    refine Ev.step (fun k => by rw [laws_rTexts.l0]) ?_
    simp (disch := omega) only [cpos, Int.toNat_natCast, beqS_self, Bool.not_true, cond_false, wrap_in]
    exact rTexts_l0 xs hlen n (i + 1) (by omega)
theorem rTexts_ev (xs : List ByteArray) (hlen : xs.length ≤ 1048576) : Ev (fun k => laws_rTexts.F k xs xs) true := by
  unfold laws_rTexts.F
  simp (disch := omega) only [cbeq]
  exact Ev.bind (rTexts_l0 xs hlen xs.length 0 (by omega)) (Ev.pure _)
/-! ### The law -/
end Go.Proofs.YtjbjijgncebbbaaGreatDoor
end
section
/- Entries with what they inherit: what is kept; they are valid. -/
namespace Go.Proofs.YtjbjijgncebbbaaGreatDoor
open Go.Gx
set_option linter.unusedVariables false
set_option linter.unusedSimpArgs false

def keepsP (e r : Entry) : Prop := r.key = e.key ∧ r.kind = e.kind ∧ r.authors = e.authors ∧ r.title = e.title ∧ r.pages = e.pages ∧ r.cross = e.cross ∧ (e.editors = [] ∨ r.editors = e.editors) ∧ (e.container = ⟨#[]⟩ ∨ r.container = e.container) ∧ (e.publisher = ⟨#[]⟩ ∨ r.publisher = e.publisher) ∧ (e.date.y = 0 ∨ r.date = e.date) ∧ (e.volume = 0 ∨ r.volume = e.volume)
theorem keeps_refl (e : Entry) : keepsP e e := ⟨rfl, rfl, rfl, rfl, rfl, rfl, .inr rfl, .inr rfl, .inr rfl, .inr rfl, .inr rfl⟩
theorem orT_keep (a b : ByteArray) : a = ⟨#[]⟩ ∨ orT a b = a := by
  unfold orT
  cases h : beqS a ⟨#[]⟩ with
  | true => exact .inl (beqS_iff.1 h)
  | false => exact .inr rfl
theorem orT_or (a b : ByteArray) : orT a b = a ∨ orT a b = b := by
  unfold orT
  cases h : beqS a ⟨#[]⟩ with
  | true => exact .inr rfl
  | false => exact .inl rfl
theorem keeps_inh (e p : Entry) : keepsP e (inhV e p) := by
  refine ⟨rfl, rfl, rfl, rfl, rfl, rfl, ?_, ?_, orT_keep _ _, ?_, ?_⟩
  · show _ ∨ (bif e.kind == 3 then _ else _) = _
    cases (e.kind == 3) with
    | false => exact .inr rfl
    | true =>
      simp only [cond_true]
      cases h : e.editors with
      | nil => exact .inl rfl
      | cons a l =>
        right
        have : (((a :: l).length : Int) == 0) = false := by rw [beq_eq_false_iff_ne]; simp; omega
        rw [this]; rfl
  · show _ ∨ (bif e.kind == 3 then _ else _) = _
    cases (e.kind == 3) <;> cases (e.kind == 2) <;> exact orT_keep _ _
  · show _ ∨ (bif e.date.y == 0 then _ else _) = _
    cases h : (e.date.y == 0) with
    | true => exact .inl (by simpa using h)
    | false => exact .inr rfl
  · show _ ∨ (bif e.volume == 0 then _ else _) = _
    cases h : (e.volume == 0) with
    | true => exact .inl (by simpa using h)
    | false => exact .inr rfl
theorem inh_valid {e p : Entry} (he : entryB e = true) (hp : entryB p = true) : entryB (inhV e p) = true := by
  unfold entryB at he hp ⊢
  simp only [Bool.and_eq_true] at he hp ⊢
  obtain ⟨a1, a2, a3, a4, a5, a6, a7, a8, a9, a10, a11⟩ := he
  obtain ⟨b1, b2, b3, b4, b5, b6, b7, b8, b9, b10, b11⟩ := hp
  have tx : ∀ {x y : ByteArray}, textB x = true → textB y = true → textB (orT x y) = true := fun {x y} h1 h2 => by
    rcases orT_or x y with h | h <;> rw [h] <;> assumption
  refine ⟨a1, a2, a3, ?_, a5, ?_, tx a7 b7, a8, ?_, ?_, a11⟩
  · show namesB (bif e.kind == 3 then _ else _) = true
    cases (e.kind == 3) <;> cases ((e.editors.length : Int) == 0) <;> cases ((p.editors.length : Int) == 0) <;> assumption
  · show textB (bif e.kind == 3 then _ else _) = true
    cases (e.kind == 3) <;> cases (e.kind == 2) <;> first
      | exact tx a6 b5
      | exact tx a6 b6
  · show dateB (bif e.date.y == 0 then _ else _) = true
    cases (e.date.y == 0) <;> assumption
  · show insI (bif e.volume == 0 then _ else _) 0 9999 = true
    cases (e.volume == 0) <;> assumption
theorem inh_eOk {e p : Entry} (he : entryOk 50 e) (hp : entryOk 50 p) : entryOk 50 (inhV e p) := by
  obtain ⟨a1, a2, a3, a4, a5, a6, a7, a8⟩ := he
  obtain ⟨b1, b2, b3, b4, b5, b6, b7, b8⟩ := hp
  have tx : ∀ {x y : ByteArray}, x.size ≤ 200 → y.size ≤ 200 → (orT x y).size ≤ 200 := fun {x y} h1 h2 => by
    rcases orT_or x y with h | h <;> rw [h] <;> assumption
  refine ⟨a1, a2, ?_, tx a4 b4, a5, a6, a7, ?_⟩
  · show ByteArray.size (bif e.kind == 3 then _ else _) ≤ 200
    cases (e.kind == 3) <;> cases (e.kind == 2) <;> first
      | exact tx a3 (by omega)
      | exact tx a3 b3
  · show namesOk 8 (bif e.kind == 3 then _ else _)
    cases (e.kind == 3) <;> cases ((e.editors.length : Int) == 0) <;> cases ((p.editors.length : Int) == 0) <;> assumption

/-! ### Along a chain -/
def goodE (e : Entry) : Prop := entryB e = true ∧ entryOk 50 e ∧ okF e
theorem goodE.inh {e p : Entry} (he : goodE e) (hp : goodE p) : goodE (inhV e p) := ⟨inh_valid he.1 hp.1, inh_eOk he.2.1 hp.2.1, inh_ok e p he.2.2 hp.2.2⟩
theorem good_at {m : Nat} {l : Library} (hm : m ≤ 20) (ho : libOk m l.entries) (hB : libB l = true) {i : Nat} (hi : i < l.entries.length) : goodE l.entries[i] :=
  ⟨valid_at (libOk_small ho hm) hB hi, ho.2 _ (List.getElem_mem hi), lib_ok (libOk_small ho hm) hB hi⟩
theorem res_k {l : Library} (hg : ∀ i (h : i < l.entries.length), goodE l.entries[i]) (x4 : Entry) (c : List Int) (hc : ∀ x ∈ c, 0 ≤ x ∧ x < l.entries.length) (hcl : c.length ≤ 8) : ∀ n : Nat, n ≤ c.length → ∀ out : Entry, goodE out →
    ∃ r, goodE r ∧ Ev (fun k => spec_l21Resolve.l0 k l x4.key x4.kind x4.authors x4.editors x4.title x4.container x4.publisher x4.date x4.volume x4.pages x4.cross c out ((n : Int) - 1)) (x4.key, x4.kind, x4.authors, x4.editors, x4.title, x4.container, x4.publisher, x4.date, x4.volume, x4.pages, x4.cross, r) ∧ Ev (fun k => impl_resolveEntry.l0 k l x4.key x4.kind x4.authors x4.editors x4.title x4.container x4.publisher x4.date x4.volume x4.pages x4.cross c out ((n : Int) - 1)) (x4.key, x4.kind, x4.authors, x4.editors, x4.title, x4.container, x4.publisher, x4.date, x4.volume, x4.pages, x4.cross, r) ∧ (n = 0 → r = out) ∧ (1 ≤ n → keepsP (l.entries.getD (c.getD 0 0).toNat (dflt .entry)) r)
  | 0, h, out, ho => by
    refine ⟨out, ho, Ev.step (fun k => by rw [spec_l21Resolve.l0]) ?_, Ev.step (fun k => by rw [impl_resolveEntry.l0]) ?_, fun _ => rfl, fun h => by omega⟩ <;>
      (simp (disch := omega) only [cneg]; exact Ev.pure _)
  | n + 1, h, out, ho => by
    have hn : n < c.length := by omega
    obtain ⟨x0, x1⟩ := hc _ (List.getElem_mem hn)
    have hx : c[n].toNat < l.entries.length := by omega
    have hk := hg _ hx
    obtain ⟨r, r1, r2, r3, r4, r5⟩ := res_k hg x4 c hc hcl n (by omega) (inhV l.entries[c[n].toNat] out) (hk.inh ho)
    rw [show ((n + 1 : Nat) : Int) - 1 = (n : Int) by omega]
    refine ⟨r, r1, Ev.step (fun k => by rw [spec_l21Resolve.l0]) ?_, Ev.step (fun k => by rw [impl_resolveEntry.l0]) ?_, (fun h => by omega), fun _ => ?_⟩
    · simp (disch := omega) only [cpos, Int.toNat_natCast, getD_at hn, getD_at hx, wrap_in]
      exact Ev.bind (specInh_ev _ _ hk.2.2 ho.2.2) r2
    · simp (disch := omega) only [cpos, Int.toNat_natCast, getD_at hn, getD_at hx, wrap_in]
      exact Ev.bind (newEntry_ev _ hk.2.2) (Ev.bind (implInh_ev _ _ hk.2.2 ho.2.2) r3)
    · cases n with
      | zero =>
        rw [r4 rfl, getD_at hn, getD_at hx]
        exact keeps_inh _ _
      | succ n => exact r5 (by omega)
theorem zeroE_ok : entryOk 50 (⟨(⟨#[]⟩ : ByteArray), 0, [], [], (⟨#[]⟩ : ByteArray), (⟨#[]⟩ : ByteArray), (⟨#[]⟩ : ByteArray), (dflt .date), 0, (⟨#[]⟩ : ByteArray), (⟨#[]⟩ : ByteArray)⟩ : Entry) :=
  ⟨zero200, Nat.zero_le _, zero200, zero200, zero200, zero200, names0 8, names0 8⟩
theorem resolve_k {l : Library} (hl : l.entries.length ≤ 8) (hg : ∀ i (h : i < l.entries.length), goodE l.entries[i]) (i : Int) (h0 : 0 ≤ i) (h1 : i < l.entries.length) :
    ∃ r b c, Ev (fun k => spec_l21Resolve.F k l i) (r, b) ∧ Ev (fun k => impl_resolveEntry.F k l i) (r, b) ∧ Ev (fun k => impl_chainOf.F k l i) (c, !b) ∧ entryOk 50 r ∧ (b = true → goodE r ∧ keepsP (l.entries.getD i.toNat (dflt .entry)) r) := by
  obtain ⟨c, b, c1, c2, c3, c4, c5, c6⟩ := chain_ev1 l hl i h0 h1
  obtain ⟨c', b', d1, ⟨t, d2⟩, _⟩ := chain_kv l hl i h0 h1
  have := Ev.uniq c2 d1
  simp only [Prod.mk.injEq] at this
  obtain ⟨rfl, rfl⟩ := this
  unfold spec_l21Resolve.F impl_resolveEntry.F
  cases b with
  | true => exact ⟨_, false, c, Ev.bind c1 (Ev.pure _), Ev.bind c2 (Ev.pure _), c2, zeroE_ok, fun h => by cases h⟩
  | false =>
    have hn : c.length - 1 < c.length := by omega
    obtain ⟨x0, x1⟩ := c4 _ (List.getElem_mem hn)
    have hx : c[c.length - 1].toNat < l.entries.length := by omega
    have hk := hg _ hx
    have e1 : ((c.length : Int) - 1).toNat = c.length - 1 := by omega
    obtain ⟨r, r1, r2, r3, r4, r5⟩ := res_k hg (dflt .entry) c c4 (by omega) (c.length - 1) (by omega) _ hk
    have e2 : ((c.length - 1 : Nat) : Int) - 1 = (c.length : Int) - 2 := by omega
    rw [e2] at r2 r3
    have hc0 : c.getD 0 0 = i := by rw [d2]; rfl
    refine ⟨r, true, c, Ev.bind c1 ?_, Ev.bind c2 ?_, c2, r1.2.1, fun _ => ⟨r1, ?_⟩⟩
    · simp (disch := omega) only [cond_false, wrap_in, e1, cpos, getD_at hn, getD_at hx]
      exact Ev.bind (copy_ev _ hk.2.2) (Ev.bind r2 (Ev.pure _))
    · simp (disch := omega) only [cond_false, wrap_in, e1, cpos, getD_at hn, getD_at hx]
      exact Ev.bind (newEntry_ev _ hk.2.2) (Ev.bind r3 (Ev.pure _))
    · by_cases hc : c.length = 1
      · rw [r4 (by omega)]
        have h4 : c.getD (c.length - 1) 0 = i := by rw [show c.length - 1 = 0 by omega]; exact hc0
        have hci : c[c.length - 1] = i := (getD_at hn 0).symm.trans h4
        have h5 : l.entries.getD i.toNat (dflt .entry) = l.entries[c[c.length - 1].toNat] := (congrArg (fun z : Int => l.entries.getD z.toNat (dflt .entry)) hci.symm).trans (getD_at hx (dflt .entry))
        rw [h5]
        exact keeps_refl _
      · have := r5 (by omega)
        rw [hc0] at this
        exact this
end Go.Proofs.YtjbjijgncebbbaaGreatDoor
end
section
/- The plain law of InheritedFields. -/
namespace Go.Proofs.YtjbjijgncebbbaaGreatDoor
open Go.Gx
set_option linter.unusedVariables false
set_option linter.unusedSimpArgs false

def fw5 : List ByteArray := [⟨#[101, 100, 105, 116, 111, 114, 115]⟩, ⟨#[99, 111, 110, 116, 97, 105, 110, 101, 114]⟩, ⟨#[112, 117, 98, 108, 105, 115, 104, 101, 114]⟩, ⟨#[100, 97, 116, 101]⟩, ⟨#[118, 111, 108, 117, 109, 101]⟩]
theorem fw5_len : fw5.length = 5 := rfl
theorem fw5_sub {f : ByteArray} (h : f ∈ fw5) : f ∈ fw8 := by
  unfold fw5 at h
  unfold fw8
  simp only [List.mem_cons, List.not_mem_nil, or_false] at h ⊢
  rcases h with rfl | rfl | rfl | rfl | rfl <;> simp
theorem inhF_l (a b : Entry) (ha : okF a) (hb : okF b) : ∀ n i : Nat, i + n = 5 → ∀ acc : List ByteArray, acc.length ≤ i →
    ∃ r, Ev (fun k => spec_InheritedFields.l0 k acc b a fw5 i) r ∧ Ev (fun k => impl_InheritedFields.l0 k b a acc fw5 5 i) r ∧ r.length ≤ 5
  | 0, i, h, acc, hc => by
    refine ⟨acc, Ev.step (fun k => by rw [spec_InheritedFields.l0]) ?_, Ev.step (fun k => by rw [impl_InheritedFields.l0]) ?_, by omega⟩
    · simp (disch := (try rw [fw5_len]); omega) only [cneg]; exact Ev.pure _
    · simp (disch := omega) only [cneg]; exact Ev.pure _
  | n + 1, i, h, acc, hc => by
    have hl := fw5_len
    have hi : i < fw5.length := by omega
    have hr : ∀ z : ByteArray, room (acc.length + ([z] : List ByteArray).length) .str = true := fun z => room_s (by simp; omega)
    have hm := fw5_sub (List.getElem_mem hi)
    obtain ⟨t1, b1, x1, x2⟩ := field_ev a ha _ hm
    obtain ⟨t2, b2, y1, y2⟩ := field_ev b hb _ hm
    obtain ⟨r, r1, r2, r3⟩ := inhF_l a b ha hb n (i + 1) (by omega) acc (by omega)
    obtain ⟨q, q1, q2, q3⟩ := inhF_l a b ha hb n (i + 1) (by omega) (acc ++ [fw5[i]]) (by simp; omega)
    refine ⟨bif beqS t1 ⟨#[]⟩ && (!beqS t2 ⟨#[]⟩) then q else r, Ev.step (fun k => by rw [spec_InheritedFields.l0]) ?_, Ev.step (fun k => by rw [impl_InheritedFields.l0]) ?_, ?_⟩
    · simp (disch := omega) only [cpos, Int.toNat_natCast, getD_at hi]
      refine Ev.bind x1 (Ev.bind y1 ?_)
      cases beqS t1 ⟨#[]⟩ <;> cases beqS t2 ⟨#[]⟩ <;> simp (disch := omega) only [Bool.not_true, Bool.not_false, cond_true, cond_false, Bool.and_true, Bool.and_false, Bool.true_and, Bool.false_and, hr, wrap_in] <;> first | exact q1 | exact r1
    · simp (disch := omega) only [cpos, Int.toNat_natCast, getD_at hi]
      refine Ev.bind x2 ?_
      cases beqS t1 ⟨#[]⟩ with
      | false =>
        simp (disch := omega) only [cond_false, Bool.false_and, wrap_in]
        exact r2
      | true =>
        simp only [cond_true, Bool.true_and]
        refine Ev.bind y2 ?_
        cases beqS t2 ⟨#[]⟩ <;> simp (disch := omega) only [Bool.not_true, Bool.not_false, cond_true, cond_false, hr, wrap_in] <;> first | exact q2 | exact r2
    · cases (beqS t1 ⟨#[]⟩ && (!beqS t2 ⟨#[]⟩)) <;> assumption
end Go.Proofs.YtjbjijgncebbbaaGreatDoor
end
section
/- The plain law of FnInheritance. -/
namespace Go.Proofs.YtjbjijgncebbbaaGreatDoor
open Go.Gx
set_option linter.unusedVariables false
set_option linter.unusedSimpArgs false

/-! ### The law's own checks -/
theorem rNames_l0 (xs : List Name) (hx : namesOk 8 xs) : ∀ n i : Nat, i + n = xs.length → Ev (fun k => laws_rNames.l0 k xs xs i) (.inr ())
  | 0, i, h => by
    have hl := hx.1
    refine Ev.step (fun k => by rw [laws_rNames.l0]) ?_
    simp (disch := omega) only [cneg]
    exact Ev.pure _
  | n + 1, i, h => by
    have hl := hx.1
    have hi : i < xs.length := by omega
    have hg := (hx.2 _ (List.getElem_mem hi)).1
    refine Ev.step (fun k => by rw [laws_rNames.l0]) ?_
    simp (disch := omega) only [cpos, Int.toNat_natCast, getD_at hi]
    refine Ev.bind (rTexts_ev _ (by omega)) ?_
    simp (disch := omega) only [beqS_self, Bool.not_true, cond_false, wrap_in]
    exact rNames_l0 xs hx n (i + 1) (by omega)
theorem rNames_ev (xs : List Name) (hx : namesOk 8 xs) : Ev (fun k => laws_rNames.F k xs xs) true := by
  unfold laws_rNames.F
  simp (disch := omega) only [cbeq]
  exact Ev.bind (rNames_l0 xs hx xs.length 0 (by omega)) (Ev.pure _)
theorem rEntries_ev (e : Entry) (h : entryOk 50 e) : Ev (fun k => laws_rEntries.F k e e) true := by
  obtain ⟨_, _, _, _, _, _, h7, h8⟩ := h
  unfold laws_rEntries.F
  simp only [beqS_self, beq_self_eq_true, cond_true, Bool.and_true]
  exact Ev.bind (rNames_ev _ h7) (Ev.bind (rNames_ev _ h8) (Ev.pure _))
theorem rLib_l0 (l : Library) (hl : libOk 20 l.entries) : ∀ n i : Nat, i + n = l.entries.length → Ev (fun k => laws_rLibraries.l0 k l l i) (.inr ())
  | 0, i, h => by
    have := hl.1
    refine Ev.step (fun k => by rw [laws_rLibraries.l0]) ?_
    simp (disch := omega) only [cneg]
    exact Ev.pure _
  | n + 1, i, h => by
    have := hl.1
    have hi : i < l.entries.length := by omega
    refine Ev.step (fun k => by rw [laws_rLibraries.l0]) ?_
    simp (disch := omega) only [cpos, Int.toNat_natCast, getD_at hi]
    refine Ev.bind (rEntries_ev _ (hl.2 _ (List.getElem_mem hi))) ?_
    simp (disch := omega) only [Bool.not_true, cond_false, wrap_in]
    exact rLib_l0 l hl n (i + 1) (by omega)
theorem rLib_ev (l : Library) (hl : libOk 20 l.entries) : Ev (fun k => laws_rLibraries.F k l l) true := by
  unfold laws_rLibraries.F
  simp (disch := omega) only [cbeq]
  exact Ev.bind (rLib_l0 l hl l.entries.length 0 (by omega)) (Ev.pure _)

/-! ### Fields that are kept -/
theorem nil_text : namesT [] = (⟨#[]⟩ : ByteArray) := by apply L_inj; rw [namesT, L_joinT]; rfl
theorem fieldKeep {e r : Entry} (hk : keepsP e r) (he : goodE e) {f : ByteArray} (hf : f ∈ fw8) {t : ByteArray} (ht : Ev (fun k => impl_fieldText.F k e f) t) : t = ⟨#[]⟩ ∨ Ev (fun k => impl_fieldText.F k r f) t := by
  obtain ⟨k1, k2, k3, k4, k5, k6, k7, k8, k9, k10, k11⟩ := hk
  obtain ⟨y0, _, _⟩ := dateB_rng he.2.2.2.2.1
  obtain ⟨v0, v1⟩ : 0 ≤ e.volume ∧ e.volume ≤ 9999 := ⟨he.2.2.2.2.2.1, he.2.2.2.2.2.2.1⟩
  unfold fw8 at hf
  simp only [List.mem_cons, List.not_mem_nil, or_false] at hf
  unfold impl_fieldText.F at ht ⊢
  rcases hf with rfl | rfl | rfl | rfl | rfl | rfl | rfl | rfl
  all_goals simp only [fw_0_1, fw_0_2, fw_0_3, fw_0_4, fw_0_5, fw_0_6, fw_0_7, fw_1_0, fw_1_2, fw_1_3, fw_1_4, fw_1_5, fw_1_6, fw_1_7, fw_2_0, fw_2_1, fw_2_3, fw_2_4, fw_2_5, fw_2_6, fw_2_7, fw_3_0, fw_3_1, fw_3_2, fw_3_4, fw_3_5, fw_3_6, fw_3_7, fw_4_0, fw_4_1, fw_4_2, fw_4_3, fw_4_5, fw_4_6, fw_4_7, fw_5_0, fw_5_1, fw_5_2, fw_5_3, fw_5_4, fw_5_6, fw_5_7, fw_6_0, fw_6_1, fw_6_2, fw_6_3, fw_6_4, fw_6_5, fw_6_7, fw_7_0, fw_7_1, fw_7_2, fw_7_3, fw_7_4, fw_7_5, fw_7_6, beqS_self, cond_true, cond_false] at ht ⊢
  · right; rw [k3]; exact ht
  · rcases k7 with h | h
    · left
      rw [h] at ht
      have := Ev.bind (g := fun _ r => some r) (namesT_ev [] (by simp) (fun n hn => by cases hn)) (Ev.pure (namesT []))
      rw [Ev.uniq ht this, nil_text]
    · right; rw [h]; exact ht
  · right; rw [k4]; exact ht
  · rcases k8 with h | h
    · left; rw [h] at ht; exact Ev.uniq ht (Ev.pure _)
    · right; rw [h]; exact ht
  · rcases k9 with h | h
    · left; rw [h] at ht; exact Ev.uniq ht (Ev.pure _)
    · right; rw [h]; exact ht
  · rcases k10 with h | h
    · left
      simp (disch := omega) only [cneg] at ht
      exact Ev.uniq ht (Ev.pure _)
    · right; rw [h]; exact ht
  · rcases k11 with h | h
    · left
      simp (disch := omega) only [cneg] at ht
      exact Ev.uniq ht (Ev.pure _)
    · right; rw [h]; exact ht
  · right; rw [k5]; exact ht
theorem noconf_l {e r : Entry} (hk : keepsP e r) (he : goodE e) (hr : goodE r) : ∀ n i : Nat, i + n = 8 → Ev (fun k => impl_FieldConflicts.l0 k e r [] glV0 i) []
  | 0, i, h => by
    refine Ev.step (fun k => by rw [impl_FieldConflicts.l0]) ?_
    simp (disch := omega) only [cneg]; exact Ev.pure _
  | n + 1, i, h => by
    have hl := fw_len
    have hi : i < glV0.length := by omega
    have hm : glV0[i] ∈ fw8 := gw_eq ▸ List.getElem_mem hi
    obtain ⟨t1, b1, x1, x2⟩ := field_ev e he.2.2 _ hm
    obtain ⟨t2, b2, y1, y2⟩ := field_ev r hr.2.2 _ hm
    have ih := noconf_l hk he hr n (i + 1) (by omega)
    refine Ev.step (fun k => by rw [impl_FieldConflicts.l0]) ?_
    simp (disch := omega) only [cpos, Int.toNat_natCast, getD_at hi]
    refine Ev.bind x2 (Ev.bind y2 ?_)
    simp (disch := omega) only [wrap_in]
    refine Ev.cond (fun h1 => ?_) (fun _ => ih)
    refine Ev.cond (fun _ => ?_) (fun _ => ih)
    rcases fieldKeep hk he hm x2 with h2 | h2
    · rw [h2, beqS_self] at h1; cases h1
    · have := Ev.uniq h2 y2
      rw [this, beqS_self]
      exact ih
theorem noconf_ev {e r : Entry} (hk : keepsP e r) (he : goodE e) (hr : goodE r) : Ev (fun k => impl_FieldConflicts.F k e r) (([] : List ByteArray), true) := by
  have a2 := isEntry_ev e (entryOk_small (by omega) he.2.1)
  have b2 := isEntry_ev r (entryOk_small (by omega) hr.2.1)
  rw [he.1] at a2
  rw [hr.1] at b2
  unfold impl_FieldConflicts.F
  exact Ev.bind a2 (Ev.bind b2 (Ev.bind (noconf_l hk he hr 8 0 (by omega)) (Ev.pure _)))

/-! ### An entry -/
theorem resE_k {l : Library} (ho : libOk 10 l.entries) (key : ByteArray) : ∃ e b, Ev (fun k => spec_ResolveEntry.F k l key) (e, b) ∧ Ev (fun k => impl_ResolveEntry.F k l key) (e, b) ∧ entryOk 50 e ∧
    (b = true → goodE e ∧ libB l = true ∧ l.entries.length ≤ 8 ∧ ∃ i : Int, 0 ≤ i ∧ i < l.entries.length ∧ Ev (fun k => spec_l4Find.F k l key) i ∧ Ev (fun k => impl_entryIndex.F k l key) i ∧ keepsP (l.entries.getD i.toNat (dflt .entry)) e) := by
  have hs := libOk_small ho (by omega)
  obtain ⟨v, i, a1, a2, a3, a4, a5, a6, a7, a8, a9⟩ := asked_ev l hs key
  unfold spec_ResolveEntry.F impl_ResolveEntry.F
  cases v with
  | false => exact ⟨_, false, Ev.bind a1 (Ev.pure _), Ev.bind a5 (Ev.bind a3 (Ev.pure _)), zeroE_ok, fun h => by cases h⟩
  | true =>
    by_cases hi : i < 0
    · rw [decide_eq_false (by omega)] at a1
      refine ⟨_, false, Ev.bind a1 (Ev.pure _), Ev.bind a5 (Ev.bind a3 ?_), zeroE_ok, fun h => by cases h⟩
      simp (disch := omega) only [Bool.not_true, cond_false, cpos]
      exact Ev.pure _
    · rw [decide_eq_true (by omega)] at a1
      obtain ⟨hl, hB⟩ := a8 rfl
      obtain ⟨r, b, c, r1, r2, r3, r4, r5⟩ := resolve_k hl (fun i h => good_at (by omega) ho hB h) i (by omega) a7
      refine ⟨r, b, Ev.bind a1 (Ev.bind a4 (Ev.bind r1 (Ev.pure _))), Ev.bind a5 (Ev.bind a3 ?_), r4, fun h => ⟨(r5 h).1, hB, hl, i, by omega, a7, a4, a5, (r5 h).2⟩⟩
      simp (disch := omega) only [Bool.not_true, cond_false, cneg]
      exact Ev.bind r2 (Ev.pure _)
theorem inherited_k {l : Library} (ho : libOk 10 l.entries) (key : ByteArray) {e : Entry} (he : Ev (fun k => impl_ResolveEntry.F k l key) (e, true)) : ∃ r, Ev (fun k => spec_InheritedFields.F k l key) (r, true) ∧ Ev (fun k => impl_InheritedFields.F k l key) (r, true) ∧ r.length ≤ 5 := by
  obtain ⟨e', b, e1, e2, _, e3⟩ := resE_k ho key
  have := Ev.uniq he e2
  simp only [Prod.mk.injEq] at this
  obtain ⟨rfl, rfl⟩ := this
  unfold spec_InheritedFields.F impl_InheritedFields.F
  obtain ⟨hk, hB, hl, i, i0, i1, f1, f2, _⟩ := e3 rfl
  have hx : i.toNat < l.entries.length := by omega
  have hg := good_at (m := 10) (by omega) ho hB hx
  obtain ⟨r, r1, r2, r3⟩ := inhF_l l.entries[i.toNat] e hg.2.2 hk.2.2 5 0 (by omega) [] (by simp)
  have hof : Ev (fun k => impl_entryOf.F k l key) l.entries[i.toNat] := by
    unfold impl_entryOf.F
    refine Ev.bind f2 ?_
    simp (disch := omega) only [cpos, getD_at hx]
    exact Ev.pure _
  refine ⟨r, Ev.bind e1 (Ev.bind f1 ?_), Ev.bind e2 (Ev.bind hof (Ev.bind r2 (Ev.pure _))), r3⟩
  simp (disch := omega) only [cpos, getD_at hx]
  exact Ev.bind r1 (Ev.pure _)

/-! ### A library -/
def RP (l : Library) (j : Nat) (r : Entry) : Prop := goodE r ∧ keepsP (l.entries.getD j (dflt .entry)) r ∧ ∃ c, Ev (fun k => impl_chainOf.F k l j) (c, false)
def resOk (l : Library) (n : Nat) : Sum (List Entry × Bool) (List Entry × List Entry) → Prop
  | .inl p => p = ([], false)
  | .inr q => q.2.length = n ∧ ∀ j, j < n → RP l j (q.2.getD j (dflt .entry))
theorem resL_l {l : Library} (hl : l.entries.length ≤ 8) (hg : ∀ i (h : i < l.entries.length), goodE l.entries[i]) : ∀ n i : Nat, i + n = l.entries.length → ∀ z acc : List Entry, acc.length = i → (∀ j, j < i → RP l j (acc.getD j (dflt .entry))) →
    ∃ q, Ev (fun k => spec_ResolveLibrary.l0 k l z acc i) q ∧ Ev (fun k => impl_ResolveLibrary.l0 k l z acc l.entries.length i) q ∧ resOk l l.entries.length q ∧ ((∀ j, j < l.entries.length → ∃ c, Ev (fun k => impl_chainOf.F k l j) (c, false)) → ∃ y, q = .inr y)
  | 0, i, h, z, acc, ha, hp => by
    refine ⟨.inr (z, acc), Ev.step (fun k => by rw [spec_ResolveLibrary.l0]) ?_, Ev.step (fun k => by rw [impl_ResolveLibrary.l0]) ?_, ⟨by show acc.length = _; omega, fun j hj => hp j (by omega)⟩, fun _ => ⟨_, rfl⟩⟩
    · simp (disch := omega) only [cneg]; exact Ev.pure _
    · simp (disch := omega) only [cneg]; exact Ev.pure _
  | n + 1, i, h, z, acc, ha, hp => by
    have hr : ∀ e : Entry, room (acc.length + ([e] : List Entry).length) .entry = true := fun e => roomE (by simp; omega)
    obtain ⟨r, b, c, r1, r2, r3, r4, r5⟩ := resolve_k hl hg i (by omega) (by omega)
    cases b with
    | false =>
      refine ⟨.inl ([], false), Ev.step (fun k => by rw [spec_ResolveLibrary.l0]) ?_, Ev.step (fun k => by rw [impl_ResolveLibrary.l0]) ?_, rfl, fun hc => ?_⟩
      · simp (disch := omega) only [cpos]; exact Ev.bind r1 (Ev.pure _)
      · simp (disch := omega) only [cpos]; exact Ev.bind r2 (Ev.pure _)
      · obtain ⟨c', hc'⟩ := hc i (by omega)
        have := Ev.uniq r3 hc'
        simp at this
    | true =>
      obtain ⟨g1, g2⟩ := r5 rfl
      have g2 : keepsP (l.entries.getD i (dflt .entry)) r := by simpa using g2
      obtain ⟨q, q1, q2, q3, q4⟩ := resL_l hl hg n (i + 1) (by omega) z (acc ++ [r]) (by simp [ha]) fun j hj => by
        by_cases e : j = i
        · subst e
          have : (acc ++ [r]).getD j (dflt .entry) = r := by
            rw [List.getD_eq_getElem?_getD, List.getElem?_append_right (by omega), show j - acc.length = 0 by omega]; rfl
          rw [this]
          exact ⟨g1, g2, c, r3⟩
        · have : (acc ++ [r]).getD j (dflt .entry) = acc.getD j (dflt .entry) := by
            rw [List.getD_eq_getElem?_getD, List.getElem?_append_left (by omega), ← List.getD_eq_getElem?_getD]
          rw [this]
          exact hp j (by omega)
      refine ⟨q, Ev.step (fun k => by rw [spec_ResolveLibrary.l0]) ?_, Ev.step (fun k => by rw [impl_ResolveLibrary.l0]) ?_, q3, q4⟩
      · simp (disch := omega) only [cpos]
        refine Ev.bind r1 ?_
        simp (disch := omega) only [Bool.not_true, cond_false, hr, cond_true, wrap_in]; exact q1
      · simp (disch := omega) only [cpos]
        refine Ev.bind r2 ?_
        simp (disch := omega) only [Bool.not_true, cond_false, hr, cond_true, wrap_in]; exact q2
theorem resL_k {l : Library} (ho : libOk 10 l.entries) : ∃ r b, Ev (fun k => spec_ResolveLibrary.F k l) (r, b) ∧ Ev (fun k => impl_ResolveLibrary.F k l) (r, b) ∧ libOk 20 r.entries ∧
    (b = true → libB l = true ∧ r.entries.length = l.entries.length ∧ ∀ j, j < l.entries.length → RP l j (r.entries.getD j (dflt .entry))) ∧
    (libB l = true → (∀ j, j < l.entries.length → ∃ c, Ev (fun k => impl_chainOf.F k l j) (c, false)) → b = true) := by
  have hs := libOk_small ho (by omega)
  have v1 := specLib_ev l hs
  have v2 := isLib_ev l hs
  unfold spec_ResolveLibrary.F impl_ResolveLibrary.F
  have l0 : libOk 20 ([] : List Entry) := ⟨Nat.zero_le _, fun e h => by cases h⟩
  cases hB : libB l with
  | false =>
    rw [hB] at v1 v2
    exact ⟨⟨[]⟩, false, Ev.bind v1 (Ev.pure _), Ev.bind v2 (Ev.pure _), l0, (fun h => by cases h), fun h => by cases h⟩
  | true =>
    rw [hB] at v1 v2
    have hl := libB_len hB
    obtain ⟨q, q1, q2, q3, q4⟩ := resL_l hl (fun i h => good_at (by omega) ho hB h) l.entries.length 0 (by omega) [] [] rfl (fun j hj => by omega)
    cases q with
    | inl p =>
      have q3 : p = ([], false) := q3
      subst q3
      exact ⟨⟨[]⟩, false, Ev.bind v1 (Ev.bind q1 (Ev.pure _)), Ev.bind v2 (Ev.bind q2 (Ev.pure _)), l0, (fun h => by cases h), fun _ hc => by obtain ⟨y, hy⟩ := q4 hc; cases hy⟩
    | inr y =>
      obtain ⟨q5, q6⟩ : y.2.length = l.entries.length ∧ ∀ j, j < l.entries.length → RP l j (y.2.getD j (dflt .entry)) := q3
      refine ⟨⟨y.2⟩, true, Ev.bind v1 (Ev.bind q1 (Ev.pure _)), Ev.bind v2 (Ev.bind q2 (Ev.pure _)), ⟨by show y.2.length ≤ 20; omega, fun e he => ?_⟩, fun _ => ⟨rfl, q5, q6⟩, fun _ _ => rfl⟩
      obtain ⟨j, hj, rfl⟩ := List.getElem_of_mem he
      have hj : j < y.2.length := hj
      have := (q6 j (by omega)).1.2.1
      rw [getD_at hj] at this
      exact this

/-! ### Resolved once more -/
section
set_option linter.unusedSectionVars false
variable {l r : Library} (hlen : r.entries.length = l.entries.length) (hr : ∀ j, j < l.entries.length → RP l j (r.entries.getD j (dflt .entry))) (hB : libB l = true)
include hlen hr
theorem key_same {j : Nat} (hj : j < l.entries.length) : (r.entries.getD j (dflt .entry)).key = (l.entries.getD j (dflt .entry)).key := (hr j hj).2.1.1
theorem cross_same {j : Nat} (hj : j < l.entries.length) : (r.entries.getD j (dflt .entry)).cross = (l.entries.getD j (dflt .entry)).cross := (hr j hj).2.1.2.2.2.2.2.1
include hB
theorem valid_r : libB r = true := by
  have h := hB
  unfold libB at h ⊢
  rw [hlen]
  simp only [Bool.and_eq_true, List.all_eq_true] at h ⊢
  refine ⟨fun j hj => ?_, h.2⟩
  have hjl : j < l.entries.length := by rw [List.mem_range'_1] at hj; omega
  have := h.1 j hj
  unfold okL at this ⊢
  simp only [Bool.and_eq_true, Bool.or_eq_true, decide_eq_true_eq] at this ⊢
  refine ⟨(hr j hjl).1.1, ?_⟩
  rcases this.2 with h0 | h0
  · exact .inl h0
  · refine .inr ?_
    rw [key_same hlen hr hjl, key_same hlen hr (by omega)]
    exact h0
theorem idx_same (ho : smallL l) (hor : smallL r) {key : ByteArray} {p : Int} (h : Ev (fun k => impl_entryIndex.F k l key) p) : Ev (fun k => impl_entryIndex.F k r key) p := by
  obtain ⟨a, a1, a2, a3, a4, a5, a6⟩ := findK_ev l key (smallL_len ho)
  obtain ⟨b, b1, b2, b3, b4, b5, b6⟩ := findK_ev r key (smallL_len hor)
  have := Ev.uniq h a2
  subst this
  refine Ev.eq b2 ?_
  rw [hlen] at b4 b6
  by_cases ha : p < 0
  · by_cases hb : b < 0
    · omega
    · have := b5 (by omega)
      unfold kAt at this
      rw [key_same hlen hr (by omega)] at this
      exact absurd this (a6 ha _ (by omega))
  · have h1 := a5 (by omega)
    have hp : p.toNat < l.entries.length := by omega
    by_cases hb : b < 0
    · have := b6 hb p.toNat hp
      rw [key_same hlen hr hp] at this
      exact absurd h1 this
    · have h2 := b5 (by omega)
      unfold kAt at h1 h2
      rw [key_same hlen hr (by omega)] at h2
      have := keys_ne hB (i := b.toNat) (j := p.toNat) (by omega) hp (h2.trans h1.symm)
      omega
theorem par_same (ho : smallL l) (hor : smallL r) {i p : Int} (h0 : 0 ≤ i) (h1 : i < l.entries.length) (h : PI l i p) : PI r i p := by
  have hi : i.toNat < l.entries.length := by omega
  have hc := cross_same hlen hr hi
  show Ev _ _
  have h : Ev (fun k => impl_parentIndex.F k l i) p := h
  unfold impl_parentIndex.F at h ⊢
  rw [hlen]
  simp (disch := omega) only [cpos] at h ⊢
  rw [hc]
  cases hb : beqS (l.entries.getD i.toNat (dflt .entry)).cross ⟨#[]⟩ with
  | true => rw [hb] at h; exact h
  | false =>
    rw [hb] at h
    simp only [cond_false] at h ⊢
    obtain ⟨a, a1, a2, _⟩ := findK_ev l (l.entries.getD i.toNat (dflt .entry)).cross (smallL_len ho)
    have := Ev.uniq h (Ev.bind a2 (Ev.pure a))
    subst this
    exact Ev.bind (idx_same hlen hr hB ho hor a2) (Ev.pure _)
theorem chain_same (ho : smallL l) (hor : smallL r) (hl : l.entries.length ≤ 8) : ∀ (d : Nat) (acc : List Int) (i : Int), acc.length + d = l.entries.length + 1 → -1 ≤ i → i < l.entries.length → acc.Nodup → (∀ x ∈ acc, 0 ≤ x ∧ x < l.entries.length) →
    ∃ q, Ev (fun k => impl_chainOf.l0 k i l acc) q ∧ Ev (fun k => impl_chainOf.l0 k i r acc) q
  | 0, acc, i, hd, _, _, hn, ha => by have := pigeon _ _ hn ha; omega
  | d + 1, acc, i, hd, h0, h1, hn, ha => by
    have hlen' := pigeon _ _ hn ha
    by_cases hi : i < 0
    · refine ⟨.inr acc, Ev.step (fun k => by rw [impl_chainOf.l0]) ?_, Ev.step (fun k => by rw [impl_chainOf.l0]) ?_⟩
      · simp (disch := omega) only [cneg]; exact Ev.pure _
      · simp (disch := omega) only [cneg]; exact Ev.pure _
    · obtain ⟨e1, e2⟩ := has_ev acc i (by omega)
      by_cases hm : i ∈ acc
      · rw [decide_eq_true hm] at e2
        refine ⟨.inl (acc, true), Ev.step (fun k => by rw [impl_chainOf.l0]) ?_, Ev.step (fun k => by rw [impl_chainOf.l0]) ?_⟩
        · simp (disch := omega) only [cpos]; exact Ev.bind e2 (Ev.pure _)
        · simp (disch := omega) only [cpos]; exact Ev.bind e2 (Ev.pure _)
      · rw [decide_eq_false hm] at e2
        obtain ⟨p, p1, p2, p3, p4⟩ := parent_ev l (by omega) i (by omega) h1
        obtain ⟨q, q1, q2⟩ := chain_same ho hor hl d (acc ++ [i]) p (by simp; omega) p3 p4 (List.nodup_append.2 ⟨hn, by simp, fun a ha' b hb => by simp at hb; subst hb; exact fun e => hm (e ▸ ha')⟩) (fun x hx => by
          rcases List.mem_append.1 hx with hx | hx
          · exact ha x hx
          · simp at hx; subst hx; omega)
        have hr' : room (acc.length + ([i] : List Int).length) (.int .i64) = true := room_i8 (by simp; omega)
        refine ⟨q, Ev.step (fun k => by rw [impl_chainOf.l0]) ?_, Ev.step (fun k => by rw [impl_chainOf.l0]) ?_⟩
        · simp (disch := omega) only [cpos]
          refine Ev.bind e2 ?_
          simp only [cond_false, hr', cond_true]
          exact Ev.bind p2 q1
        · simp (disch := omega) only [cpos]
          refine Ev.bind e2 ?_
          simp only [cond_false, hr', cond_true]
          exact Ev.bind (par_same hlen hr hB ho hor (by omega) h1 p2) q2
theorem acyc_same (ho : smallL l) (hor : smallL r) (hl : l.entries.length ≤ 8) {j : Nat} (hj : j < l.entries.length) : ∃ c, Ev (fun k => impl_chainOf.F k r j) (c, false) := by
  obtain ⟨c, hc⟩ := (hr j hj).2.2
  obtain ⟨q, q1, q2⟩ := chain_same hlen hr hB ho hor hl (l.entries.length + 1) [] j (by simp) (by omega) (by omega) List.nodup_nil (fun x hx => by cases hx)
  unfold impl_chainOf.F at hc ⊢
  cases q with
  | inl p =>
    have := Ev.bind (g := fun _ y3 => match y3 with | .inl z4 => some (z4.1, z4.2) | .inr z4 => some (z4, false)) q1 (Ev.pure (p.1, p.2))
    have e := Ev.uniq hc this
    simp only [Prod.mk.injEq] at e
    exact ⟨p.1, Ev.bind q2 ((Ev.pure _).eq (by rw [← e.2]))⟩
  | inr z => exact ⟨z, Ev.bind q2 (Ev.pure _)⟩
end
theorem nocyc_l {l : Library} (hl : l.entries.length ≤ 8) (hc : ∀ j, j < l.entries.length → ∃ c, Ev (fun k => impl_chainOf.F k l j) (c, false)) : ∀ n i : Nat, i + n = l.entries.length → Ev (fun k => impl_CrossCycles.l0 k l [] l.entries.length i) []
  | 0, i, h => by
    refine Ev.step (fun k => by rw [impl_CrossCycles.l0]) ?_
    simp (disch := omega) only [cneg]; exact Ev.pure _
  | n + 1, i, h => by
    obtain ⟨c, c1⟩ := hc i (by omega)
    refine Ev.step (fun k => by rw [impl_CrossCycles.l0]) ?_
    simp (disch := omega) only [cpos]
    refine Ev.bind c1 ?_
    simp (disch := omega) only [cond_false, wrap_in]
    exact nocyc_l hl hc n (i + 1) (by omega)

/-! ### The law -/
theorem drawLib_b {code : List Int} (h : byt code) : EvP (fun k => spec_DrawResolveLibrary.F k code) fun r => libOk 10 r.entries := by
  unfold spec_DrawResolveLibrary.F
  exact EvP.bind (crossed_b (cu.start h) (by omega)) fun r hr => EvP.pure _ hr.2
theorem inheritance_law (code : List Int) (hw : WF (.sl (.int .u8)) code) : ∃ k, laws_FnInheritance.F k code = some true := by
  refine Ev.get (?_ : Ev (fun k => laws_FnInheritance.F k code) true)
  unfold laws_FnInheritance.F laws_rBig.F
  by_cases c0 : (code.length : Int) > 65536
  · simp (disch := omega) only [cpos, Option.bind_some]
    exact Ev.pure _
  simp (disch := omega) only [cneg, Option.bind_some]
  have hc : byt code := byt_of hw (by omega)
  obtain ⟨⟨l, key⟩, d1, d2, _⟩ := drawParent_b hc
  have d3 : Ev (fun k => spec_DrawResolveEntry.F k code) (l, key) := by unfold spec_DrawResolveEntry.F; exact Ev.bind d1 (Ev.pure _)
  have d2 : libOk 10 l.entries := d2
  obtain ⟨m, m1, m2⟩ := drawLib_b hc
  obtain ⟨e, b, e1, e2, e3, e4⟩ := resE_k d2 key
  obtain ⟨r, fine, r1, r2, r3, r4, r5⟩ := resL_k m2
  have tl := rLib_ev r r3
  refine Ev.bind d3 (Ev.bind e2 (Ev.bind e1 ?_))
  simp only [beq_self_eq_true, Bool.not_true, cond_false]
  refine Ev.bind (rEntries_ev e e3) ?_
  simp only [Bool.not_true, cond_false]
  -- the library
  have tail : fine = true → (∃ r19 : Library × Bool, Ev (fun k => impl_ResolveLibrary.F k r) r19 ∧ r19.2 = true ∧ r19.1.entries.length = r.entries.length) ∧ Ev (fun k => impl_CrossCycles.F k m) (([] : List (List ByteArray)), true) ∧ Ev (fun k => impl_IsValidLibrary.F k r) true := fun hf => by
    obtain ⟨hB, q1, q2⟩ := r4 hf
    have hl := libB_len hB
    have hs := libOk_small m2 (by omega)
    have hor : libOk 10 r.entries := ⟨by omega, r3.2⟩
    have hsr := libOk_small hor (by omega)
    have hBr := valid_r q1 q2 hB
    obtain ⟨r', b', s1, s2, s3, s4, s5⟩ := resL_k hor
    have hb' := s5 hBr fun j hj => acyc_same q1 q2 hB hs hsr hl (by omega)
    refine ⟨⟨(r', b'), s2, hb', (s4 hb').2.1⟩, ?_, ?_⟩
    · have v := isLib_ev m hs
      rw [hB] at v
      unfold impl_CrossCycles.F
      refine Ev.bind v ?_
      simp only [Bool.not_true, cond_false]
      exact Ev.bind (nocyc_l hl (fun j hj => (q2 j hj).2.2) m.entries.length 0 (by omega)) (Ev.pure _)
    · have v := isLib_ev r hsr
      rw [hBr] at v
      exact v
  cases b with
  | false =>
    simp only [cond_false]
    refine Ev.bind m1 (Ev.bind r2 (Ev.bind r1 ?_))
    simp only [beq_self_eq_true, Bool.not_true, cond_false]
    refine Ev.bind tl ?_
    simp only [Bool.not_true, cond_false]
    cases hf : fine with
    | false =>
      simp only [Bool.not_false, cond_true]
      exact Ev.bind tl (Ev.pure _)
    | true =>
      simp only [Bool.not_true, cond_false]
      obtain ⟨⟨r19, t1, t2, t3⟩, t4, t5⟩ := tail hf
      refine Ev.bind t1 (Ev.bind t4 ?_)
      simp only [t2, cond_true]
      refine Ev.bind t5 ?_
      rw [t3]
      simp only [cond_true, beq_self_eq_true]
      exact Ev.pure _
  | true =>
    simp only [cond_true]
    obtain ⟨g1, hB, hl, i, i0, i1, f1, f2, f3⟩ := e4 rfl
    have hx : i.toNat < l.entries.length := by omega
    have hs := libOk_small d2 (by omega)
    have v1 := specLib_ev l hs
    rw [hB] at v1
    have hfind : Ev (fun k => spec_FindEntry.F k l key) (i, true) := by
      unfold spec_FindEntry.F
      refine Ev.bind v1 ?_
      simp only [Bool.not_true, cond_false]
      refine Ev.bind f1 ?_
      simp (disch := omega) only [cneg]
      exact Ev.bind f1 (Ev.pure _)
    have hge := good_at (m := 10) (by omega) d2 hB hx
    have f3' := f3
    rw [getD_at hx] at f3'
    have hconf := noconf_ev f3' hge g1
    obtain ⟨fs, w1, w2, w3⟩ := inherited_k d2 key e2
    have hval := isEntry_ev e (entryOk_small (by omega) e3)
    rw [g1.1] at hval
    refine Ev.bind hfind ?_
    simp (disch := omega) only [cpos, getD_at hx]
    refine Ev.bind hconf (Ev.bind w2 (Ev.bind w1 ?_))
    have z : ((([] : List ByteArray).length : Int) != 0) = false := rfl
    simp only [Bool.not_true, cond_false, z]
    refine Ev.bind (rTexts_ev fs (by omega)) ?_
    simp only [Bool.not_true, cond_false]
    refine Ev.bind hval ?_
    simp only [Bool.not_true, cond_false]
    refine Ev.bind m1 (Ev.bind r2 (Ev.bind r1 ?_))
    simp only [beq_self_eq_true, Bool.not_true, cond_false]
    refine Ev.bind tl ?_
    simp only [Bool.not_true, cond_false]
    cases hf : fine with
    | false =>
      simp only [Bool.not_false, cond_true]
      exact Ev.bind tl (Ev.pure _)
    | true =>
      simp only [Bool.not_true, cond_false]
      obtain ⟨⟨r19, t1, t2, t3⟩, t4, t5⟩ := tail hf
      refine Ev.bind t1 (Ev.bind t4 ?_)
      simp only [t2, cond_true]
      refine Ev.bind t5 ?_
      rw [t3]
      simp only [cond_true, beq_self_eq_true]
      exact Ev.pure _
end Go.Proofs.YtjbjijgncebbbaaGreatDoor
end
section
/- The law FnInheritance returns true for every input, the listed package variables being as the program's text lays it: the card. -/
namespace Go.Proofs.YtjbjijgncebbbaaGreatDoor
open Go.Gx Go.RowKit Go.ChangeShapes Go.WideShapes Go.ChangeAt
set_option linter.unusedVariables false
def fnInheritance_ss4 : List (List UInt8) := [[97, 117, 116, 104, 111, 114, 115], [101, 100, 105, 116, 111, 114, 115], [116, 105, 116, 108, 101], [99, 111, 110, 116, 97, 105, 110, 101, 114], [112, 117, 98, 108, 105, 115, 104, 101, 114], [100, 97, 116, 101], [118, 111, 108, 117, 109, 101], [112, 97, 103, 101, 115]]
theorem fnInheritance_own : ownKnob Tryz.prog.godebug = none := by kernel_rfl
set_option maxRecDepth 100000 in
theorem fnInheritance_contract (H : Type) (enc : TypeId × Value → H) (W : World) (base : Nat) (args : Array Value) (ds gs : List (DataW H)) (before : List MemPlace)
    (hval : ∀ (j : Nat) t v, Tryz.f3.params[j]? = some t → args[j]? = some v → Value.okWide Tryz.prog W .any base t v)
    (hW : DataW.Whole enc Tryz.prog Tryz.f3.params.toList Rows.fnInheritanceSpec.vars false W args.toList ds gs before) (hL : laidMetH Tryz.prog Rows.fnInheritanceRow.laid W) (hsh : W.ShapedOpen Tryz.prog) :
    Calls Tryz.prog 3 args W fun e W' => ∃ v, e = .returned v ∧ Rows.fnInheritanceSpec.post enc Tryz.prog Tryz.f3 false true false false W args v W' := by
  have hgs : ∃ g1, gs = [g1] := by
    obtain ⟨p, q, _, hV, _⟩ := hW
    match gs, hV with
    | [g1], _ => exact ⟨g1, rfl⟩
    | [], hV => exact hV.elim
    | _ :: _ :: _, ⟨_, _, _, _, _, _, _, _, _, _, hV, _⟩ => exact hV.elim
  obtain ⟨g1, rfl⟩ := hgs
  have hds : ∃ d1, ds = [d1] := by
    obtain ⟨p, q, hA, _⟩ := hW
    obtain ⟨_, _, d1, e0, _, _, _, rfl, _, _, h0⟩ := trodAll_cons hA
    obtain ⟨_, rfl, _⟩ := trodAll_nil h0
    exact ⟨d1, rfl⟩
  obtain ⟨d1, rfl⟩ := hds
  have hgl : GlOk envX (fun _ => undef) (Lt W) W := by
    refine GlOk.mk0 (fun g b h => ?_) (fun g hg => ?_)
    · have h' : glT g = some b := h
      unfold glT at h'
      split at h'
      · cases h'; exact laid_strs (ss := fnInheritance_ss4) (name := "loop.example/g00896/impl.fieldWords") (g := 0) (t := 57) (e := 9) (n := 8) 4 (by kernel_rfl) (by kernel_rfl) (by kernel_rfl) (by kernel_rfl) (by kernel_rfl) (by kernel_rfl) (by kernel_rfl) hL (by kernel_rfl)
      · cases h'; exact laid_ints (zs := Lib.pow10Tab) (name := "internal/strconv.uint64pow10") (g := 1) (t := 148) (e := 68) (n := 20) 2 (by kernel_rfl) (by kernel_rfl) (by kernel_rfl) (by kernel_rfl) (by kernel_rfl) (by kernel_rfl) (by kernel_rfl) hL (by kernel_rfl)
      · cases h'
    · have hg' : giT g = true := hg
      unfold giT at hg'
      split at hg'
      · obtain ⟨m, hm⟩ := cell_of_shapedOpen_int (P := Tryz.prog) (g := 2) (t := 3) (zero := #[.int .i64 0]) hsh (of_decide_eq_true (by kernel_rfl)) (by kernel_rfl) rfl (by kernel_rfl) (by kernel_rfl) (by kernel_rfl)
        exact ⟨World.block_lt_of_cell? _ _ hm, m, hm⟩
      · cases hg'
  refine law_contract (τs := [(.sl (.int .u8))]) (r := .t .bool true) envOk (by kernel_rfl) rfl (by kernel_rfl) (by kernel_rfl) rfl (by kernel_rfl) (by kernel_rfl) (fun t ht => ?_) rfl (fun x hx => by
      obtain ⟨k, hk⟩ := inheritance_law x.1 hx.1
      exact laws_FnInheritance.good envOk _ k _ hk) rfl hval hW hgl (fun q hq W' hb => vars_stay (by kernel_rfl) hb (fun nm hn g t h1 h2 => ?_) hq)
  · have : t ∈ [22] := ht
    simp only [List.mem_cons, List.not_mem_nil, or_false] at this
    rcases this with rfl <;> exact ⟨by kernel_rfl, Nat.le_of_ble_eq_true (by kernel_rfl)⟩
  · have hnm : nm = "loop.example/g00896/impl.fieldWords" := by
      have : nm ∈ ["loop.example/g00896/impl.fieldWords"] := hn
      simpa using this
    subst hnm
    obtain rfl : g = 0 := Option.some.inj (h1.symm.trans (by kernel_rfl : Tryz.prog.globalNamed "loop.example/g00896/impl.fieldWords" = some 0))
    obtain rfl : t = 57 := Option.some.inj (h2.symm.trans (by kernel_rfl : (Tryz.prog.globals[0]?).map (·.type) = some 57))
    exact ⟨by kernel_rfl, Nat.le_of_ble_eq_true (by kernel_rfl)⟩
set_option maxRecDepth 100000 in
noncomputable def fnInheritance_world (os : Os) : World :=
  { World.holding Tryz.prog os ⟨#[], #[], []⟩ with heap := (((((((World.holding Tryz.prog os ⟨#[], #[], []⟩).heap.modify 5 fun
      | .cells _ t frozen => .cells #[.int .u8 0, .int .u8 1, .int .u8 28, .int .u8 2, .int .u8 29, .int .u8 14, .int .u8 24, .int .u8 3, .int .u8 30, .int .u8 22, .int .u8 20, .int .u8 15, .int .u8 25, .int .u8 17, .int .u8 4, .int .u8 8, .int .u8 31, .int .u8 27, .int .u8 13, .int .u8 23, .int .u8 21, .int .u8 19, .int .u8 16, .int .u8 7, .int .u8 26, .int .u8 12, .int .u8 18, .int .u8 6, .int .u8 11, .int .u8 5, .int .u8 10, .int .u8 9] t frozen
      | o => o).modify 6 fun
      | .cells _ t frozen => .cells #[.int .u8 0, .int .u8 1, .int .u8 56, .int .u8 2, .int .u8 57, .int .u8 49, .int .u8 28, .int .u8 3, .int .u8 61, .int .u8 58, .int .u8 42, .int .u8 50, .int .u8 38, .int .u8 29, .int .u8 17, .int .u8 4, .int .u8 62, .int .u8 47, .int .u8 59, .int .u8 36, .int .u8 45, .int .u8 43, .int .u8 51, .int .u8 22, .int .u8 53, .int .u8 39, .int .u8 33, .int .u8 30, .int .u8 24, .int .u8 18, .int .u8 12, .int .u8 5, .int .u8 63, .int .u8 55, .int .u8 48, .int .u8 27, .int .u8 60, .int .u8 41, .int .u8 37, .int .u8 16, .int .u8 46, .int .u8 35, .int .u8 44, .int .u8 21, .int .u8 52, .int .u8 32, .int .u8 23, .int .u8 11, .int .u8 54, .int .u8 26, .int .u8 40, .int .u8 15, .int .u8 34, .int .u8 20, .int .u8 31, .int .u8 10, .int .u8 25, .int .u8 14, .int .u8 19, .int .u8 9, .int .u8 13, .int .u8 8, .int .u8 7, .int .u8 6] t frozen
      | o => o).modify 1 fun
      | .cells _ t frozen => .cells #[.int .u64 1, .int .u64 10, .int .u64 100, .int .u64 1000, .int .u64 10000, .int .u64 100000, .int .u64 1000000, .int .u64 10000000, .int .u64 100000000, .int .u64 1000000000, .int .u64 10000000000, .int .u64 100000000000, .int .u64 1000000000000, .int .u64 10000000000000, .int .u64 100000000000000, .int .u64 1000000000000000, .int .u64 10000000000000000, .int .u64 100000000000000000, .int .u64 1000000000000000000, .int .u64 10000000000000000000] t frozen
      | o => o).modify 4 fun
      | .cells _ t frozen => .cells #[.int .u8 128, .int .u8 191, .int .u8 160, .int .u8 191, .int .u8 128, .int .u8 159, .int .u8 144, .int .u8 191, .int .u8 128, .int .u8 143, .int .u8 0, .int .u8 0, .int .u8 0, .int .u8 0, .int .u8 0, .int .u8 0, .int .u8 0, .int .u8 0, .int .u8 0, .int .u8 0, .int .u8 0, .int .u8 0, .int .u8 0, .int .u8 0, .int .u8 0, .int .u8 0, .int .u8 0, .int .u8 0, .int .u8 0, .int .u8 0, .int .u8 0, .int .u8 0] t frozen
      | o => o).modify 0 fun
      | .cells _ t frozen => .cells #[.string ⟨#[97, 117, 116, 104, 111, 114, 115]⟩, .string ⟨#[101, 100, 105, 116, 111, 114, 115]⟩, .string ⟨#[116, 105, 116, 108, 101]⟩, .string ⟨#[99, 111, 110, 116, 97, 105, 110, 101, 114]⟩, .string ⟨#[112, 117, 98, 108, 105, 115, 104, 101, 114]⟩, .string ⟨#[100, 97, 116, 101]⟩, .string ⟨#[118, 111, 108, 117, 109, 101]⟩, .string ⟨#[112, 97, 103, 101, 115]⟩] t frozen
      | o => o).modify 3 fun
      | .cells _ t frozen => .cells (Pinned.utf8FirstZ.map fun (n : Nat) => Value.int .u8 (n : Int)).toArray t frozen
      | o => o) }
theorem fnInheritance_met (os : Os) : laidMet Tryz.prog Rows.fnInheritanceRow.laid ((fnInheritance_world os).forCall (fun _ _ => 0) ⟨#[], #[.slice none 0 0], []⟩).memory :=
  laidMet_of_run' 8 (by kernel_rfl) (by kernel_rfl)
theorem fnInheritance_reads (os : Os) {H : Type} (enc : TypeId × Value → H) : ∃ places, DataW.whole enc Tryz.prog ((fnInheritance_world os).forCall (fun _ _ => 0) ⟨#[], #[.slice none 0 0], []⟩).memory Tryz.f3.params.toList Rows.fnInheritanceSpec.vars false #[.slice none 0 0].toList 8 = some ([.nil], [strData fnInheritance_ss4], places) :=
  ⟨[.cell 0 0, .cell 0 1, .cell 0 2, .cell 0 3, .cell 0 4, .cell 0 5, .cell 0 6, .cell 0 7], by kernel_rfl⟩
set_option maxRecDepth 100000 in
theorem fnInheritance_lifted (os : Os) (started : os.Started) (H : Type) (enc : TypeId × Value → H) (F : Stop.Interp) :
    ReturnsInHanded {} Tryz.checked os 3 .any ((OpenSpec.ofChange Rows.fnInheritanceSpec).preRow enc Tryz.prog Tryz.f3 Rows.fnInheritanceRow.domain false Rows.fnInheritanceRow.laid) (((OpenSpec.ofChange Rows.fnInheritanceSpec).at F).post enc Tryz.prog Tryz.f3 false true false false) := by
  obtain ⟨places, hx⟩ := fnInheritance_reads os enc
  refine returnsInHanded_of_row (C := Tryz.checked) (s := OpenSpec.ofChange Rows.fnInheritanceSpec) fnInheritance_own started (by kernel_rfl) (by kernel_rfl)
    (witness_row_at (enc := enc) (C := Tryz.checked) false (fnInheritance_world os) #[.slice none 0 0] rfl (by kernel_rfl) (by kernel_rfl) (by kernel_rfl)
      (OpenSpec.preRow_of_cond 8 hx (by kernel_rfl) (fun k hk => by cases hk) (by kernel_rfl) (fnInheritance_met os))) ?_
  intro W base args ds gs before hval hW _ _ _ hL hsh _
  exact fnInheritance_contract H enc W base args ds gs before hval hW hL hsh
theorem fnInheritance_said : Rows.FnInheritanceSaid :=
  OpenClaim.holds_of_cond 3 Tryz.f3 rfl rfl rfl rfl rfl rfl rfl ⟨rfl, rfl, rfl, rfl, rfl⟩ rfl rfl rfl rfl rfl (by kernel_rfl) (by kernel_rfl) (by kernel_rfl)
    (of_decide_eq_true (by kernel_rfl)) (by unfold Func.isWrapper; first | (rw [if_pos (by decide +kernel)]; kernel_rfl) | (rw [if_neg (by decide +kernel)]; exact ⟨rfl, rfl⟩))
    (fun os started H enc _ F => by rw [OpenClaim.pre_eq_preRow]; exact fnInheritance_lifted os started H enc F)
theorem fnInheritance_plain (f : FuncId) (fn : Func) (hf : Tryz.pinned.checked.prog.funcNamed "loop.example/g00896/laws.FnInheritance" = some f) (hfn : Tryz.pinned.checked.prog.funcs[f]? = some fn) :
    false = Tryz.pinned.checked.prog.looks [] ∧ ∀ (j : Nat) t, fn.params[j]? = some t → Tryz.pinned.checked.prog.wantsStandIn t = false := by
  obtain rfl : f = 3 := (Option.some.inj ((show Tryz.prog.funcNamed "loop.example/g00896/laws.FnInheritance" = some 3 by kernel_rfl).symm.trans hf)).symm
  obtain rfl : fn = Tryz.f3 := (Option.some.inj ((show Tryz.prog.funcs[3]? = some Tryz.f3 by kernel_rfl).symm.trans hfn)).symm
  refine ⟨by kernel_rfl, fun j t ht => ?_⟩
  have ht' : t ∈ [22] := by simpa using Array.mem_of_getElem? (show (#[22] : Array Nat)[j]? = some t from ht)
  simp only [List.mem_cons, List.not_mem_nil, or_false] at ht'
  rcases ht' with rfl
  · exact (show Tryz.prog.wantsStandIn 22 = false by kernel_rfl)
theorem FnInheritance_holds : Rows.FnInheritanceCardSaid :=
  Claim7.holds_tied_plain_at .later [] _ _ _ _ fnInheritance_said (fun _ h => by cases h) (by kernel_rfl) (fun _ h => by cases h) fnInheritance_row_tie rfl ⟨rfl, rfl⟩ (by kernel_rfl) rfl fnInheritance_plain (by kernel_rfl)
#print axioms FnInheritance_holds
end Go.Proofs.YtjbjijgncebbbaaGreatDoor
end
