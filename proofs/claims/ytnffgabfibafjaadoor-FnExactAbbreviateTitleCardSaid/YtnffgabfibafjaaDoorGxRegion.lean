/- Regions. -/
import Derived.Test.YtnffgabfibafjaaDoorGxAny3
namespace Go.Gx
open Go.RowKit
set_option linter.unusedVariables false
set_option linter.unusedSimpArgs false

theorem count_set {l : List Bool} : ∀ {i : Nat}, l[i]? = some false → (l.set i true).count false + 1 = l.count false := by
  induction l with
  | nil => intro i h; simp at h
  | cons b l ih =>
    intro i h
    cases i with
    | zero =>
      simp only [List.getElem?_cons_zero, Option.some.injEq] at h
      subst h
      simp
    | succ i =>
      have := ih (i := i) (by simpa using h)
      simp only [List.set_cons_succ, List.count_cons]
      omega

section
variable {P : Program} {E : Env} {w0 : World} {B : Old} {pv : Nat → Value} {G : Cal → List AV → AV → Prop} {Q : Exit → Act → World → Prop} {ops : Array Oper} {rid : Nat} {S0 : Nat → Prop} {sq : Nat → St} {pre : Nat → Nat → Prop}
theorem any_ok (hE : EnvOk P E) (hG : GOk P E pv G) (hO : Ordered ops pre) (hsq : ∀ i o, ops[i]? = some o → StepR E G ops rid i o (sq i) (sq (i + 1))) (h0 : ∀ k, k < ops.size → ∀ id, Site rid k id → (sq 0).row id = none) (hn : ops.size ≤ 256)
    (hQ : ∀ S' ρ' a' w', Sim w0 B pv S' ρ' (sq ops.size) a' w' → GlOk E S' w' → Grew B S0 S' → Q .normal a' w') :
    ∀ (fuel : Nat) (listed : Array Bool) (S : Nat → Prop) (ρ : Nat → Option Loc) (a : Act) (w : World), listed.size = ops.size → listed.toList.count false ≤ fuel → Inv E w0 B pv ops rid S0 sq (fun i => listed.getD i false) S ρ a w → wpAny P .any ops Q fuel listed a w := by
  have done : ∀ (listed : Array Bool) (S : Nat → Prop) (ρ : Nat → Option Loc) (a : Act) (w : World), Inv E w0 B pv ops rid S0 sq (fun i => listed.getD i false) S ρ a w → (∀ i, i < ops.size → listed.getD i false = true) → Q .normal a w := fun listed S ρ a w h hall => by
    obtain ⟨b, e1, hbe, hen, hX1, hX2, hq, heff, hs, hgl, hρ, hcl, hS⟩ := h
    have he : e1 = ops.size := by
      apply Classical.byContradiction
      intro hne
      have : listed.getD e1 false = false := hX2 e1 (Nat.le_refl _)
      rw [hall e1 (by omega)] at this
      cases this
    subst he
    refine hQ S ρ a w (hs.slotsEq (fun t => ?_) rfl (nt_eq hsq _ (Nat.le_refl _))) hgl hS
    have := ovl_seq (ops := ops) (sq := sq) (X := fun i => listed.getD i false) (b := b) (t := t) (m := ops.size - b) fun j hj1 hj2 => by
      have hoj : ops[j]? = some ops[j] := Array.getElem?_eq_getElem (by omega)
      exact ⟨_, hoj, fun _ => hall j (by omega), fun hd => seg_slot hsq h0 hen hq hj1 (by omega) hoj t hd⟩
    rw [show b + (ops.size - b) = ops.size by omega] at this
    exact this.symm
  have stuck : ∀ (listed : Array Bool), listed.size = ops.size → Region.ready .any ops listed = [] → ∀ i, i < ops.size → listed.getD i false = true := fun listed hsz hr i => by
    induction i using Nat.strongRecOn with
    | _ i ih =>
      intro hi
      apply Classical.byContradiction
      intro hne
      have hoi : ops[i]? = some ops[i] := Array.getElem?_eq_getElem hi
      have hmem : i ∈ Region.ready .any ops listed := by
        rw [mem_ready]
        refine ⟨?_, ops[i], hoi, fun e he hb => ?_⟩
        · have hlt : i < listed.size := by omega
          rw [Array.getD_eq_getD_getElem?, Array.getElem?_eq_getElem hlt] at hne ⊢
          simpa using hne
        · have := hO.lt i _ hoi e he hb
          exact ih e.on this (by omega)
      rw [hr] at hmem
      cases hmem
  intro fuel
  induction fuel with
  | zero =>
    intro listed S ρ a w hsz hc hI
    have hall : ∀ i, i < ops.size → listed.getD i false = true := fun i hi => by
      have hlt : i < listed.size := by omega
      rw [Array.getD_eq_getD_getElem?, Array.getElem?_eq_getElem hlt]
      cases hb : listed[i] with
      | true => rfl
      | false =>
        have hm : false ∈ listed.toList := by rw [← hb]; exact Array.getElem_mem_toList hlt
        have := List.count_pos_iff.2 hm
        omega
    refine ⟨?_, done listed S ρ a w hI hall⟩
    apply List.eq_nil_iff_forall_not_mem.2
    intro i hi
    rw [mem_ready] at hi
    obtain ⟨h1, o, ho, _⟩ := hi
    have hlt : i < listed.size := by have := (Array.getElem?_eq_some_iff.1 ho).1; omega
    have := hall i (by omega)
    rw [Array.getD_eq_getD_getElem?, Array.getElem?_eq_getElem hlt] at this h1
    simp at this h1
    rw [this] at h1
    cases h1
  | succ fuel ih =>
    intro listed S ρ a w hsz hc hI
    refine ⟨fun hr => done listed S ρ a w hI (stuck listed hsz hr), fun i hi => ?_⟩
    rw [mem_ready] at hi
    obtain ⟨h1, o, ho, hall⟩ := hi
    have hlt : i < listed.size := by have := (Array.getElem?_eq_some_iff.1 ho).1; omega
    have hli : listed[i] = false := by
      rw [Array.getD_eq_getD_getElem?, Array.getElem?_eq_getElem hlt] at h1
      simpa using h1
    refine inv_step hE hG hO hsq h0 hn hI ho ?_ hall (X' := fun j => (listed.setIfInBounds i true).getD j false) (fun j => ?_) fun S' ρ' a' w' hI' => ih _ S' ρ' a' w' (by simpa using hsz) ?_ hI'
    · rw [Array.getD_eq_getD_getElem?, Array.getElem?_eq_getElem hlt, hli]
      rfl
    · rw [Array.getD_eq_getD_getElem?, Array.getD_eq_getD_getElem?, Array.getElem?_setIfInBounds]
      by_cases e : j = i
      · subst e; simp [hlt]
      · rw [if_neg (fun h => e h.symm), if_neg e]
    · have := count_set (l := listed.toList) (i := i) (by rw [Array.getElem?_toList, Array.getElem?_eq_getElem hlt, hli])
      rw [Array.toList_setIfInBounds]
      omega

/-- A region. -/
theorem region_ok (hE : EnvOk P E) (hG : GOk P E pv G) {dr : Bool} (hn : ops.size ≤ 256) (hm : rid * 1024 + 1024 ≤ mbase) (hdr : dr = true → drawOk ops = true) {S : Nat → Prop} {ρ : Nat → Option Loc} {st st' : St} {a : Act} {w : World}
    (hr : RunR E G dr ops rid ops.toList 0 (st.kill (rid * 1024) (rid * 1024 + 1024)) st') (hs : Sim w0 B pv S ρ st a w) (hgl : GlOk E S w)
    (hQ : ∀ S' ρ' a' w', Sim w0 B pv S' ρ' st' a' w' → GlOk E S' w' → Grew B S S' → Q .normal a' w') : (Code.region rid ops dr).wp P Q a w := by
  have hk := hs.kill (rid * 1024) (rid * 1024 + 1024) (by
    unfold inR
    rw [Bool.and_eq_false_iff]
    refine .inr ?_
    cases hb : Nat.blt mbase (rid * 1024 + 1024) with
    | false => rfl
    | true => have := Nat.le_of_ble_eq_true hb; omega)
  have hin : ∀ k, k < 256 → ∀ id, Site rid k id → inR (rid * 1024) (rid * 1024 + 1024) id = true := fun k hk id hsite => by
    unfold Site at hsite
    simp only [inR, Bool.and_eq_true, Nat.blt, Nat.ble_eq]
    omega
  have hkn : ∀ k, k < 256 → ∀ id, Site rid k id → killL (rid * 1024) (rid * 1024 + 1024) ρ id = none := fun k hk id hsite => by
    unfold killL; rw [hin k hk id hsite]; rfl
  cases dr with
  | false =>
    refine wp_region_list (seq_ok hE hG hr hk hgl (fun k _ hk2 c hc => hkn k (by simp at hk2; omega) _ (by unfold Site; omega)) fun S' ρ' a' w' h1 h2 h3 => hQ S' ρ' a' w' h1 h2 h3)
  | true =>
    have hO := drawOk_ordered (hdr rfl)
    obtain ⟨sq, h1, h2, h3⟩ := trace hr
    simp only [Nat.zero_add, Array.length_toList] at h2 h3
    have hsq : ∀ i o, ops[i]? = some o → StepR E G ops rid i o (sq i) (sq (i + 1)) := fun i o ho => h3 i o (by simpa using ho)
    have h0 : ∀ k, k < ops.size → ∀ id, Site rid k id → (sq 0).row id = none := fun k hk id hsite => by
      rw [h1]
      exact killR_in (hin k (by omega) id hsite)
    refine wp_region_any hE.mixed (any_ok (S0 := S) hE hG hO hsq h0 hn (by rw [h2]; exact hQ) ops.size _ S (killL (rid * 1024) (rid * 1024 + 1024) ρ) a _ (by simp) (by simp) ?_)
    have hdrew := hk.drew
    rw [← h1] at hdrew
    have hX : ∀ i, (Array.replicate ops.size false).getD i false = false := fun i => by
      rw [Array.getD_eq_getD_getElem?]
      by_cases hi : i < ops.size
      · simp [hi]
      · simp [hi]
    refine startSeg hsq h0 (b := 0) (Nat.zero_le _) (fun i hi => absurd hi (Nat.not_lt_zero i)) (fun i _ => hX i) hdrew (hgl.mono (fun _ h => h) fun _ _ => rfl) (fun i hi _ id hsite => hkn i (by omega) id hsite) (fun i o _ hx => ?_) (Grew.refl _ _)
    have hx : (Array.replicate ops.size false).getD i false = true := hx
    rw [hX i] at hx
    cases hx
end
end Go.Gx
