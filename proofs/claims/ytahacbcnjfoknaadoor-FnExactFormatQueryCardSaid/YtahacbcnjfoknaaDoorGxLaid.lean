/- A package-level array of texts that a row lists. -/
import Derived.Test.YtahacbcnjfoknaaDoorGxRow
import Derived.Lib.LaidTab
namespace Go.Gx
open Go.RowKit Go.ChangeShapes Go.WideShapes
set_option linter.unusedVariables false
set_option linter.unusedSimpArgs false

def strData {H : Type} (ss : List (List UInt8)) : DataW H := .agg (ss.map fun s => .lit (.string s))
theorem cells_of_strs {H : Type} {enc : TypeId × Value → H} {P : Program} {w : World} {base : Nat} {sp : Nat → Bool} {held : Bool} {fuel : Nat} {t e : TypeId} {n : Nat} {cs : List Value} {ss : List (List UInt8)} {p : List MemPlace}
    (ht : P.underlying t = some (.array n e)) (he : P.underlying e = some .string) (hce : P.cellsOf e = 1) (hct : P.cellsOf t = n)
    (h : DataW.trod enc P w base sp held fuel t cs = some (strData ss, p)) : cs = ss.map fun s => Value.string ⟨s.toArray⟩ := by
  cases fuel with
  | zero => simp [DataW.trod] at h
  | succ fuel =>
    simp only [DataW.trod, ht, hce, hct, Nat.mul_one] at h
    split at h
    · rename_i hl
      obtain ⟨xs, hm, hx⟩ := Option.map_eq_some_iff.1 h
      have hxs : xs.map (·.1) = ss.map fun s => (DataW.lit (.string s) : DataW H) := by
        have := congrArg Prod.fst hx
        simpa [strData] using this
      have hxl : xs.length = n := by simpa using Lib.mapM_length hm
      have hzl : ss.length = n := by
        have := congrArg List.length hxs
        simp at this
        omega
      apply List.ext_getElem?
      intro i
      by_cases hi : i < n
      · obtain ⟨b, hb, hf⟩ := Lib.mapM_at hm i i (by simp [hi])
        obtain ⟨s, hc, rfl, _⟩ := DataW.trod_string he hf
        have h1 : cs[i]? = some (.string s) := by
          have := congrArg (·[0]?) hc
          simpa [List.getElem?_take, List.getElem?_drop] using this
        have h2 : (xs.map (·.1))[i]? = some (DataW.lit (.string s.data.toList) : DataW H) := by simp [hb]
        rw [hxs] at h2
        simp only [List.getElem?_map, Option.map_eq_some_iff, DataW.lit.injEq, Lit.string.injEq] at h2
        obtain ⟨z', hz', e'⟩ := h2
        rw [h1, List.getElem?_map, hz', Option.map_some, e']
      · rw [List.getElem?_eq_none (by omega), List.getElem?_eq_none (by simp; omega)]
    · cases h
/-- The one variable that is listed. -/
theorem glOk_strs {P : Program} {E : Env} {W : World} {name : String} {ss : List (List UInt8)} {rest : List (String × DataW Unit)} {g t e n : Nat}
    (hg : P.globalNamed name = some g) (hty : (P.globals[g]?).map (·.type) = some t) (ht : P.underlying t = some (.array n e)) (he : P.underlying e = some .string) (hce : P.cellsOf e = 1) (hct : P.cellsOf t = n) (hn : ss.length = n)
    (h : laidMet P ((name, strData ss) :: rest) W) (hE : ∀ g' b, E.gl g' = some b → g' = g ∧ b = .t (.arr n .str) (ss.map fun s => (⟨s.toArray⟩ : ByteArray))) : GlOk E (Lt W) W := by
  obtain ⟨ps, ⟨g', t', cs, fuel, p, q, hg', ht', hvar, hd, _, _⟩, _⟩ := h
  obtain rfl := Option.some.inj (hg.symm.trans hg')
  obtain rfl := Option.some.inj (hty.symm.trans ht')
  have hcs := cells_of_strs ht he hce hct hd
  intro g1 b hb
  obtain ⟨rfl, rfl⟩ := hE g1 b hb
  unfold World.var? at hvar
  rw [hg'] at hvar
  simp only [Option.bind_some] at hvar
  split at hvar
  · rename_i cs' ty fr hblock
    cases hvar
    have hcr := CR.arr (S := Lt W) (w := W) n .str (ss.map fun s => (⟨s.toArray⟩ : ByteArray)) (fun i => [.string ((ss.map fun s => (⟨s.toArray⟩ : ByteArray)).getD i ⟨#[]⟩)]) (by simpa using hn) (fun i hi => by
      simp only [List.getD, List.getElem?_eq_getElem hi, Option.getD_some]
      exact .str _)
    refine ⟨_, _, _, rfl, hcr, (Array.getElem?_eq_some_iff.1 hblock).1, fun j v hj => ?_⟩
    have hfl : ((List.range n).flatMap fun i => [Value.string ((ss.map fun s => (⟨s.toArray⟩ : ByteArray)).getD i ⟨#[]⟩)]) = cs.toList := by
      rw [hcs]
      have : ∀ (l : List Nat) (f : Nat → Value), (l.flatMap fun i => [f i]) = l.map f := fun l f => by
        induction l with
        | nil => rfl
        | cons a l ih => simp [List.flatMap_cons, ih]
      rw [this]
      apply List.ext_getElem?
      intro i
      by_cases hi : i < n
      · have hi' : i < ss.length := by omega
        simp [List.getElem?_map, List.getElem?_range hi, List.getD, hi']
      · rw [List.getElem?_eq_none (by simp; omega), List.getElem?_eq_none (by simp; omega)]
    rw [hfl] at hj
    simp only [World.cell?, hblock, Nat.zero_add]
    simpa using hj
  · cases hvar

/-- What the variables read as stays, the old memory being as it was. -/
theorem vars_stay {H : Type} {enc : TypeId × Value → H} {P : Program} (hl : laidOutB P = true) {W W' : World} (hb : Below W.heap.size W W') : ∀ {names : List String} {gs : List (DataW H)} {q : List MemPlace},
    (∀ n ∈ names, ∀ g t, P.globalNamed n = some g → (P.globals[g]?).map (·.type) = some t → P.readableRec t = true ∧ t < P.types.size) → DataW.TrodVars enc P W (fun _ => true) names gs q → DataW.TrodVars enc P W' (fun b => decide (b < W.heap.size)) names gs q
  | [], [], q, _, h => h
  | n :: ns, d :: ds, ps, hr, h => by
    have hlt := DataW.TrodVars.lt h
    obtain ⟨g, t, cs, fuel, p, q, h1, h2, h3, h4, h5, rfl⟩ := h
    obtain ⟨hr1, hr2⟩ := hr n List.mem_cons_self g t h1 h2
    have hst := Go.WideElems.Trod_stays (sp' := fun b => decide (b < W.heap.size)) (W' := W') (v := .agg cs) hl hr1 hr2 ⟨fuel, h4⟩ (fun y hy => hb.same (hlt y (List.mem_append_left _ (List.mem_append_right _ hy)))) (fun y hy => by simpa using hlt y (List.mem_append_left _ (List.mem_append_right _ hy)))
    obtain ⟨fuel', h4'⟩ := hst
    refine ⟨g, t, cs, fuel', p, q, h1, h2, ?_, h4', vars_stay hl hb (fun n hn => hr n (List.mem_cons_of_mem _ hn)) h5, rfl⟩
    unfold World.var? at h3 ⊢
    rw [h1] at h3 ⊢
    simp only [Option.bind_some] at h3 ⊢
    split at h3
    · rename_i cs' ty fr hblock
      have hg : g < W.heap.size := (Array.getElem?_eq_some_iff.1 hblock).1
      rw [hb.block g hg, hblock]
      exact h3
    · cases h3
  | [], _ :: _, _, _, h => by cases h
  | _ :: _, [], _, _, h => by cases h
end Go.Gx
