/- Functions: what the interpreter finds is what the machine's call does. -/
import Derived.Test.YtnffgabfibafjaaDoorGxCode
namespace Go.Gx
open Go.RowKit
set_option linter.unusedVariables false
set_option linter.unusedSimpArgs false

structure FunR (E : Env) (G : Cal → List AV → AV → Prop) (LG : Nat → St → Ex → St → Prop) (fn : Func) (c : Code) (args : List AV) (res : AV) (e : Ex) (st : St) (rs as : List AV) : Prop where
  body : fn.body = some c
  run : CodeR E G LG 0 c (start fn.ntmps args) e st
  out : ∀ id, e ≠ .exit id
  vals : resAll E st fn.results.toList = some rs
  dis : distinctL (idsL rs) = true
  eps : anyL (epsN 6) rs = false
  ret : retAll st rs = some as
  ans : res = one as
theorem runF_rel {E : Env} {C : Orc} {L : LOrc} {G : Cal → List AV → AV → Prop} {LG : Nat → St → Ex → St → Prop} (hC : OrcIs C G) (hL : LIs L LG) {fn : Func} {args : List AV} {R : Type} {K : AV → Option R} {r : R} (h : runF E C L fn args K = some r) :
    ∃ c res e st rs as, FunR E G LG fn c args res e st rs as ∧ K res = some r := by
  unfold runF at h
  split at h
  · rename_i c hc
    obtain ⟨e, st, h1, h2⟩ := runC_rel hC hL c 0 _ h
    have go : (match resAll E st fn.results.toList with
      | some rs => match distinctL (idsL rs) && !anyL (epsN 6) rs with
        | true => match retAll st rs with
          | some as => K (one as)
          | none => none
        | false => none
      | none => none) = some r → (∀ id, e ≠ .exit id) → ∃ c res e st rs as, FunR E G LG fn c args res e st rs as ∧ K res = some r := fun h2 he => by
      split at h2
      · rename_i rs hrs
        split at h2
        · rename_i hd
          simp only [Bool.and_eq_true, Bool.not_eq_true'] at hd
          split at h2
          · rename_i as has
            exact ⟨c, _, e, st, rs, as, ⟨hc, h1, he, hrs, hd.1, hd.2, has, rfl⟩, h2⟩
          · cases h2
        · cases h2
      · cases h2
    cases e with
    | exit id => cases h2
    | normal => exact go h2 (fun id h => by cases h)
    | ret => exact go h2 (fun id h => by cases h)
  · cases h

theorem distinctL_nodup : ∀ {l : List Nat}, distinctL l = true → l.Nodup
  | [], _ => List.nodup_nil
  | a :: l, h => by
    simp only [distinctL, Bool.and_eq_true, Bool.not_eq_true'] at h
    exact List.nodup_cons.2 ⟨by simpa using h.1, distinctL_nodup h.2⟩
theorem ret1_form {st : St} {a b : AV} (h : ret1 st a = some b) : (∃ id e τ, ∃ xs : List (den τ), a = .own id ∧ st.row id = some (.flat e τ xs false true) ∧ b = .fr e τ xs) ∨ (closeR st.row 6 a = some b ∧ ∀ e τ xs, b ≠ .fr e τ xs) := by
  have nofr : ∀ {n a b}, closeR st.row n a = some b → ∀ e τ xs, b ≠ .fr e τ xs := fun {n a b} h e τ xs hb => by
    subst hb
    cases n with
    | zero => cases h
    | succ n =>
      cases a with
      | agg τ' fs =>
        simp only [closeR] at h
        split at h
        · have := implode_ag h
          cases this
        · cases h
      | ep id i p => cases i <;> simp only [closeR] at h <;> (repeat' split at h) <;> cases h
      | _ => simp only [closeR] at h <;> (repeat' split at h) <;> cases h
  unfold ret1 at h
  split at h
  · rename_i id
    split at h
    · rename_i e τ xs hr
      cases h
      exact .inl ⟨id, e, τ, xs, rfl, hr, rfl⟩
    · rename_i e τ xs fz app _ hr
      cases h
      exact .inr ⟨by simp only [closeR, hr], fun _ _ _ h => by cases h⟩
    · cases h
  · exact .inr ⟨h, nofr h⟩
theorem retAll_get {st : St} : ∀ {rs as : List AV}, retAll st rs = some as → as.length = rs.length ∧ ∀ (i : Nat) b, as[i]? = some b → ∃ a, rs[i]? = some a ∧ ret1 st a = some b
  | [], as, h => by cases h; exact ⟨rfl, fun i b h => by simp at h⟩
  | a :: l, as, h => by
    simp only [retAll] at h
    split at h
    · rename_i b hb
      split at h
      · rename_i m hm
        cases h
        obtain ⟨h1, h2⟩ := retAll_get hm
        refine ⟨by simp [h1], fun i c hc => ?_⟩
        cases i with
        | zero => cases hc; exact ⟨a, rfl, hb⟩
        | succ i => simpa using h2 i c (by simpa using hc)
      · cases h
    · cases h
theorem resAll_get {E : Env} {st : St} : ∀ {l : List ResultVar} {rs : List AV}, resAll E st l = some rs → rs.length = l.length ∧ ∀ (i : Nat) x, l[i]? = some x → ∃ b, rs[i]? = some b ∧ resA E st x = some b
  | [], rs, h => by cases h; exact ⟨rfl, fun i b h => by simp at h⟩
  | a :: l, rs, h => by
    simp only [resAll] at h
    split at h
    · rename_i b hb
      split at h
      · rename_i m hm
        cases h
        obtain ⟨h1, h2⟩ := resAll_get hm
        refine ⟨by simp [h1], fun i c hc => ?_⟩
        cases i with
        | zero => cases hc; exact ⟨b, rfl, hb⟩
        | succ i => simpa using h2 i c (by simpa using hc)
      · cases h
    · cases h
theorem run_mapM {P : Program} {w : World} {α : Type} {f : α → Sem Value} : ∀ {l : List α} {vs : List Value}, vs.length = l.length → (∀ (i : Nat) x v, l[i]? = some x → vs[i]? = some v → (f x).run P w = .ok v w) → (l.mapM f).run P w = .ok vs w
  | [], [], _, _ => by simp
  | [], _ :: _, h, _ => by simp at h
  | _ :: _, [], h, _ => by simp at h
  | x :: l, v :: vs, h, hf => by
    have h1 := hf 0 x v rfl rfl
    have h2 := run_mapM (l := l) (vs := vs) (by simpa using h) fun i x v hx hv => hf (i + 1) x v (by simpa using hx) (by simpa using hv)
    simp [List.mapM_cons, h1, h2]
theorem idsL_split {a : AV} : ∀ {l : List AV} {i : Nat} {id : Nat}, l[i]? = some a → id ∈ idsN 6 a → (idsL l).Nodup → ∀ j b, j ≠ i → l[j]? = some b → id ∉ idsN 6 b
  | [], i, id, h, _, _, _, _, _, _ => by simp at h
  | c :: l, i, id, h, hm, hn, j, b, hj, hb => by
    obtain ⟨h1, h2, h3⟩ := List.nodup_append.1 (show (idsN 6 c ++ idsL l).Nodup from hn)
    cases i with
    | zero =>
      cases h
      cases j with
      | zero => exact absurd rfl hj
      | succ j => exact fun hb' => h3 id hm id (idsL_mem (List.mem_of_getElem? (by simpa using hb)) hb') rfl
    | succ i =>
      cases j with
      | zero =>
        cases hb
        exact fun hb' => h3 id hb' id (idsL_mem (List.mem_of_getElem? (by simpa using h)) hm) rfl
      | succ j => exact idsL_split (l := l) (i := i) (by simpa using h) hm h2 j b (by omega) (by simpa using hb)

/-- The rows that are handed back as plain data. -/
def plainIds (st : St) : List AV → List Nat
  | [] => []
  | a :: l => (match ret1 st a with
    | some (.fr _ _ _) => []
    | _ => idsN 6 a) ++ plainIds st l
theorem plainIds_mem {st : St} {id : Nat} : ∀ {rs : List AV}, id ∈ plainIds st rs → ∃ (i : Nat) (a : AV), rs[i]? = some a ∧ id ∈ idsN 6 a ∧ ∀ e τ xs, ret1 st a ≠ some (.fr e τ xs)
  | [], h => by cases h
  | a :: l, h => by
    simp only [plainIds] at h
    rcases List.mem_append.1 h with h | h
    · split at h
      · cases h
      · rename_i hn
        exact ⟨0, a, rfl, h, hn⟩
    · obtain ⟨i, b, h1, h2, h3⟩ := plainIds_mem h
      exact ⟨i + 1, b, by simpa using h1, h2, h3⟩
theorem mem_plainIds {st : St} {id : Nat} : ∀ {rs : List AV} {a : AV}, a ∈ rs → id ∈ idsN 6 a → (∀ e τ xs, ret1 st a ≠ some (.fr e τ xs)) → id ∈ plainIds st rs
  | [], a, h, _, _ => by cases h
  | c :: l, a, h, hi, hn => by
    simp only [plainIds]
    rcases List.mem_cons.1 h with rfl | h
    · refine List.mem_append_left _ ?_
      split
      · rename_i e τ xs he
        exact absurd he (hn e τ xs)
      · exact hi
    · exact List.mem_append_right _ (mem_plainIds h hi hn)

section
variable {P : Program} {E : Env} {pv : Nat → Value} {G : Cal → List AV → AV → Prop} {LG : Nat → St → Ex → St → Prop}
theorem res_run (hE : EnvOk P E) {w0 : World} {B : Old} {S1 : Nat → Prop} {ρ : Nat → Option Loc} {st : St} {a : Act} {w1 : World} {fn : Func} {rs : List AV} (hs : Sim w0 B pv S1 ρ st a w1) (hvals0 : resAll E st fn.results.toList = some rs) :
    ∃ vs' : List Value, vs'.length = rs.length ∧ (∀ (i : Nat) b v, rs[i]? = some b → vs'[i]? = some v → VR S1 w1 ρ st.row pv b v) ∧ (results fn a.tmps).run P w1 = .ok (if h : vs'.toArray.size = 1 then vs'.toArray[0] else .tuple vs'.toArray) w1 := by
  obtain ⟨hrl, hrg⟩ := resAll_get hvals0
  -- the machine's results
  have hval : ∀ x b, resA E st x = some b → ∃ v, VR S1 w1 ρ st.row pv b v ∧ (match x with
      | ResultVar.tmp t => (pure (a.tmps.getD t undef) : Sem Value)
      | ResultVar.cell t T => do loadVar T (← asAddr (a.tmps.getD t undef))).run P w1 = .ok v w1 := fun x b hx => by
    cases x with
    | tmp t => cases hx; exact ⟨_, hs.slots t, rfl⟩
    | cell t T =>
      simp only [resA] at hx
      split at hx
      · rename_i τ j hT hj
        split at hx
        · rename_i σ b' hr
          split at hx
          · rename_i e _
            subst e
            cases hx
            have hv := hs.slots t
            rw [hj] at hv
            obtain ⟨g, c, τ', h1, h2, h3⟩ := vr_epB hv hr
            obtain ⟨cur, T', h4, h5, h6⟩ := hs.hs.rows j _ _ hr h2
            have hrun := run_loadT (P := P) (hE.ty _ _ hT) h5 h6 (cells_of h4)
            refine ⟨_, .inr ⟨_, h6, rfl⟩, ?_⟩
            show (do loadVar T (← asAddr (a.tmps.getD t undef)) : Sem Value).run P w1 = _
            rw [h3]
            simpa [Instr.loadAt, Instr.sureAddr, asAddr, offP] using hrun
          · cases hx
        · cases hx
      · cases hx
  have hvals : ∃ vs' : List Value, vs'.length = rs.length ∧ (∀ (i : Nat) b v, rs[i]? = some b → vs'[i]? = some v → VR S1 w1 ρ st.row pv b v) ∧ (fn.results.toList.mapM fun
      | ResultVar.tmp t => (pure (a.tmps.getD t undef) : Sem Value)
      | ResultVar.cell t T => do loadVar T (← asAddr (a.tmps.getD t undef))).run P w1 = .ok vs' w1 := by
    have key : ∀ i : Nat, ∃ v, ∀ x, fn.results.toList[i]? = some x → ∃ b, rs[i]? = some b ∧ VR S1 w1 ρ st.row pv b v ∧ (match x with
      | ResultVar.tmp t => (pure (a.tmps.getD t undef) : Sem Value)
      | ResultVar.cell t T => do loadVar T (← asAddr (a.tmps.getD t undef))).run P w1 = .ok v w1 := fun i => by
      cases hx : fn.results.toList[i]? with
      | none => exact ⟨undef, fun x h => by cases h⟩
      | some x =>
        obtain ⟨b, h1, h2⟩ := hrg i x hx
        obtain ⟨v, h3, h4⟩ := hval x b h2
        exact ⟨v, fun y hy => by cases hy; exact ⟨b, h1, h3, h4⟩⟩
    let vf := fun i => Classical.choose (key i)
    have hvf := fun i => Classical.choose_spec (key i)
    refine ⟨(List.range rs.length).map vf, by simp, fun i b v hb hv => ?_, run_mapM (by simp [hrl]) fun i x v hx hv => ?_⟩
    · have hi := (List.getElem?_eq_some_iff.1 hb).1
      have hx : fn.results.toList[i]? = some fn.results.toList[i] := List.getElem?_eq_getElem (by omega)
      obtain ⟨b', h1, h2, h3⟩ := hvf i _ hx
      rw [hb] at h1
      cases h1
      simp only [List.getElem?_map, List.getElem?_range hi, Option.map_some, Option.some.injEq] at hv
      subst hv
      exact h2
    · have hi := (List.getElem?_eq_some_iff.1 hx).1
      obtain ⟨b', h1, h2, h3⟩ := hvf i _ hx
      simp only [List.getElem?_map, List.getElem?_range (show i < rs.length by omega), Option.map_some, Option.some.injEq] at hv
      subst hv
      exact h3
  obtain ⟨vs', hvl', hvv, hrun⟩ := hvals
  have hres : (results fn a.tmps).run P w1 = .ok (if h : vs'.toArray.size = 1 then vs'.toArray[0] else .tuple vs'.toArray) w1 := by
    unfold results
    rw [Array.mapM_eq_mapM_toList]
    simp only [Sem.run_bind, Sem.run_map, Sem.run_pure]
    exact (congrArg (fun r => Result.andThen (Result.andThen r fun (l : List Value) w' => .ok l.toArray w') fun (us : Array Value) w' => .ok (if h : us.size = 1 then us[0] else .tuple us) w') hrun).trans rfl
  exact ⟨vs', hvl', hvv, hres⟩
theorem ans_ok (hE : EnvOk P E) {w0 : World} {B : Old} {S1 : Nat → Prop} {ρ : Nat → Option Loc} {st : St} {a : Act} {w1 : World} {fn : Func} {rs as : List AV} {n0 : Nat} (hs : Sim w0 B pv S1 ρ st a w1) (hvals0 : resAll E st fn.results.toList = some rs) (hdis : distinctL (idsL rs) = true) (heps : anyL (epsN 6) rs = false) (hret : retAll st rs = some as)
    (hnew : ∀ id r g c, id ∈ idsL rs → st.row id = some r → ρ id = some (.at g c) → n0 ≤ g) :
    ∃ v, (results fn a.tmps).run P w1 = .ok v w1 ∧ (∀ b, frzS S1 ρ st.row (plainIds st rs) b → S1 b ∨ (n0 ≤ b ∧ b < w1.heap.size)) ∧ RR (frzS S1 ρ st.row (plainIds st rs)) w1 n0 pv (one as) v := by
  obtain ⟨hal, hag⟩ := retAll_get hret
  obtain ⟨vs', hvl', hvv, hres⟩ := res_run hE hs hvals0
  refine ⟨_, hres, fun b hb => ?_, ?_⟩
  · rcases hb with hb | ⟨id, hid, r, c, hr, _, hl'⟩
    · exact .inl hb
    · obtain ⟨j, b', k1, k2, _⟩ := plainIds_mem hid
      exact .inr ⟨hnew id r b c (idsL_mem (List.mem_of_getElem? k1) k2) hr hl', (hs.hs.rows id r _ hr hl').lt⟩
  · -- component by component
    have comp : ∀ i : Nat, ∃ g : Option Nat, ∀ (b : AV) (v : Value), as[i]? = some b → vs'[i]? = some v → R1 (frzS S1 ρ st.row (plainIds st rs)) w1 n0 pv b v g ∧ (∀ g0, g = some g0 → ∃ id c, rs[i]? = some (AV.own id) ∧ ρ id = some (.at g0 c) ∧ st.row id ≠ none) := fun i => by
      by_cases hi : i < as.length
      · have hb : as[i]? = some as[i] := List.getElem?_eq_getElem hi
        have hv : vs'[i]? = some vs'[i] := List.getElem?_eq_getElem (by omega)
        obtain ⟨ra, h1, h2⟩ := hag i _ hb
        have hvr := hvv i ra _ h1 hv
        rcases ret1_form h2 with ⟨id, e', τ, xs, rfl, hr, hbe⟩ | ⟨hcl, hnf⟩
        · rcases vr_own hvr hr with ⟨g, cap, hl', hv'⟩ | ⟨hl', rfl, hv'⟩
          · refine ⟨some g, fun b v hb' hv'' => ?_⟩
            rw [hb] at hb'; rw [hv] at hv''
            cases hb'; cases hv''
            have hap := hs.hs.apart id _ g cap hl' hr
            refine ⟨?_, fun g0 e => by cases e; exact ⟨id, cap, h1, hl', by rw [hr]; simp⟩⟩
            rw [hbe, hv']
            refine .fr e' τ xs g cap (hnew id _ g cap (idsL_mem (List.mem_of_getElem? h1) (by simp [idsN])) hr hl') ?_ (hs.hs.rows id _ _ hr hl' |> fun ⟨cur, f', k1, k2, k3, k4, k5, k6, k7, k8⟩ => ⟨cur, f', k1, k2, k3, k4, k5, k6, k7, fun i hi => by
              obtain ⟨cs, k9, k10⟩ := k8 i hi
              exact ⟨cs, k9.mono (fun _ h => .inl h) (fun _ _ => rfl), k10⟩⟩)
            rintro (hS | ⟨id', hid', r', c', hr', _, hl2⟩)
            · exact hap.2.1 rfl hS
            · have := hs.hs.inj id id' g cap c' hl' hl2 (by rw [hr]; simp) (by rw [hr']; simp)
              subst this
              obtain ⟨j, b', k1, k2, k3⟩ := plainIds_mem hid'
              by_cases hji : j = i
              · subst hji
                rw [h1] at k1
                cases k1
                exact k3 e' τ xs (by rw [h2, hbe])
              · exact idsL_split (i := i) h1 (by simp [idsN]) (distinctL_nodup hdis) j b' hji k1 k2
          · refine ⟨none, fun b v hb' hv'' => ?_⟩
            rw [hb] at hb'; rw [hv] at hv''
            cases hb'; cases hv''
            refine ⟨?_, fun g0 e => by cases e⟩
            rw [hbe, hv']
            exact .frNil e' τ (hs.hs.rows id _ _ hr hl').2.2
        · refine ⟨none, fun b v hb' hv'' => ?_⟩
          rw [hb] at hb'; rw [hv] at hv''
          cases hb'; cases hv''
          refine ⟨?_, fun g0 e => by cases e⟩
          obtain ⟨cs, k1, k2⟩ := vr_ar hvr (by rintro rfl; simp [closeR] at hcl)
          have k3 := closeR_ok (ρ0 := fun _ => none) (row0 := fun _ => none) (S1 := frzS S1 ρ st.row (plainIds st rs)) hs.hs (fun _ h => .inl h) hcl k1 (.inr ⟨anyL_false (f := epsN 6) heps h1, fun id hid r g c hr hz hl' => .inr ⟨id, mem_plainIds (List.mem_of_getElem? h1) hid (fun e τ xs he => by
            rw [h2] at he
            simp only [Option.some.injEq] at he
            exact hnf e τ xs he), r, c, hr, hz, hl'⟩⟩)
          rw [k2, show valOf ra cs = valOf as[i] cs by rw [valOf, valOf, closeR_ag hcl]]
          exact .plain _ cs k3
      · exact ⟨none, fun b v hb' _ => by rw [List.getElem?_eq_none (by omega)] at hb'; cases hb'⟩
    have notup : ∀ (i : Nat) (b : AV), as[i]? = some b → ∀ l, b ≠ AV.tup l := fun i b hb l e => by
      obtain ⟨ra, h1, h2⟩ := hag i _ hb
      subst e
      rcases ret1_form h2 with ⟨id, e', τ, xs, rfl, hr, hbe⟩ | ⟨hcl, hnf⟩
      · cases hbe
      · have h3 := closeR_ag hcl
        cases ra with
        | agg τ' fs => cases h3
        | ep id i p => cases i <;> simp only [closeR] at hcl <;> (repeat' split at hcl) <;> cases hcl
        | _ => simp only [closeR] at hcl <;> (repeat' split at hcl) <;> cases hcl
    obtain ⟨gf, hgf⟩ : ∃ gf : Nat → Option Nat, ∀ (i : Nat) (b : AV) (v : Value), as[i]? = some b → vs'[i]? = some v → R1 (frzS S1 ρ st.row (plainIds st rs)) w1 n0 pv b v (gf i) ∧ (∀ g0, gf i = some g0 → ∃ id c, rs[i]? = some (AV.own id) ∧ ρ id = some (.at g0 c) ∧ st.row id ≠ none) :=
      ⟨fun i => Classical.choose (comp i), fun i => Classical.choose_spec (comp i)⟩
    have many : as.length ≠ 1 → RR (frzS S1 ρ st.row (plainIds st rs)) w1 n0 pv (.tup as) (.tuple vs'.toArray) := fun _ => by
      refine ⟨vs', (List.range as.length).map gf, rfl, by omega, by simp, fun i r v g hr hv hg' => ?_, fun i j g hij hgi hgj => ?_⟩
      · have hi := (List.getElem?_eq_some_iff.1 hr).1
        simp only [List.getElem?_map, List.getElem?_range hi, Option.map_some, Option.some.injEq] at hg'
        subst hg'
        exact (hgf i r v hr hv).1
      · have hi : i < as.length := by have := (List.getElem?_eq_some_iff.1 hgi).1; simpa using this
        have hj : j < as.length := by have := (List.getElem?_eq_some_iff.1 hgj).1; simpa using this
        simp only [List.getElem?_map, List.getElem?_range hi, List.getElem?_range hj, Option.map_some, Option.some.injEq] at hgi hgj
        obtain ⟨id, c, k1, k2, k3⟩ := (hgf i _ _ (List.getElem?_eq_getElem hi) (List.getElem?_eq_getElem (by omega))).2 g hgi
        obtain ⟨id', c', k1', k2', k3'⟩ := (hgf j _ _ (List.getElem?_eq_getElem hj) (List.getElem?_eq_getElem (by omega))).2 g hgj
        have := hs.hs.inj id id' g c c' k2 k2' k3 k3'
        subst this
        exact idsL_split (i := i) (id := id) k1 (by simp [idsN]) (distinctL_nodup hdis) j _ (fun e => hij e.symm) k1' (by simp [idsN])
    have hlen : vs'.length = as.length := by omega
    clear comp hres hvv
    match as, vs', many, hgf, notup, hlen with
    | [], vs', many, _, _, hlen =>
      have : vs' = [] := List.eq_nil_of_length_eq_zero hlen
      subst this
      exact many (by simp)
    | [b], [v], many, hgf, notup, hlen =>
      have hb := (hgf 0 b v rfl rfl).1
      have : RR (frzS S1 ρ st.row (plainIds st rs)) w1 n0 pv b v := by
        cases b with
        | tup l => exact absurd rfl (notup 0 _ rfl l)
        | _ => exact ⟨_, hb⟩
      simpa [one] using this
    | [b], [], _, _, _, hlen => simp at hlen
    | [b], _ :: _ :: _, _, _, _, hlen => simp at hlen
    | b :: b2 :: l, vs', many, _, _, hlen =>
      have hne : vs'.toArray.size ≠ 1 := by
        simp only [List.size_toArray, hlen, List.length_cons]
        omega
      rw [dif_neg hne]
      exact many (by simp)
theorem funR_meets (hE : EnvOk P E) (hG : GOk P E pv G) {f : FuncId} {fn : Func} (hf : P.funcs[f]? = some fn) (hname : (fn.name == "runtime.NumGoroutine") = false) {c : Code} {args : List AV} {res : AV} {e : Ex} {st : St} {rs as : List AV}
    (h : FunR E G LG fn c args res e st rs as) (hn : args.length ≤ fn.ntmps) (hl : ∀ w0 B, ∀ p ∈ loopsOf 0 c, LoopSound P E w0 B pv p.2 (LG p.1)) : Meets P E pv (.f f) args res := by
  intro S w vs hst hgl hargs
  obtain ⟨hvl, hva⟩ := hargs
  show RunsTo P _ ((callFunc f vs.toArray).run P w)
  have hcall : (callFunc f vs.toArray).run P w = .ok (.enter f vs.toArray) w := by
    have hn' : fn.name ≠ "runtime.NumGoroutine" := by simpa using hname
    simp [callFunc, hf, hn', h.body]
  rw [hcall]
  refine calls_of_wp hf h.body ?_
  have hs0 : Sim w ⟨fun b => b < w.heap.size, none⟩ pv S (fun _ => none) (start fn.ntmps args) { tmps := vs.toArray ++ Array.replicate (fn.ntmps - vs.toArray.size) undef, defers := [] } w := by
    refine ⟨by simp [start]; omega, rfl, fun t => ?_, ⟨hst, fun id r l h1 _ => (by cases h1), fun id id' g c c' h1 => (by cases h1), fun id r g c h1 => (by cases h1), fun l hl => (by cases hl)⟩, Blw.refl _ _, fun _ h => h⟩
    rw [Array.getD_eq_getD_getElem?]
    simp only [start]
    by_cases ht : t < args.length
    · have ha : args[t]? = some args[t] := List.getElem?_eq_getElem ht
      have hv : vs[t]? = some vs[t] := List.getElem?_eq_getElem (by omega)
      obtain ⟨cs, h1, h2⟩ := hva t _ _ ha hv
      rw [Array.getElem?_append_left (by simp; omega)]
      simp only [List.getElem?_toArray, ha, hv, Option.getD_some]
      exact .inr ⟨cs, h1, h2⟩
    · have ha : args[t]? = none := List.getElem?_eq_none (by omega)
      rw [ha, Array.getElem?_append_right (by simp; omega)]
      simp only
      have : (Array.replicate (fn.ntmps - vs.toArray.size) undef)[t - vs.toArray.size]?.getD undef = undef := by
        cases hx : (Array.replicate (fn.ntmps - vs.toArray.size) undef)[t - vs.toArray.size]? with
        | none => rfl
        | some u =>
          have := Array.mem_of_getElem? hx
          rw [Array.mem_replicate] at this
          rw [this.2]; rfl
      rw [this]
      exact vr_undef
  refine code_ok hE hG h.run (hl w ⟨fun b => b < w.heap.size, none⟩) hs0 hgl fun S1 ρ a w1 hs hgl1 hg => ?_
  suffices hfin : a.defers = [] ∧ ∃ v, (results fn a.tmps).run P w1 = .ok v w1 ∧ (∃ v', Ending.returned v = .returned v' ∧ (Below w.heap.size w w1 ∧ ∃ S' : Nat → Prop, (∀ b, S b → S' b) ∧ (∀ b, S' b → S b ∨ (w.heap.size ≤ b ∧ b < w1.heap.size)) ∧ RR S' w1 w.heap.size pv res v')) by
    cases e with
    | normal => exact hfin
    | ret => exact hfin
    | exit id => exact absurd rfl (h.out id)
  refine ⟨hs.defers, ?_⟩
  obtain ⟨v, hres, hS, hrr⟩ := ans_ok hE (n0 := w.heap.size) hs h.vals h.dis h.eps h.ret fun id r g c _ hr hl' => Nat.le_of_not_lt (hs.hs.apart id r g c hl' hr).1
  refine ⟨v, hres, v, rfl, hs.below.to, frzS S1 ρ st.row (plainIds st rs), fun b hb => .inl (hg.sub b hb), fun b hb => ?_, by rw [h.ans]; exact hrr⟩
  rcases hS b hb with h1 | h1
  · exact (hg.new b h1).imp _root_.id fun h => ⟨Nat.le_of_not_lt h, hs.hs.stab b h1⟩
  · exact .inr h1

/-! ### A function that is handed what it may change -/
/-- How it ends. -/
inductive EndM (st : St) (mb : Nat) (a0 : AV) (rs : List AV) : AV → Prop
  | kep (as : List AV) (o : AV) (hmb : mb = mbase) (hdis : distinctL (idsL rs) = true) (heps : anyL (epsN 6) rs = false) (hn : mbase ∉ idsL rs) (hret : retAll st rs = some as) (ho : outM st mbase a0 some = some o) : EndM st mb a0 rs (.kep o (one as))
  | mov (e : Nat) (τ : Ty) (ys : List (den τ)) (hmb : mb ≠ mbase) (hrs : rs = [.own mb]) (hrow : st.row mb = some (.flat e τ ys false true)) : EndM st mb a0 rs (.mov e τ ys)
structure FunM (E : Env) (G : Cal → List AV → AV → Prop) (LG : Nat → St → Ex → St → Prop) (fn : Func) (c : Code) (mb : Nat) (a0 : AV) (args : List AV) (res : AV) (e : Ex) (st : St) (rs : List AV) : Prop where
  body : fn.body = some c
  run : CodeR E G LG 0 c (startM fn.ntmps mb a0 args) e st
  out : ∀ id, e ≠ .exit id
  vals : resAll E st fn.results.toList = some rs
  ends : EndM st mb a0 rs res
theorem outM_nat {st : St} {mb : Nat} {a0 : AV} {R : Type} {K : AV → Option R} {r : R} (h : outM st mb a0 K = some r) : ∃ o, outM st mb a0 some = some o ∧ K o = some r := by
  unfold outM at h ⊢
  split at h
  · split at h
    · obtain ⟨h1, h2⟩ := cond_some h
      rw [h1]
      exact ⟨_, rfl, h2⟩
    · cases h
  · split at h
    · exact ⟨_, rfl, h⟩
    · cases h
  · cases h
theorem keepM_rel {st : St} {mb : Nat} {a0 : AV} {rs : List AV} {R : Type} {K : AV → Option R} {r : R} (h : keepM st mb a0 rs K = some r) : ∃ res, EndM st mb a0 rs res ∧ K res = some r := by
  unfold keepM at h
  split at h
  · rename_i hg
    simp only [Bool.and_eq_true, Bool.not_eq_true'] at hg
    obtain ⟨hmb, h1, h2, h3⟩ := hg
    have hmb := Nat.eq_of_beq_eq_true hmb
    subst hmb
    split at h
    · rename_i as has
      obtain ⟨o, ho, h⟩ := outM_nat h
      exact ⟨_, .kep as o rfl h1 h2 (by simpa using h3) has ho, h⟩
    · cases h
  · cases h
theorem runM_rel {LG : Nat → St → Ex → St → Prop} {C : Orc} {L : LOrc} (hC : OrcIs C G) (hL : LIs L LG) {fn : Func} {mb : Nat} {a0 : AV} {args : List AV} {R : Type} {K : AV → Option R} {r : R} (h : runM E C L fn mb a0 args K = some r) :
    ∃ c res e st rs, FunM E G LG fn c mb a0 args res e st rs ∧ K res = some r := by
  unfold runM at h
  split at h
  · rename_i c hc
    obtain ⟨e, st, h1, h2⟩ := runC_rel hC hL c 0 _ h
    have go : (match resAll E st fn.results.toList with
      | some rs => match rs with
        | [.own i] => match Nat.beq i mb && !Nat.beq mb mbase with
          | true => match st.row mb with
            | some (.flat e τ ys false true) => K (.mov e τ ys)
            | _ => none
          | false => keepM st mb a0 [.own i] K
        | rs => keepM st mb a0 rs K
      | none => none) = some r → (∀ id, e ≠ .exit id) → ∃ c res e st rs, FunM E G LG fn c mb a0 args res e st rs ∧ K res = some r := fun h2 he => by
      split at h2
      · rename_i rs hrs
        split at h2
        · rename_i i
          split at h2
          · rename_i hi
            simp only [Bool.and_eq_true, Bool.not_eq_true'] at hi
            obtain ⟨hi, hmb⟩ := hi
            have hi := Nat.eq_of_beq_eq_true hi
            subst hi
            have hne : i ≠ mbase := fun e => by rw [e, Nat.beq_refl] at hmb; cases hmb
            split at h2
            · rename_i e' τ ys hr
              exact ⟨c, _, e, st, _, ⟨hc, h1, he, hrs, .mov e' τ ys hne rfl hr⟩, h2⟩
            · cases h2
          · obtain ⟨res, h3, h4⟩ := keepM_rel h2
            exact ⟨c, _, e, st, _, ⟨hc, h1, he, hrs, h3⟩, h4⟩
        · obtain ⟨res, h3, h4⟩ := keepM_rel h2
          exact ⟨c, _, e, st, _, ⟨hc, h1, he, hrs, h3⟩, h4⟩
      · cases h2
    cases e with
    | exit id => cases h2
    | normal => exact go h2 (fun id h => by cases h)
    | ret => exact go h2 (fun id h => by cases h)
  · cases h
def pinOf (mb : Nat) (l : Loc) : Option Loc := if mb = mbase then some l else none
theorem funM_meets (hE : EnvOk P E) (hG : GOk P E pv G) {LG : Nat → St → Ex → St → Prop} {f : FuncId} {fn : Func} (hf : P.funcs[f]? = some fn) (hname : (fn.name == "runtime.NumGoroutine") = false) {c : Code} {mb : Nat} {a0 : AV} {args : List AV} {res : AV} {e : Ex} {st : St} {rs : List AV}
    (h : FunM E G LG fn c mb a0 args res e st rs) (hmb : mb = mbase ∨ mb = mmove) (hn : args.length + 1 ≤ fn.ntmps) (hl : ∀ w0 B, ∀ p ∈ loopsOf 0 c, LoopSound P E w0 B pv p.2 (LG p.1)) : MeetsM P E pv f a0 args res := by
  intro S w v0 vs l r0 hst hgl hargs hr0 hrow hSl hv0
  obtain ⟨hvl, hva⟩ := hargs
  show RunsTo P _ ((callFunc f (v0 :: vs).toArray).run P w)
  have hcall : (callFunc f (v0 :: vs).toArray).run P w = .ok (.enter f (v0 :: vs).toArray) w := by
    have hn' : fn.name ≠ "runtime.NumGoroutine" := by simpa using hname
    simp [callFunc, hf, hn', h.body]
  rw [hcall]
  refine calls_of_wp hf h.body ?_
  have hf0 : frz r0 = false := by cases a0 <;> cases hr0 <;> rfl
  have hlt : ∀ g c, l = .at g c → g < w.heap.size := fun g c e => by subst e; exact hrow.lt
  have hrow1 : (startM fn.ntmps mb a0 args).row mb = some r0 := by simp [startM, hr0]
  have hrow2 : ∀ id r, (startM fn.ntmps mb a0 args).row id = some r → id = mb ∧ r = r0 := fun id r h1 => by
    simp only [startM, beq_eq] at h1
    by_cases e1 : id = mb
    · rw [decide_eq_true e1] at h1
      simp only [cond_true, hr0, Option.some.injEq] at h1
      exact ⟨e1, h1.symm⟩
    · rw [decide_eq_false e1] at h1; cases h1
  have hs0 : Sim w ⟨fun b => b < w.heap.size ∧ ∀ g c, l = .at g c → b ≠ g, pinOf mb l⟩ pv S (fun id => if id = mb then some l else none) (startM fn.ntmps mb a0 args) { tmps := (v0 :: vs).toArray ++ Array.replicate (fn.ntmps - (v0 :: vs).toArray.size) undef, defers := [] } w := by
    refine ⟨by simp [startM]; omega, rfl, fun t => ?_, ⟨hst, fun id r l1 h1 h2 => ?_, fun id id' g c c' h1 h2 h3 h4 => ?_, fun id r g c h1 h2 => ?_, fun l1 hl1 => ?_⟩, Blw.refl _ _, fun _ h => h.1⟩
    · rw [Array.getD_eq_getD_getElem?]
      by_cases ht : t < args.length + 1
      · rw [Array.getElem?_append_left (by simp; omega)]
        simp only [List.getElem?_toArray]
        cases t with
        | zero =>
          simp only [List.getElem?_cons_zero, Option.getD_some]
          rw [hv0]
          cases a0 <;> cases hr0
          · cases l with
            | «at» g cap => exact .inr ⟨_, .own mb _ _ _ _ _ g cap hrow1 (by simp), rfl⟩
            | nilrow =>
              obtain ⟨rfl, _, _⟩ := hrow
              exact .inr ⟨_, .ownNil mb _ _ _ _ hrow1 (by simp), rfl⟩
          · rename_i τ x
            cases l with
            | «at» g cap => exact .inr ⟨_, .epB mb τ τ _ g cap [] hrow1 (by simp) rfl, rfl⟩
            | nilrow => exact hrow.elim
        | succ t =>
          simp only [startM, List.getElem?_cons_succ]
          have ha : args[t]? = some args[t] := List.getElem?_eq_getElem (by omega)
          have hv : vs[t]? = some vs[t] := List.getElem?_eq_getElem (by omega)
          obtain ⟨cs, h1, h2⟩ := hva t _ _ ha hv
          rw [ha, hv]
          simp only [Option.getD_some]
          refine .inr ⟨cs, ?_, h2⟩
          exact h1.ext (P := fun _ => True) (fun _ h => h) (fun _ _ => rfl) (fun id l r _ h1 => by cases h1) (fun _ _ => trivial)
      · rw [Array.getElem?_append_right (by simp; omega)]
        have : (Array.replicate (fn.ntmps - (v0 :: vs).toArray.size) undef)[t - (v0 :: vs).toArray.size]?.getD undef = undef := by
          cases hx : (Array.replicate (fn.ntmps - (v0 :: vs).toArray.size) undef)[t - (v0 :: vs).toArray.size]? with
          | none => rfl
          | some u =>
            have := Array.mem_of_getElem? hx
            rw [Array.mem_replicate] at this
            rw [this.2]; rfl
        rw [this]
        obtain ⟨t', rfl⟩ : ∃ t', t = t' + 1 := ⟨t - 1, by omega⟩
        have ha : args[t']? = none := List.getElem?_eq_none (by omega)
        simp only [startM, ha]
        exact vr_undef
    · obtain ⟨rfl, rfl⟩ := hrow2 id r h1
      rw [if_pos rfl] at h2
      cases h2
      refine RowOk.ext (P := fun _ => True) (fun _ h => h) (fun _ _ => rfl) (fun id l r _ h1 => by cases h1) hrow (fun _ _ _ => rfl) (fun _ _ _ _ _ => trivial)
    · cases hx : (startM fn.ntmps mb a0 args).row id with
      | none => exact absurd hx h3
      | some r =>
        cases hy : (startM fn.ntmps mb a0 args).row id' with
        | none => exact absurd hy h4
        | some r' => exact (hrow2 id r hx).1.trans (hrow2 id' r' hy).1.symm
    · obtain ⟨rfl, rfl⟩ := hrow2 id r h2
      rw [if_pos rfl] at h1
      have h1 := Option.some.inj h1
      exact ⟨fun hb => hb.2 g c h1 rfl, fun _ => hSl g c h1, fun hz => by rw [hf0] at hz; cases hz⟩
    · simp only [pinOf] at hl1
      split at hl1
      · rename_i e1
        rw [e1]
        simpa using hl1
      · cases hl1
  refine code_ok hE hG h.run (hl w _) hs0 hgl fun S1 ρ a w1 hs hgl1 hg => ?_
  suffices hfin : a.defers = [] ∧ ∃ v, (results fn a.tmps).run P w1 = .ok v w1 ∧ (∃ v', Ending.returned v = .returned v' ∧ (Blw ⟨fun b => b < w.heap.size ∧ ∀ g c, l = .at g c → b ≠ g, none⟩ w w1 ∧ ∃ S' : Nat → Prop, (∀ b, S b → S' b) ∧ (∀ b, S' b → S b ∨ (∃ c, l = .at b c) ∨ (w.heap.size ≤ b ∧ b < w1.heap.size)) ∧ AnsM S' w1 w.heap.size pv a0 l res v')) by
    cases e with
    | normal => exact hfin
    | ret => exact hfin
    | exit id => exact absurd rfl (h.out id)
  refine ⟨hs.defers, ?_⟩
  have hblw : Blw ⟨fun b => b < w.heap.size ∧ ∀ g c, l = .at g c → b ≠ g, none⟩ w w1 := ⟨hs.below.os, hs.below.tape, hs.below.output, hs.below.size, hs.below.block⟩
  have notK : ∀ g, ¬ (g < w.heap.size ∧ ∀ g' c, l = .at g' c → g ≠ g') → (∃ c, l = .at g c) ∨ w.heap.size ≤ g := fun g hK => by
    by_cases hg0 : g < w.heap.size
    · left
      apply Classical.byContradiction
      intro hne
      exact hK ⟨hg0, fun g' c e1 e2 => hne ⟨c, e2 ▸ e1⟩⟩
    · exact .inr (Nat.le_of_not_lt hg0)
  cases h.ends with
  | kep as o hmb' hdis heps hnm hret ho =>
    subst hmb'
    have hpin : ρ mbase = some l := hs.hs.pin l (by simp [pinOf])
    -- the row is there still
    have hout : ∃ ro, st.row mbase = some ro ∧ (∃ ro', rowOf o = some ro' ∧ (∀ S2, (∀ b, S1 b → S2 b) → RowOk S1 w1 ρ st.row pv ro l → Row0 S2 w1 pv ro' l) ∧ Same r0 ro') ∧ frz ro = false := by
      unfold outM at ho
      split at ho
      · rename_i e1 τ xs e' σ ys hr
        split at ho
        · rename_i hk
          obtain ⟨h1, h2⟩ := cond_some ho
          cases h2
          have hlen := Nat.eq_of_beq_eq_true h1
          unfold sameK at hk
          dsimp only at hk
          split at hk
          · rename_i eστ _
            subst eστ
            have he := Nat.eq_of_beq_eq_true hk
            subst he
            cases hr0
            refine ⟨_, hr, ⟨_, rfl, fun S2 hS2 hro => ?_, .flat _ _ _ _ _ _ _ _ _ hlen.symm⟩, rfl⟩
            cases l with
            | nilrow => exact hro
            | «at» g cap =>
              obtain ⟨cur, f, k1, k2, k3, k4, k5, k6, k7, k8⟩ := hro
              exact ⟨cur, f, k1, k2, k3, k4, k5, k6, k7, fun i hi => by
                obtain ⟨cs, k9, k10⟩ := k8 i hi
                exact ⟨cs, k9.mono hS2 (fun _ _ => rfl), k10⟩⟩
          · cases hk
        · cases ho
      · rename_i τ x σ b hr
        split at ho
        · rename_i eστ y _ hy
          subst eστ
          cases ho
          cases hr0
          refine ⟨_, hr, ⟨_, rfl, fun S2 hS2 hro => ?_, .box _ _ _⟩, rfl⟩
          cases l with
          | nilrow => exact hro
          | «at» g cap =>
            obtain ⟨cur, T, k1, k2, k3⟩ := hro
            exact ⟨cur, T, k1, .t _ _, .t _ _ _ ((asT_ar hy k3).mono hS2 (fun _ _ => rfl))⟩
        · cases ho
      · cases ho
    obtain ⟨ro, hr1, ⟨ro', hro', hro2, hsame⟩, hfz⟩ := hout
    have hrok := hs.hs.rows mbase ro l hr1 hpin
    obtain ⟨v, hres, hS, hrr⟩ := ans_ok hE (n0 := w.heap.size) hs h.vals hdis heps hret fun id r g c hid hr hl' => by
      rcases notK g (hs.hs.apart id r g c hl' hr).1 with ⟨c0, e0⟩ | h1
      · have := hs.hs.inj id mbase g c c0 hl' (e0 ▸ hpin) (by rw [hr]; simp) (by rw [hr1]; simp)
        subst this
        exact absurd hid hnm
      · exact h1
    refine ⟨v, hres, v, rfl, hblw, frzS S1 ρ st.row (plainIds st rs), fun b hb => .inl (hg.sub b hb), fun b hb => ?_, hrr, r0, ro', hr0, hro', hro2 _ (fun _ h => .inl h) hrok, hsame, fun g c e1 hb => ?_⟩
    · rcases hS b hb with h1 | h1
      · rcases hg.new b h1 with h2 | h2
        · exact .inl h2
        · rcases notK b h2 with h3 | h3
          · exact .inr (.inl h3)
          · exact .inr (.inr ⟨h3, hs.hs.stab b h1⟩)
      · exact .inr (.inr h1)
    · rcases hS g hb with h1 | h1
      · exact (hs.hs.apart mbase ro g c (e1 ▸ hpin) hr1).2.1 hfz h1
      · have := hlt g c e1; omega
  | mov e' τ ys hmb' hrs hr1 =>
    subst hrs
    obtain ⟨vs', hvl', hvv, hres⟩ := res_run hE hs h.vals
    match vs', hvl' with
    | [v], _ =>
      have hv := hvv 0 _ v rfl rfl
      refine ⟨v, by simpa using hres, v, rfl, hblw, S1, hg.sub, fun b hb => ?_, ?_⟩
      · rcases hg.new b hb with h2 | h2
        · exact .inl h2
        · rcases notK b h2 with h3 | h3
          · exact .inr (.inl h3)
          · exact .inr (.inr ⟨h3, hs.hs.stab b hb⟩)
      · rcases vr_own hv hr1 with ⟨g, cap, hl', hv'⟩ | ⟨hl', rfl, hv'⟩
        · have hap := hs.hs.apart mb _ g cap hl' hr1
          refine ⟨.at g cap, ?_, hv', fun g' c' e1 => ?_⟩
          · obtain ⟨cur, f, k1, k2, k3, k4, k5, k6, k7, k8⟩ := hs.hs.rows mb _ _ hr1 hl'
            exact ⟨cur, f, k1, k2, k3, k4, k5, k6, k7, k8⟩
          · cases e1
            exact ⟨hap.2.1 rfl, notK g hap.1⟩
        · exact ⟨.nilrow, hs.hs.rows mb _ _ hr1 hl', hv', fun g' c' e1 => by cases e1⟩
end
end Go.Gx
