/- Functions: what the interpreter finds is what the machine's call does. -/
import Derived.Test.YtehijcmhhkchiaaGreatDoorMcy3
import Derived.ChangeSame
import Derived.Carry
import Derived.WideKeyArgs
import Derived.Deep.Slices
import Derived.ProofKit
import Derived.Test.YtehijcmhhkchiaaGreatDoorMcy1
import Derived.Laws.StructEq
import Derived.Lib.Strings
set_option linter.unusedVariables false
set_option linter.unusedSimpArgs false
set_option maxRecDepth 100000
section
namespace Go.Gx
open Go.RowKit
structure FunR (E : Env) (G : Cal -> List AV -> AV -> Prop) (LG : Nat -> St -> Ex -> St -> Prop) (fn : Func) (c : Code) (args : List AV) (res : AV) (e : Ex) (st : St) (rs as : List AV) : Prop where
 body : fn.body = some c
 run : CodeR E G LG 0 c (start fn.ntmps args) e st
 out : ∀ id, e ≠ .exit id
 vals : resAll E st fn.results.toList = some rs
 dis : distinctL (idsL rs) = true
 eps : anyL (epsN 6) rs = false
 ret : retAll st rs = some as
 ans : res = one as
theorem runF_rel {E : Env} {C : Orc} {L : LOrc} {G : Cal -> List AV -> AV -> Prop} {LG : Nat -> St -> Ex -> St -> Prop} (hC : OrcIs C G) (hL : LIs L LG) {fn : Func} {args : List AV} {R : Type} {K : AV -> Option R} {r : R} (h : runF E C L fn args K = some r) :
  ∃ c res e st rs as, FunR E G LG fn c args res e st rs as /\ K res = some r:= by
 unfold runF at h
 split at h
 ·rename_i c hc
  obtain ⟨e, st, h1, h2⟩ := runC_rel hC hL c 0 _ h
  have go : (match resAll E st fn.results.toList with
   | some rs=> match distinctL (idsL rs) && !anyL (epsN 6) rs with
    | true=> match retAll st rs with
     | some as=> K (one as)
     | none=> none
    | false=> none
   | none=> none) = some r -> (∀ id, e ≠ .exit id) -> ∃ c res e st rs as, FunR E G LG fn c args res e st rs as /\ K res = some r := fun h2 he=> by
   split at h2
   ·rename_i rs hrs
    split at h2
    ·rename_i hd
     simp only [Bool.and_eq_true, Bool.not_eq_true'] at hd
     split at h2
     ·rename_i as has
      exact ⟨c, _, e, st, rs, as, ⟨hc, h1, he, hrs, hd.1, hd.2, has, rfl⟩, h2⟩
     ·cases h2
    ·cases h2
   ·cases h2
  cases e with
  | exit id=> cases h2
  | normal=> exact go h2 (fun id h=> by cases h)
  | ret=> exact go h2 (fun id h=> by cases h)
 ·cases h
theorem distinctL_nodup : ∀ {l : List Nat}, distinctL l = true -> l.Nodup
 | [], _=> List.nodup_nil
 | a :: l, h=> by
  simp only [distinctL, Bool.and_eq_true, Bool.not_eq_true'] at h
  exact List.nodup_cons.2 ⟨by simpa using h.1, distinctL_nodup h.2⟩
def isOwn : AV -> Bool
 | .fr _ _ _=> true
 | .agg _ _=> true
 | _=> false
theorem closeR_own {row : Nat -> Option Row} {n : Nat} {a b : AV} (h : closeR row n a = some b) : isOwn b = false:= by
 cases n with
 | zero=> cases h
 | succ n=>
  cases a with
  | agg τ' fs=>
   simp only [closeR] at h
   split at h
   ·obtain ⟨x, rfl⟩ := implode_nt h
    rfl
   ·cases h
  | ep id i p=> cases i <;> simp only [closeR] at h <;> (repeat' split at h) <;> first
   | (cases h; done)
   | (cases h; rfl)
  | clo f fs=>
   simp only [closeR] at h
   split at h
   ·cases h; rfl
   ·cases h
  | _=> simp only [closeR] at h <;> (repeat' split at h) <;> first
   | (cases h; done)
   | (cases h; rfl)
theorem flatX_at : ∀ {fs : List AV} {k i : Nat} {a : AV}, flatX k fs = true -> i ≠ k -> fs[i]? = some a -> flatA a = true
 | [], _, _, _, _, _, h=> by simp at h
 | b :: l, 0, i, a, h, hi, ha=> by
  have go : ∀ {l : List AV} {i : Nat} {a : AV}, allFlat l = true -> l[i]? = some a -> flatA a = true:= by
   intro l
   induction l with
   | nil=> intro i a _ h; simp at h
   | cons c l ih=>
    intro i a h ha
    simp only [allFlat, Bool.and_eq_true] at h
    cases i with
    | zero=> cases ha; exact h.1
    | succ i=> exact ih h.2 (by simpa using ha)
  cases i with
  | zero=> exact absurd rfl hi
  | succ i=> exact go (l := l) h (by simpa using ha)
 | b :: l, k + 1, i, a, h, hi, ha=> by
  simp only [flatX, Bool.and_eq_true] at h
  cases i with
  | zero=> cases ha; exact h.1
  | succ i=> exact flatX_at (i := i) (k := k) h.2 (fun e=> hi (by rw [e])) (by simpa using ha)
theorem flat_ar {S S' : Nat -> Prop} {w w' : World} {ρ ρ' : Nat -> Option Loc} {row row' : Nat -> Option Row} {pv : Nat -> Value} {a : AV} {cs : List Value} (h : flatA a = true) (ha : AR S w ρ row pv a cs) : AR S' w' ρ' row' pv a cs:= by
 cases ha with
 | t τ x _ hx=> exact .t τ x _ (cr_flat (by simpa [flatA] using h) hx)
 | _=> cases h
theorem ret1_form {st : St} {a b : AV} (h : ret1 st a = some b) : (∃ id e τ, ∃ xs : List (den τ), a = .own id /\ st.row id = some (.flat e τ xs false true) /\ b = .fr e τ xs) \/
  (∃ id e τ fs k σ, ∃ xs : List (den σ), a = .agg τ fs /\ fs[k]? = some (.own id) /\ flatX k fs = true /\ st.row id = some (.flat e σ xs false true) /\ b = .agg τ (fs.set k (.fr e σ xs))) \/
  (∃ τ fs k, a = .agg τ fs /\ fs[k]? = some .nil /\ flatX k fs = true /\ b = .agg τ fs) \/ (closeR st.row 6 a = some b /\ isOwn b = false):= by
 unfold ret1 at h
 split at h
 ·rename_i id
  split at h
  ·rename_i e τ xs hr
   cases h
   exact .inl ⟨id, e, τ, xs, rfl, hr, rfl⟩
  ·rename_i e τ xs fz app _ hr
   cases h
   exact .inr (.inr (.inr ⟨by simp only [closeR, hr], rfl⟩))
  ·cases h
 ·rename_i τ fs
  split at h
  ·rename_i b' hb
   simp only [Option.some.injEq] at h
   subst h
   unfold retF at hb
   split at hb
   ·rename_i k hk
    split at hb
    ·rename_i id h1 h2
     split at hb
     ·rename_i e σ xs hr
      cases hb
      exact .inr (.inl ⟨id, e, τ, fs, k, σ, xs, rfl, h1, h2, hr, rfl⟩)
     ·cases hb
    ·rename_i h1 h2
     cases hb
     exact .inr (.inr (.inl ⟨τ, fs, k, rfl, h1, h2, rfl⟩))
    ·cases hb
   ·cases hb
  ·exact .inr (.inr (.inr ⟨h, closeR_own h⟩))
 ·exact .inr (.inr (.inr ⟨h, closeR_own h⟩))
theorem retAll_get {st : St} : ∀ {rs as : List AV}, retAll st rs = some as -> as.length = rs.length /\ ∀ (i : Nat) b, as[i]? = some b -> ∃ a, rs[i]? = some a /\ ret1 st a = some b
 | [], as, h=> by cases h; exact ⟨rfl, fun i b h=> by simp at h⟩
 | a :: l, as, h=> by
  simp only [retAll] at h
  split at h
  ·rename_i b hb
   split at h
   ·rename_i m hm
    cases h
    obtain ⟨h1, h2⟩ := retAll_get hm
    refine ⟨by simp [h1], fun i c hc=> ?_⟩
    cases i with
    | zero=> cases hc; exact ⟨a, rfl, hb⟩
    | succ i=> simpa using h2 i c (by simpa using hc)
   ·cases h
  ·cases h
theorem resAll_get {E : Env} {st : St} : ∀ {l : List ResultVar} {rs : List AV}, resAll E st l = some rs -> rs.length = l.length /\ ∀ (i : Nat) x, l[i]? = some x -> ∃ b, rs[i]? = some b /\ resA E st x = some b
 | [], rs, h=> by cases h; exact ⟨rfl, fun i b h=> by simp at h⟩
 | a :: l, rs, h=> by
  simp only [resAll] at h
  split at h
  ·rename_i b hb
   split at h
   ·rename_i m hm
    cases h
    obtain ⟨h1, h2⟩ := resAll_get hm
    refine ⟨by simp [h1], fun i c hc=> ?_⟩
    cases i with
    | zero=> cases hc; exact ⟨b, rfl, hb⟩
    | succ i=> simpa using h2 i c (by simpa using hc)
   ·cases h
  ·cases h
theorem run_mapM {P : Program} {w : World} {α : Type} {f : α -> Sem Value} : ∀ {l : List α} {vs : List Value}, vs.length = l.length -> (∀ (i : Nat) x v, l[i]? = some x -> vs[i]? = some v -> (f x).run P w = .ok v w) -> (l.mapM f).run P w = .ok vs w
 | [], [], _, _=> by simp
 | [], _ :: _, h, _=> by simp at h
 | _ :: _, [], h, _=> by simp at h
 | x :: l, v :: vs, h, hf=> by
  have h1 := hf 0 x v rfl rfl
  have h2 := run_mapM (l := l) (vs := vs) (by simpa using h) fun i x v hx hv=> hf (i + 1) x v (by simpa using hx) (by simpa using hv)
  simp [List.mapM_cons, h1, h2]
theorem idsL_split {a : AV} : ∀ {l : List AV} {i : Nat} {id : Nat}, l[i]? = some a -> id ∈ idsN 6 a -> (idsL l).Nodup -> ∀ j b, j ≠ i -> l[j]? = some b -> id ∉ idsN 6 b
 | [], i, id, h, _, _, _, _, _, _=> by simp at h
 | c :: l, i, id, h, hm, hn, j, b, hj, hb=> by
  obtain ⟨h1, h2, h3⟩ := List.nodup_append.1 (show (idsN 6 c ++ idsL l).Nodup from hn)
  cases i with
  | zero=>
   cases h
   cases j with
   | zero=> exact absurd rfl hj
   | succ j=> exact fun hb'=> h3 id hm id (idsL_mem (List.mem_of_getElem? (by simpa using hb)) hb') rfl
  | succ i=>
   cases j with
   | zero=>
    cases hb
    exact fun hb'=> h3 id hb' id (idsL_mem (List.mem_of_getElem? (by simpa using h)) hm) rfl
   | succ j=> exact idsL_split (l := l) (i := i) (by simpa using h) hm h2 j b (by omega) (by simpa using hb)
def plainIds (st : St) : List AV -> List Nat
 | []=> []
 | a :: l=> (match ret1 st a with
  | some b=> cond (isOwn b) [] (idsN 6 a)
  | none=> idsN 6 a) ++ plainIds st l
theorem plainIds_mem {st : St} {id : Nat} : ∀ {rs : List AV}, id ∈ plainIds st rs -> ∃ (i : Nat) (a : AV), rs[i]? = some a /\ id ∈ idsN 6 a /\ ∀ b, ret1 st a = some b -> isOwn b = false
 | [], h=> by cases h
 | a :: l, h=> by
  simp only [plainIds] at h
  rcases List.mem_append.1 h with h | h
  ·split at h
   ·rename_i b hb
    cases ho : isOwn b with
    | true=> rw [ho] at h; cases h
    | false=>
     rw [ho] at h
     exact ⟨0, a, rfl, h, fun b' hb'=> by rw [hb] at hb'; cases hb'; exact ho⟩
   ·rename_i hn
    exact ⟨0, a, rfl, h, fun b' hb'=> by rw [hn] at hb'; cases hb'⟩
  ·obtain ⟨i, b, h1, h2, h3⟩ := plainIds_mem h
   exact ⟨i + 1, b, by simpa using h1, h2, h3⟩
theorem mem_plainIds {st : St} {id : Nat} : ∀ {rs : List AV} {a : AV}, a ∈ rs -> id ∈ idsN 6 a -> (∀ b, ret1 st a = some b -> isOwn b = false) -> id ∈ plainIds st rs
 | [], a, h, _, _=> by cases h
 | c :: l, a, h, hi, hn=> by
  simp only [plainIds]
  rcases List.mem_cons.1 h with rfl | h
  ·refine List.mem_append_left _ ?_
   split
   ·rename_i b hb
    rw [hn b hb]
    exact hi
   ·exact hi
  ·exact List.mem_append_right _ (mem_plainIds h hi hn)
section
variable {P : Program} {E : Env} {pv : Nat -> Value} {G : Cal -> List AV -> AV -> Prop} {LG : Nat -> St -> Ex -> St -> Prop}
theorem res_run (hE : EnvOk P E) {w0 : World} {B : Old} {S1 : Nat -> Prop} {ρ : Nat -> Option Loc} {st : St} {a : Act} {w1 : World} {fn : Func} {rs : List AV} (hs : Sim w0 B pv S1 ρ st a w1) (hvals0 : resAll E st fn.results.toList = some rs) :
  ∃ vs' : List Value, vs'.length = rs.length /\ (∀ (i : Nat) b v, rs[i]? = some b -> vs'[i]? = some v -> VR S1 w1 ρ st.row pv b v) /\ (results fn a.tmps).run P w1 = .ok (if h : vs'.toArray.size = 1 then vs'.toArray[0] else .tuple vs'.toArray) w1:= by
 obtain ⟨hrl, hrg⟩ := resAll_get hvals0
 -- the machine's results
 have hval : ∀ x b, resA E st x = some b -> ∃ v, VR S1 w1 ρ st.row pv b v /\ (match x with
   | ResultVar.tmp t=> (pure (a.tmps.getD t undef) : Sem Value)
   | ResultVar.cell t T=> do loadVar T (<- asAddr (a.tmps.getD t undef))).run P w1 = .ok v w1 := fun x b hx=> by
  cases x with
  | tmp t=> cases hx; exact ⟨_, hs.slots t, rfl⟩
  | cell t T=>
   simp only [resA] at hx
   split at hx
   ·rename_i τ j hT hj
    split at hx
    ·rename_i σ b' hr
     split at hx
     ·rename_i e _
      subst e
      cases hx
      have hv := hs.slots t
      rw [hj] at hv
      obtain ⟨g, c, τ', h1, h2, h3⟩ := vr_epB hv hr
      obtain ⟨cur, T', h4, h5, h6⟩ := hs.hs.rows j _ _ hr h2
      have hrun := run_loadT (P := P) (hE.ty _ _ hT) h5 h6 (cells_of h4)
      refine ⟨_, .inr ⟨_, h6, rfl⟩, ?_⟩
      show (do loadVar T (<- asAddr (a.tmps.getD t undef)) : Sem Value).run P w1 = _
      rw [h3]
      simpa [Instr.loadAt, Instr.sureAddr, asAddr, offP] using hrun
     ·cases hx
    ·cases hx
   ·cases hx
 have hvals : ∃ vs' : List Value, vs'.length = rs.length /\ (∀ (i : Nat) b v, rs[i]? = some b -> vs'[i]? = some v -> VR S1 w1 ρ st.row pv b v) /\ (fn.results.toList.mapM fun
   | ResultVar.tmp t=> (pure (a.tmps.getD t undef) : Sem Value)
   | ResultVar.cell t T=> do loadVar T (<- asAddr (a.tmps.getD t undef))).run P w1 = .ok vs' w1:= by
  have key : ∀ i : Nat, ∃ v, ∀ x, fn.results.toList[i]? = some x -> ∃ b, rs[i]? = some b /\ VR S1 w1 ρ st.row pv b v /\ (match x with
   | ResultVar.tmp t=> (pure (a.tmps.getD t undef) : Sem Value)
   | ResultVar.cell t T=> do loadVar T (<- asAddr (a.tmps.getD t undef))).run P w1 = .ok v w1 := fun i=> by
   cases hx : fn.results.toList[i]? with
   | none=> exact ⟨undef, fun x h=> by cases h⟩
   | some x=>
    obtain ⟨b, h1, h2⟩ := hrg i x hx
    obtain ⟨v, h3, h4⟩ := hval x b h2
    exact ⟨v, fun y hy=> by cases hy; exact ⟨b, h1, h3, h4⟩⟩
  let vf := fun i=> Classical.choose (key i)
  have hvf := fun i=> Classical.choose_spec (key i)
  refine ⟨(List.range rs.length).map vf, by simp, fun i b v hb hv=> ?_, run_mapM (by simp [hrl]) fun i x v hx hv=> ?_⟩
  ·have hi := (List.getElem?_eq_some_iff.1 hb).1
   have hx : fn.results.toList[i]? = some fn.results.toList[i] := List.getElem?_eq_getElem (by omega)
   obtain ⟨b', h1, h2, h3⟩ := hvf i _ hx
   rw [hb] at h1
   cases h1
   simp only [List.getElem?_map, List.getElem?_range hi, Option.map_some, Option.some.injEq] at hv
   subst hv
   exact h2
  ·have hi := (List.getElem?_eq_some_iff.1 hx).1
   obtain ⟨b', h1, h2, h3⟩ := hvf i _ hx
   simp only [List.getElem?_map, List.getElem?_range (show i < rs.length by omega), Option.map_some, Option.some.injEq] at hv
   subst hv
   exact h3
 obtain ⟨vs', hvl', hvv, hrun⟩ := hvals
 have hres : (results fn a.tmps).run P w1 = .ok (if h : vs'.toArray.size = 1 then vs'.toArray[0] else .tuple vs'.toArray) w1:= by
  unfold results
  rw [Array.mapM_eq_mapM_toList]
  simp only [Sem.run_bind, Sem.run_map, Sem.run_pure]
  exact (congrArg (fun r=> Result.andThen (Result.andThen r fun (l : List Value) w'=> .ok l.toArray w') fun (us : Array Value) w'=> .ok (if h : us.size = 1 then us[0] else .tuple us) w') hrun).trans rfl
 exact ⟨vs', hvl', hvv, hres⟩
theorem ans_ok (hE : EnvOk P E) {w0 : World} {B : Old} {S1 : Nat -> Prop} {ρ : Nat -> Option Loc} {st : St} {a : Act} {w1 : World} {fn : Func} {rs as : List AV} {n0 : Nat} (hs : Sim w0 B pv S1 ρ st a w1) (hvals0 : resAll E st fn.results.toList = some rs) (hdis : distinctL (idsL rs) = true) (heps : anyL (epsN 6) rs = false) (hret : retAll st rs = some as)
  (hnew : ∀ id r g c, id ∈ idsL rs -> st.row id = some r -> ρ id = some (.at g c) -> n0 <= g) :
  ∃ v, (results fn a.tmps).run P w1 = .ok v w1 /\ (∀ b, frzS S1 ρ st.row (plainIds st rs) b -> S1 b \/ (n0 <= b /\ b < w1.heap.size)) /\ RR (frzS S1 ρ st.row (plainIds st rs)) w1 n0 pv (one as) v:= by
 obtain ⟨hal, hag⟩ := retAll_get hret
 obtain ⟨vs', hvl', hvv, hres⟩ := res_run hE hs hvals0
 refine ⟨_, hres, fun b hb=> ?_, ?_⟩
 ·rcases hb with hb | ⟨id, hid, r, c, hr, _, hl'⟩
  ·exact .inl hb
  ·obtain ⟨j, b', k1, k2, _⟩ := plainIds_mem hid
   exact .inr ⟨hnew id r b c (idsL_mem (List.mem_of_getElem? k1) k2) hr hl', (hs.hs.rows id r _ hr hl').lt⟩
 · -- component by component
  have comp : ∀ i : Nat, ∃ g : Option Nat, ∀ (b : AV) (v : Value), as[i]? = some b -> vs'[i]? = some v -> R1 (frzS S1 ρ st.row (plainIds st rs)) w1 n0 pv b v g /\ (∀ g0, g = some g0 -> ∃ id c ra, rs[i]? = some ra /\ id ∈ idsN 6 ra /\ ρ id = some (.at g0 c) /\ st.row id ≠ none) := fun i=> by
   by_cases hi : i < as.length
   ·have hb : as[i]? = some as[i] := List.getElem?_eq_getElem hi
    have hv : vs'[i]? = some vs'[i] := List.getElem?_eq_getElem (by omega)
    obtain ⟨ra, h1, h2⟩ := hag i _ hb
    have hvr := hvv i ra _ h1 hv
    -- a row that is handed back
    have apart : ∀ {id e' τ} {xs : List (den τ)} {g cap}, st.row id = some (.flat e' τ xs false true) -> ρ id = some (.at g cap) -> id ∈ idsN 6 ra -> isOwn as[i] = true -> n0 <= g /\ ¬ frzS S1 ρ st.row (plainIds st rs) g /\ RowOk (frzS S1 ρ st.row (plainIds st rs)) w1 (fun _=> none) (fun _=> none) pv (.flat e' τ xs false true) (.at g cap) := fun {id e' τ xs g cap} hr hl' hid hown=> by
     have hap := hs.hs.apart id _ g cap hl' hr
     refine ⟨hnew id _ g cap (idsL_mem (List.mem_of_getElem? h1) hid) hr hl', ?_, (hs.hs.rows id _ _ hr hl' |> fun ⟨cur, f', k1, k2, k3, k4, k5, k6, k7, k8⟩=> ⟨cur, f', k1, k2, k3, k4, k5, k6, k7, fun i hi=> by
       obtain ⟨cs, k9, k10⟩ := k8 i hi
       exact ⟨cs, k9.mono (fun b hb=> hb.mono .inl rfl) (fun _ _=> rfl), k10⟩⟩)⟩
     rintro (hS | ⟨id', hid', r', c', hr', _, hl2⟩)
     ·exact hap.2.1 rfl hS
     ·have := hs.hs.inj id id' g cap c' hl' hl2 (by rw [hr]; simp) (by rw [hr']; simp)
      subst this
      obtain ⟨j, b', k1, k2, k3⟩ := plainIds_mem hid'
      by_cases hji : j = i
      ·subst hji
       rw [h1] at k1
       cases k1
       have := k3 _ h2
       rw [hown] at this
       cases this
      ·exact idsL_split (i := i) h1 hid (distinctL_nodup hdis) j b' hji k1 k2
    have flatUp : ∀ {S' : Nat -> Prop} {k : Nat} {τ : Ty} {fs : List AV} {css : List (List Value)}, flatX k fs = true -> (∀ (i : Nat) a cs, fs[i]? = some a -> css[i]? = some cs -> AR S1 w1 ρ st.row pv a cs) -> ∀ (i : Nat) a cs, i ≠ k -> fs[i]? = some a -> css[i]? = some cs -> AR S' w1 (fun _=> none) (fun _=> none) pv a cs := fun hf hh i a cs hi ha hc=> flat_ar (flatX_at hf hi ha) (hh i a cs ha hc)
    rcases ret1_form h2 with ⟨id, e', τ, xs, rfl, hr, hbe⟩ | ⟨id, e', τ, fs, k, σ, xs, rfl, hk, hfx, hr, hbe⟩ | ⟨τ, fs, k, rfl, hk, hfx, hbe⟩ | ⟨hcl, hnf⟩
    ·rcases vr_own hvr hr with ⟨g, cap, hl', hv'⟩ | ⟨hl', rfl, hv'⟩
     ·refine ⟨some g, fun b v hb' hv''=> ?_⟩
      rw [hb] at hb'; rw [hv] at hv''
      cases hb'; cases hv''
      obtain ⟨m1, m2, m3⟩ := apart hr hl' (by simp [idsN]) (by rw [hbe]; rfl)
      refine ⟨?_, fun g0 e=> by cases e; exact ⟨id, cap, _, h1, by simp [idsN], hl', by rw [hr]; simp⟩⟩
      rw [hbe, hv']
      exact .fr e' τ xs g cap m1 m2 m3
     ·refine ⟨none, fun b v hb' hv''=> ?_⟩
      rw [hb] at hb'; rw [hv] at hv''
      cases hb'; cases hv''
      refine ⟨?_, fun g0 e=> by cases e⟩
      rw [hbe, hv']
      exact .frNil e' τ (hs.hs.rows id _ _ hr hl').2.2
    ·obtain ⟨cs, k1, k2⟩ := vr_ar hvr (by simp)
     cases k1 with
     | agg _ _ css hl hh=>
      have hkl : k < fs.length := (List.getElem?_eq_some_iff.1 hk).1
      have hck : css[k]? = some css[k] := List.getElem?_eq_getElem (by omega)
      have hown := hh k _ _ hk hck
      have hoth : ∀ (j : Nat) a cs, j ≠ k -> (fs.set k (.fr e' σ xs))[j]? = some a -> css[j]? = some cs -> AR (frzS S1 ρ st.row (plainIds st rs)) w1 (fun _=> none) (fun _=> none) pv a cs := fun j a cs hj ha hc=> by
       rw [List.getElem?_set_ne (Ne.symm hj)] at ha
       exact flatUp (τ := τ) hfx hh j a cs hj ha hc
      have hid : id ∈ idsN 6 (.agg τ fs):= by
       simp only [idsN]
       exact mem_go (f := idsN 5) hk (by simp [idsN])
      have hvv2 : vs'[i] = .agg css.flatten.toArray:= by rw [k2]; rfl
      have hgo : ∀ c, css[k] = c -> AR S1 w1 ρ st.row pv (.own id) c -> (∃ g cap, ρ id = some (.at g cap) /\ c = [.slice (some ⟨g, 0, none⟩) xs.length cap]) \/ (ρ id = some .nilrow /\ xs = [] /\ c = [.slice none 0 0]) := fun c _ hc=> by
       cases hc with
       | own _ e2 τ2 xs2 fz app g cap h3 h4=> rw [hr] at h3; cases h3; exact .inl ⟨g, cap, h4, rfl⟩
       | ownNil _ e2 τ2 fz app h3 h4=> rw [hr] at h3; cases h3; exact .inr ⟨h4, rfl, rfl⟩
      rcases hgo _ rfl hown with ⟨g, cap, hl', hce⟩ | ⟨hl', hxs, hce⟩
      ·refine ⟨some g, fun b v hb' hv''=> ?_⟩
       rw [hb] at hb'; rw [hv] at hv''
       cases hb'; cases hv''
       obtain ⟨m1, m2, m3⟩ := apart hr hl' hid (by rw [hbe]; rfl)
       refine ⟨?_, fun g0 e=> by cases e; exact ⟨id, cap, _, h1, hid, hl', by rw [hr]; simp⟩⟩
       rw [hbe, hvv2]
       exact .agf τ _ css k e' σ xs g cap (by simpa using hl) (List.getElem?_set_self hkl) (by rw [hck, hce]) hoth m1 m2 m3
      ·subst hxs
       refine ⟨none, fun b v hb' hv''=> ?_⟩
       rw [hb] at hb'; rw [hv] at hv''
       cases hb'; cases hv''
       refine ⟨?_, fun g0 e=> by cases e⟩
       rw [hbe, hvv2]
       exact .agfNil τ _ css k e' σ (by simpa using hl) (List.getElem?_set_self hkl) (by rw [hck, hce]) hoth (hs.hs.rows id _ _ hr hl').2.2
    ·obtain ⟨cs, k1, k2⟩ := vr_ar hvr (by simp)
     cases k1 with
     | agg _ _ css hl hh=>
      refine ⟨none, fun b v hb' hv''=> ?_⟩
      rw [hb] at hb'; rw [hv] at hv''
      cases hb'; cases hv''
      refine ⟨?_, fun g0 e=> by cases e⟩
      rw [hbe, k2]
      refine .plain (.agg τ fs) _ (.agg τ fs css hl fun j a cs ha hc=> ?_)
      by_cases hj : j = k
      ·subst hj
       rw [hk] at ha
       cases ha
       have := hh j _ _ hk hc
       cases this
       exact .nil
      ·exact flatUp (τ := τ) hfx hh j a cs hj ha hc
    ·refine ⟨none, fun b v hb' hv''=> ?_⟩
     rw [hb] at hb'; rw [hv] at hv''
     cases hb'; cases hv''
     refine ⟨?_, fun g0 e=> by cases e⟩
     obtain ⟨cs, k1, k2⟩ := vr_ar hvr (by rintro rfl; simp [closeR] at hcl)
     have k3 := closeR_ok (ρ0 := fun _=> none) (row0 := fun _=> none) (S1 := frzS S1 ρ st.row (plainIds st rs)) hs.hs (fun _ h=> .inl h) hcl k1 (.inr ⟨anyL_false (f := epsN 6) heps h1, fun id hid r g c hr hz hl'=> .inr ⟨id, mem_plainIds (List.mem_of_getElem? h1) hid (fun b' he=> by
      rw [h2] at he
      simp only [Option.some.injEq] at he
      rw [<- he]; exact hnf), r, c, hr, hz, hl'⟩⟩)
     rw [k2, show valOf ra cs = valOf as[i] cs by rw [valOf, valOf, closeR_ag hcl]]
     exact .plain _ cs k3
   ·exact ⟨none, fun b v hb' _=> by rw [List.getElem?_eq_none (by omega)] at hb'; cases hb'⟩
  have notup : ∀ (i : Nat) (b : AV), as[i]? = some b -> ∀ l, b ≠ AV.tup l := fun i b hb l e=> by
   obtain ⟨ra, h1, h2⟩ := hag i _ hb
   subst e
   rcases ret1_form h2 with ⟨id, e', τ, xs, rfl, hr, hbe⟩ | ⟨id, e', τ, fs, k, σ, xs, rfl, hk, hfx, hr, hbe⟩ | ⟨τ, fs, k, rfl, hk, hfx, hbe⟩ | ⟨hcl, hnf⟩
   ·cases hbe
   ·cases hbe
   ·cases hbe
   ·have h3 := closeR_ag hcl
    cases ra with
    | agg τ' fs=> cases h3
    | ep id i p=> cases i <;> simp only [closeR] at hcl <;> (repeat' split at hcl) <;> cases hcl
    | _=> simp only [closeR] at hcl <;> (repeat' split at hcl) <;> cases hcl
  obtain ⟨gf, hgf⟩ : ∃ gf : Nat -> Option Nat, ∀ (i : Nat) (b : AV) (v : Value), as[i]? = some b -> vs'[i]? = some v -> R1 (frzS S1 ρ st.row (plainIds st rs)) w1 n0 pv b v (gf i) /\ (∀ g0, gf i = some g0 -> ∃ id c ra, rs[i]? = some ra /\ id ∈ idsN 6 ra /\ ρ id = some (.at g0 c) /\ st.row id ≠ none) :=
   ⟨fun i=> Classical.choose (comp i), fun i=> Classical.choose_spec (comp i)⟩
  have many : as.length ≠ 1 -> RR (frzS S1 ρ st.row (plainIds st rs)) w1 n0 pv (.tup as) (.tuple vs'.toArray) := fun _=> by
   refine ⟨vs', (List.range as.length).map gf, rfl, by omega, by simp, fun i r v g hr hv hg'=> ?_, fun i j g hij hgi hgj=> ?_⟩
   ·have hi := (List.getElem?_eq_some_iff.1 hr).1
    simp only [List.getElem?_map, List.getElem?_range hi, Option.map_some, Option.some.injEq] at hg'
    subst hg'
    exact (hgf i r v hr hv).1
   ·have hi : i < as.length:= by have := (List.getElem?_eq_some_iff.1 hgi).1; simpa using this
    have hj : j < as.length:= by have := (List.getElem?_eq_some_iff.1 hgj).1; simpa using this
    simp only [List.getElem?_map, List.getElem?_range hi, List.getElem?_range hj, Option.map_some, Option.some.injEq] at hgi hgj
    obtain ⟨id, c, ra, k1, k4, k2, k3⟩ := (hgf i _ _ (List.getElem?_eq_getElem hi) (List.getElem?_eq_getElem (by omega))).2 g hgi
    obtain ⟨id', c', ra', k1', k4', k2', k3'⟩ := (hgf j _ _ (List.getElem?_eq_getElem hj) (List.getElem?_eq_getElem (by omega))).2 g hgj
    have := hs.hs.inj id id' g c c' k2 k2' k3 k3'
    subst this
    exact idsL_split (i := i) (id := id) k1 k4 (distinctL_nodup hdis) j _ (fun e=> hij e.symm) k1' k4'
  have hlen : vs'.length = as.length:= by omega
  clear comp hres hvv
  match as, vs', many, hgf, notup, hlen with
  | [], vs', many, _, _, hlen=>
   have : vs' = [] := List.eq_nil_of_length_eq_zero hlen
   subst this
   exact many (by simp)
  | [b], [v], many, hgf, notup, hlen=>
   have hb := (hgf 0 b v rfl rfl).1
   have : RR (frzS S1 ρ st.row (plainIds st rs)) w1 n0 pv b v:= by
    cases b with
    | tup l=> exact absurd rfl (notup 0 _ rfl l)
    | _=> exact ⟨_, hb⟩
   simpa [one] using this
  | [b], [], _, _, _, hlen=> simp at hlen
  | [b], _ :: _ :: _, _, _, _, hlen=> simp at hlen
  | b :: b2 :: l, vs', many, _, _, hlen=>
   have hne : vs'.toArray.size ≠ 1:= by
    simp only [List.size_toArray, hlen, List.length_cons]
    omega
   rw [dif_neg hne]
   exact many (by simp)
theorem funR_meets (hE : EnvOk P E) (hG : GOk P E pv G) {f : FuncId} {fn : Func} (hf : P.funcs[f]? = some fn) (hname : (fn.name == "runtime.NumGoroutine") = false) {c : Code} {args : List AV} {res : AV} {e : Ex} {st : St} {rs as : List AV}
  (h : FunR E G LG fn c args res e st rs as) (hn : args.length <= fn.ntmps) (hl : ∀ w0 B, ∀ p ∈ loopsOf 0 c, LoopSound P E w0 B pv p.2 (LG p.1)) : Meets P E pv (.f f) args res:= by
 intro S w vs hst hgl hargs
 obtain ⟨hvl, hva⟩ := hargs
 show RunsTo P _ ((callFunc f vs.toArray).run P w)
 have hcall : (callFunc f vs.toArray).run P w = .ok (.enter f vs.toArray) w:= by
  have hn' : fn.name ≠ "runtime.NumGoroutine":= by simpa using hname
  simp [callFunc, hf, hn', h.body]
 rw [hcall]
 refine calls_of_wp hf h.body ?_
 have hs0 : Sim w ⟨fun b=> b < w.heap.size, none⟩ pv S (fun _=> none) (start fn.ntmps args) { tmps := vs.toArray ++ Array.replicate (fn.ntmps - vs.toArray.size) undef, defers := [] } w:= by
  refine ⟨by simp [start]; omega, rfl, fun t=> ?_, ⟨hst, fun id r l h1 _=> (by cases h1), fun id id' l l' b h1=> (by cases h1), fun id r l b h1=> (by cases h1), fun l hl=> (by cases hl)⟩, Blw.refl _ _, fun _ h=> h⟩
  rw [Array.getD_eq_getD_getElem?]
  simp only [start]
  by_cases ht : t < args.length
  ·have ha : args[t]? = some args[t] := List.getElem?_eq_getElem ht
   have hv : vs[t]? = some vs[t] := List.getElem?_eq_getElem (by omega)
   obtain ⟨cs, h1, h2⟩ := hva t _ _ ha hv
   rw [Array.getElem?_append_left (by simp; omega)]
   simp only [List.getElem?_toArray, ha, hv, Option.getD_some]
   exact .inr ⟨cs, h1, h2⟩
  ·have ha : args[t]? = none := List.getElem?_eq_none (by omega)
   rw [ha, Array.getElem?_append_right (by simp; omega)]
   simp only
   have : (Array.replicate (fn.ntmps - vs.toArray.size) undef)[t - vs.toArray.size]?.getD undef = undef:= by
    cases hx : (Array.replicate (fn.ntmps - vs.toArray.size) undef)[t - vs.toArray.size]? with
    | none=> rfl
    | some u=>
     have := Array.mem_of_getElem? hx
     rw [Array.mem_replicate] at this
     rw [this.2]; rfl
   rw [this]
   exact vr_undef
 refine code_ok hE hG h.run (hl w ⟨fun b=> b < w.heap.size, none⟩) hs0 hgl fun S1 ρ a w1 hs hgl1 hg=> ?_
 suffices hfin : a.defers = [] /\ ∃ v, (results fn a.tmps).run P w1 = .ok v w1 /\ (∃ v', Ending.returned v = .returned v' /\ (Below w.heap.size w w1 /\ ∃ S' : Nat -> Prop, (∀ b, S b -> S' b) /\ (∀ b, S' b -> S b \/ (w.heap.size <= b /\ b < w1.heap.size)) /\ RR S' w1 w.heap.size pv res v')) by
  cases e with
  | normal=> exact hfin
  | ret=> exact hfin
  | exit id=> exact absurd rfl (h.out id)
 refine ⟨hs.defers, ?_⟩
 obtain ⟨v, hres, hS, hrr⟩ := ans_ok hE (n0 := w.heap.size) hs h.vals h.dis h.eps h.ret fun id r g c _ hr hl'=> Nat.le_of_not_lt (hs.hs.apart id r g c hl' hr).1
 refine ⟨v, hres, v, rfl, hs.below.to, frzS S1 ρ st.row (plainIds st rs), fun b hb=> .inl (hg.sub b hb (hst b hb)), fun b hb=> ?_, by rw [h.ans]; exact hrr⟩
 rcases hS b hb with h1 | h1
 ·exact (hg.new b h1).imp _root_.id fun h=> ⟨Nat.le_of_not_lt h, hs.hs.stab b h1⟩
 ·exact .inr h1
end
end Go.Gx
end
section
/- A state seen as one of a shape. -/
namespace Go.Gx
open Go.RowKit
inductive Rv (st : St) (id : Nat) : Row -> Prop
 | same (r : Row) (h : st.row id = some r) : Rv st id r
 | nil (e : Nat) (τ : Ty) (h : st.row id = none) (hpos : 0 < nc τ) (hne : id ≠ mbase) : Rv st id (.flat e τ [] false true)
 | boxT (τ : Ty) (a : AV) (x : den τ) (h : st.row id = some (.box τ a)) (hx : asT τ a = some x) : Rv st id (.box τ (.t τ x))
 | ds (σ : Ty) (b : Bool) (h : st.row id = some (.box σ (.t .bool b))) : Rv st id (.box σ (.t .bool false))
 | boxF (τ : Ty) (a : AV) (as : List AV) (fs : List Fp) (x : FX fs) (h : st.row id = some (.box τ a)) (ha : (∃ σ, a = .agg σ as) \/ (∃ y, a = .t τ y /\ as = explode τ y)) (hx : fview st.row fs as = some x) : Rv st id (.box τ (.agg τ (fvals fs x)))
theorem Con.fits_eq {c : Con} {a : AV} (h : c.fits a = true) : a = c.val:= by
 cases c <;> cases a <;> simp only [Con.fits] at h <;> first
  | cases h
  | skip
 ·rename_i f g l
  cases l with
  | nil=> rw [Nat.eq_of_beq_eq_true h]; rfl
  | cons=> cases h
 ·rw [Nat.eq_of_beq_eq_true h]; rfl
 ·rename_i id j i p
  cases i with
  | some=> cases h
  | none=>
   cases p with
   | nil=> rw [Nat.eq_of_beq_eq_true h]; rfl
   | cons=> cases h
 ·rw [Nat.eq_of_beq_eq_true h]; rfl
 ·rename_i vs
  cases vs with
  | nil=> rfl
  | cons=> cases h
 ·rfl
theorem cond_unit {b : Bool} {x : Unit} (h : cond b (some ()) none = some x) : b = true:= by cases b <;> first | rfl | cases h
theorem viewOwn_form {row : Nat -> Option Row} {id e : Nat} {τ : Ty} {fz app : Bool} {a : AV} {xs : List (den τ)} (h : viewOwn row id e τ fz app a = some xs) :
  (a = .own id /\ row id = some (.flat e τ xs fz app)) \/ (a = .nil /\ row id = none /\ fz = false /\ app = true /\ 0 < nc τ /\ xs = [] /\ id ≠ mbase):= by
 unfold viewOwn at h
 split at h
 ·rename_i j
  split at h
  ·rename_i e' σ ys fz' app' hj hr
   split at h
   ·rename_i hσ _ he hf ha
    subst hσ
    cases h
    rw [Nat.eq_of_beq_eq_true hj] at *
    have he := Nat.eq_of_beq_eq_true he
    have hf : fz' = fz:= by simpa using hf
    have ha : app' = app:= by simpa using ha
    subst he; subst hf; subst ha
    exact .inl ⟨rfl, hr⟩
   ·cases h
  ·cases h
 ·split at h
  ·rename_i hr hb hm
   cases h
   exact .inr ⟨rfl, hr, rfl, rfl, Nat.le_of_ble_eq_true hb, rfl, fun e=> by rw [e, Nat.beq_refl] at hm; cases hm⟩
  ·cases h
 ·cases h
theorem viewTR_form {row : Nat -> Option Row} {id e : Nat} {τ : Ty} {ap : Bool} {x : den τ} (h : viewTR row id e τ ap = some x) : row id = some (treeR e ap τ x):= by
 unfold viewTR at h
 split at h
 ·rename_i σ e' ap' θ y hr
  split at h
  ·rename_i h1 h2 _ _ he ha
   subst h1; subst h2
   cases h
   have ha : ap' = ap:= by simpa using ha
   have he : e' = (e : Int):= by simpa using he
   subst ha; subst he
   exact hr
  ·cases h
 ·cases h
theorem viewTV_form {row : Nat -> Option Row} {id e : Nat} {τ : Ty} {ap : Bool} {a : AV} {x : den τ} (h : viewTV row id e τ ap a = some x) : a = .tv id τ /\ row id = some (treeR e ap τ x):= by
 unfold viewTV at h
 split at h
 ·split at h
  ·rename_i h1 hj _
   subst h1
   obtain rfl := Nat.eq_of_beq_eq_true hj
   exact ⟨rfl, viewTR_form h⟩
  ·cases h
 ·cases h
theorem frows_rv {st : St} : ∀ {fs : List Fp} {as : List AV} {x : FX fs} {j : Nat} {r0 : Option Row} {r : Row}, fview st.row fs as = some x -> frows fs x j r0 = some r -> Rv st j r \/ r0 = some r
 | [], as, x, j, r0, r, _, h=> .inr h
 | f :: fs, [], x, j, r0, r, h, _=> by simp [fview] at h
 | f :: fs, a :: as, x, j, r0, r, h, hr=> by
  simp only [fview] at h
  split at h
  ·rename_i x0 hx0
   split at h
   ·rename_i y hy
    cases h
    cases f with
    | own id e τ fz app=>
     simp only [frows, Fp.rowAt, beq_eq] at hr
     by_cases e' : j = id
     ·subst e'
      simp only [decide_true, cond_true, Option.some.injEq] at hr
      subst hr
      simp only [Fp.view] at hx0
      rcases viewOwn_form hx0 with ⟨_, h2⟩ | ⟨_, h2, h3, h4, h5, h6, h7⟩
      ·exact .inl (.same _ h2)
      ·subst h3; subst h4
       rw [h6]
       exact .inl (.nil e τ h2 h5 h7)
     ·rw [decide_eq_false e'] at hr
      exact frows_rv hy hr
    | t τ=> exact frows_rv hy hr
    | con c=> exact frows_rv hy hr
    | tv id e τ ap=>
     simp only [frows, Fp.rowAt, beq_eq] at hr
     by_cases e' : j = id
     ·subst e'
      simp only [decide_true, cond_true, Option.some.injEq] at hr
      subst hr
      simp only [Fp.view] at hx0
      exact .inl (.same _ (viewTV_form hx0).2)
     ·rw [decide_eq_false e'] at hr
      exact frows_rv hy hr
   ·cases h
  ·cases h
theorem rows_rv {st : St} : ∀ {l : List Sp} {x : SX l} {j : Nat} {r : Row}, view st l = some x -> rowsOf l x j = some r -> Rv st j r
 | [], x, j, r, _, h=> by cases h
 | s :: l, x, j, r, h, hr=> by
  simp only [view] at h
  split at h
  ·rename_i x0 hx0
   split at h
   ·rename_i y hy
    cases h
    cases s with
    | t s τ=> exact rows_rv hy hr
    | con s c=> exact rows_rv hy hr
    | cl s g cs=> exact rows_rv hy hr
    | rd s τ=> exact rows_rv hy hr
    | tv s id e τ ap=>
     simp only [rowsOf, Sp.rowAt, beq_eq] at hr
     by_cases e' : j = id
     ·subst e'
      simp only [decide_true, cond_true, Option.some.injEq] at hr
      subst hr
      simp only [Sp.view] at hx0
      exact .same _ (viewTV_form hx0).2
     ·rw [decide_eq_false e'] at hr
      exact rows_rv hy hr
    | bv s b id e τ ap=>
     simp only [Sp.view] at hx0
     split at hx0
     ·rename_i k σ a hs hrow
      split at hx0
      ·rename_i h1 _ _
       subst h1
       obtain ⟨h2, h3⟩ := viewTV_form hx0
       subst h2
       simp only [rowsOf, Sp.rowAt, beq_eq] at hr
       by_cases e' : j = b
       ·subst e'
        simp only [decide_true, cond_true, Option.some.injEq] at hr
        subst hr
        exact .same _ hrow
       ·rw [decide_eq_false e'] at hr
        by_cases e2 : j = id
        ·subst e2
         simp only [decide_true, cond_true, cond_false, Option.some.injEq] at hr
         subst hr
         exact .same _ h3
        ·rw [decide_eq_false e2] at hr
         exact rows_rv hy hr
      ·cases hx0
     ·cases hx0
    | own s id e τ fz app=>
     simp only [rowsOf, Sp.rowAt, beq_eq] at hr
     by_cases e' : j = id
     ·subst e'
      simp only [decide_true, cond_true, Option.some.injEq] at hr
      subst hr
      simp only [Sp.view] at hx0
      rcases viewOwn_form hx0 with ⟨_, h2⟩ | ⟨_, h2, h3, h4, h5, h6, h7⟩
      ·exact .same _ h2
      ·subst h3; subst h4
       rw [h6]
       exact .nil e τ h2 h5 h7
     ·rw [decide_eq_false e'] at hr
      exact rows_rv hy hr
    | boxT s id τ=>
     simp only [rowsOf, Sp.rowAt, beq_eq] at hr
     by_cases e' : j = id
     ·subst e'
      simp only [decide_true, cond_true, Option.some.injEq] at hr
      subst hr
      simp only [Sp.view] at hx0
      split at hx0
      ·rename_i k σ a hs hrow
       split at hx0
       ·rename_i e _ _
        subst e
        exact .boxT _ a _ hrow hx0
       ·cases hx0
      ·cases hx0
     ·rw [decide_eq_false e'] at hr
      exact rows_rv hy hr
    | ds s id σ τ=>
     simp only [rowsOf, Sp.rowAt, beq_eq] at hr
     by_cases e' : j = id
     ·subst e'
      simp only [decide_true, cond_true, Option.some.injEq] at hr
      subst hr
      simp only [Sp.view] at hx0
      split at hx0
      ·rename_i k τ' x' σ' b hs hrow
       split at hx0
       ·rename_i e e2 _ _ _
        subst e
        exact .ds _ b hrow
       ·cases hx0
      ·cases hx0
     ·rw [decide_eq_false e'] at hr
      exact rows_rv hy hr
    | boxF s id τ fs=>
     simp only [rowsOf, Sp.rowAt, beq_eq] at hr
     have hfv : ∃ a as, st.row id = some (.box τ a) /\ ((∃ σ, a = .agg σ as) \/ (∃ y, a = .t τ y /\ as = explode τ y)) /\ fview st.row fs as = some x0:= by
      simp only [Sp.view] at hx0
      split at hx0
      ·rename_i k σ σ' as hs hrow
       split at hx0
       ·rename_i e _ _
        subst e
        exact ⟨_, as, hrow, .inl ⟨_, rfl⟩, hx0⟩
       ·cases hx0
      ·rename_i k σ σ' y hs hrow
       split at hx0
       ·rename_i e e' _ _ _
        subst e; subst e'
        exact ⟨_, _, hrow, .inr ⟨y, rfl, rfl⟩, hx0⟩
       ·cases hx0
      ·cases hx0
     obtain ⟨a, as, h1, h2, h3⟩ := hfv
     by_cases e' : j = id
     ·subst e'
      simp only [decide_true, cond_true, Option.some.injEq] at hr
      subst hr
      exact .boxF τ a as fs _ h1 h2 h3
     ·rw [decide_eq_false e'] at hr
      rcases frows_rv h3 hr with h4 | h4
      ·exact h4
      ·exact rows_rv hy h4
   ·cases h
  ·cases h
theorem frows_has {j : Nat} : ∀ {fs : List Fp} {x : FX fs} {r0 : Option Row}, (j ∈ fids fs \/ r0 ≠ none) -> frows fs x j r0 ≠ none
 | [], x, r0, h=> by
  rcases h with h | h
  ·cases h
  ·exact h
 | f :: fs, x, r0, h=> by
  cases f with
  | own id e τ fz app=>
   simp only [frows, Fp.rowAt, beq_eq]
   by_cases e' : j = id
   ·simp [e']
   ·rw [decide_eq_false e']
    refine frows_has ?_
    rcases h with h | h
    ·simp only [fids, Fp.ids] at h
     rcases List.mem_append.1 h with h | h
     ·exact absurd (List.mem_singleton.1 h) e'
     ·exact .inl h
    ·exact .inr h
  | tv id e τ ap=>
   simp only [frows, Fp.rowAt, beq_eq]
   by_cases e' : j = id
   ·simp [e']
   ·rw [decide_eq_false e']
    refine frows_has ?_
    rcases h with h | h
    ·simp only [fids, Fp.ids] at h
     rcases List.mem_append.1 h with h | h
     ·exact absurd (List.mem_singleton.1 h) e'
     ·exact .inl h
    ·exact .inr h
  | t τ=> exact frows_has (fs := fs) (by simpa [fids, Fp.ids] using h)
  | con c=> exact frows_has (fs := fs) (by simpa [fids, Fp.ids] using h)
theorem rows_has {j : Nat} : ∀ {l : List Sp} {x : SX l}, j ∈ rowIds l -> rowsOf l x j ≠ none
 | [], x, h=> by cases h
 | s :: l, x, h=> by
  simp only [rowIds] at h
  cases s with
  | t s τ=> exact rows_has (l := l) (by simpa [Sp.ids] using h)
  | con s c=> exact rows_has (l := l) (by simpa [Sp.ids] using h)
  | cl s g cs=> exact rows_has (l := l) (by simpa [Sp.ids] using h)
  | rd s τ=> exact rows_has (l := l) (by simpa [Sp.ids] using h)
  | tv s id e τ ap=>
   simp only [rowsOf, Sp.rowAt, beq_eq]
   by_cases e' : j = id
   ·simp [e']
   ·rw [decide_eq_false e']
    refine rows_has (l := l) ?_
    rcases List.mem_append.1 h with h | h
    ·exact absurd (List.mem_singleton.1 h) e'
    ·exact h
  | bv s b id e τ ap=>
   simp only [rowsOf, Sp.rowAt, beq_eq]
   by_cases e1 : j = b
   ·simp [e1]
   ·rw [decide_eq_false e1]
    by_cases e' : j = id
    ·simp [e']
    ·rw [decide_eq_false e']
     refine rows_has (l := l) ?_
     rcases List.mem_append.1 h with h | h
     ·rcases List.mem_cons.1 h with h | h
      ·exact absurd h e1
      ·exact absurd (List.mem_singleton.1 h) e'
     ·exact h
  | own s id e τ fz app=>
   simp only [rowsOf, Sp.rowAt, beq_eq]
   by_cases e' : j = id
   ·simp [e']
   ·rw [decide_eq_false e']
    refine rows_has (l := l) ?_
    rcases List.mem_append.1 h with h | h
    ·exact absurd (List.mem_singleton.1 h) e'
    ·exact h
  | boxT s id τ=>
   simp only [rowsOf, Sp.rowAt, beq_eq]
   by_cases e' : j = id
   ·simp [e']
   ·rw [decide_eq_false e']
    refine rows_has (l := l) ?_
    rcases List.mem_append.1 h with h | h
    ·exact absurd (List.mem_singleton.1 h) e'
    ·exact h
  | ds s id σ τ=>
   simp only [rowsOf, Sp.rowAt, beq_eq]
   by_cases e' : j = id
   ·simp [e']
   ·rw [decide_eq_false e']
    refine rows_has (l := l) ?_
    rcases List.mem_append.1 h with h | h
    ·exact absurd (List.mem_singleton.1 h) e'
    ·exact h
  | boxF s id τ fs=>
   simp only [rowsOf, Sp.rowAt, beq_eq]
   by_cases e' : j = id
   ·simp [e']
   ·rw [decide_eq_false e']
    refine frows_has ?_
    rcases List.mem_append.1 h with h | h
    ·rcases List.mem_cons.1 h with h | h
     ·exact absurd h e'
     ·exact .inl h
    ·exact .inr (rows_has (l := l) h)
section
variable {S : Nat -> Prop} {w : World} {ρ ρ' : Nat -> Option Loc} {st : St} {row' : Nat -> Option Row} {pv : Nat -> Value} {ids : List Nat}
variable (hrv : ∀ id r, row' id = some r -> Rv st id r) (hρ : ∀ id, st.row id ≠ none -> ρ' id = ρ id) (hρn : ∀ id, st.row id = none -> row' id ≠ none -> ρ' id = some .nilrow) (hids : ∀ id, id ∈ ids -> row' id ≠ none)
include hrv hρ hρn
theorem own_view {id e : Nat} {τ : Ty} {fz app : Bool} {a : AV} {xs : List (den τ)} {cs : List Value} (h : viewOwn st.row id e τ fz app a = some xs) (hrow : row' id ≠ none) (ha : AR S w ρ st.row pv a cs) : AR S w ρ' row' pv (.own id) cs /\ isAg a = false:= by
 obtain ⟨r, hr⟩ := Option.ne_none_iff_exists'.1 hrow
 rcases viewOwn_form h with ⟨rfl, h2⟩ | ⟨rfl, h2, _⟩
 ·have h3 : row' id = some (.flat e τ xs fz app):= by
   cases hrv id r hr with
   | same _ h=> rw [hr, <- h, h2]
   | nil _ _ h _ _=> rw [h2] at h; cases h
   | boxT _ _ _ h=> rw [h2] at h; cases h
   | ds _ _ h=> rw [h2] at h; cases h
   | boxF _ _ _ _ _ h=> rw [h2] at h; cases h
  refine ⟨?_, rfl⟩
  cases ha with
  | own _ e' τ' xs' fz' app' g cap h4 hl=>
   rw [h2] at h4
   cases h4
   exact .own id e τ xs fz app g cap h3 (by rw [hρ id (by rw [h2]; simp)]; exact hl)
  | ownNil _ e' τ' fz' app' h4 hl=>
   rw [h2] at h4
   cases h4
   exact .ownNil id e τ fz app h3 (by rw [hρ id (by rw [h2]; simp)]; exact hl)
 ·cases ha
  refine ⟨?_, rfl⟩
  have hn := hρn id h2 hrow
  cases hrv id r hr with
  | same _ h=> rw [h2] at h; cases h
  | nil e' τ' _ hpos _=> exact .ownNil id e' τ' false true hr hn
  | boxT _ _ _ h=> rw [h2] at h; cases h
  | ds _ _ h=> rw [h2] at h; cases h
  | boxF _ _ _ _ _ h=> rw [h2] at h; cases h
theorem tv_view {id : Nat} {τ : Ty} {cs : List Value} (hrow : row' id ≠ none) (ha : AR S w ρ st.row pv (.tv id τ) cs) : AR S w ρ' row' pv (.tv id τ) cs:= by
 have _ := hρn
 obtain ⟨r, hr⟩ := Option.ne_none_iff_exists'.1 hrow
 cases ha with
 | tv _ _ b _ T v h hl hc h1=>
  have h5 : ρ' id = some (.tree cs T v):= by rw [hρ id (by rw [h]; simp)]; exact hl
  cases hrv id r hr with
  | same _ h2=> rw [h] at h2; cases h2; exact .tv id τ _ cs T v hr h5 hc h1
  | nil _ _ h2 _ _=> rw [h] at h2; cases h2
  | boxT τ' a' x h2=> rw [h] at h2; cases h2; exact .tv id τ _ cs T v hr h5 hc h1
  | ds σ' b h2=> rw [h] at h2; cases h2; exact .tv id τ _ cs T v hr h5 hc h1
  | boxF τ' a' as fs x h2=> rw [h] at h2; cases h2; exact .tv id τ _ cs T v hr h5 hc h1
include hids in
theorem con_view {c : Con} {cs : List Value} (hc : conOk ids c = true) (ha : AR S w ρ st.row pv c.val cs) : AR S w ρ' row' pv c.val cs:= by
 have _ := hρn
 cases c with
 | clo f=> cases ha with | clo _ _ css hl hh=> exact .clo f [] css hl fun i a cs hi=> by simp at hi
 | par i=> cases ha with | par _ h=> exact .par i h
 | nil=> cases ha; exact .nil
 | undef=> cases ha with | tup _ css hl hh=> exact .tup [] css hl fun i a cs hi=> by simp at hi
 | own id=>
  have hrow := hids id (by simpa [conOk] using hc)
  obtain ⟨r, hr⟩ := Option.ne_none_iff_exists'.1 hrow
  cases ha with
  | own _ e τ xs fz app g cap h4 hl=>
   have h3 : row' id = some (.flat e τ xs fz app):= by
    cases hrv id r hr with
    | same _ h=> rw [hr, <- h, h4]
    | nil _ _ h _ _=> rw [h4] at h; cases h
    | boxT _ _ _ h=> rw [h4] at h; cases h
    | ds _ _ h=> rw [h4] at h; cases h
    | boxF _ _ _ _ _ h=> rw [h4] at h; cases h
   exact .own id e τ xs fz app g cap h3 (by rw [hρ id (by rw [h4]; simp)]; exact hl)
  | ownNil _ e τ fz app h4 hl=>
   have h3 : row' id = some (.flat e τ [] fz app):= by
    cases hrv id r hr with
    | same _ h=> rw [hr, <- h, h4]
    | nil _ _ h _ _=> rw [h4] at h; cases h
    | boxT _ _ _ h=> rw [h4] at h; cases h
    | ds _ _ h=> rw [h4] at h; cases h
    | boxF _ _ _ _ _ h=> rw [h4] at h; cases h
   exact .ownNil id e τ fz app h3 (by rw [hρ id (by rw [h4]; simp)]; exact hl)
 | ep id=>
  have hrow := hids id (by simpa [conOk] using hc)
  obtain ⟨r, hr⟩ := Option.ne_none_iff_exists'.1 hrow
  cases ha with
  | epB _ τ σ a g cap _ h4 hl hp=>
   have h5 : ρ' id = some (.at g cap):= by rw [hρ id (by rw [h4]; simp)]; exact hl
   cases hrv id r hr with
   | same _ h=> rw [h4] at h; cases h; exact .epB id τ σ a g cap [] hr h5 hp
   | nil _ _ h _ _=> rw [h4] at h; cases h
   | boxT τ' a' x h=> rw [h4] at h; cases h; exact .epB id τ σ _ g cap [] hr h5 hp
   | ds σ' b h=> rw [h4] at h; cases h; exact .epB id τ σ _ g cap [] hr h5 hp
   | boxF τ' a' as fs x h=> rw [h4] at h; cases h; exact .epB id τ σ _ g cap [] hr h5 hp
theorem ep_view {id : Nat} {τ : Ty} {a : AV} {cs : List Value} (h : st.row id = some (.box τ a)) (hrow : row' id ≠ none) (ha : AR S w ρ st.row pv (.ep id none []) cs) : AR S w ρ' row' pv (.ep id none []) cs :=
 con_view (ids := [id]) hrv hρ hρn (fun j hj=> by simp at hj; subst hj; exact hrow) (c := .ep id) (by simp [conOk]) ha
omit hrv hρ hρn in
theorem asT_ag {τ : Ty} {a : AV} {x : den τ} (h : asT τ a = some x) : isAg (.t τ x) = isAg a:= by
 rcases asT_form h with rfl | rfl
 ·rfl
 ·cases τ <;> simp [asT] at h <;> rfl
include hids in
theorem fview_ok : ∀ {σs : List Ty} {fs : List Fp} {as : List AV} {x : FX fs} {css : List (List Value)}, fview st.row fs as = some x -> fpsOk ids σs fs = true -> (∀ i, i ∈ fids fs -> row' i ≠ none) -> as.length = css.length -> as.length = σs.length ->
  (∀ (i : Nat) (a : AV) (c : List Value), as[i]? = some a -> css[i]? = some c -> AR S w ρ st.row pv a c) -> (∀ (i : Nat) (σ : Ty) (a : AV), σs[i]? = some σ -> as[i]? = some a -> Fit σ a) ->
  (fvals fs x).length = as.length /\ (∀ (i : Nat) (a : AV) (c : List Value), (fvals fs x)[i]? = some a -> css[i]? = some c -> AR S w ρ' row' pv a c) /\ (∀ (i : Nat) (σ : Ty) (a : AV), σs[i]? = some σ -> (fvals fs x)[i]? = some a -> Fit σ a)
 | σs, [], [], x, css, _, _, _, _, _, _, _=> ⟨rfl, fun i a c h=> by simp [fvals] at h, fun i σ a _ h=> by simp [fvals] at h⟩
 | _, [], _ :: _, x, css, h, _, _, _, _, _, _=> by simp [fview] at h
 | _, f :: fs, [], x, css, h, _, _, _, _, _, _=> by simp [fview] at h
 | [], f :: fs, a :: as, x, css, h, _, _, _, hl, _, _=> by simp at hl
 | σ :: σs, f :: fs, a :: as, x, [], h, _, _, hl, _, _, _=> by simp at hl
 | σ :: σs, f :: fs, a :: as, x, c :: css, h, hok, hhas, hl, hl2, har, hfit=> by
  simp only [fview] at h
  split at h
  ·rename_i x0 hx0
   split at h
   ·rename_i y hy
    cases h
    simp only [fpsOk, Bool.and_eq_true] at hok
    obtain ⟨h1, h2, h3⟩ := fview_ok (σs := σs) (css := css) hy hok.2 (fun i hi=> hhas i (by simp only [fids]; exact List.mem_append_right _ hi)) (by simpa using hl) (by simpa using hl2) (fun i a c ha hc=> har (i + 1) a c (by simpa using ha) (by simpa using hc)) (fun i σ a hσ ha=> hfit (i + 1) σ a (by simpa using hσ) (by simpa using ha))
    have ha0 := har 0 a c rfl rfl
    have hf0 := hfit 0 σ a rfl rfl
    have hhead : AR S w ρ' row' pv (f.val x0) c /\ Fit σ (f.val x0):= by
     cases f with
     | t τ=>
      simp only [Fp.view] at hx0
      have hτ : τ = σ:= by
       have := hok.1
       simp only [Fp.ok] at this
       split at this
       ·rename_i e _; exact e
       ·cases this
      subst hτ
      exact ⟨.t τ x0 c (asT_ar hx0 ha0), .t τ x0⟩
     | own id e τ fz app=>
      simp only [Fp.view] at hx0
      refine ⟨(own_view hrv hρ hρn hx0 (hhas id (by simp [fids, Fp.ids])) ha0).1, ?_⟩
      rcases viewOwn_form hx0 with ⟨rfl, _⟩ | ⟨rfl, _⟩
      ·exact hf0
      ·cases hf0; exact .own _ id
     | tv id e τ ap=>
      simp only [Fp.view] at hx0
      obtain ⟨h4, _⟩ := viewTV_form hx0
      subst h4
      exact ⟨tv_view hrv hρ hρn (hhas id (by simp [fids, Fp.ids])) ha0, hf0⟩
     | con c'=>
      simp only [Fp.view] at hx0
      have := Con.fits_eq (cond_unit hx0)
      subst this
      exact ⟨con_view hrv hρ hρn hids hok.1 ha0, hf0⟩
    refine ⟨by simp [fvals, h1], fun i b d hb hd=> ?_, fun i τ b hτ hb=> ?_⟩
    ·cases i with
     | zero=> cases hb; cases hd; exact hhead.1
     | succ i=> exact h2 i b d (by simpa [fvals] using hb) (by simpa using hd)
    ·cases i with
     | zero=> cases hb; cases hτ; exact hhead.2
     | succ i=> exact h3 i τ b (by simpa using hτ) (by simpa [fvals] using hb)
   ·cases h
  ·cases h
end
section
variable {S : Nat -> Prop} {w : World} {ρ ρ' : Nat -> Option Loc} {row row' : Nat -> Option Row} {pv : Nat -> Value}
theorem tp_ar {τ : Ty} {b : AV} {x : den τ} {cs : List Value} (hx : asT τ b = some x) (h : AR S w ρ row pv (.tp b) cs) : AR S w ρ' row' pv (.tp (.t τ x)) cs:= by
 cases h with
 | tp σ y cs g o hc hS hcell=>
  unfold asT at hx
  dsimp only at hx
  split at hx
  ·rename_i e
   subst e
   cases hx
   exact .tp _ _ _ _ _ hc hS hcell
  ·cases hx
theorem CK.ok {k : CK} {a : AV} {x : k.X} {cs : List Value} (hx : k.view a = some x) (h : AR S w ρ row pv a cs) : AR S w ρ' row' pv (k.val x) cs /\ isAg a = isAg (k.val x):= by
 cases k with
 | t τ=> exact ⟨.t _ _ _ (asT_ar hx h), (asT_ag hx).symm⟩
 | tp τ=>
  simp only [CK.view] at hx
  split at hx
  ·exact ⟨tp_ar hx h, rfl⟩
  ·cases hx
theorem viewC_get : ∀ {ks : List CK} {av : List AV} {x : CX ks}, viewC ks av = some x -> av.length = (cvals ks x).length /\ ∀ (i : Nat) a b, av[i]? = some a -> (cvals ks x)[i]? = some b -> ∃ k : CK, ∃ y : k.X, b = k.val y /\ k.view a = some y
 | [], [], x, _=> ⟨rfl, fun i a b h=> by simp at h⟩
 | [], _ :: _, x, h=> by simp [viewC] at h
 | k :: l, [], x, h=> by simp [viewC] at h
 | k :: l, a :: al, x, h=> by
  simp only [viewC] at h
  split at h
  ·rename_i x0 hx
   split at h
   ·rename_i y hy
    cases h
    obtain ⟨h1, h2⟩ := viewC_get hy
    refine ⟨by simp [cvals, h1], fun i b c hb hc=> ?_⟩
    cases i with
    | zero=> cases hb; cases hc; exact ⟨k, x0, rfl, hx⟩
    | succ i=> exact h2 i b c (by simpa using hb) (by simpa [cvals] using hc)
   ·cases h
  ·cases h
theorem valsOf_same : ∀ {al bl : List AV} {css : List (List Value)}, al.length = bl.length -> (∀ (i : Nat) a b, al[i]? = some a -> bl[i]? = some b -> isAg a = isAg b) -> valsOf al css = valsOf bl css
 | [], [], _, _, _=> rfl
 | [], _ :: _, _, h, _=> by cases h
 | _ :: _, [], _, h, _=> by cases h
 | a :: al, b :: bl, [], _, _=> rfl
 | a :: al, b :: bl, cs :: css, h, hg=> by
  have h0 := hg 0 a b rfl rfl
  have := valsOf_same (al := al) (bl := bl) (css := css) (by simpa using h) fun i a b h1 h2=> hg (i + 1) a b (by simpa using h1) (by simpa using h2)
  simp only [valsOf, this, valOf, h0]
theorem clo_view {g : Nat} {ks : List CK} {caps : List AV} {x : CX ks} {cs : List Value} (hx : viewC ks caps = some x) (h : AR S w ρ row pv (.clo g caps) cs) : AR S w ρ' row' pv (.clo g (cvals ks x)) cs:= by
 obtain ⟨h1, h2⟩ := viewC_get hx
 cases h with
 | clo _ _ css hl hcs=>
  have he : valsOf caps css = valsOf (cvals ks x) css := valsOf_same h1 fun i a b ha hb=> by
   obtain ⟨k, y, rfl, hy⟩ := h2 i a b ha hb
   have hi : i < css.length:= by have := (List.getElem?_eq_some_iff.1 ha).1; omega
   exact (CK.ok (ρ' := ρ) (row' := row) hy (hcs i a _ ha (List.getElem?_eq_getElem hi))).2
  rw [he]
  refine .clo _ _ css (by omega) fun i b c hb hc=> ?_
  have hi : i < caps.length:= by have := (List.getElem?_eq_some_iff.1 hb).1; omega
  obtain ⟨k, y, rfl, hy⟩ := h2 i _ b (List.getElem?_eq_getElem hi) hb
  exact (CK.ok hy (hcs i _ c (List.getElem?_eq_getElem hi) hc)).1
end
end Go.Gx
end
section
/- Loops: what is found of a loop, round by round, is what the machine does. -/
namespace Go.Gx
open Go.RowKit
section
variable {w0 : World} {B : Old} {pv : Nat -> Value} {S : Nat -> Prop} {ρ : Nat -> Option Loc} {st : St} {a : Act} {w : World}
def viewLoc (st : St) (ρ : Nat -> Option Loc) (row' : Nat -> Option Row) : Nat -> Option Loc := fun id=> match Nat.beq id mbase with
 | true=> ρ id
 | false=> match st.row id with
  | some _=> ρ id
  | none=> match row' id with
   | some _=> some .nilrow
   | none=> none
theorem slots_view {row' : Nat -> Option Row} {ρ' : Nat -> Option Loc} {ids : List Nat} (hrv : ∀ id r, row' id = some r -> Rv st id r) (hρ : ∀ id, st.row id ≠ none -> ρ' id = ρ id) (hρn : ∀ id, st.row id = none -> row' id ≠ none -> ρ' id = some .nilrow) (hids : ∀ id, id ∈ ids -> row' id ≠ none)
  (hhs : HS S w ρ st.row pv B) (hsl : ∀ t, VR S w ρ st.row pv (st.slot t) (a.tmps.getD t undef)) : ∀ {l : List Sp} {x : SX l}, view st l = some x -> spsOk ids l = true -> (∀ i, i ∈ rowIds l -> row' i ≠ none) -> ∀ t, VR S w ρ' row' pv (slotsOf l x t) (a.tmps.getD t undef)
 | [], x, _, _, _, t=> .inl rfl
 | s :: l, x, h, hok, hhas, t=> by
  simp only [view] at h
  split at h
  ·rename_i x0 hx0
   split at h
   ·rename_i y hy
    cases h
    simp only [spsOk, Bool.and_eq_true] at hok
    have ih := slots_view hrv hρ hρn hids hhs hsl hy hok.2 (fun i hi=> hhas i (by simp only [rowIds]; exact List.mem_append_right _ hi)) t
    have hst := hsl t
    cases s with
    | t s τ=>
     simp only [slotsOf, Sp.slotAt, beq_eq]
     by_cases e : t = s
     ·subst e
      simp only [decide_true, cond_true]
      simp only [Sp.view] at hx0
      obtain ⟨cs, h1, h2⟩ := vr_ar hst (by intro e; rw [e] at hx0; simp [asT] at hx0)
      exact .inr ⟨cs, .t τ x0 cs (asT_ar hx0 h1), by rw [h2, valOf, valOf, <- asT_ag hx0]⟩
     ·rw [decide_eq_false e]; exact ih
    | con s c=>
     simp only [slotsOf, Sp.slotAt, beq_eq]
     by_cases e : t = s
     ·subst e
      simp only [decide_true, cond_true]
      simp only [Sp.view] at hx0
      have := Con.fits_eq (cond_unit hx0)
      rw [this] at hst
      obtain ⟨cs, h1, h2⟩ := vr_ar hst (by cases c <;> simp [Con.val, undefV])
      exact .inr ⟨cs, con_view hrv hρ hρn hids hok.1 h1, h2⟩
     ·rw [decide_eq_false e]; exact ih
    | cl s g cs=>
     simp only [slotsOf, Sp.slotAt, beq_eq]
     by_cases e : t = s
     ·subst e
      simp only [decide_true, cond_true]
      simp only [Sp.view] at hx0
      split at hx0
      ·rename_i f caps hs
       split at hx0
       ·rename_i hf
        obtain rfl := Nat.eq_of_beq_eq_true hf
        rw [hs] at hst
        obtain ⟨cs', h1, h2⟩ := vr_ar hst (by simp)
        exact .inr ⟨cs', clo_view hx0 h1, h2⟩
       ·cases hx0
      ·cases hx0
     ·rw [decide_eq_false e]; exact ih
    | rd s τ=>
     simp only [slotsOf, Sp.slotAt, beq_eq]
     by_cases e : t = s
     ·subst e
      simp only [decide_true, cond_true]
      simp only [Sp.view] at hx0
      split at hx0
      ·rename_i j hs
       split at hx0
       ·rename_i e' σ xs app' hrow
        split at hx0
        ·rename_i hσ _
         subst hσ
         cases hx0
         rw [hs] at hst
         obtain ⟨cs', h1, h2⟩ := vr_ar hst (by simp)
         refine .inr ⟨cs', .t _ _ _ ?_, h2⟩
         cases h1 with
         | own _ _ _ _ _ _ g cap h4 hl=>
          rw [hrow] at h4
          cases h4
          exact row_cr hhs (fun _ hb=> hb) hrow hl ((hhs.apart j _ g cap hl hrow).2.2 rfl)
         | ownNil _ _ _ _ _ h4 hl=>
          rw [hrow] at h4
          cases h4
          exact cr_nil S w σ
        ·cases hx0
       ·cases hx0
      ·obtain ⟨cs, h1, h2⟩ := vr_ar hst (by intro e; rw [e] at hx0; simp [asT] at hx0)
       exact .inr ⟨cs, AR.t (.sl τ) x0 cs (asT_ar (τ := .sl τ) (x := x0) hx0 h1), by rw [h2, valOf, valOf, <- asT_ag (τ := .sl τ) (x := x0) hx0]⟩
     ·rw [decide_eq_false e]; exact ih
    | ds s id σ τ=>
     simp only [slotsOf, Sp.slotAt, beq_eq]
     by_cases e' : t = s
     ·subst e'
      simp only [decide_true, cond_true]
      simp only [Sp.view] at hx0
      split at hx0
      ·rename_i k τ' x' σ' b hs hrow
       split at hx0
       ·rename_i e e2 hk _ _
        subst e; subst e2
        have hk := Nat.eq_of_beq_eq_true hk
        subst hk
        cases hx0
        rw [hs] at hst
        obtain ⟨cs, h1, h2⟩ := vr_ar hst (by simp)
        cases h1 with
        | ds _ _ _ _ r T v hr hl hc=>
         obtain ⟨r', hr'⟩ := Option.ne_none_iff_exists'.1 (hhas k (by simp [rowIds, Sp.ids]))
         exact .inr ⟨cs, .ds k _ _ cs r' T v hr' (by rw [hρ k (by rw [hr]; simp)]; exact hl) hc, h2⟩
       ·cases hx0
      ·cases hx0
     ·rw [decide_eq_false e']; exact ih
    | tv s id e τ ap=>
     simp only [slotsOf, Sp.slotAt, beq_eq]
     by_cases e' : t = s
     ·subst e'
      simp only [decide_true, cond_true]
      simp only [Sp.view] at hx0
      rw [(viewTV_form hx0).1] at hst
      obtain ⟨cs, h1, h2⟩ := vr_ar hst (by simp)
      exact .inr ⟨cs, tv_view hrv hρ hρn (hhas id (by simp [rowIds, Sp.ids])) h1, h2⟩
     ·rw [decide_eq_false e']; exact ih
    | bv s b id e τ ap=>
     simp only [slotsOf, Sp.slotAt, beq_eq]
     by_cases e' : t = s
     ·subst e'
      simp only [decide_true, cond_true]
      simp only [Sp.view] at hx0
      split at hx0
      ·rename_i k σ a hs hrow
       split at hx0
       ·rename_i e hk _
        subst e
        have hk := Nat.eq_of_beq_eq_true hk
        subst hk
        rw [hs] at hst
        obtain ⟨cs, h1, h2⟩ := vr_ar hst (by simp)
        exact .inr ⟨cs, ep_view hrv hρ hρn hrow (hhas _ (by simp [rowIds, Sp.ids])) h1, h2⟩
       ·cases hx0
      ·cases hx0
     ·rw [decide_eq_false e']; exact ih
    | own s id e τ fz app=>
     simp only [slotsOf, Sp.slotAt, beq_eq]
     by_cases e' : t = s
     ·subst e'
      simp only [decide_true, cond_true]
      simp only [Sp.view] at hx0
      obtain ⟨cs, h1, h2⟩ := vr_ar hst (by intro e; rw [e] at hx0; simp [viewOwn] at hx0)
      obtain ⟨h3, h4⟩ := own_view hrv hρ hρn hx0 (hhas id (by simp [rowIds, Sp.ids])) h1
      exact .inr ⟨cs, h3, by rw [h2, valOf, valOf, h4]; rfl⟩
     ·rw [decide_eq_false e']; exact ih
    | boxT s id τ=>
     simp only [slotsOf, Sp.slotAt, beq_eq]
     by_cases e' : t = s
     ·subst e'
      simp only [decide_true, cond_true]
      simp only [Sp.view] at hx0
      split at hx0
      ·rename_i k σ b hs hrow
       split at hx0
       ·rename_i e hk _
        subst e
        have hk := Nat.eq_of_beq_eq_true hk
        subst hk
        rw [hs] at hst
        obtain ⟨cs, h1, h2⟩ := vr_ar hst (by simp)
        exact .inr ⟨cs, ep_view hrv hρ hρn hrow (hhas _ (by simp [rowIds, Sp.ids])) h1, h2⟩
       ·cases hx0
      ·cases hx0
     ·rw [decide_eq_false e']; exact ih
    | boxF s id τ fs=>
     simp only [slotsOf, Sp.slotAt, beq_eq]
     by_cases e' : t = s
     ·subst e'
      simp only [decide_true, cond_true]
      have hfv : ∃ b, st.slot t = .ep id none [] /\ st.row id = some (.box τ b):= by
       simp only [Sp.view] at hx0
       split at hx0
       ·rename_i k σ σ' as hs hrow
        split at hx0
        ·rename_i e hk _
         subst e
         have hk := Nat.eq_of_beq_eq_true hk
         subst hk
         exact ⟨_, hs, hrow⟩
        ·cases hx0
       ·rename_i k σ σ' y hs hrow
        split at hx0
        ·rename_i e e' hk _ _
         subst e
         have hk := Nat.eq_of_beq_eq_true hk
         subst hk
         exact ⟨_, hs, hrow⟩
        ·cases hx0
       ·cases hx0
      obtain ⟨b, hs, hrow⟩ := hfv
      rw [hs] at hst
      obtain ⟨cs, h1, h2⟩ := vr_ar hst (by simp)
      exact .inr ⟨cs, ep_view hrv hρ hρn hrow (hhas _ (by simp [rowIds, Sp.ids])) h1, h2⟩
     ·rw [decide_eq_false e']; exact ih
   ·cases h
  ·cases h
theorem fids_sub {l : List Sp} {s id : Nat} {τ : Ty} {fs : List Fp} (h : Sp.boxF s id τ fs ∈ l) : ∀ i, i ∈ fids fs -> i ∈ rowIds l:= by
 induction l with
 | nil=> cases h
 | cons p l ih=>
  intro i hi
  rcases List.mem_cons.1 h with e | h
  ·subst e
   exact List.mem_append_left _ (List.mem_cons_of_mem _ hi)
  ·exact List.mem_append_right _ (ih h i hi)
theorem rows_boxF {ids : List Nat} : ∀ {l : List Sp} {x : SX l} {j : Nat} {τ : Ty} {b : AV}, view st l = some x -> spsOk ids l = true -> rowsOf l x j = some (.box τ b) ->
  (∃ vs, st.row j = some (.box τ (.tup vs)) /\ b = .tup vs) \/
  (∃ id, st.row j = some (.box τ (.tv id τ)) /\ b = .tv id τ /\ id ∈ rowIds l) \/
  (∃ s τ', ∃ z : den τ', ∃ b0, st.slot s = .ds j τ' z /\ st.row j = some (.box τ (.t .bool b0)) /\ b = .t .bool false) \/
  (∃ s a, Sp.boxT s j τ ∈ l /\ st.row j = some (.box τ a) /\ ∃ y, b = .t τ y /\ asT τ a = some y) \/
  (∃ s fs a as, ∃ y : FX fs, Sp.boxF s j τ fs ∈ l /\ st.row j = some (.box τ a) /\ ((∃ σ, a = .agg σ as) \/ (∃ y, a = .t τ y /\ as = explode τ y)) /\ fview st.row fs as = some y /\ b = .agg τ (fvals fs y) /\ agT τ = true /\ fpsOk ids (fty τ) fs = true)
 | [], x, j, τ, b, _, _, h=> by cases h
 | s :: l, x, j, τ, b, h, hok, hr=> by
  simp only [view] at h
  split at h
  ·rename_i x0 hx0
   split at h
   ·rename_i y hy
    cases h
    simp only [spsOk, Bool.and_eq_true] at hok
    have next : rowsOf l y j = some (.box τ b) -> (∃ vs, st.row j = some (.box τ (.tup vs)) /\ b = .tup vs) \/
  (∃ id, st.row j = some (.box τ (.tv id τ)) /\ b = .tv id τ /\ id ∈ rowIds (s :: l)) \/ (∃ s' τ', ∃ z : den τ', ∃ b0, st.slot s' = .ds j τ' z /\ st.row j = some (.box τ (.t .bool b0)) /\ b = .t .bool false) \/ (∃ s' a, Sp.boxT s' j τ ∈ s :: l /\ st.row j = some (.box τ a) /\ ∃ y, b = .t τ y /\ asT τ a = some y) \/
  (∃ s' fs a as, ∃ y : FX fs, Sp.boxF s' j τ fs ∈ s :: l /\ st.row j = some (.box τ a) /\ ((∃ σ, a = .agg σ as) \/ (∃ y, a = .t τ y /\ as = explode τ y)) /\ fview st.row fs as = some y /\ b = .agg τ (fvals fs y) /\ agT τ = true /\ fpsOk ids (fty τ) fs = true) := fun hr=> (rows_boxF hy hok.2 hr).imp _root_.id (Or.imp (fun ⟨k, h1, h2, h3⟩=> ⟨k, h1, h2, List.mem_append_right _ h3⟩) <| Or.imp _root_.id (Or.imp (fun ⟨s', a, h1, h2⟩=> ⟨s', a, List.mem_cons_of_mem s h1, h2⟩) fun ⟨s', fs, a, as, z, h1, h2⟩=> ⟨s', fs, a, as, z, List.mem_cons_of_mem s h1, h2⟩))
    cases s with
    | t s τ'=> exact next hr
    | con s c=> exact next hr
    | cl s g cs=> exact next hr
    | rd s τ'=> exact next hr
    | own s id e τ' fz app=>
     simp only [rowsOf, Sp.rowAt, beq_eq] at hr
     by_cases e' : j = id
     ·subst e'; simp at hr
     ·rw [decide_eq_false e'] at hr; exact next hr
    | tv s id e τ' ap=>
     simp only [rowsOf, Sp.rowAt, beq_eq] at hr
     by_cases e' : j = id
     ·subst e'
      simp only [decide_true, cond_true, Option.some.injEq, treeR, Row.box.injEq] at hr
      obtain ⟨rfl, rfl⟩ := hr
      simp only [Sp.view] at hx0
      exact .inl ⟨_, (viewTV_form hx0).2, rfl⟩
     ·rw [decide_eq_false e'] at hr; exact next hr
    | bv s b' id e τ' ap=>
     simp only [Sp.view] at hx0
     split at hx0
     ·rename_i k σ a hs hrow
      split at hx0
      ·rename_i h1 _ _
       subst h1
       obtain ⟨h2, h3⟩ := viewTV_form hx0
       subst h2
       simp only [rowsOf, Sp.rowAt, beq_eq] at hr
       by_cases e' : j = b'
       ·subst e'
        simp only [decide_true, cond_true, Option.some.injEq, Row.box.injEq] at hr
        obtain ⟨rfl, rfl⟩ := hr
        exact .inr (.inl ⟨id, hrow, rfl, by simp [rowIds, Sp.ids]⟩)
       ·rw [decide_eq_false e'] at hr
        by_cases e2 : j = id
        ·subst e2
         simp only [decide_true, cond_true, cond_false, Option.some.injEq, treeR, Row.box.injEq] at hr
         obtain ⟨rfl, rfl⟩ := hr
         exact .inl ⟨_, h3, rfl⟩
        ·rw [decide_eq_false e2] at hr
         exact next hr
      ·cases hx0
     ·cases hx0
    | ds s id σ τ'=>
     simp only [rowsOf, Sp.rowAt, beq_eq] at hr
     by_cases e' : j = id
     ·subst e'
      simp only [decide_true, cond_true, Option.some.injEq, Row.box.injEq] at hr
      obtain ⟨rfl, rfl⟩ := hr
      simp only [Sp.view] at hx0
      split at hx0
      ·rename_i k τ2 x2 σ2 b2 hs hrow
       split at hx0
       ·rename_i e e2 hk _ _
        subst e
        have hk := Nat.eq_of_beq_eq_true hk
        subst hk
        exact .inr (.inr (.inl ⟨s, τ2, x2, b2, hs, hrow, rfl⟩))
       ·cases hx0
      ·cases hx0
     ·rw [decide_eq_false e'] at hr; exact next hr
    | boxT s id τ'=>
     simp only [rowsOf, Sp.rowAt, beq_eq] at hr
     by_cases e' : j = id
     ·subst e'
      simp only [decide_true, cond_true, Option.some.injEq, Row.box.injEq] at hr
      obtain ⟨rfl, rfl⟩ := hr
      simp only [Sp.view] at hx0
      split at hx0
      ·rename_i k σ a hs hrow
       split at hx0
       ·rename_i e _ _
        subst e
        exact .inr (.inr (.inr (.inl ⟨s, a, List.mem_cons_self, hrow, _, rfl, hx0⟩)))
       ·cases hx0
      ·cases hx0
     ·rw [decide_eq_false e'] at hr; exact next hr
    | boxF s id τ' fs=>
     simp only [rowsOf, Sp.rowAt, beq_eq] at hr
     have nofr : ∀ {fs : List Fp} {as : List AV} {z : FX fs} {r0 : Option Row}, fview st.row fs as = some z -> frows fs z j r0 = some (.box τ b) -> r0 = some (.box τ b) \/ ∃ vs, st.row j = some (.box τ (.tup vs)) /\ b = .tup vs:= by
      intro fs
      induction fs with
      | nil=> exact fun _ h=> .inl h
      | cons f fs ih=>
       intro as z r0 hv h
       cases as with
       | nil=> simp [fview] at hv
       | cons a as=>
       simp only [fview] at hv
       split at hv <;> first
        | (cases hv; done)
        | skip
       rename_i z0 hz0
       split at hv <;> first
        | (cases hv; done)
        | skip
       rename_i z1 hz1
       cases hv
       cases f with
       | tv id e τ' ap=>
        simp only [frows, Fp.rowAt, beq_eq] at h
        by_cases e' : j = id
        ·subst e'
         simp only [decide_true, cond_true, Option.some.injEq, treeR, Row.box.injEq] at h
         obtain ⟨rfl, rfl⟩ := h
         simp only [Fp.view] at hz0
         exact .inr ⟨_, (viewTV_form hz0).2, rfl⟩
        ·rw [decide_eq_false e'] at h; exact ih hz1 h
       | own id e τ fz app=>
        simp only [frows, Fp.rowAt, beq_eq] at h
        by_cases e' : j = id
        ·subst e'; simp at h
        ·rw [decide_eq_false e'] at h; exact ih hz1 h
       | t τ=> exact ih hz1 h
       | con c=> exact ih hz1 h
     by_cases e' : j = id
     ·subst e'
      simp only [decide_true, cond_true, Option.some.injEq, Row.box.injEq] at hr
      obtain ⟨rfl, rfl⟩ := hr
      simp only [Sp.ok, Bool.and_eq_true] at hok
      simp only [Sp.view] at hx0
      split at hx0
      ·rename_i k σ σ' as hs hrow
       split at hx0
       ·rename_i e _ _
        subst e
        exact .inr (.inr <| .inr <| .inr ⟨s, fs, _, as, x0, List.mem_cons_self, hrow, .inl ⟨_, rfl⟩, hx0, rfl, hok.1.1, hok.1.2⟩)
       ·cases hx0
      ·rename_i k σ σ' y' hs hrow
       split at hx0
       ·rename_i e e' _ _ _
        subst e; subst e'
        exact .inr (.inr <| .inr <| .inr ⟨s, fs, _, _, x0, List.mem_cons_self, hrow, .inr ⟨y', rfl, rfl⟩, hx0, rfl, hok.1.1, hok.1.2⟩)
       ·cases hx0
      ·cases hx0
     ·rw [decide_eq_false e'] at hr
      have hfv : ∃ as, fview st.row fs as = some x0:= by
       simp only [Sp.view] at hx0
       split at hx0
       ·split at hx0
        ·exact ⟨_, hx0⟩
        ·cases hx0
       ·split at hx0
        ·exact ⟨_, hx0⟩
        ·cases hx0
       ·cases hx0
      obtain ⟨as, hfv⟩ := hfv
      rcases nofr hfv hr with h | h
      ·exact next h
      ·exact .inl h
   ·cases h
  ·cases h
theorem Sim.view {l : List Sp} {x : SX l} (hv : view st l = some x) (hok : spOk l = true) (h : Sim w0 B pv S ρ st a w) : ∃ ρ', Sim w0 B pv S ρ' (stOf st.nt l x) a w:= by
 have hrv : ∀ id r, rowsOf l x id = some r -> Rv st id r := fun id r hr=> rows_rv hv hr
 have hmb : rowsOf l x mbase ≠ none -> st.row mbase ≠ none := fun h1 h2=> by
  cases hr : rowsOf l x mbase with
  | none=> exact h1 hr
  | some r=>
   cases hrv mbase r hr with
   | same _ h3=> rw [h2] at h3; cases h3
   | nil _ _ _ _ hne=> exact hne rfl
   | boxT _ _ _ h3=> rw [h2] at h3; cases h3
   | ds _ _ h3=> rw [h2] at h3; cases h3
   | boxF _ _ _ _ _ h3=> rw [h2] at h3; cases h3
 have hρ : ∀ id, st.row id ≠ none -> viewLoc st ρ (rowsOf l x) id = ρ id := fun id hid=> by
  unfold viewLoc
  split
  ·rfl
  ·cases hr : st.row id with
   | none=> exact absurd hr hid
   | some r=> rfl
 have hρn : ∀ id, st.row id = none -> rowsOf l x id ≠ none -> viewLoc st ρ (rowsOf l x) id = some .nilrow := fun id h1 h2=> by
  unfold viewLoc
  split
  ·rename_i hb
   have := Nat.eq_of_beq_eq_true hb
   subst this
   exact absurd h1 (hmb h2)
  ·rw [h1]
   cases hr : rowsOf l x id with
   | none=> exact absurd hr h2
   | some r=> rfl
 have hat : ∀ id l0 b, rowsOf l x id ≠ none -> viewLoc st ρ (rowsOf l x) id = some l0 -> l0.has b -> st.row id ≠ none /\ ρ id = some l0 := fun id l0 b h0 hl hb=> by
  cases hr : st.row id with
  | none=> rw [hρn id hr h0] at hl; cases hl; exact hb.elim
  | some r=> rw [hρ id (by rw [hr]; simp)] at hl; exact ⟨by simp, hl⟩
 have hids : ∀ id, id ∈ rowIds l -> rowsOf l x id ≠ none := fun id hid=> rows_has hid
 refine ⟨viewLoc st ρ (rowsOf l x), h.size, h.defers, slots_view hrv hρ hρn hids h.hs h.slots hv hok hids, ⟨h.hs.stab, fun id r lc h1 h2=> ?_, fun id id' l1 l2 b h1 h2 h3 h4 hb1 hb2=> ?_, fun id r l1 b h1 h2 hb=> ?_, fun l0 hl0=> (by
  have := h.hs.pin l0 hl0
  unfold viewLoc
  rw [Nat.beq_refl]
  exact this)⟩, h.below, h.hB⟩
 ·have h1' : rowsOf l x id = some r := h1
  cases r with
  | flat e τ xs fz app=>
   cases hrv id _ h1' with
   | same _ h3=>
    rw [hρ id (by rw [h3]; simp)] at h2
    have := h.hs.rows id _ lc h3 h2
    cases lc <;> exact this
   | nil _ _ h3 hpos _=>
    rw [hρn id h3 (by rw [h1']; simp)] at h2
    cases h2
    exact ⟨rfl, rfl, hpos⟩
  | box τ b=>
   have hne : ∀ a, st.row id = some (.box τ a) -> ρ id = some lc := fun a h3=> by rw [hρ id (by rw [h3]; simp)] at h2; exact h2
   rcases rows_boxF hv hok h1' with ⟨vs, h3, rfl⟩ | ⟨k, h3, rfl, hk⟩ | ⟨s, τ', z, b0, h3, h4, rfl⟩ | ⟨s, a', _, h3, y, rfl, h5⟩ | ⟨s, fs, a', as, y, hmem, h3, h4, h5, rfl, hag, hfp⟩
   ·have h6 := h.hs.rows id _ lc h3 (hne _ h3)
    cases lc with
    | nilrow=> exact h6.elim
    | soft T v=>
     obtain ⟨_, ⟨b1, e1, _⟩, _⟩ := h6
     cases e1
    | tree cs T v=> exact h6
    | «at» g c=>
     obtain ⟨cur, T, h7, h8, h9⟩ := h6
     cases h8
   ·have h6 := h.hs.rows id _ lc h3 (hne _ h3)
    cases lc with
    | nilrow=> exact h6.elim
    | soft T v=>
     obtain ⟨_, ⟨b1, e1, _⟩, _⟩ := h6
     cases e1
    | tree cs T v=>
     obtain ⟨_, _, e, ap, x, e1, _⟩ := h6
     cases e1
    | «at» g c=>
     obtain ⟨cur, T, h7, h8, h9⟩ := h6
     exact ⟨cur, T, h7, h8, tv_view hrv hρ hρn (hids k hk) h9⟩
   ·have h6 := h.hs.rows id _ lc h4 (hne _ h4)
    have h7 := h.slots s
    rw [h3] at h7
    obtain ⟨cs, h8, _⟩ := vr_ar h7 (by simp)
    cases h8 with
    | ds _ _ _ _ r T v hr hl hc=>
     rw [hne _ h4] at hl
     cases hl
     obtain ⟨h0, ⟨b1, e1, _⟩, h9⟩ := h6
     exact ⟨h0, ⟨false, rfl, fun h=> by cases h⟩, h9⟩
   ·have h6 := h.hs.rows id _ lc h3 (hne _ h3)
    cases lc with
    | nilrow=> exact h6.elim
    | soft T v=>
     obtain ⟨h0, ⟨b1, rfl, _⟩, _⟩ := h6
     unfold asT at h5
     dsimp only at h5
     split at h5
     ·rename_i e
      subst e
      cases h0
     ·cases h5
    | tree cs T v=>
     obtain ⟨_, _, e, ap, x, rfl, _⟩ := h6
     unfold asT at h5
     cases h5
    | «at» g c=>
     obtain ⟨cur, T, h7, h8, h9⟩ := h6
     exact ⟨cur, T, h7, .t τ y, .t τ y _ (asT_ar h5 h9)⟩
   ·have h6 := h.hs.rows id _ lc h3 (hne _ h3)
    cases lc with
    | nilrow=> exact h6.elim
    | soft T v=>
     obtain ⟨h0, ⟨b1, e1, _⟩, _⟩ := h6
     rcases h4 with ⟨σ, e4⟩ | ⟨z, e4, _⟩
     ·rw [e1] at e4; cases e4
     ·rw [e1] at e4; cases e4; cases h0
    | tree cs T v=>
     obtain ⟨_, _, e, ap, x, e1, _⟩ := h6
     rcases h4 with ⟨σ, e4⟩ | ⟨z, e4, _⟩ <;> (rw [e1] at e4; cases e4)
    | «at» g c=>
     obtain ⟨cur, T, h7, h8, h9⟩ := h6
     have hagg : AR S w ρ st.row pv (.agg τ as) cur.toList /\ Fit τ (.agg τ as):= by
      rcases h4 with ⟨σ, rfl⟩ | ⟨z, rfl, rfl⟩
      ·cases h8 with
       | agg _ _ k1 k2 k3=> exact ⟨h9, .agg _ _ k1 k2 k3⟩
      ·exact explode_ok hag (ar_t h9)
     obtain ⟨css, k1, k2, k3⟩ := hagg.1.agg_parts
     obtain ⟨_, k4, k5⟩ := hagg.2.agg_len
     obtain ⟨k6, k7, k8⟩ := fview_ok hrv hρ hρn hids h5 hfp (fun i hi=> hids i (fids_sub hmem i hi)) k2 k4 k3 k5
     refine ⟨cur, T, h7, .agg τ _ hag (by omega) k8, ?_⟩
     rw [k1]
     exact .agg τ _ css (by omega) k7
 ·obtain ⟨h5, h6⟩ := hat id l1 b h3 h1 hb1
  obtain ⟨h7, h8⟩ := hat id' l2 b h4 h2 hb2
  exact h.hs.inj0 id id' l1 l2 b h6 h8 h5 h7 hb1 hb2
 ·have h2' : rowsOf l x id = some r := h2
  obtain ⟨h5, h6⟩ := hat id l1 b (by rw [h2']; simp) h1 hb
  cases hrv id r h2' with
  | same _ h3=> exact h.hs.apart0 id r l1 b h6 h3 hb
  | nil _ _ h3 _ _=> exact absurd h3 h5
  | boxT τ a' x' h3=> exact h.hs.apart0 id (.box τ a') l1 b h6 h3 hb
  | ds σ b' h3=> exact h.hs.apart0 id (.box σ (.t .bool b')) l1 b h6 h3 hb
  | boxF τ a' as fs x' h3=> exact h.hs.apart0 id (.box τ a') l1 b h6 h3 hb
end
end Go.Gx
end
section
/- Rows renamed: two numbers change places. -/
namespace Go.Gx
open Go.RowKit
theorem swn_swn (i j k : Nat) : swn i j (swn i j k) = k:= by
 unfold swn
 simp only [beq_eq]
 by_cases h1 : k = i
 ·subst h1
  simp only [decide_true]
  by_cases h2 : j = k
  ·subst h2; simp
  ·simp [h2]
 ·rw [decide_eq_false h1]
  by_cases h2 : k = j
  ·subst h2; simp
  ·rw [decide_eq_false h2]
   simp [h1, h2]
theorem swn_mbase {i j : Nat} (hi : i ≠ mbase) (hj : j ≠ mbase) : swn i j mbase = mbase:= by
 unfold swn
 rw [beq_eq, beq_eq, decide_eq_false (Ne.symm hi), decide_eq_false (Ne.symm hj)]
theorem isAg_sw (i j : Nat) (a : AV) : isAg (a.sw i j) = isAg a:= by cases a <;> simp [AV.sw, isAg]
theorem swL_len (i j : Nat) : ∀ l : List AV, (swL i j l).length = l.length
 | []=> by simp [swL]
 | a :: l=> by simp [swL, swL_len i j l]
theorem swL_get (i j : Nat) : ∀ (l : List AV) (n : Nat), (swL i j l)[n]? = (l[n]?).map (AV.sw i j)
 | [], n=> by simp [swL]
 | a :: l, 0=> by simp [swL]
 | a :: l, n + 1=> by simp [swL, swL_get i j l n]
theorem valsOf_sw (i j : Nat) : ∀ (l : List AV) (css : List (List Value)), valsOf (swL i j l) css = valsOf l css
 | [], css=> by simp [swL, valsOf]
 | a :: l, []=> by simp [swL, valsOf]
 | a :: l, cs :: css=> by simp [swL, valsOf, valsOf_sw i j l css, valOf, isAg_sw]
section
variable {S : Nat -> Prop} {w : World} {ρ : Nat -> Option Loc} {row : Nat -> Option Row} {pv : Nat -> Value}
def swρ (i j : Nat) (ρ : Nat -> Option Loc) : Nat -> Option Loc := fun k=> ρ (swn i j k)
theorem swρ_at (i j : Nat) (k : Nat) : swρ i j ρ (swn i j k) = ρ k:= by unfold swρ; rw [swn_swn]
theorem swR_at (i j : Nat) (k : Nat) : swR i j row (swn i j k) = (row k).map (Row.sw i j):= by
 unfold swR; rw [swn_swn]; cases row k <;> rfl
theorem AR.sw (i j : Nat) {a : AV} {cs : List Value} (h : AR S w ρ row pv a cs) : AR S w (swρ i j ρ) (swR i j row) pv (a.sw i j) cs:= by
 induction h with
 | t τ x cs h=> simp only [AV.sw]; exact .t τ x cs h
 | nil=> simp only [AV.sw]; exact .nil
 | own id e τ xs fz app g cap h hl=>
  simp only [AV.sw]
  exact .own _ e τ xs fz app g cap (by rw [swR_at, h]; rfl) (by rw [swρ_at, hl])
 | ownNil id e τ fz app h hl=>
  simp only [AV.sw]
  exact .ownNil _ e τ fz app (by rw [swR_at, h]; rfl) (by rw [swρ_at, hl])
 | epB id τ σ a g cap p h hl hp=>
  simp only [AV.sw]
  exact .epB _ τ σ (a.sw i j) g cap p (by rw [swR_at, h]; rfl) (by rw [swρ_at, hl]) hp
 | epF id e τ σ xs fz app g cap q p h hl hi hp=>
  simp only [AV.sw]
  exact .epF _ e τ σ xs fz app g cap q p (by rw [swR_at, h]; rfl) (by rw [swρ_at, hl]) hi hp
 | tl id e τ xs fz app l q h hl hi hm=>
  simp only [AV.sw]
  exact .tl _ e τ xs fz app l q (by rw [swR_at, h]; rfl) (by rw [swρ_at, hl]) hi hm
 | tp τ x cs g o h hS hc=> simp only [AV.sw]; exact .tp τ x cs g o h hS hc
 | agg τ fs css hl _ ih=>
  simp only [AV.sw]
  refine .agg τ _ css ((swL_len i j fs).trans hl) fun n a cs ha hcs=> ?_
  rw [swL_get, Option.map_eq_some_iff] at ha
  obtain ⟨b, hb, rfl⟩ := ha
  exact ih n b cs hb hcs
 | hole τ cs hl h1=> simp only [AV.sw]; exact .hole τ cs hl h1
 | tup vs css hl _ ih=>
  simp only [AV.sw]
  rw [<- valsOf_sw i j vs css]
  refine .tup _ css ((swL_len i j vs).trans hl) fun n a cs ha hcs=> ?_
  rw [swL_get, Option.map_eq_some_iff] at ha
  obtain ⟨b, hb, rfl⟩ := ha
  exact ih n b cs hb hcs
 | clo f caps css hl _ ih=>
  simp only [AV.sw]
  rw [<- valsOf_sw i j caps css]
  refine .clo f _ css ((swL_len i j caps).trans hl) fun n a cs ha hcs=> ?_
  rw [swL_get, Option.map_eq_some_iff] at ha
  obtain ⟨b, hb, rfl⟩ := ha
  exact ih n b cs hb hcs
 | par i h1=> simp only [AV.sw]; exact .par i h1
 | pc c τ x cs h=> simp only [AV.sw]; exact .pc c τ x cs h
 | ds id τ x cs r T v h hl hc=> simp only [AV.sw]; exact .ds _ τ x cs (r.sw i j) T v (by rw [swR_at, h]; rfl) (by rw [swρ_at, hl]) hc
 | dq id τ x cs r T v g o h hl hT hc hv=> simp only [AV.sw]; exact .dq _ τ x cs (r.sw i j) T v g o (by rw [swR_at, h]; rfl) (by rw [swρ_at, hl]) hT hc hv
 | tv id τ b cs T v h hl hc h1=> simp only [AV.sw]; exact .tv _ τ (b.sw i j) cs T v (by rw [swR_at, h]; rfl) (by rw [swρ_at, hl]) hc h1
 | tq id q p e σ b T v g n c h hl hi hp hq=> simp only [AV.sw]; exact .tq _ q p e σ (b.sw i j) T v g n c (by rw [swR_at, h]; rfl) (by rw [swρ_at, hl]) hi hp hq
 | vw id q p τ σ b cs T v u h hl hv h1=> simp only [AV.sw]; exact .vw _ q p τ σ (b.sw i j) cs T v u (by rw [swR_at, h]; rfl) (by rw [swρ_at, hl]) hv h1
theorem Fit.sw (i j : Nat) {τ : Ty} {a : AV} (h : Fit τ a) : Fit τ (a.sw i j):= by
 induction h with
 | t τ x=> simp only [AV.sw]; exact .t τ x
 | nil e=> simp only [AV.sw]; exact .nil e
 | own e id=> simp only [AV.sw]; exact .own e _
 | ep τ id i p h0 h1=> simp only [AV.sw]; exact .ep τ _ _ _ h0 h1
 | tp τ a h0 h1=> simp only [AV.sw]; exact .tp τ a h0 h1
 | clo τ f l h0 h1=> simp only [AV.sw]; exact .clo τ f _ h0 h1
 | par τ i h0 h1=> simp only [AV.sw]; exact .par τ _ h0 h1
 | agg τ fs hg hl _ ih=>
  simp only [AV.sw]
  refine .agg τ _ hg ((swL_len i j fs).trans hl) fun n σ a hσ ha=> ?_
  rw [swL_get, Option.map_eq_some_iff] at ha
  obtain ⟨b, hb, rfl⟩ := ha
  exact ih n σ b hσ hb
 | hole τ=> simp only [AV.sw]; exact .hole τ
 | pc c τ x=> simp only [AV.sw]; exact .pc c τ x
 | ds id τ x=> simp only [AV.sw]; exact .ds _ τ x
 | tv id τ=> simp only [AV.sw]; exact .tv _ τ
 | vw id q p τ=> simp only [AV.sw]; exact .vw _ q p τ
 | tq τ id q p h0 h1=> simp only [AV.sw]; exact .tq τ _ q p h0 h1
theorem frz_sw (i j : Nat) (r : Row) : frz (r.sw i j) = frz r:= by cases r <;> rfl
theorem swR_some {i j k : Nat} {r : Row} (h : swR i j row k = some r) : ∃ r0, row (swn i j k) = some r0 /\ r = r0.sw i j:= by
 unfold swR at h
 cases hr : row (swn i j k) with
 | none=> rw [hr] at h; cases h
 | some r0=> rw [hr] at h; cases h; exact ⟨r0, rfl, rfl⟩
theorem RowOk.sw (i j : Nat) {r : Row} {l : Loc} (h : RowOk S w ρ row pv r l) : RowOk S w (swρ i j ρ) (swR i j row) pv (r.sw i j) l:= by
 cases r with
 | flat e τ xs fz app=> cases l <;> exact h
 | box τ a=>
  cases l with
  | nilrow=> exact h
  | soft T v=>
   obtain ⟨h0, ⟨b, rfl, h1⟩, h2⟩ := h
   exact ⟨h0, ⟨b, by simp only [AV.sw], h1⟩, h2⟩
  | tree cs T v=>
   obtain ⟨h0, h1, e, ap, x, rfl, h2⟩ := h
   exact ⟨h0, h1, e, ap, x, by simp only [AV.sw, swL], h2⟩
  | «at» g c=>
   obtain ⟨cur, T, h1, h2, h3⟩ := h
   exact ⟨cur, T, h1, h2.sw i j, h3.sw i j⟩
theorem HS.sw {B : Old} (i j : Nat) (hi : i ≠ mbase) (hj : j ≠ mbase) (h : HS S w ρ row pv B) : HS S w (swρ i j ρ) (swR i j row) pv B:= by
 refine ⟨h.stab, fun k r l h1 h2=> ?_, fun k k' l l' b h1 h2 h3 h4 h5 h6=> ?_, fun k r l b h1 h2 hb=> ?_, fun l hl=> ?_⟩
 ·obtain ⟨r0, h3, rfl⟩ := swR_some h1
  exact (h.rows _ r0 l h3 h2).sw i j
 ·have f : ∀ k, swR i j row k ≠ none -> row (swn i j k) ≠ none := fun k hk e=> hk (by unfold swR; rw [e])
  have := h.inj0 (swn i j k) (swn i j k') l l' b h1 h2 (f k h3) (f k' h4) h5 h6
  rw [<- swn_swn i j k, this, swn_swn]
 ·obtain ⟨r0, h3, rfl⟩ := swR_some h2
  rw [frz_sw]
  exact h.apart0 (swn i j k) r0 l b h1 h3 hb
 ·show ρ (swn i j mbase) = some l
  rw [swn_mbase hi hj]
  exact h.pin l hl
end
section
variable {w0 : World} {B : Old} {pv : Nat -> Value} {S : Nat -> Prop} {ρ : Nat -> Option Loc} {st : St} {a : Act} {w : World}
theorem Sim.sw (i j : Nat) (hi : i ≠ mbase) (hj : j ≠ mbase) (h : Sim w0 B pv S ρ st a w) : Sim w0 B pv S (swρ i j ρ) (st.sw i j) a w:= by
 refine ⟨h.size, h.defers, fun t=> ?_, h.hs.sw i j hi hj, h.below, h.hB⟩
 rcases h.slots t with e | ⟨cs, h1, h2⟩
 ·left
  show (st.slot t).sw i j = .any
  rw [e]; rfl
 ·exact .inr ⟨cs, h1.sw i j, by rw [h2]; show valOf _ _ = valOf ((st.slot t).sw i j) cs; unfold valOf; rw [isAg_sw]⟩
theorem renF_nt : ∀ (fs : List Fp) (as : List AV) (st : St), (renF st fs as).nt = st.nt
 | [], _, st=> rfl
 | _ :: _, [], st=> rfl
 | f :: fs, a :: as, st=> by
  unfold renF
  split
  ·split
   ·exact renF_nt fs as st
   ·rw [renF_nt fs]; rfl
  ·split
   ·exact renF_nt fs as st
   ·rw [renF_nt fs]; rfl
  ·exact renF_nt fs as st
theorem renam_nt : ∀ (l : List Sp) (st : St), (renam st l).nt = st.nt
 | [], st=> rfl
 | s :: l, st=> by
  unfold renam
  split
  ·rename_i h; cases h
  ·rename_i h
   cases h
   split
   ·split
    ·exact renam_nt l st
    ·rw [renam_nt l]; rfl
   ·exact renam_nt l st
  ·rename_i h
   cases h
   split
   ·split
    ·exact renam_nt l st
    ·rw [renam_nt l]; rfl
   ·exact renam_nt l st
  ·rename_i h
   cases h
   split
   ·split
    ·split
     ·exact renam_nt l st
     ·rw [renam_nt l]; rfl
    ·exact renam_nt l st
   ·exact renam_nt l st
  ·rename_i h
   cases h
   split
   ·split
    ·rw [renam_nt l, renF_nt]
    ·exact renam_nt l st
   ·exact renam_nt l st
  ·rename_i h; cases h; exact renam_nt l st
theorem Sim.renF : ∀ (fs : List Fp) (as : List AV) {st : St} {ρ : Nat -> Option Loc}, Sim w0 B pv S ρ st a w -> ∃ ρ', Sim w0 B pv S ρ' (renF st fs as) a w
 | [], _, st, ρ, h=> ⟨ρ, h⟩
 | _ :: _, [], st, ρ, h=> ⟨ρ, h⟩
 | f :: fs, b :: as, st, ρ, h=> by
  unfold Go.Gx.renF
  split
  ·split
   ·exact Sim.renF fs as h
   ·rename_i hb
    simp only [Bool.or_eq_false_iff, beq_eq, decide_eq_false_iff_not] at hb
    exact Sim.renF fs _ (h.sw _ _ hb.1.2 hb.2)
  ·split
   ·exact Sim.renF fs as h
   ·rename_i hb
    simp only [Bool.or_eq_false_iff, beq_eq, decide_eq_false_iff_not] at hb
    exact Sim.renF fs _ (h.sw _ _ hb.1.2 hb.2)
  ·exact Sim.renF fs as h
theorem Sim.renam : ∀ (l : List Sp) {st : St} {ρ : Nat -> Option Loc}, Sim w0 B pv S ρ st a w -> ∃ ρ', Sim w0 B pv S ρ' (renam st l) a w
 | [], st, ρ, h=> ⟨ρ, h⟩
 | s :: l, st, ρ, h=> by
  unfold Go.Gx.renam
  split
  ·rename_i e; cases e
  ·rename_i e
   cases e
   split
   ·rename_i id _ _ _ _ _ k _
    split
    ·exact Sim.renam l h
    ·rename_i hb
     simp only [Bool.or_eq_false_iff, beq_eq, decide_eq_false_iff_not] at hb
     exact Sim.renam l (h.sw k id hb.1.2 hb.2)
   ·exact Sim.renam l h
  ·rename_i e
   cases e
   split
   ·rename_i id _ _ _ _ k _ _
    split
    ·exact Sim.renam l h
    ·rename_i hb
     simp only [Bool.or_eq_false_iff, beq_eq, decide_eq_false_iff_not] at hb
     exact Sim.renam l (h.sw k id hb.1.2 hb.2)
   ·exact Sim.renam l h
  ·rename_i e
   cases e
   split
   ·split
    ·split
     ·exact Sim.renam l h
     ·rename_i hb
      simp only [Bool.or_eq_false_iff, beq_eq, decide_eq_false_iff_not] at hb
      exact Sim.renam l (h.sw _ _ hb.1.2 hb.2)
    ·exact Sim.renam l h
   ·exact Sim.renam l h
  ·rename_i e
   cases e
   split
   ·split
    ·obtain ⟨ρ', h'⟩ := Sim.renF _ _ h
     exact Sim.renam l h'
    ·exact Sim.renam l h
   ·exact Sim.renam l h
  ·rename_i e; cases e; exact Sim.renam l h
end
end Go.Gx
end
section
/- What is printed of a function, tied to the machine. -/
namespace Go.Gx
open Go.RowKit
def CG (C : Orc) : Cal -> List AV -> AV -> Prop := fun cal av res=> C cal av some = some res
def LG (L : LOrc) : Nat -> St -> Ex -> St -> Prop := fun b st e st'=> L b st (fun e s=> some (e, s)) = some (e, st')
theorem mem_keys {b : Nat} {d : Code} : ∀ {l : List (Nat × Code)}, (b, d) ∈ l -> b ∈ keysOf l
 | [], h=> by cases h
 | p :: l, h=> by
  rcases List.mem_cons.1 h with e | h
  ·subst e; exact List.mem_cons_self
  ·exact List.mem_cons_of_mem _ (mem_keys h)
theorem findL_mem : ∀ {l : List (Nat × Code)} {b : Nat} {d : Code}, (keysOf l).Nodup -> (b, d) ∈ l -> findL b l = d
 | [], b, d, _, h=> by cases h
 | p :: l, b, d, hn, h=> by
  obtain ⟨h1, h2⟩ := List.nodup_cons.1 (show (p.1 :: keysOf l).Nodup from hn)
  unfold findL
  rcases List.mem_cons.1 h with e | h
  ·subst e; simp
  ·have hne : p.1 ≠ b:= by rintro rfl; exact h1 (mem_keys h)
   rw [beq_eq, decide_eq_false hne]
   exact findL_mem h2 h
theorem loopsOf_sub : ∀ {c : Code} {b : Nat} {p q : Nat × Code}, p ∈ loopsOf b c -> q ∈ loopsOf p.1 p.2 -> q ∈ loopsOf b c
 | .seq x y, b, p, q, hp, hq=> by
  rcases List.mem_append.1 hp with hp | hp
  ·exact List.mem_append_left _ (loopsOf_sub hp hq)
  ·exact List.mem_append_right _ (loopsOf_sub hp hq)
 | .cond _ x y, b, p, q, hp, hq=> by
  rcases List.mem_append.1 hp with hp | hp
  ·exact List.mem_append_left _ (loopsOf_sub hp hq)
  ·exact List.mem_append_right _ (loopsOf_sub hp hq)
 | .block id c, b, p, q, hp, hq=> loopsOf_sub (c := c) (b := id) hp hq
 | .loop c, b, p, q, hp, hq=> by
  rcases List.mem_cons.1 hp with e | hp
  ·subst e; exact List.mem_cons_of_mem _ hq
  ·exact List.mem_cons_of_mem _ (loopsOf_sub hp hq)
 | .skip, _, _, _, hp, _=> by cases hp
 | .region .., _, _, _, hp, _=> by cases hp
 | .exit _, _, _, _, hp, _=> by cases hp
 | .ret, _, _, _, hp, _=> by cases hp
 | .rangeFunc .., _, _, _, hp, _=> by cases hp
 | .scope _, _, _, _, hp, _=> by cases hp
 | .label _, _, _, _, hp, _=> by cases hp
 | .goto _, _, _, _, hp, _=> by cases hp
 | .refuse _, _, _, _, hp, _=> by cases hp
theorem loopAt_eq {f : Func} {c : Code} (hb : f.body = some c) (h : loopsOk f = true) {p : Nat × Code} (hp : p ∈ loopsOf 0 c) : loopAt f p.1 = p.2:= by
 unfold loopsOk at h
 unfold loopAt
 rw [hb] at h ⊢
 exact findL_mem (distinctL_nodup h) hp
theorem viewN_some {nt : Nat} {st : St} {l : List Sp} {x : SX l} (h : viewN nt st l = some x) : st.nt = nt /\ view ((renam st l).freeze (rdIds (renam st l) l)) l = some x:= by
 unfold viewN at h
 split at h
 ·rename_i e; exact ⟨Nat.eq_of_beq_eq_true e, h⟩
 ·cases h
def StepOk (E : Env) (C : Orc) (L : LOrc) (nt : Nat) (d : Code) (b : Nat) (e : Ex) (st st' : St) : Prop :=
 ∃ sp : List Sp, ∃ x : SX sp, spOk sp = true /\ viewN nt st sp = some x /\ ∃ Y : Type, ∃ y : Y, ∃ cont : Ex -> St -> Option Y, runC E C L b d (stOf nt sp x) cont = some y /\
  ∀ e1 st1, cont e1 st1 = some y -> (e1 = .normal /\ LG L b st1 e st') \/ (e1 = e /\ e ≠ .normal /\ ∃ sp' : List Sp, ∃ x' : SX sp', spOk sp' = true /\ viewN nt st1 sp' = some x' /\ st' = stOf nt sp' x')
theorem rounds_ok {P : Program} {E : Env} {pv : Nat -> Value} (hE : EnvOk P E) {C : Nat -> Orc} {L : Nat -> LOrc} (hC : ∀ k, OrcIs (C k) (CG (C k))) (hL : ∀ k, LIs (L k) (LG (L k))) {fn : Func} {c : Code} (hb : fn.body = some c) (hok : loopsOk fn = true)
  {n : Nat} (hG : ∀ k, k < n -> GOk P E pv (CG (C k))) (h0 : ∀ b st e st', ¬ LG (L 0) b st e st') (hS : ∀ k b e st st', b ∈ keysOf (loopsOf 0 c) -> LG (L (k + 1)) b st e st' -> StepOk E (C k) (L k) fn.ntmps (loopAt fn b) b e st st') :
  ∀ (k : Nat), k <= n -> ∀ (w0 : World) (B : Old), ∀ p ∈ loopsOf 0 c, ∀ (st : St) (e : Ex) (st' : St) (S : Nat -> Prop) (ρ : Nat -> Option Loc) (a : Act) (w : World) (Q : Exit -> Act -> World -> Prop), LG (L k) p.1 st e st' -> Sim w0 B pv S ρ st a w -> GlOk E pv S w ->
   (∀ S' ρ' a' w', Sim w0 B pv S' ρ' st' a' w' -> GlOk E pv S' w' -> Grew B S S' -> Q (exw e) a' w') -> Code.rounds P p.2 Q k a w
 | 0, _, _, _, _, _, _, _, _, _, _, _, _, _, h, _, _, _=> absurd h (h0 _ _ _ _)
 | k + 1, hkn, w0, B, p, hp, st, e, st', S, ρ, a, w, Q, h, hs, hgl, hQ=> by
  have ih := rounds_ok hE hC hL hb hok hG h0 hS k (by omega) w0 B
  obtain ⟨sp, x, hsp, hv, Y, y, cont, hrun, hcont⟩ := hS k p.1 e st st' (mem_keys hp) h
  rw [loopAt_eq hb hok hp] at hrun
  obtain ⟨hnt, hv⟩ := viewN_some hv
  obtain ⟨ρ0, hs0⟩ := hs.renam sp
  have hgf := grew_frz hs0 (rdIds (renam st sp) sp)
  obtain ⟨ρ1, hs1⟩ := (hs0.frzs (rdIds (renam st sp) sp)).view hv hsp
  rw [(freeze_slot _ (renam st sp)).2, renam_nt, hnt] at hs1
  obtain ⟨e1, st1, hcr, hc1⟩ := runC_rel (hC k) (hL k) _ _ _ hrun
  rw [rounds_succ]
  have hloops : ∀ q ∈ loopsOf p.1 p.2, LoopSound P E w0 B pv q.2 (LG (L k) q.1) := fun q hq st e st' S ρ a w Q h hs hgl hQ=>
   wp_loop_rounds k (ih q (loopsOf_sub hp hq) st e st' S ρ a w Q h hs hgl hQ)
  refine code_ok hE (hG k (by omega)) hcr hloops hs1 (hgl.mono (fun _ h=> .inl h) (fun _ _=> rfl)) fun S1 ρ2 a1 w1 hs2 hgl2 hg=> ?_
  have hg := hgf.trans hg
  rcases hcont e1 st1 hc1 with ⟨rfl, hl⟩ | ⟨rfl, hne, sp', x', hsp', hv', rfl⟩
  ·exact ih p hp st1 e st' S1 ρ2 a1 w1 Q hl hs2 hgl2 fun S2 ρ3 a2 w2 hs3 hgl3 hg3=> hQ S2 ρ3 a2 w2 hs3 hgl3 (hg.trans hg3)
  ·obtain ⟨hnt', hv'⟩ := viewN_some hv'
   obtain ⟨ρ0', hs0'⟩ := hs2.renam sp'
   have hgf' := grew_frz hs0' (rdIds (renam st1 sp') sp')
   obtain ⟨ρ3, hs3⟩ := (hs0'.frzs (rdIds (renam st1 sp') sp')).view hv' hsp'
   rw [(freeze_slot _ (renam st1 sp')).2, renam_nt, hnt'] at hs3
   have := hQ _ ρ3 a1 w1 hs3 (hgl2.mono (fun _ h=> .inl h) (fun _ _=> rfl)) (hg.trans hgf')
   cases e1 with
   | normal=> exact absurd rfl hne
   | exit id=> exact this
   | ret=> exact this
theorem frL_form {e : Nat} {τ : Ty} {a : AV} {xs : List (den τ)} (h : frL e τ a = some xs) : a = .fr e τ xs \/ (a = .nil /\ xs = [] /\ 0 < nc τ):= by
 unfold frL at h
 split at h
 ·split at h
  ·rename_i e1 _ e2
   subst e1
   cases h
   rw [Nat.eq_of_beq_eq_true e2]
   exact .inl rfl
  ·cases h
 ·split at h
  ·rename_i hp
   cases h
   exact .inr ⟨rfl, rfl, Nat.le_of_ble_eq_true hp⟩
  ·cases h
 ·cases h
theorem asT_str {a : AV} {x : ByteArray} (h : asT .str a = some x) : a = .t .str x:= by
 rcases asT_form h with rfl | rfl
 ·rfl
 ·simp [asT] at h
theorem asT_int {a : AV} {k : IntKind} {x : Int} (h : asT (.int k) a = some x) : a = .t (.int k) x:= by
 rcases asT_form h with rfl | rfl
 ·rfl
 ·simp [asT] at h
theorem sf_wk {τ : Ty} {e : Nat} {a : AV} {x : den τ} (h : sfView e τ a = some x) : Wk1 a (sfV e τ x):= by
 unfold sfView at h
 split at h
 ·split at h
  ·split at h
   ·rename_i hf hb hc hd
    cases h
    cases asT_str hb; cases asT_str hc; cases asT_str hd
    rcases frL_form hf with rfl | ⟨rfl, rfl, hp⟩
    ·exact .refl _
    ·refine .agN .name _ 0 e .str rfl hp fun i e' τ' xs h=> ?_
     match i, h with
     | 0, h | 1, h | 2, h | 3, h=> cases h
     | i + 4, h=> simp at h
   ·cases h
  ·cases h
 ·split at h
  ·split at h
   ·rename_i hf
    cases h
    rcases frL_form hf with rfl | ⟨rfl, rfl, hp⟩
    ·exact .refl _
    ·refine .agN .lib _ 0 e .entry rfl hp fun i e' τ' xs h=> ?_
     match i, h with
     | 0, h=> cases h
     | i + 1, h=> simp at h
   ·cases h
  ·cases h
 ·split at h
  ·split at h
   ·rename_i hb hc hd hf
    cases h
    cases asT_int hb; cases asT_str hc; cases asT_str hd
    rcases frL_form hf with rfl | ⟨rfl, rfl, hp⟩
    ·exact .refl _
    ·refine .agN .query _ 3 e .query rfl hp fun i e' τ' xs h=> ?_
     match i, h with
     | 0, h | 1, h | 2, h | 3, h=> cases h
     | i + 4, h=> simp at h
   ·cases h
  ·cases h
 ·cases h
theorem rk_wk {k : RK} {a : AV} {x : k.X} (h : k.view a = some x) : Wk1 a (k.val x):= by
 cases k with
 | t τ=>
  simp only [RK.view] at h
  split at h
  ·rename_i e σ xs
   split at h
   ·rename_i ρ
    split at h
    ·rename_i e' _
     subst e'
     cases h
     exact .frT e _ xs
    ·cases h
   ·cases h
  ·rename_i σ fs
   split at h
   ·rename_i b hb
    obtain ⟨y, rfl⟩ := implode_nt hb
    have : AV.t σ y = .t τ x:= by
     simp only [asT] at h
     split at h
     ·rename_i e
      subst e
      cases h
      rfl
     ·cases h
    show Wk1 _ (.t τ x)
    rw [<- this]
    exact .agT σ fs _ hb
   ·cases h
  ·rename_i hn
   rcases asT_form h with rfl | rfl
   ·exact .refl _
   ·cases τ <;> simp [asT] at h
    subst h
    exact .nilT _
 | fr e τ=>
  simp only [RK.view] at h
  split at h
  ·rename_i e' σ xs
   split at h
   ·rename_i e'' _ he
    subst e''
    cases h
    have := Nat.eq_of_beq_eq_true he
    subst this
    exact .refl _
   ·cases h
  ·split at h
   ·rename_i hp
    cases h
    exact .nilFr e τ (Nat.le_of_ble_eq_true hp)
   ·cases h
  ·cases h
 | pc τ=>
  simp only [RK.view] at h
  split at h
  ·split at h
   ·rename_i e _
    subst e
    cases h
    exact .refl _
   ·cases h
  ·cases h
 | sf τ e=> exact sf_wk h
theorem viewT_get : ∀ {tys : List Ty} {av : List AV} {x : TX tys}, viewT tys av = some x -> av.length = (tvals tys x).length /\ ∀ (i : Nat) a b, av[i]? = some a -> (tvals tys x)[i]? = some b -> ∃ τ, ∃ y : den τ, b = .t τ y /\ asT τ a = some y
 | [], [], x, _=> ⟨rfl, fun i a b h=> by simp at h⟩
 | [], _ :: _, x, h=> by simp [viewT] at h
 | τ :: l, [], x, h=> by simp [viewT] at h
 | τ :: l, a :: as, x, h=> by
  simp only [viewT] at h
  split at h
  ·rename_i x0 hx
   split at h
   ·rename_i y hy
    cases h
    obtain ⟨h1, h2⟩ := viewT_get hy
    refine ⟨by simp [tvals, h1], fun i b c hb hc=> ?_⟩
    cases i with
    | zero=> cases hb; cases hc; exact ⟨τ, x0, rfl, hx⟩
    | succ i=> exact h2 i b c (by simpa using hb) (by simpa [tvals] using hc)
   ·cases h
  ·cases h
theorem meets_args {P : Program} {E : Env} {pv : Nat -> Value} {cal : Cal} {tys : List Ty} {av : List AV} {x : TX tys} {r : AV} (hx : viewT tys av = some x) (h : Meets P E pv cal (tvals tys x) r) : Meets P E pv cal av r:= by
 obtain ⟨h1, h2⟩ := viewT_get hx
 refine Goes.mono h ?_ fun S w vs ⟨h3, h4⟩=> ⟨h3.trans h1, fun i b v hb hv=> ?_⟩
 ·cases r with
  | tup rs=> exact .inr ⟨rs, rs, rfl, rfl, rfl, fun i a a' e1 e2=> by rw [e1] at e2; cases e2; exact .refl a⟩
  | _=> exact .inl ⟨fun l h=> (by cases h), fun l h=> (by cases h), .refl _⟩
 ·have hi := (List.getElem?_eq_some_iff.1 hb).1
  have ha : av[i]? = some av[i] := List.getElem?_eq_getElem (by omega)
  obtain ⟨τ, y, rfl, hy⟩ := h2 i _ b ha hb
  obtain ⟨cs, h5, h6⟩ := h4 i _ v ha hv
  exact ⟨cs, .t τ y cs (asT_ar hy h5), by rw [h6, valOf, valOf, asT_ag hy]⟩
theorem no_loops {P : Program} {E : Env} {pv : Nat -> Value} {L : LOrc} (h : ∀ b st e st', ¬ LG L b st e st') (l : List (Nat × Code)) : ∀ w0 B, ∀ p ∈ l, LoopSound P E w0 B pv p.2 (LG L p.1) :=
 fun w0 B p _ st e st' S ρ a w Q hl=> absurd hl (h _ _ _ _)
theorem wk_view1 {k : RK} {r : AV} {y : k.X} (h : viewR1 k r = some y) : Wk r (k.val y):= by
 refine .inl ⟨fun l e=> ?_, fun l e=> ?_, rk_wk h⟩
 ·subst e
  cases k with
  | sf τ e=> cases τ <;> simp [viewR1, RK.view, sfView] at h
  | _=> simp [viewR1, RK.view, asT] at h
 ·cases k with
  | sf τ e'=> cases τ <;> cases e
  | _=> cases e
theorem wk_view2 {k l : RK} {r : AV} {y : k.X × l.X} (h : viewR2 k l r = some y) : Wk r (.tup [k.val y.1, l.val y.2]):= by
 unfold viewR2 at h
 split at h
 ·rename_i a b
  split at h
  ·rename_i x z hx hz
   cases h
   refine .inr ⟨_, _, rfl, rfl, rfl, fun i c d hc hd=> ?_⟩
   match i, hc, hd with
   | 0, hc, hd=> cases hc; cases hd; exact rk_wk hx
   | 1, hc, hd=> cases hc; cases hd; exact rk_wk hz
   | i + 2, hc, _=> simp at hc
  ·cases h
 ·cases h
theorem fun_good {P : Program} {E : Env} {pv : Nat -> Value} (hE : EnvOk P E) {C : Orc} {L : LOrc} (hC : OrcIs C (CG C)) (hL : LIs L (LG L)) (hG : GOk P E pv (CG C)) {f : FuncId} {fn : Func} {c : Code} (hf : P.funcs[f]? = some fn) (hb : fn.body = some c) (hname : (fn.name == "runtime.NumGoroutine") = false)
  (hl : ∀ w0 B, ∀ p ∈ loopsOf 0 c, LoopSound P E w0 B pv p.2 (LG L p.1)) {args : List AV} (hn : args.length <= fn.ntmps) {R : Type} {K : AV -> Option R} {y : R} (hrun : runF E C L fn args K = some y) {r' : AV} (hw : ∀ r, K r = some y -> Wk r r') : Meets P E pv (.f f) args r':= by
 obtain ⟨c', res, e, st, rs, as, hfr, hk⟩ := runF_rel hC hL hrun
 have hcc : c' = c:= by have := hfr.body; rw [hb] at this; cases this; rfl
 subst hcc
 exact Goes.mono (funR_meets hE hG hf hname hfr hn hl) (hw res hk) fun _ _ _ h=> h
end Go.Gx
end
section
/- Functions about data in blocks of its own, deep down: those that make it, those that mark it. -/
namespace Go.Gx
open Go.RowKit
section
variable {S D : Nat -> Prop} {w : World} {ρ ρ0 : Nat -> Option Loc} {row row0 : Nat -> Option Row} {pv : Nat -> Value} {B : Old}
theorem allL_at {f : AV -> Bool} : ∀ {l : List AV}, purN.allL f l = true -> ∀ {a : AV}, a ∈ l -> f a = true
 | [], _, a, h=> by cases h
 | b :: l, h, a, ha=> by
  simp only [purN.allL, Bool.and_eq_true] at h
  rcases List.mem_cons.1 ha with rfl | ha
  ·exact h.1
  ·exact allL_at h.2 ha
theorem pur_cr (h : HS S w ρ row pv B) (hD : ∀ b, S b -> pvN pv <= b -> OB w b -> D b) (hO : pvO pv = true) {id e : Nat} {τ : Ty} {xs : List (den τ)} {fz app : Bool} {g c : Nat} (hr : row id = some (.flat e τ xs fz app)) (hl : ρ id = some (.at g c)) (hg : D g) :
  CR D w (.sl τ) xs [.slice (some ⟨g, 0, none⟩) xs.length c]:= by
 obtain ⟨cur, f, h1, h2, h3, h4, h5, h6, h7, h8⟩ := h.rows id _ _ hr hl
 have : ∀ i, ∃ cs, ∀ (hi : i < xs.length), CR D w τ xs[i] cs /\ ∀ j v, cs[j]? = some v -> cur[i * nc τ + j]? = some v := fun i=> by
  by_cases hi : i < xs.length
  ·obtain ⟨cs, hc⟩ := h8 i hi
   exact ⟨cs, fun _=> ⟨hc.1.mono (fun b hb=> hD b hb.1 (hb.2 hO).1 (hb.2 hO).2) (fun _ _=> rfl), hc.2⟩⟩
  ·exact ⟨[], fun h=> absurd h hi⟩
 let cv := fun i=> Classical.choose (this i)
 have hcv := fun i=> Classical.choose_spec (this i)
 refine .sl τ xs _ c cv h3 h4 (fun i hi=> (hcv i hi).1) fun i hi=> ⟨g, 0, rfl, hg, fun j v hv=> ?_⟩
 have := (hcv i hi).2 j v hv
 simp only [World.cell?, h1, Nat.zero_add]
 simpa using this
theorem closeP_pur (h : HS S w ρ row pv B) (hD : ∀ b, S b -> pvN pv <= b -> OB w b -> D b) (hO : pvO pv = true) : ∀ {n : Nat} {a b : AV} {cs : List Value}, purN n a = true -> closeR row n a = some b -> AR S w ρ row pv a cs ->
  (∀ id, id ∈ idsN n a -> ∀ e τ, ∀ xs : List (den τ), ∀ fz app g c, row id = some (.flat e τ xs fz app) -> ρ id = some (.at g c) -> D g) -> AR D w ρ0 row0 pv b cs
 | 0, a, b, cs, hp, _, _, _=> by simp [purN] at hp
 | n + 1, a, b, cs, hp, hc, ha, hcov=> by
  cases ha with
  | t τ x _ hx=>
   simp only [purN, Bool.not_eq_true'] at hp
   simp only [closeR, Option.some.injEq] at hc
   subst hc
   exact .t τ x _ (cr_flat hp hx)
  | nil=>
   simp only [closeR, Option.some.injEq] at hc
   subst hc
   exact .nil
  | own id e τ xs fz app g cap hr hl=>
   simp only [closeR, hr, Option.some.injEq] at hc
   subst hc
   exact .t _ _ _ (pur_cr h hD hO hr hl (hcov id (by simp [idsN]) e τ xs fz app g cap hr hl))
  | ownNil id e τ fz app hr hl=>
   simp only [closeR, hr, Option.some.injEq] at hc
   subst hc
   exact .t _ _ _ (cr_nil D w τ)
  | agg τ fs css hl hh=>
   simp only [purN] at hp
   simp only [closeR] at hc
   split at hc
   ·rename_i gs hgs
    obtain ⟨h1, h2⟩ := mapO_get hgs
    obtain ⟨x, rfl, hx⟩ := implode_ok (S := D) (w := w) (ρ := ρ0) (row := row0) (pv := pv) hc ⟨css, rfl, h1.trans hl, fun i b cs hb hcs=> by
     obtain ⟨a, h3, h4⟩ := h2 i b hb
     have hm := List.mem_of_getElem? h3
     exact closeP_pur h hD hO (allL_at hp hm) h4 (hh i a cs h3 hcs) fun id hid=> hcov id (mem_go (f := idsN n) h3 hid)⟩
    exact .t τ x _ hx
   ·cases hc
  | pc c τ x _ hx=>
   simp only [purN] at hp
   subst hp
   simp only [closeR, Option.some.injEq] at hc
   subst hc
   exact .t τ x _ (hx.mono (fun b hb=> hD b hb.1 hb.2.1 hb.2.2) fun _ _=> rfl)
  | _=> simp [purN] at hp
end
section
variable {P : Program} {E : Env} {pv : Nat -> Value} {G : Cal -> List AV -> AV -> Prop} {LG : Nat -> St -> Ex -> St -> Prop}
theorem call_enter {f : FuncId} {fn : Func} {c : Code} (hf : P.funcs[f]? = some fn) (hb : fn.body = some c) (hname : (fn.name == "runtime.NumGoroutine") = false) (vs : Array Value) (w : World) : (callFunc f vs).run P w = .ok (.enter f vs) w:= by
 have hn' : fn.name ≠ "runtime.NumGoroutine":= by simpa using hname
 simp [callFunc, hf, hn', hb]
theorem tmps_undef {n t : Nat} : (Array.replicate n undef)[t]?.getD undef = undef:= by
 cases hx : (Array.replicate n undef)[t]? with
 | none=> rfl
 | some u=>
  have := Array.mem_of_getElem? hx
  rw [Array.mem_replicate] at this
  rw [this.2]; rfl
structure FunPc (E : Env) (G : Cal -> List AV -> AV -> Prop) (LG : Nat -> St -> Ex -> St -> Prop) (fn : Func) (c : Code) (args : List AV) (τ : Ty) (x : den τ) (e : Ex) (st : St) (a : AV) : Prop where
 body : fn.body = some c
 run : CodeR E G LG 0 c (start fn.ntmps args) e st
 out : ∀ id, e ≠ .exit id
 vals : resAll E st fn.results.toList = some [a]
 pur : purN 6 a = true
 close : closeR st.row 6 a = some (.t τ x)
theorem runPc_rel {C : Orc} {L : LOrc} (hC : OrcIs C G) (hL : LIs L LG) {fn : Func} {args : List AV} {R : Type} {K : AV -> Option R} {r : R} (h : runPc E C L fn args K = some r) :
  ∃ c τ x e st a, FunPc E G LG fn c args τ x e st a /\ K (.pc true τ x) = some r:= by
 unfold runPc at h
 split at h
 ·rename_i c hc
  obtain ⟨e, st, h1, h2⟩ := runC_rel hC hL c 0 _ h
  have go : (match resAll E st fn.results.toList with
   | some [a]=> match purN 6 a, closeR st.row 6 a with
    | true, some (.t τ x)=> K (.pc true τ x)
    | _, _=> none
   | _=> none) = some r -> (∀ id, e ≠ .exit id) -> ∃ c τ x e st a, FunPc E G LG fn c args τ x e st a /\ K (.pc true τ x) = some r := fun h2 he=> by
   split at h2
   ·rename_i a ha
    split at h2
    ·rename_i τ x hp hcl
     exact ⟨c, τ, x, e, st, a, ⟨hc, h1, he, ha, hp, hcl⟩, h2⟩
    ·cases h2
   ·cases h2
  cases e with
  | exit id=> cases h2
  | normal=> exact go h2 (fun id h=> by cases h)
  | ret=> exact go h2 (fun id h=> by cases h)
 ·cases h
theorem funPc_meets (hE : EnvOk P E) (hG : GOk P E pv G) (hO : pvO pv = true) (hQ : pvQ pv = true) {f : FuncId} {fn : Func} (hf : P.funcs[f]? = some fn) (hname : (fn.name == "runtime.NumGoroutine") = false) {c : Code} {args : List AV} {τ : Ty} {x : den τ} {e : Ex} {st : St} {ra : AV}
  (h : FunPc E G LG fn c args τ x e st ra) (hn : args.length <= fn.ntmps) (hl : ∀ w0 B, ∀ p ∈ loopsOf 0 c, LoopSound P E w0 B pv p.2 (LG p.1)) : Meets P E pv (.f f) args (.pc true τ x):= by
 intro S w vs hst hgl hargs
 obtain ⟨hvl, hva⟩ := hargs
 have hlow := hgl.low hQ hst
 show RunsTo P _ ((callFunc f vs.toArray).run P w)
 rw [call_enter hf h.body hname]
 refine calls_of_wp hf h.body ?_
 have hs0 : Sim w ⟨fun b=> b < w.heap.size, none⟩ pv S (fun _=> none) (start fn.ntmps args) { tmps := vs.toArray ++ Array.replicate (fn.ntmps - vs.toArray.size) undef, defers := [] } w:= by
  refine ⟨by simp [start]; omega, rfl, fun t=> ?_, ⟨hst, fun id r l h1 _=> (by cases h1), fun id id' l l' b h1=> (by cases h1), fun id r l b h1=> (by cases h1), fun l hl=> (by cases hl)⟩, Blw.refl _ _, fun _ h=> h⟩
  rw [Array.getD_eq_getD_getElem?]
  simp only [start]
  by_cases ht : t < args.length
  ·have ha : args[t]? = some args[t] := List.getElem?_eq_getElem ht
   have hv : vs[t]? = some vs[t] := List.getElem?_eq_getElem (by omega)
   obtain ⟨cs, h1, h2⟩ := hva t _ _ ha hv
   rw [Array.getElem?_append_left (by simp; omega)]
   simp only [List.getElem?_toArray, ha, hv, Option.getD_some]
   exact .inr ⟨cs, h1, h2⟩
  ·have ha : args[t]? = none := List.getElem?_eq_none (by omega)
   rw [ha, Array.getElem?_append_right (by simp; omega)]
   simp only
   rw [tmps_undef]
   exact vr_undef
 refine code_ok hE hG h.run (hl w ⟨fun b=> b < w.heap.size, none⟩) hs0 hgl fun S1 ρ a w1 hs hgl1 hg=> ?_
 suffices hfin : a.defers = [] /\ ∃ v, (results fn a.tmps).run P w1 = .ok v w1 /\ (∃ v', Ending.returned v = .returned v' /\ (Below w.heap.size w w1 /\ ∃ S' : Nat -> Prop, (∀ b, S b -> S' b) /\ (∀ b, S' b -> S b \/ (w.heap.size <= b /\ b < w1.heap.size)) /\ RR S' w1 w.heap.size pv (.pc true τ x) v')) by
  cases e with
  | normal=> exact hfin
  | ret=> exact hfin
  | exit id=> exact absurd rfl (h.out id)
 refine ⟨hs.defers, ?_⟩
 obtain ⟨vs', hvl', hvv, hres⟩ := res_run hE hs h.vals
 match vs', hvl' with
 | [v], _=>
  have hv := hvv 0 _ v rfl rfl
  have hcl := h.close
  obtain ⟨cs, k1, k2⟩ := vr_ar hv (by rintro rfl; simp [closeR] at hcl)
  have hge : ∀ id r g c, st.row id = some r -> ρ id = some (.at g c) -> w.heap.size <= g := fun id r g c hr hl'=> Nat.le_of_not_lt (hs.hs.apart id r g c hl' hr).1
  have k3 := closeP_pur (ρ0 := fun _=> none) (row0 := fun _=> none) (D := fun b=> frzS S1 ρ st.row (idsN 6 ra) b /\ pcol pv w1 true b) hs.hs (fun b h1 h2 h3=> ⟨.inl h1, h2, h3⟩) hO h.pur hcl k1
   fun id hid e' τ' xs fz app g c' hr hl'=> by
    obtain ⟨cur, f', k4, k5, k6, k7, k8, k9, _⟩ := hs.hs.rows id _ _ hr hl'
    exact ⟨.inr ⟨id, hid, _, c', hr, rfl, hl'⟩, Nat.le_trans hlow (hge id _ g c' hr hl'), ⟨cur, e', f', k4, k9⟩⟩
  refine ⟨v, by simpa using hres, v, rfl, hs.below.to, frzS S1 ρ st.row (idsN 6 ra), fun b hb=> .inl (hg.sub b hb (hst b hb)), fun b hb=> ?_, ⟨none, ?_⟩⟩
  ·rcases hb with hb | ⟨id, hid, r, c', hr, _, hl'⟩
   ·exact (hg.new b hb).imp _root_.id fun h=> ⟨Nat.le_of_not_lt h, hs.hs.stab b hb⟩
   ·exact .inr ⟨hge id r b c' hr hl', (hs.hs.rows id r _ hr hl').lt⟩
  ·rw [k2, show valOf ra cs = valOf (.pc true τ x) cs by have := closeR_ag hcl; rw [valOf, valOf, <- this]; rfl]
   exact .plain _ cs (.pc true τ x cs (ar_t k3))
structure FunD (E : Env) (G : Cal -> List AV -> AV -> Prop) (LG : Nat -> St -> Ex -> St -> Prop) (fn : Func) (c : Code) (τ : Ty) (x : den τ) (k m : Int) (e : Ex) (st : St) : Prop where
 body : fn.body = some c
 run : CodeR E G LG 0 c (startD fn.ntmps τ x k) e st
 out : ∀ id, e ≠ .exit id
 vals : resAll E st fn.results.toList = some [.t (.int .i64) m]
 row : ∃ r, st.row mbase = some r
theorem runD_rel {C : Orc} {L : LOrc} (hC : OrcIs C G) (hL : LIs L LG) {fn : Func} {τ : Ty} {x : den τ} {k : Int} {R : Type} {K : AV -> Option R} {r : R} (h : runD E C L fn τ x k K = some r) :
  ∃ c m e st, FunD E G LG fn c τ x k m e st /\ K (.t (.int .i64) m) = some r:= by
 unfold runD at h
 split at h
 ·rename_i c hc
  obtain ⟨e, st, h1, h2⟩ := runC_rel hC hL c 0 _ h
  have go : (match resAll E st fn.results.toList with
   | some [.t (.int .i64) m]=> match st.row mbase with
    | some _=> K (.t (.int .i64) m)
    | none=> none
   | _=> none) = some r -> (∀ id, e ≠ .exit id) -> ∃ c m e st, FunD E G LG fn c τ x k m e st /\ K (.t (.int .i64) m) = some r := fun h2 he=> by
   split at h2
   ·rename_i m hm
    split at h2
    ·rename_i r0 hr
     exact ⟨c, m, e, st, ⟨hc, h1, he, hm, r0, hr⟩, h2⟩
    ·cases h2
   ·cases h2
  cases e with
  | exit id=> cases h2
  | normal=> exact go h2 (fun id h=> by cases h)
  | ret=> exact go h2 (fun id h=> by cases h)
 ·cases h
theorem funD_meets (hE : EnvOk P E) (hG : GOk P E pv G) {f : FuncId} {fn : Func} (hf : P.funcs[f]? = some fn) (hname : (fn.name == "runtime.NumGoroutine") = false) {c : Code} {τ : Ty} {x : den τ} {k m : Int} {e : Ex} {st : St}
  (h : FunD E G LG fn c τ x k m e st) (hsl : slT τ = true) (hn : 2 <= fn.ntmps) (hl : ∀ w0 B, ∀ p ∈ loopsOf 0 c, LoopSound P E w0 B pv p.2 (LG p.1)) : MeetsD P E pv f τ x k m:= by
 intro S T v w cs hst hgl hST hsw hcr
 show RunsTo P _ ((callFunc f #[valOf (.t τ x) cs, .int .i64 k]).run P w)
 rw [call_enter hf h.body hname]
 refine calls_of_wp hf h.body ?_
 have hrow1 : (startD fn.ntmps τ x k).row mbase = some (.box τ (.t .bool false)):= by simp [startD]
 have hrow2 : ∀ id r, (startD fn.ntmps τ x k).row id = some r -> id = mbase /\ r = .box τ (.t .bool false) := fun id r h1=> by
  simp only [startD, beq_eq] at h1
  by_cases e1 : id = mbase
  ·rw [decide_eq_true e1] at h1
   simp only [cond_true, Option.some.injEq] at h1
   exact ⟨e1, h1.symm⟩
  ·rw [decide_eq_false e1] at h1; cases h1
 have hs0 : Sim w ⟨fun b=> b < w.heap.size /\ ¬ T b, some (.soft T v)⟩ pv S (fun id=> if id = mbase then some (.soft T v) else none) (startD fn.ntmps τ x k) { tmps := #[valOf (.t τ x) cs, .int .i64 k] ++ Array.replicate (fn.ntmps - #[valOf (.t τ x) cs, Value.int .i64 k].size) undef, defers := [] } w:= by
  refine ⟨by simp [startD]; omega, rfl, fun t=> ?_, ⟨hst, fun id r l1 h1 h2=> ?_, fun id id' l1 l2 b h1 h2 h3 h4 _ _=> ?_, fun id r l1 g h1 h2 hg=> ?_, fun l1 hl1=> ?_⟩, Blw.refl _ _, fun _ h=> h.1⟩
  ·rw [Array.getD_eq_getD_getElem?]
   match t with
   | 0=>
    rw [Array.getElem?_append_left (by simp)]
    exact .inr ⟨cs, .ds mbase τ x cs _ T v hrow1 (by simp) hcr, rfl⟩
   | 1=>
    rw [Array.getElem?_append_left (by simp)]
    exact .inr ⟨_, .t _ _ _ (.int .i64 k), rfl⟩
   | t + 2=>
    have : (#[valOf (.t τ x) cs, Value.int .i64 k] ++ Array.replicate (fn.ntmps - #[valOf (.t τ x) cs, Value.int .i64 k].size) undef)[t + 2]? = (Array.replicate (fn.ntmps - #[valOf (.t τ x) cs, Value.int .i64 k].size) undef)[t]?:= by
     rw [Array.getElem?_append_right (by simp)]
     simp
    rw [this, tmps_undef]
    exact vr_undef
  ·obtain ⟨rfl, rfl⟩ := hrow2 id r h1
   rw [if_pos rfl] at h2
   cases h2
   exact ⟨hsl, ⟨false, rfl, fun h=> by cases h⟩, hsw⟩
  ·cases hx : (startD fn.ntmps τ x k).row id with
   | none=> exact absurd hx h3
   | some r=>
    cases hy : (startD fn.ntmps τ x k).row id' with
    | none=> exact absurd hy h4
    | some r'=> exact (hrow2 id r hx).1.trans (hrow2 id' r' hy).1.symm
  ·obtain ⟨rfl, rfl⟩ := hrow2 id r h2
   rw [if_pos rfl] at h1
   have h1 := Option.some.inj h1
   subst h1
   exact ⟨fun hb=> hb.2 hg, fun _ hS=> hST g hS hg, fun hz=> by cases hz⟩
  ·simpa using hl1
 refine code_ok hE hG h.run (hl w _) hs0 hgl fun S1 ρ a w1 hs hgl1 hg=> ?_
 suffices hfin : a.defers = [] /\ ∃ u, (results fn a.tmps).run P w1 = .ok u w1 /\ (∃ v', Ending.returned u = .returned v' /\ (v' = .int .i64 m /\ Blw ⟨fun b=> b < w.heap.size /\ ¬ T b, none⟩ w w1 /\ SoftW T v w1)) by
  cases e with
  | normal=> exact hfin
  | ret=> exact hfin
  | exit id=> exact absurd rfl (h.out id)
 refine ⟨hs.defers, ?_⟩
 obtain ⟨r0, hr0⟩ := h.row
 have hpin : ρ mbase = some (.soft T v) := hs.hs.pin _ rfl
 have hro := hs.hs.rows mbase r0 _ hr0 hpin
 have hsw1 : SoftW T v w1:= by
  cases r0 with
  | flat e τ xs fz app=> exact hro.elim
  | box τ b=> exact hro.2.2
 obtain ⟨vs', hvl', hvv, hres⟩ := res_run hE hs h.vals
 match vs', hvl' with
 | [u], _=>
  exact ⟨u, by simpa using hres, u, rfl, vr_int (hvv 0 _ u rfl rfl), ⟨hs.below.os, hs.below.tape, hs.below.output, hs.below.size, hs.below.block⟩, hsw1⟩
def mpv (pv : Nat -> Value) (n : Nat) : Nat -> Value := fun i=> if i = 1099511627776 then .int .i64 n else if i = 1099511627777 then .bool true else if i = 1099511627778 then .bool true else pv i
theorem mpv_N (pv : Nat -> Value) (n : Nat) : pvN (mpv pv n) = n:= by simp [pvN, mpv]
theorem mpv_Q (pv : Nat -> Value) (n : Nat) : pvQ (mpv pv n) = true:= by simp [pvQ, mpv]
theorem mpv_O (pv : Nat -> Value) (n : Nat) : pvO (mpv pv n) = true:= by simp [pvO, mpv]
theorem meetsP_of {E E' : Env} (hgl : E'.gl = E.gl) (hgi : E'.gi = E.gi) (hon : E'.on = true) {f : Nat} {ps : List Ty} {x : TX ps} {τ : Ty} {y : den τ}
  (h : ∀ n, Meets P E' (mpv pv n) (.f f) (tvals ps x) (.pc true τ y)) : MeetsP P E pv f (tvals ps x) (.pc true τ y):= by
 intro S w vs hst hg hargs
 have hg' : GlOk E' (mpv pv w.heap.size) (fun b=> b < w.heap.size) w:= by
  have hg1 := hg.mono (S' := fun b=> b < w.heap.size) hst (fun _ _=> rfl)
  refine ⟨fun g b hb=> ?_, fun g hb=> ?_, fun _=> hon, fun _=> ?_⟩
  ·obtain ⟨τ', x', cs, e, hc, hgs, hv⟩ := hg1.1 g b (by rw [<- hgl]; exact hb)
   exact ⟨τ', x', cs, e, hc.mono (fun b hb=> ⟨hb.1, fun _=> by rw [mpv_N]; exact hb.1⟩) (fun _ _=> rfl), ⟨hgs.1, fun _=> by rw [mpv_N]; exact hgs.1⟩, hv⟩
  ·obtain ⟨h1, m, h2⟩ := hg1.2.1 g (by rw [<- hgi]; exact hb)
   exact ⟨⟨h1.1, fun _=> by rw [mpv_N]; exact h1.1⟩, m, h2⟩
  ·rw [mpv_N]
   by_cases h0 : w.heap.size = 0
   ·exact .inl h0
   ·exact .inr (by show w.heap.size - 1 < w.heap.size; omega)
 have ha' : ArgsOk (fun b=> b < w.heap.size) w (mpv pv w.heap.size) (tvals ps x) vs:= by
  refine ⟨hargs.1, fun i a v ha hv=> ?_⟩
  obtain ⟨cs, h1, h2⟩ := hargs.2 i a v ha hv
  have : ∀ (ps : List Ty) (x : TX ps) (i : Nat) a, (tvals ps x)[i]? = some a -> ∃ τ, ∃ z : den τ, a = .t τ z:= by
   intro ps
   induction ps with
   | nil=> intro x i a h; simp [tvals] at h
   | cons τ ps ih=>
    intro x i a h
    cases i with
    | zero=> simp only [tvals, List.getElem?_cons_zero, Option.some.injEq] at h; exact ⟨τ, x.1, h.symm⟩
    | succ i=> exact ih x.2 i a (by simpa [tvals] using h)
  obtain ⟨τ', z, rfl⟩ := this ps x i a ha
  exact ⟨cs, .t _ _ _ ((ar_t h1).mono hst (fun _ _=> rfl)), h2⟩
 refine RunsTo.mono (h w.heap.size (fun b=> b < w.heap.size) w vs (fun _ h=> h) hg' ha') fun u w' ⟨hb, S', h1, h2, h3⟩=> ⟨hb, ?_⟩
 obtain ⟨g, h3⟩ := h3
 cases h3 with
 | plain _ cs ha=>
  cases ha with
  | pc _ _ _ _ hx=>
   refine ⟨τ, y, fun b=> w.heap.size <= b /\ b < w'.heap.size /\ OB w' b, cs, .inl rfl, rfl, fun b hb=> hb, hx.mono (fun b hb=> ?_) (fun _ _=> rfl)⟩
   have h4 := hb.2.1
   rw [mpv_N] at h4
   rcases h2 b hb.1 with h5 | h5
   ·omega
   ·exact ⟨h5.1, h5.2, hb.2.2⟩
end
end Go.Gx
end
section
/- Tables of callees and of loops, and what they are tied by. -/
namespace Go.Gx
open Go.RowKit
inductive MK where
 | fr (e : Nat) (τ : Ty)
 | bx (τ : Ty)
@[reducible] def MK.X : MK -> Type
 | .fr _ τ=> List (den τ)
 | .bx τ=> den τ
def MK.val : (k : MK) -> k.X -> AV
 | .fr e τ, x=> .fr e τ x
 | .bx τ, x=> .bx τ x
def MK.view : (k : MK) -> AV -> Option k.X
 | .fr e τ, a=> match a with
  | .fr e' σ xs=> match decEq σ τ, Nat.beq e' e with
   | .isTrue h, true=> some (h ▸ xs)
   | _, _=> none
  | _=> none
 | .bx τ, a=> match a with
  | .bx σ x=> match decEq σ τ with
   | .isTrue h=> some (h ▸ x)
   | .isFalse _=> none
  | _=> none
theorem MK.view_eq {k : MK} {a : AV} {x : k.X} (h : k.view a = some x) : a = k.val x:= by
 cases k with
 | fr e τ=>
  cases a <;> simp only [MK.view] at h <;> try cases h
  split at h
  ·rename_i e' _ he
   subst e'
   cases h
   rw [Nat.eq_of_beq_eq_true he]; rfl
  ·cases h
 | bx τ=>
  cases a <;> simp only [MK.view] at h <;> try cases h
  split at h
  ·rename_i e' _
   subst e'
   cases h
   rfl
  ·cases h
def viewK0 (k : MK) : AV -> Option k.X
 | .kep o (.tup [])=> k.view o
 | _=> none
def viewEat (τ : Ty) : AV -> Option (den τ)
 | .pc false σ x=> match decEq σ τ with
  | .isTrue h=> some (h ▸ x)
  | _=> none
 | _=> none
inductive PK where
 | t (τ : Ty)
 | tp (τ : Ty)
 | clo (g : Nat) (cs : List CK)
@[reducible] def PK.X : PK -> Type
 | .t τ=> den τ
 | .tp τ=> den τ
 | .clo _ cs=> CX cs
def PK.val : (k : PK) -> k.X -> AV
 | .t τ, x=> .t τ x
 | .tp τ, x=> .tp (.t τ x)
 | .clo g cs, x=> .clo g (cvals cs x)
def PK.view : (k : PK) -> AV -> Option k.X
 | .t τ, a=> asT τ a
 | .tp τ, a=> match a with
  | .tp b=> asT τ b
  | _=> none
 | .clo g cs, a=> match a with
  | .clo f caps=> match Nat.beq f g with
   | true=> viewC cs caps
   | false=> none
  | _=> none
@[reducible] def PX : List PK -> Type
 | []=> Unit
 | k :: l=> k.X × PX l
def pvals : (l : List PK) -> PX l -> List AV
 | [], _=> []
 | k :: l, x=> k.val x.1 :: pvals l x.2
def viewP : (l : List PK) -> List AV -> Option (PX l)
 | [], []=> some ()
 | k :: l, a :: al=> match k.view a with
  | some x=> match viewP l al with
   | some y=> some (x, y)
   | none=> none
  | none=> none
 | _, _=> none
section
variable {S : Nat -> Prop} {w : World} {ρ : Nat -> Option Loc} {row : Nat -> Option Row} {pv : Nat -> Value}
theorem PK.ok {k : PK} {a : AV} {x : k.X} {cs : List Value} (hx : k.view a = some x) (h : AR S w ρ row pv a cs) : AR S w ρ row pv (k.val x) cs /\ isAg a = isAg (k.val x):= by
 cases k with
 | t τ=> exact ⟨.t _ _ _ (asT_ar hx h), (asT_ag hx).symm⟩
 | tp τ=>
  simp only [PK.view] at hx
  split at hx
  ·exact ⟨tp_ar hx h, rfl⟩
  ·cases hx
 | clo g ks=>
  simp only [PK.view] at hx
  split at hx
  ·rename_i f caps
   split at hx
   ·rename_i hf
    obtain rfl := Nat.eq_of_beq_eq_true hf
    exact ⟨clo_view hx h, rfl⟩
   ·cases hx
  ·cases hx
theorem viewP_get : ∀ {ks : List PK} {av : List AV} {x : PX ks}, viewP ks av = some x -> av.length = (pvals ks x).length /\ ∀ (i : Nat) a b, av[i]? = some a -> (pvals ks x)[i]? = some b -> ∃ k : PK, ∃ y : k.X, b = k.val y /\ k.view a = some y
 | [], [], x, _=> ⟨rfl, fun i a b h=> by simp at h⟩
 | [], _ :: _, x, h=> by simp [viewP] at h
 | k :: l, [], x, h=> by simp [viewP] at h
 | k :: l, a :: al, x, h=> by
  simp only [viewP] at h
  split at h
  ·rename_i x0 hx
   split at h
   ·rename_i y hy
    cases h
    obtain ⟨h1, h2⟩ := viewP_get hy
    refine ⟨by simp [pvals, h1], fun i b c hb hc=> ?_⟩
    cases i with
    | zero=> cases hb; cases hc; exact ⟨k, x0, rfl, hx⟩
    | succ i=> exact h2 i b c (by simpa using hb) (by simpa [pvals] using hc)
   ·cases h
  ·cases h
theorem args_viewP {ks : List PK} {av : List AV} {x : PX ks} {vs : List Value} (hx : viewP ks av = some x) (h : ArgsOk S w pv av vs) : ArgsOk S w pv (pvals ks x) vs:= by
 obtain ⟨h1, h2⟩ := viewP_get hx
 obtain ⟨h3, h4⟩ := h
 refine ⟨h3.trans h1, fun i b v hb hv=> ?_⟩
 have hi := (List.getElem?_eq_some_iff.1 hb).1
 have ha : av[i]? = some av[i] := List.getElem?_eq_getElem (by omega)
 obtain ⟨k, y, rfl, hy⟩ := h2 i _ b ha hb
 obtain ⟨cs, h5, h6⟩ := h4 i _ v ha hv
 obtain ⟨h7, h8⟩ := PK.ok hy h5
 exact ⟨cs, h7, by rw [h6, valOf, valOf, h8]⟩
end
inductive CArm : Type 1
 | p (ps : List Ty) (Y : Type) (F : TX ps -> Option Y) (out : Y -> AV)
 | m (k : MK) (ps : List Ty) (Y : Type) (F : k.X -> TX ps -> Option Y) (out : Y -> AV)
 | q (ps : List PK) (Y : Type) (F : PX ps -> Option Y) (out : Y -> AV)
 | mq (k : MK) (ps : List PK) (Y : Type) (F : k.X -> PX ps -> Option Y) (out : Y -> AV)
 | d (τ : Ty) (F : den τ -> Int -> Option Int)
 | pp (ps : List Ty) (τ : Ty) (F : TX ps -> Option (den τ))
 | tt (ps : List Ty) (Y : Type) (F : TX ps -> Option Y) (out : Y -> AV)
 | v (ps : List Ty) (F : Entry -> TX ps -> Option Entry)
 | x (τ : Ty) (F : den τ -> Int -> Option (den τ × Int))
 | alt (A B : CArm)
def viewD (τ : Ty) : List AV -> Option (den τ × Int)
 | [.pc true σ x, .t (.int .i64) k]=> match decEq σ τ with
  | .isTrue h=> some (h ▸ x, k)
  | .isFalse _=> none
 | _=> none
theorem viewD_eq {τ : Ty} {av : List AV} {y : den τ × Int} (h : viewD τ av = some y) : av = [.pc true τ y.1, .t (.int .i64) y.2]:= by
 unfold viewD at h
 split at h
 ·split at h
  ·rename_i e _
   subst e
   cases h
   rfl
  ·cases h
 ·cases h
def viewPP (ps : List Ty) : List AV -> Option (TX ps)
 | .pc false .bool true :: l=> viewT ps l
 | _=> none
theorem viewPP_eq {ps : List Ty} {av : List AV} {y : TX ps} (h : viewPP ps av = some y) : ∃ l, av = .pc false .bool true :: l /\ viewT ps l = some y:= by
 unfold viewPP at h
 split at h
 ·exact ⟨_, rfl, h⟩
 ·cases h
def viewTT (ps : List Ty) : List AV -> Option (TX ps)
 | .pc false .bool false :: l=> viewT ps l
 | _=> none
theorem viewTT_eq {ps : List Ty} {av : List AV} {y : TX ps} (h : viewTT ps av = some y) : ∃ l, av = .pc false .bool false :: l /\ viewT ps l = some y:= by
 unfold viewTT at h
 split at h
 ·exact ⟨_, rfl, h⟩
 ·cases h
def viewV (ps : List Ty) : List AV -> Option (Entry × TX ps)
 | .pc false .entry x :: l=> match viewT ps l with
  | some y=> some (x, y)
  | none=> none
 | _=> none
theorem viewV_eq {ps : List Ty} {av : List AV} {y : Entry × TX ps} (h : viewV ps av = some y) : ∃ l, av = .pc false .entry y.1 :: l /\ viewT ps l = some y.2:= by
 unfold viewV at h
 split at h
 ·split at h
  ·rename_i hy
   cases h
   exact ⟨_, rfl, hy⟩
  ·cases h
 ·cases h
def viewX (τ : Ty) : List AV -> Option (den τ × Int)
 | [.pc false σ x, .t (.int .i64) k]=> match decEq σ τ with
  | .isTrue h=> some (h ▸ x, k)
  | .isFalse _=> none
 | _=> none
theorem viewX_eq {τ : Ty} {av : List AV} {y : den τ × Int} (h : viewX τ av = some y) : av = [.pc false τ y.1, .t (.int .i64) y.2]:= by
 unfold viewX at h
 split at h
 ·split at h
  ·rename_i e _
   subst e
   cases h
   rfl
  ·cases h
 ·cases h
def selA : List AV -> Nat
 | .pc true _ _ :: _=> 1
 | .pc false .bool b :: _=> cond b 2 3
 | .pc false _ _ :: _=> 4
 | _=> 0
def CArm.sel : CArm -> Nat
 | .d _ _=> 1
 | .pp _ _ _=> 2
 | .tt _ _ _ _=> 3
 | .v _ _=> 4
 | .x _ _=> 4
 | _=> 0
def CArm.run {R : Type} (A : CArm) (av : List AV) (K : AV -> Option R) : Option R := match A with
 | .p ps Y F out=> (viewT ps av).bind fun x=> (F x).bind fun r=> K (out r)
 | .m k ps Y F out=> match av with
  | []=> none
  | a0 :: rest=> (k.view a0).bind fun x0=> (viewT ps rest).bind fun x=> (F x0 x).bind fun r=> K (out r)
 | .q ps Y F out=> (viewP ps av).bind fun x=> (F x).bind fun r=> K (out r)
 | .mq k ps Y F out=> match av with
  | []=> none
  | a0 :: rest=> (k.view a0).bind fun x0=> (viewP ps rest).bind fun x=> (F x0 x).bind fun r=> K (out r)
 | .d τ F=> (viewD τ av).bind fun x=> (F x.1 x.2).bind fun r=> K (.t (.int .i64) r)
 | .pp ps τ F=> (viewPP ps av).bind fun x=> (F x).bind fun r=> K (.pc true τ r)
 | .tt ps Y F out=> (viewTT ps av).bind fun x=> (F x).bind fun r=> K (out r)
 | .v ps F=> (viewV ps av).bind fun x=> (F x.1 x.2).bind fun r=> K (.tr .entry r)
 | .x τ F=> (viewX τ av).bind fun x=> (F x.1 x.2).bind fun r=> K (.kep (.t τ r.1) (.t (.int .i64) r.2))
 | .alt A B=> match Nat.beq (selA av) A.sel with
  | true=> A.run av K
  | false=> B.run av K
def tabC (t : Cal -> Option CArm) : Orc := fun cal av K=> match t cal with
 | some A=> A.run av K
 | none=> none
theorem arm_is {R : Type} {r : R} {av : List AV} {K : AV -> Option R} : ∀ {A : CArm}, A.run av K = some r -> ∃ res, A.run av some = some res /\ K res = some r:= by
 intro A
 induction A with
 | alt A B ihA ihB=>
  intro h
  simp only [CArm.run] at h ⊢
  split at h
  ·exact ihA h
  ·exact ihB h
 | tt ps Y F out=>
  intro h
  simp only [CArm.run] at h ⊢
  obtain ⟨x, hx, h⟩ := Option.bind_eq_some_iff.1 h
  obtain ⟨y, hy, h⟩ := Option.bind_eq_some_iff.1 h
  exact ⟨out y, by simp only [hx, hy, Option.bind_some], h⟩
 | v ps F=>
  intro h
  simp only [CArm.run] at h ⊢
  obtain ⟨x, hx, h⟩ := Option.bind_eq_some_iff.1 h
  obtain ⟨y, hy, h⟩ := Option.bind_eq_some_iff.1 h
  exact ⟨_, by simp only [hx, hy, Option.bind_some], h⟩
 | x τ F=>
  intro h
  simp only [CArm.run] at h ⊢
  obtain ⟨x, hx, h⟩ := Option.bind_eq_some_iff.1 h
  obtain ⟨y, hy, h⟩ := Option.bind_eq_some_iff.1 h
  exact ⟨_, by simp only [hx, hy, Option.bind_some], h⟩
 | p ps Y F out=>
  intro h
  simp only [CArm.run] at h ⊢
  obtain ⟨x, hx, h⟩ := Option.bind_eq_some_iff.1 h
  obtain ⟨y, hy, h⟩ := Option.bind_eq_some_iff.1 h
  exact ⟨out y, by simp only [hx, hy, Option.bind_some], h⟩
 | m k ps Y F out=>
  intro h
  cases av with
  | nil=> simp only [CArm.run] at h; cases h
  | cons a0 rest=>
   simp only [CArm.run] at h ⊢
   obtain ⟨x0, hx0, h⟩ := Option.bind_eq_some_iff.1 h
   obtain ⟨x, hx, h⟩ := Option.bind_eq_some_iff.1 h
   obtain ⟨y, hy, h⟩ := Option.bind_eq_some_iff.1 h
   exact ⟨out y, by simp only [hx0, hx, hy, Option.bind_some], h⟩
 | q ps Y F out=>
  intro h
  simp only [CArm.run] at h ⊢
  obtain ⟨x, hx, h⟩ := Option.bind_eq_some_iff.1 h
  obtain ⟨y, hy, h⟩ := Option.bind_eq_some_iff.1 h
  exact ⟨out y, by simp only [hx, hy, Option.bind_some], h⟩
 | mq k ps Y F out=>
  intro h
  cases av with
  | nil=> simp only [CArm.run] at h; cases h
  | cons a0 rest=>
   simp only [CArm.run] at h ⊢
   obtain ⟨x0, hx0, h⟩ := Option.bind_eq_some_iff.1 h
   obtain ⟨x, hx, h⟩ := Option.bind_eq_some_iff.1 h
   obtain ⟨y, hy, h⟩ := Option.bind_eq_some_iff.1 h
   exact ⟨out y, by simp only [hx0, hx, hy, Option.bind_some], h⟩
 | d τ F=>
  intro h
  simp only [CArm.run] at h ⊢
  obtain ⟨x, hx, h⟩ := Option.bind_eq_some_iff.1 h
  obtain ⟨y, hy, h⟩ := Option.bind_eq_some_iff.1 h
  exact ⟨_, by simp only [hx, hy, Option.bind_some], h⟩
 | pp ps τ F=>
  intro h
  simp only [CArm.run] at h ⊢
  obtain ⟨x, hx, h⟩ := Option.bind_eq_some_iff.1 h
  obtain ⟨y, hy, h⟩ := Option.bind_eq_some_iff.1 h
  exact ⟨_, by simp only [hx, hy, Option.bind_some], h⟩
theorem tabC_is (t : Cal -> Option CArm) : OrcIs (tabC t) (CG (tabC t)):= by
 intro R cal av K r h
 unfold CG
 unfold tabC at h ⊢
 dsimp only at h ⊢
 split at h
 ·exact arm_is h
 ·cases h
def ArmOk (P : Program) (E : Env) (pv : Nat -> Value) (cal : Cal) (A : CArm) : Prop := match A with
 | .p ps Y F out=> ∀ x y, F x = some y -> Meets P E pv cal (tvals ps x) (out y)
 | .m k ps Y F out=> ∃ f, cal = .f f /\ ∀ x0 x y, F x0 x = some y -> MeetsM P E pv f (k.val x0) (tvals ps x) (out y)
 | .q ps Y F out=> ∀ x y, F x = some y -> Meets P E pv cal (pvals ps x) (out y)
 | .mq k ps Y F out=> ∃ f, cal = .f f /\ ∀ x0 x y, F x0 x = some y -> MeetsM P E pv f (k.val x0) (pvals ps x) (out y)
 | .d τ F=> ∃ f, cal = .f f /\ ∀ x k m, F x k = some m -> MeetsD P E pv f τ x k m
 | .pp ps τ F=> ∃ f, cal = .f f /\ ∀ x y, F x = some y -> MeetsP P E pv f (tvals ps x) (.pc true τ y)
 | .tt ps Y F out=> ∃ f, cal = .f f /\ ∀ x y, F x = some y -> MeetsT P E pv f (tvals ps x) (out y)
 | .v ps F=> ∃ f, cal = .f f /\ ∀ e x y, F e x = some y -> MeetsV P E pv f .entry e (tvals ps x) y
 | .x τ F=> slT τ = true /\ ∃ f, cal = .f f /\ ∀ x k y, F x k = some y -> MeetsX P E pv f τ x k y.1 y.2
 | .alt A B=> ArmOk P E pv cal A /\ ArmOk P E pv cal B
theorem args_view {S : Nat -> Prop} {w : World} {pv : Nat -> Value} {tys : List Ty} {av : List AV} {x : TX tys} {vs : List Value} (hx : viewT tys av = some x) (h : ArgsOk S w pv av vs) : ArgsOk S w pv (tvals tys x) vs:= by
 obtain ⟨h1, h2⟩ := viewT_get hx
 obtain ⟨h3, h4⟩ := h
 refine ⟨h3.trans h1, fun i b v hb hv=> ?_⟩
 have hi := (List.getElem?_eq_some_iff.1 hb).1
 have ha : av[i]? = some av[i] := List.getElem?_eq_getElem (by omega)
 obtain ⟨τ, y, rfl, hy⟩ := h2 i _ b ha hb
 obtain ⟨cs, h5, h6⟩ := h4 i _ v ha hv
 exact ⟨cs, .t τ y cs (asT_ar hy h5), by rw [h6, valOf, valOf, asT_ag hy]⟩
theorem arm_ok {P : Program} {E : Env} {pv : Nat -> Value} {cal : Cal} {av : List AV} {r : AV} : ∀ {A : CArm}, ArmOk P E pv cal A -> A.run av some = some r -> Keeps P E pv cal av r:= by
 intro A
 induction A with
 | alt A B ihA ihB=>
  intro hok hr
  simp only [CArm.run] at hr
  split at hr
  ·exact ihA hok.1 hr
  ·exact ihB hok.2 hr
 | tt ps Y F out=>
  intro hok hr
  obtain ⟨f, rfl, hok⟩ := hok
  simp only [CArm.run] at hr
  obtain ⟨x, hx, hr⟩ := Option.bind_eq_some_iff.1 hr
  obtain ⟨y, hy, hr⟩ := Option.bind_eq_some_iff.1 hr
  cases hr
  obtain ⟨l, rfl, hl⟩ := viewTT_eq hx
  refine ⟨fun hn=> absurd rfl (hn _ _ _ _), fun f' τ' z k m e1 e2=> (by cases e2), fun f' as _ e=> (by cases e), fun f' as e1 e=> ?_, fun f' τ x as y _ e hs=> (by cases e; cases hs), fun f' τ x k y m _ e hs=> (by cases e; cases hs)⟩
  cases e1; cases e
  have hm := hok x y hy
  intro S w vs hst hgl hargs
  exact hm S w vs hst hgl (args_view hl hargs)
 | v ps F=>
  intro hok hr
  obtain ⟨f, rfl, hok⟩ := hok
  simp only [CArm.run] at hr
  obtain ⟨x, hx, hr⟩ := Option.bind_eq_some_iff.1 hr
  obtain ⟨y, hy, hr⟩ := Option.bind_eq_some_iff.1 hr
  cases hr
  obtain ⟨l, rfl, hl⟩ := viewV_eq hx
  refine ⟨fun hn=> absurd rfl (hn _ _ _ _), fun f' τ' z k m e1 e2=> (by cases e2), fun f' as _ e=> (by cases e), fun f' as e1 e=> (by cases e), fun f' τ x' as y' e1 e2 hs e3=> ?_, fun f' τ x k y m _ e hs e3=> (by cases e3)⟩
  cases e1; cases e2; cases e3
  have hm := hok _ _ _ hy
  intro S T v w cs vs hst hgl hST hsw htr hargs
  exact hm S T v w cs vs hst hgl hST hsw htr (args_view hl hargs)
 | x τ F=>
  intro hok hr
  obtain ⟨hsl, f, rfl, hok⟩ := hok
  simp only [CArm.run] at hr
  obtain ⟨x, hx, hr⟩ := Option.bind_eq_some_iff.1 hr
  obtain ⟨y, hy, hr⟩ := Option.bind_eq_some_iff.1 hr
  cases hr
  have e := viewX_eq hx
  subst e
  refine ⟨fun hn=> absurd rfl (hn _ _ _ _), fun f' τ' z k m e1 e2=> (by cases e2), fun f' as _ e=> (by simp only [List.cons.injEq, AV.pc.injEq, true_and] at e; obtain ⟨⟨rfl, _⟩, _⟩ := e; cases hsl), fun f' as e1 e=> (by simp only [List.cons.injEq, AV.pc.injEq, true_and] at e; obtain ⟨⟨rfl, _⟩, _⟩ := e; cases hsl), fun f' τ x' as y' e1 e2 hs e3=> (by cases e3), fun f' τ x k y m e1 e2 hs e3=> ?_⟩
  cases e1; cases e2; cases e3
  exact hok _ _ _ hy
 | p ps Y F out=>
  intro hok hr
  simp only [CArm.run] at hr
  obtain ⟨x, hx, hr⟩ := Option.bind_eq_some_iff.1 hr
  obtain ⟨y, hy, hr⟩ := Option.bind_eq_some_iff.1 hr
  cases hr
  have nopc : ∀ c τ z l, av ≠ .pc c τ z :: l := fun c τ z l e=> by
   subst e
   cases ps with
   | nil=> simp [viewT] at hx
   | cons τ ps=> simp [viewT, asT] at hx
  refine ⟨fun _=> ⟨meets_args hx (hok x y hy), fun f a0 rest e1 e2 hn=> ?_⟩, fun f τ z k m _ e=> absurd e (nopc _ _ _ _), fun f as _ e=> absurd e (nopc _ _ _ _), keepsT_no fun τ x l=> nopc _ _ _ _⟩
  subst e2
  exfalso
  cases ps with
  | nil=> simp [viewT] at hx
  | cons τ ps=>
   simp only [viewT] at hx
   split at hx
   ·rename_i y0 hy0
    rcases asT_form hy0 with rfl | rfl <;> exact hn rfl
   ·cases hx
 | m k ps Y F out=>
  intro hok hr
  obtain ⟨f, rfl, hok⟩ := hok
  cases av with
  | nil=> simp only [CArm.run] at hr; cases hr
  | cons a0 rest=>
   simp only [CArm.run] at hr
   obtain ⟨x0, hx0, hr⟩ := Option.bind_eq_some_iff.1 hr
   obtain ⟨x, hx, hr⟩ := Option.bind_eq_some_iff.1 hr
   obtain ⟨y, hy, hr⟩ := Option.bind_eq_some_iff.1 hr
   cases hr
   have ha0 := MK.view_eq hx0
   subst ha0
   have nopc : ∀ c τ z l, k.val x0 :: rest ≠ .pc c τ z :: l := fun c τ z l e=> by cases k <;> cases e
   refine ⟨fun _=> ⟨fun S w vs _ _ ha=> ?_, fun f' a0 rest' e1 e2 hn=> ?_⟩, fun f τ z k m _ e=> absurd e (nopc _ _ _ _), fun f as _ e=> absurd e (nopc _ _ _ _), keepsT_no fun τ x l=> nopc _ _ _ _⟩
   ·exfalso
    obtain ⟨hl, ha⟩ := ha
    match vs, hl with
    | v :: vs, _=>
     obtain ⟨cs, h5, _⟩ := ha 0 _ v rfl rfl
     cases k <;> cases h5
   ·cases e1; cases e2
    have hm := hok x0 x y hy
    intro S w v0 vs l r0 hst hgl hargs hr0 hrow hSl hv0
    exact hm S w v0 vs l r0 hst hgl (args_view hx hargs) hr0 hrow hSl hv0
 | q ps Y F out=>
  intro hok hr
  simp only [CArm.run] at hr
  obtain ⟨x, hx, hr⟩ := Option.bind_eq_some_iff.1 hr
  obtain ⟨y, hy, hr⟩ := Option.bind_eq_some_iff.1 hr
  cases hr
  have nopc : ∀ c τ z l, av ≠ .pc c τ z :: l := fun c τ z l e=> by
   subst e
   cases ps with
   | nil=> simp [viewP] at hx
   | cons k ps=> cases k <;> simp [viewP, PK.view, asT] at hx
  refine ⟨fun _=> ⟨Goes.mono (hok x y hy) (wk_refl _) fun S w vs ha=> args_viewP hx ha, fun f a0 rest e1 e2 hn=> ?_⟩, fun f τ z k m _ e=> absurd e (nopc _ _ _ _), fun f as _ e=> absurd e (nopc _ _ _ _), keepsT_no fun τ x l=> nopc _ _ _ _⟩
  subst e2
  exfalso
  cases ps with
  | nil=> simp [viewP] at hx
  | cons k ps=>
   simp only [viewP] at hx
   split at hx
   ·rename_i y0 hy0
    cases k with
    | t τ=> rcases asT_form hy0 with rfl | rfl <;> exact hn rfl
    | tp τ=>
     simp only [PK.view] at hy0
     split at hy0
     ·exact hn rfl
     ·cases hy0
    | clo g cs=>
     simp only [PK.view] at hy0
     split at hy0
     ·exact hn rfl
     ·cases hy0
   ·cases hx
 | mq k ps Y F out=>
  intro hok hr
  obtain ⟨f, rfl, hok⟩ := hok
  cases av with
  | nil=> simp only [CArm.run] at hr; cases hr
  | cons a0 rest=>
   simp only [CArm.run] at hr
   obtain ⟨x0, hx0, hr⟩ := Option.bind_eq_some_iff.1 hr
   obtain ⟨x, hx, hr⟩ := Option.bind_eq_some_iff.1 hr
   obtain ⟨y, hy, hr⟩ := Option.bind_eq_some_iff.1 hr
   cases hr
   have ha0 := MK.view_eq hx0
   subst ha0
   have nopc : ∀ c τ z l, k.val x0 :: rest ≠ .pc c τ z :: l := fun c τ z l e=> by cases k <;> cases e
   refine ⟨fun _=> ⟨fun S w vs _ _ ha=> ?_, fun f' a0 rest' e1 e2 hn=> ?_⟩, fun f τ z k m _ e=> absurd e (nopc _ _ _ _), fun f as _ e=> absurd e (nopc _ _ _ _), keepsT_no fun τ x l=> nopc _ _ _ _⟩
   ·exfalso
    obtain ⟨hl, ha⟩ := ha
    match vs, hl with
    | v :: vs, _=>
     obtain ⟨cs, h5, _⟩ := ha 0 _ v rfl rfl
     cases k <;> cases h5
   ·cases e1; cases e2
    have hm := hok x0 x y hy
    intro S w v0 vs l r0 hst hgl hargs hr0 hrow hSl hv0
    exact hm S w v0 vs l r0 hst hgl (args_viewP hx hargs) hr0 hrow hSl hv0
 | d τ F=>
  intro hok hr
  obtain ⟨f, rfl, hok⟩ := hok
  simp only [CArm.run] at hr
  obtain ⟨x, hx, hr⟩ := Option.bind_eq_some_iff.1 hr
  obtain ⟨y, hy, hr⟩ := Option.bind_eq_some_iff.1 hr
  cases hr
  have e := viewD_eq hx
  subst e
  refine ⟨fun hn=> absurd rfl (hn _ _ _ _), fun f' τ' z k m e1 e2 e3=> ?_, fun f' as _ e=> (by cases e), keepsT_no fun τ x l e=> by cases e⟩
  cases e1; cases e2; cases e3
  exact hok _ _ _ hy
 | pp ps τ F=>
  intro hok hr
  obtain ⟨f, rfl, hok⟩ := hok
  simp only [CArm.run] at hr
  obtain ⟨x, hx, hr⟩ := Option.bind_eq_some_iff.1 hr
  obtain ⟨y, hy, hr⟩ := Option.bind_eq_some_iff.1 hr
  cases hr
  obtain ⟨l, rfl, hl⟩ := viewPP_eq hx
  refine ⟨fun hn=> absurd rfl (hn _ _ _ _), fun f' τ' z k m e1 e2=> (by cases e2), fun f' as e1 e=> ?_, fun f' as _ e=> (by cases e), fun f' τ x as y _ e hs=> (by cases e; cases hs), fun f' τ x k y m _ e hs=> (by cases e; cases hs)⟩
  cases e1; cases e
  have hm := hok x y hy
  intro S w vs hst hgl hargs
  exact hm S w vs hst hgl (args_view hl hargs)
theorem tabC_ok {P : Program} {E : Env} {pv : Nat -> Value} {t : Cal -> Option CArm} (h : ∀ cal A, t cal = some A -> ArmOk P E pv cal A) : GOk P E pv (CG (tabC t)):= by
 intro cal av r hr
 unfold CG tabC at hr
 dsimp only at hr
 split at hr
 ·rename_i A hA
  exact arm_ok (h cal A hA) hr
 ·cases hr
inductive LArm : Type 1
 | one (sp so : List Sp) (Y : Type) (l : Nat -> SX sp -> Option Y) (e : Ex) (g : Y -> SX so) (h : SX so -> Y)
 | two (sp so1 so2 : List Sp) (Y Z : Type) (l : Nat -> SX sp -> Option (Sum Y Z)) (e1 e2 : Ex) (g1 : Y -> SX so1) (h1 : SX so1 -> Y) (g2 : Z -> SX so2) (h2 : SX so2 -> Z)
def LArm.run {R : Type} (nt k : Nat) (A : LArm) (st : St) (K : Ex -> St -> Option R) : Option R := match A with
 | .one sp so Y l e g _=> (viewN nt st sp).bind fun x=> (l k x).bind fun y=> K e (stOf nt so (g y))
 | .two sp so1 so2 Y Z l e1 e2 g1 _ g2 _=> (viewN nt st sp).bind fun x=> (l k x).bind fun y=> match y with
  | .inl z=> K e1 (stOf nt so1 (g1 z))
  | .inr z=> K e2 (stOf nt so2 (g2 z))
def exEq : Ex -> Ex -> Bool
 | .exit a, .exit b=> Nat.beq a b
 | .ret, .ret=> true
 | _, _=> false
theorem exEq_eq {a b : Ex} (h : exEq a b = true) : a = b /\ a ≠ .normal:= by
 cases a <;> cases b <;> first
  | exact Bool.noConfusion h
  | (have := Nat.eq_of_beq_eq_true h; subst this; exact ⟨rfl, by simp⟩)
  | exact ⟨rfl, by simp⟩
@[reducible] def LArm.sp : LArm -> List Sp
 | .one sp ..=> sp
 | .two sp ..=> sp
@[reducible] def LArm.Y : LArm -> Type
 | .one _ _ Y ..=> Y
 | .two _ _ _ Y Z ..=> Sum Y Z
def LArm.l : (A : LArm) -> Nat -> SX A.sp -> Option A.Y
 | .one _ _ _ l _ _ _=> l
 | .two _ _ _ _ _ l _ _ _ _ _ _=> l
def LArm.cont (nt k : Nat) : (A : LArm) -> Ex -> St -> Option A.Y
 | .one sp so Y l e g h, e', st=> match e' with
  | .normal=> (viewN nt st sp).bind fun x=> l k x
  | e'=> match exEq e' e with
   | true=> (viewN nt st so).bind fun x=> some (h x)
   | false=> none
 | .two sp so1 so2 Y Z l e1 e2 g1 h1 g2 h2, e', st=> match e' with
  | .normal=> (viewN nt st sp).bind fun x=> l k x
  | e'=> match exEq e' e1 with
   | true=> (viewN nt st so1).bind fun x=> some (.inl (h1 x))
   | false=> match exEq e' e2 with
    | true=> (viewN nt st so2).bind fun x=> some (.inr (h2 x))
    | false=> none
def LArm.Ok : LArm -> Prop
 | .one sp so Y l e g h=> spOk sp = true /\ spOk so = true /\ (∀ x, l 0 x = none) /\ ∀ x, g (h x) = x
 | .two sp so1 so2 Y Z l e1 e2 g1 h1 g2 h2=> spOk sp = true /\ spOk so1 = true /\ spOk so2 = true /\ (∀ x, l 0 x = none) /\ (∀ x, g1 (h1 x) = x) /\ ∀ x, g2 (h2 x) = x
def tabL (nt k : Nat) (t : Nat -> Option LArm) : LOrc := fun b st K=> match t b with
 | some A=> A.run nt k st K
 | none=> none
theorem tabL_is (nt k : Nat) (t : Nat -> Option LArm) : LIs (tabL nt k t) (LG (tabL nt k t)):= by
 intro R b st K r h
 unfold LG
 unfold tabL at h ⊢
 dsimp only at h ⊢
 split at h
 ·rename_i A hA
  cases A with
  | one sp so Y l e g h'=>
   unfold LArm.run at h ⊢
   obtain ⟨x, hx, h⟩ := Option.bind_eq_some_iff.1 h
   obtain ⟨y, hy, h⟩ := Option.bind_eq_some_iff.1 h
   exact ⟨_, _, by simp only [hx, hy, Option.bind_some], h⟩
  | two sp so1 so2 Y Z l e1 e2 g1 h1 g2 h2=>
   unfold LArm.run at h ⊢
   obtain ⟨x, hx, h⟩ := Option.bind_eq_some_iff.1 h
   obtain ⟨y, hy, h⟩ := Option.bind_eq_some_iff.1 h
   cases y with
   | inl z=> exact ⟨_, _, by simp only [hx, hy, Option.bind_some], h⟩
   | inr z=> exact ⟨_, _, by simp only [hx, hy, Option.bind_some], h⟩
 ·cases h
theorem tabL_zero {nt : Nat} {t : Nat -> Option LArm} (hok : ∀ b A, t b = some A -> A.Ok) : ∀ b st e st', ¬ LG (tabL nt 0 t) b st e st':= by
 intro b st e st' h
 unfold LG tabL at h
 dsimp only at h
 split at h
 ·rename_i A hA
  have := hok b A hA
  cases A with
  | one sp so Y l e g h'=>
   unfold LArm.run at h
   obtain ⟨x, hx, h⟩ := Option.bind_eq_some_iff.1 h
   rw [this.2.2.1] at h; cases h
  | two sp so1 so2 Y Z l e1 e2 g1 h1 g2 h2=>
   unfold LArm.run at h
   obtain ⟨x, hx, h⟩ := Option.bind_eq_some_iff.1 h
   rw [this.2.2.2.1] at h; cases h
 ·cases h
theorem tabL_step {E : Env} {C : Nat -> Orc} {nt : Nat} {t : Nat -> Option LArm} {fn : Func} (hok : ∀ b A, t b = some A -> A.Ok)
  (hS : ∀ b A, t b = some A -> ∀ k x, runC E (C k) (tabL nt k t) b (loopAt fn b) (stOf nt A.sp x) (A.cont nt k) = A.l (k + 1) x) :
  ∀ k b e st st', LG (tabL nt (k + 1) t) b st e st' -> StepOk E (C k) (tabL nt k t) nt (loopAt fn b) b e st st':= by
 intro k b e st st' h
 unfold LG at h
 unfold tabL at h
 dsimp only at h
 split at h
 ·rename_i A hA
  have ho := hok b A hA
  have hs := hS b A hA k
  cases A with
  | one sp so Y l e1 g h'=>
   unfold LArm.run at h
   obtain ⟨x, hx, h⟩ := Option.bind_eq_some_iff.1 h
   obtain ⟨y, hy, h⟩ := Option.bind_eq_some_iff.1 h
   simp only [Option.some.injEq, Prod.mk.injEq] at h
   obtain ⟨rfl, rfl⟩ := h
   refine ⟨sp, x, ho.1, hx, Y, y, _, (hs x).trans hy, fun e' st1 hc=> ?_⟩
   unfold LArm.cont at hc
   dsimp only at hc
   split at hc
   ·obtain ⟨x1, hx1, hl⟩ := Option.bind_eq_some_iff.1 hc
    refine .inl ⟨rfl, ?_⟩
    unfold LG tabL
    simp only [hA, LArm.run, hx1, hl, Option.bind_some]
   ·split at hc
    ·rename_i hne he
     obtain ⟨rfl, hn⟩ := exEq_eq he
     obtain ⟨x1, hx1, hl⟩ := Option.bind_eq_some_iff.1 hc
     cases hl
     exact .inr ⟨rfl, hn, so, x1, ho.2.1, hx1, by rw [ho.2.2.2]⟩
    ·cases hc
  | two sp so1 so2 Y Z l e1 e2 g1 h1 g2 h2=>
   unfold LArm.run at h
   obtain ⟨x, hx, h⟩ := Option.bind_eq_some_iff.1 h
   obtain ⟨y, hy, h⟩ := Option.bind_eq_some_iff.1 h
   refine ⟨sp, x, ho.1, hx, Sum Y Z, y, _, (hs x).trans hy, fun e' st1 hc=> ?_⟩
   unfold LArm.cont at hc
   dsimp only at hc
   split at hc
   ·obtain ⟨x1, hx1, hl⟩ := Option.bind_eq_some_iff.1 hc
    refine .inl ⟨rfl, ?_⟩
    unfold LG tabL
    simp only [hA, LArm.run, hx1, hl, Option.bind_some]
    exact h
   ·split at hc
    ·rename_i hne he
     obtain ⟨rfl, hn⟩ := exEq_eq he
     obtain ⟨x1, hx1, hl⟩ := Option.bind_eq_some_iff.1 hc
     cases hl
     simp only [Option.some.injEq, Prod.mk.injEq] at h
     obtain ⟨rfl, rfl⟩ := h
     exact .inr ⟨rfl, hn, so1, x1, ho.2.1, hx1, by rw [ho.2.2.2.2.1]⟩
    ·split at hc
     ·rename_i hne he' he
      obtain ⟨rfl, hn⟩ := exEq_eq he
      obtain ⟨x1, hx1, hl⟩ := Option.bind_eq_some_iff.1 hc
      cases hl
      simp only [Option.some.injEq, Prod.mk.injEq] at h
      obtain ⟨rfl, rfl⟩ := h
      exact .inr ⟨rfl, hn, so2, x1, ho.2.2.1, hx1, by rw [ho.2.2.2.2.2]⟩
     ·cases hc
 ·cases h
theorem fun_plain {P : Program} {E : Env} {pv : Nat -> Value} (hE : EnvOk P E) {t : Cal -> Option CArm} (hG : ∀ cal A, t cal = some A -> ArmOk P E pv cal A) {f : FuncId} {fn : Func} {c : Code} (hf : P.funcs[f]? = some fn) (hb : fn.body = some c)
  (hname : (fn.name == "runtime.NumGoroutine") = false) {args : List AV} (hn : Nat.ble args.length fn.ntmps = true) {R : Type} {K : AV -> Option R} {y : R} (hrun : runF E (tabC t) (tabL fn.ntmps 0 fun _=> none) fn args K = some y) {r' : AV} (hw : ∀ r, K r = some y -> Wk r r') :
  Meets P E pv (.f f) args r' :=
 fun_good hE (tabC_is t) (tabL_is _ _ _) (tabC_ok hG) hf hb hname (no_loops (fun b st e st' h=> by unfold LG tabL at h; cases h) _) (Nat.le_of_ble_eq_true hn) hrun hw
theorem fun_loops {P : Program} {E : Env} {pv : Nat -> Value} (hE : EnvOk P E) {t : Nat -> Cal -> Option CArm} (k : Nat) (hG : ∀ k', k' <= k -> ∀ cal A, t k' cal = some A -> ArmOk P E pv cal A) {f : FuncId} {fn : Func} {c : Code} (hf : P.funcs[f]? = some fn) (hb : fn.body = some c)
  (hname : (fn.name == "runtime.NumGoroutine") = false) {args : List AV} (hn : Nat.ble args.length fn.ntmps = true) {lt : Nat -> Option LArm} (hok : loopsOk fn = true) (hlt : ∀ b A, lt b = some A -> A.Ok)
  (hS : ∀ b A, lt b = some A -> ∀ k x, runC E (tabC (t k)) (tabL fn.ntmps k lt) b (loopAt fn b) (stOf fn.ntmps A.sp x) (A.cont fn.ntmps k) = A.l (k + 1) x)
  {R : Type} {K : AV -> Option R} {y : R} (hrun : runF E (tabC (t k)) (tabL fn.ntmps k lt) fn args K = some y) {r' : AV} (hw : ∀ r, K r = some y -> Wk r r') : Meets P E pv (.f f) args r' :=
 fun_good hE (tabC_is _) (tabL_is _ _ _) (tabC_ok (hG k (Nat.le_refl k))) hf hb hname (fun w0 B p hp st e st' S ρ a w Q h hs hgl hQ=>
  wp_loop_rounds k (rounds_ok hE (C := fun k=> tabC (t k)) (L := fun k=> tabL fn.ntmps k lt) (fun k=> tabC_is _) (fun k=> tabL_is _ _ _) hb hok (n := k) (fun k' hk'=> tabC_ok (hG k' (Nat.le_of_lt hk'))) (tabL_zero hlt) (fun k b e st st' _ h=> tabL_step (C := fun k=> tabC (t k)) hlt hS k b e st st' h) k (Nat.le_refl k) w0 B p hp st e st' S ρ a w Q h hs hgl hQ)) (Nat.le_of_ble_eq_true hn) hrun hw
theorem view_int {r : AV} {y : Int} (h : viewR1 (.t (.int .i64)) r = some y) : r = .t (.int .i64) y:= by
 simp only [viewR1, RK.view] at h
 split at h
 ·cases h
 ·split at h
  ·rename_i b hb
   obtain ⟨x, rfl⟩ := implode_nt hb
   have := implode_ag hb
   simp only [asT] at h
   split at h
   ·rename_i e; subst e; cases this
   ·cases h
  ·cases h
 ·rcases asT_form h with rfl | rfl
  ·rfl
  ·simp [asT] at h
theorem funPc_good {P : Program} {E : Env} {pv : Nat -> Value} (hE : EnvOk P E) (hO : pvO pv = true) (hQ : pvQ pv = true) {C : Orc} {L : LOrc} (hC : OrcIs C (CG C)) (hL : LIs L (LG L)) (hG : GOk P E pv (CG C)) {f : FuncId} {fn : Func} {c : Code} (hf : P.funcs[f]? = some fn) (hb : fn.body = some c) (hname : (fn.name == "runtime.NumGoroutine") = false)
  (hl : ∀ w0 B, ∀ p ∈ loopsOf 0 c, LoopSound P E w0 B pv p.2 (LG L p.1)) {args : List AV} (hn : args.length <= fn.ntmps) {R : Type} {K : AV -> Option R} {y : R} (hrun : runPc E C L fn args K = some y) {r' : AV} (hw : ∀ r, K r = some y -> Wk r r') : Meets P E pv (.f f) args r':= by
 obtain ⟨c', τ, x, e, st, a, hfr, hk⟩ := runPc_rel hC hL hrun
 have hcc : c' = c:= by have := hfr.body; rw [hb] at this; cases this; rfl
 subst hcc
 exact Goes.mono (funPc_meets hE hG hO hQ hf hname hfr hn hl) (hw _ hk) fun _ _ _ h=> h
theorem funPc_plain {P : Program} {E : Env} {pv : Nat -> Value} (hE : EnvOk P E) (hO : pvO pv = true) (hQ : pvQ pv = true) {t : Cal -> Option CArm} (hG : ∀ cal A, t cal = some A -> ArmOk P E pv cal A) {f : FuncId} {fn : Func} {c : Code} (hf : P.funcs[f]? = some fn) (hb : fn.body = some c)
  (hname : (fn.name == "runtime.NumGoroutine") = false) {args : List AV} (hn : Nat.ble args.length fn.ntmps = true) {R : Type} {K : AV -> Option R} {y : R} (hrun : runPc E (tabC t) (tabL fn.ntmps 0 fun _=> none) fn args K = some y) {r' : AV} (hw : ∀ r, K r = some y -> Wk r r') :
  Meets P E pv (.f f) args r' :=
 funPc_good hE hO hQ (tabC_is t) (tabL_is _ _ _) (tabC_ok hG) hf hb hname (no_loops (fun b st e st' h=> by unfold LG tabL at h; cases h) _) (Nat.le_of_ble_eq_true hn) hrun hw
theorem funD_good {P : Program} {E : Env} {pv : Nat -> Value} (hE : EnvOk P E) {C : Orc} {L : LOrc} (hC : OrcIs C (CG C)) (hL : LIs L (LG L)) (hG : GOk P E pv (CG C)) {f : FuncId} {fn : Func} {c : Code} (hf : P.funcs[f]? = some fn) (hb : fn.body = some c) (hname : (fn.name == "runtime.NumGoroutine") = false)
  (hl : ∀ w0 B, ∀ p ∈ loopsOf 0 c, LoopSound P E w0 B pv p.2 (LG L p.1)) (hn : 2 <= fn.ntmps) {τ : Ty} (hsl : slT τ = true) {x : den τ} {k : Int} {R : Type} {K : AV -> Option R} {y : R} (hrun : runD E C L fn τ x k K = some y) {m : Int} (hw : ∀ r, K r = some y -> r = .t (.int .i64) m) : MeetsD P E pv f τ x k m:= by
 obtain ⟨c', m', e, st, hfr, hk⟩ := runD_rel hC hL hrun
 have hcc : c' = c:= by have := hfr.body; rw [hb] at this; cases this; rfl
 subst hcc
 have := hw _ hk
 cases this
 exact funD_meets hE hG hf hname hfr hsl hn hl
theorem funD_plain {P : Program} {E : Env} {pv : Nat -> Value} (hE : EnvOk P E) {t : Cal -> Option CArm} (hG : ∀ cal A, t cal = some A -> ArmOk P E pv cal A) {f : FuncId} {fn : Func} {c : Code} (hf : P.funcs[f]? = some fn) (hb : fn.body = some c)
  (hname : (fn.name == "runtime.NumGoroutine") = false) (hn : Nat.ble 2 fn.ntmps = true) {τ : Ty} (hsl : slT τ = true) {x : den τ} {k : Int} {R : Type} {K : AV -> Option R} {y : R} (hrun : runD E (tabC t) (tabL fn.ntmps 0 fun _=> none) fn τ x k K = some y) {m : Int} (hw : ∀ r, K r = some y -> r = .t (.int .i64) m) : MeetsD P E pv f τ x k m :=
 funD_good hE (tabC_is t) (tabL_is _ _ _) (tabC_ok hG) hf hb hname (no_loops (fun b st e st' h=> by unfold LG tabL at h; cases h) _) (Nat.le_of_ble_eq_true hn) hsl hrun hw
theorem funD_loops {P : Program} {E : Env} {pv : Nat -> Value} (hE : EnvOk P E) {t : Nat -> Cal -> Option CArm} (k : Nat) (hG : ∀ k', k' <= k -> ∀ cal A, t k' cal = some A -> ArmOk P E pv cal A) {f : FuncId} {fn : Func} {c : Code} (hf : P.funcs[f]? = some fn) (hb : fn.body = some c)
  (hname : (fn.name == "runtime.NumGoroutine") = false) (hn : Nat.ble 2 fn.ntmps = true) {lt : Nat -> Option LArm} (hok : loopsOk fn = true) (hlt : ∀ b A, lt b = some A -> A.Ok)
  (hS : ∀ b A, lt b = some A -> ∀ k x, runC E (tabC (t k)) (tabL fn.ntmps k lt) b (loopAt fn b) (stOf fn.ntmps A.sp x) (A.cont fn.ntmps k) = A.l (k + 1) x)
  {τ : Ty} (hsl : slT τ = true) {x : den τ} {k0 : Int} {R : Type} {K : AV -> Option R} {y : R} (hrun : runD E (tabC (t k)) (tabL fn.ntmps k lt) fn τ x k0 K = some y) {m : Int} (hw : ∀ r, K r = some y -> r = .t (.int .i64) m) : MeetsD P E pv f τ x k0 m :=
 funD_good hE (tabC_is _) (tabL_is _ _ _) (tabC_ok (hG k (Nat.le_refl k))) hf hb hname (fun w0 B p hp st e st' S ρ a w Q h hs hgl hQ=>
  wp_loop_rounds k (rounds_ok hE (C := fun k=> tabC (t k)) (L := fun k=> tabL fn.ntmps k lt) (fun k=> tabC_is _) (fun k=> tabL_is _ _ _) hb hok (n := k) (fun k' hk'=> tabC_ok (hG k' (Nat.le_of_lt hk'))) (tabL_zero hlt) (fun k b e st st' _ h=> tabL_step (C := fun k=> tabC (t k)) hlt hS k b e st st' h) k (Nat.le_refl k) w0 B p hp st e st' S ρ a w Q h hs hgl hQ)) (Nat.le_of_ble_eq_true hn) hsl hrun hw
end Go.Gx
end
section
/- Rows: data that was trodden is plain data in memory; a law's contract out of its call's answer. -/
namespace Go.Gx
open Go.RowKit Go.ChangeShapes Go.WideShapes
inductive WF : (τ : Ty) -> den τ -> Prop
 | int (k : IntKind) (n : Int) (h : (Lit.int k n).wf = true) : WF (.int k) n
 | bool (b : Bool) : WF .bool b
 | str (s : ByteArray) (h : s.size <= maxLen) : WF .str s
 | sl (e : Ty) (xs : List (den e)) (hm : xs.length <= maxLen) (h : ∀ i (hi : i < xs.length), WF e xs[i]) : WF (.sl e) xs
 | date (d : Date) (hy : WF (.int .i64) d.y) (hm : WF (.int .i64) d.m) (hd : WF (.int .i64) d.d) : WF .date d
 | abbr (a : Abbr) (h1 : WF .str a.word) (h2 : WF .str a.short) : WF .abbr a
 | name (n : Name) (h1 : WF (.sl .str) n.given) (h2 : WF .str n.particle) (h3 : WF .str n.family) (h4 : WF .str n.suffix) : WF .name n
 | entry (e : Entry) (h1 : WF .str e.key) (h2 : WF (.int .i64) e.kind) (h3 : WF (.sl .name) e.authors) (h4 : WF (.sl .name) e.editors) (h5 : WF .str e.title) (h6 : WF .str e.container) (h7 : WF .str e.publisher)
   (h8 : WF .date e.date) (h9 : WF (.int .i64) e.volume) (h10 : WF .str e.pages) (h11 : WF .str e.cross) : WF .entry e
 | lib (l : Library) (h : WF (.sl .entry) l.entries) : WF .lib l
 | cur (q : Cur) (h1 : WF (.sl (.int .u8)) q.code) (h2 : WF (.int .i64) q.at_) (h3 : WF (.int .u64) q.seed) : WF .cur q
 | query (q : Query) (h1 : WF (.int .i64) q.op) (h2 : WF .str q.field) (h3 : WF .str q.word) (h4 : WF (.sl .query) q.parts) : WF .query q
def noA : Ty -> Bool
 | .arr _ _=> false
 | .sl e=> noA e
 | _=> true
section
variable {H : Type} {enc : TypeId × Value -> H} {P : Program} {E : Env} {w : World} {spare : Nat -> Bool} {held : Bool} {S : Nat -> Prop}
abbrev Lt (w : World) : Nat -> Prop := fun b=> b < w.heap.size
theorem cell_lt {a : Addr} {v : Value} (h : w.cell? a = some v) : a.block < w.heap.size:= by
 unfold World.cell? at h
 split at h
 ·rename_i c e f hb; exact (Array.getElem?_eq_some_iff.1 hb).1
 ·cases h
theorem trod_cr (hty : ∀ T τ, E.ty T = some τ -> TyOk P E T τ) : ∀ (fuel : Nat) (T : Nat) (τ : Ty) (cs : List Value) (y : DataW H × List MemPlace), noA τ = true -> E.ty T = some τ -> DataW.trod enc P w 0 spare held fuel T cs = some y -> ∃ x : den τ, WF τ x /\ CR (Lt w) w τ x cs
 | 0, T, τ, cs, y, _, _, h=> by simp [DataW.trod] at h
 | fuel + 1, T, τ, cs, y, hn, hT, h=> by
  have ih := trod_cr hty fuel
  have hu := hty T τ hT
  obtain ⟨i, hi, hsz, -, -⟩ := hu.info
  have hcells : P.cellsOf T = nc τ:= by simp [Program.cellsOf, hi, hsz]
  have cellsOf : ∀ {t σ}, E.ty t = some σ -> P.cellsOf t = nc σ := fun {t σ} ht=> by
   obtain ⟨i, hi, hsz, -, -⟩ := (hty t σ ht).info
   simp [Program.cellsOf, hi, hsz]
  have hund := hu.und
  -- a struct's fields
  have fields : ∀ fs, P.underlying T = some (.struct fs) -> fs.size = (fty τ).length -> (∀ (f : Nat) (d : Field), fs[f]? = some d -> ∃ σ, (fty τ)[f]? = some σ /\ d.offset = offL (fty τ) f /\ E.ty d.type = some σ) ->
    cs.length = nc τ /\ ∀ (f : Nat) σ, (fty τ)[f]? = some σ -> noA σ = true -> ∃ x : den σ, WF σ x /\ CR (Lt w) w σ x ((cs.drop (offL (fty τ) f)).take (nc σ)) := fun fs hfs hl hf=> by
   obtain ⟨xs, n, hn, _, hlen, hxl, hx⟩ := DataW.trod_struct hfs h
   cases hn
   refine ⟨hlen.trans hcells, fun f σ hσ hno=> ?_⟩
   have hfl : f < fs.size:= by have := (List.getElem?_eq_some_iff.1 hσ).1; omega
   obtain ⟨σ', h1, h2, h3⟩ := hf f fs[f] (Array.getElem?_eq_getElem hfl)
   rw [hσ] at h1
   cases h1
   have h4 := hx f fs[f] (Array.getElem?_eq_getElem hfl)
   rw [List.getElem?_eq_getElem (show f < xs.length by omega), h2, cellsOf h3] at h4
   exact ih _ σ _ _ hno h3 h4
  cases τ with
  | int k=> obtain ⟨n, rfl, _, hw⟩ := DataW.trod_int hund h; exact ⟨n, .int k n hw, .int k n⟩
  | bool=> obtain ⟨b, rfl, _⟩ := DataW.trod_bool hund h; exact ⟨b, .bool b, .bool b⟩
  | str=> obtain ⟨s, rfl, _, hs⟩ := DataW.trod_string hund h; exact ⟨s, .str s hs, .str s⟩
  | arr n e=> cases hn
  | sl e=>
   obtain ⟨t, h1, h2, h3, h4, h5⟩ := hund
   rcases DataW.trod_slice h1 h with ⟨rfl, _⟩ | ⟨a, len, cap, elems, rest, n, hfn, rfl, _, hb, hl, hm, hlen, hel, _⟩
   ·exact ⟨[], .sl e [] (Nat.zero_le _) (fun i hi=> absurd hi (Nat.not_lt_zero i)), cr_nil _ _ e⟩
   ·cases hfn
    have key : ∀ i, ∃ x : den e, ∃ c : List Value, i < len -> WF e x /\ CR (Lt w) w e x c /\ a.spot = none /\ a.block < w.heap.size /\ ∀ j v, c[j]? = some v -> w.cell? ⟨a.block, a.off + (i * nc e + j), none⟩ = some v := fun i=> by
     by_cases hi : i < len
     ·have h6 := hel i hi
      rw [List.getElem?_eq_getElem (show i < elems.length by omega)] at h6
      obtain ⟨c, h7, h8⟩ := Option.bind_eq_some_iff.1 h6
      rw [cellsOf h3] at h7
      obtain ⟨x, h9, h10⟩ := ih t e c _ hn h3 h8
      obtain ⟨_, hcl, hcc⟩ := World.cells?_some h7
      have hcell : ∀ j v, c[j]? = some v -> w.cell? ((a.add (i * nc e)).add j) = some v := fun j v hj=> by
       have : j < c.length := (List.getElem?_eq_some_iff.1 hj).1
       rw [hcc j (by omega), hj]
      have h0 : ∃ v, c[0]? = some v := ⟨c[0], List.getElem?_eq_getElem (by omega)⟩
      obtain ⟨v0, hv0⟩ := h0
      have hlt : a.block < w.heap.size:= by
       have := cell_lt (hcell 0 v0 hv0)
       simpa [Addr.add] using (show (a.add (i * nc e)).block < w.heap.size by simpa [Addr.add] using this) |> fun h=> by unfold Addr.add at h; split at h <;> exact h
      have hsp : a.spot = none:= by
       have h11 := hel 0 (by omega)
       rw [List.getElem?_eq_getElem (show 0 < elems.length by omega)] at h11
       obtain ⟨c', h12, _⟩ := Option.bind_eq_some_iff.1 h11
       rw [cellsOf h3] at h12
       obtain ⟨_, hcl', hcc'⟩ := World.cells?_some h12
       have h13 := hcc' 0 (by omega)
       rw [List.getElem?_eq_getElem (show 0 < c'.length by omega)] at h13
       have := World.cell?_spot h13
       simpa [Addr.add] using this
      refine ⟨x, c, fun _=> ⟨h9, h10, hsp, hlt, fun j v hj=> ?_⟩⟩
      have := hcell j v hj
      rw [Go.Deep.add_add] at this
      obtain ⟨ab, ao, asp⟩ := a
      cases hsp
      simp only [Addr.add] at this
      split at this
      ·rename_i hz
       have h14 : i * nc e + j = 0 := hz
       rw [h14]; exact this
      ·exact this
     ·exact ⟨dflt e, [], fun h=> absurd h hi⟩
    let xf := fun i=> Classical.choose (key i)
    have hxf : ∀ i, ∃ c : List Value, i < len -> WF e (xf i) /\ CR (Lt w) w e (xf i) c /\ a.spot = none /\ a.block < w.heap.size /\ ∀ j v, c[j]? = some v -> w.cell? ⟨a.block, a.off + (i * nc e + j), none⟩ = some v := fun i=> Classical.choose_spec (key i)
    let cf := fun i=> Classical.choose (hxf i)
    have hcf := fun i=> Classical.choose_spec (hxf i)
    have hxl : ((List.range len).map xf).length = len:= by simp
    refine ⟨(List.range len).map xf, .sl e _ (by rw [hxl]; omega) (fun i hi=> ?_), ?_⟩
    ·rw [hxl] at hi
     simp only [List.getElem_map, List.getElem_range]
     exact (hcf i hi).1
    ·have := CR.sl (S := Lt w) (w := w) e ((List.range len).map xf) (some a) cap cf (by rw [hxl]; exact hl) hm (fun i hi=> by
      rw [hxl] at hi
      simp only [List.getElem_map, List.getElem_range]
      exact (hcf i hi).2.1) (fun i hi=> by
      rw [hxl] at hi
      obtain ⟨_, _, h6, h7, h8⟩ := hcf i hi
      obtain ⟨ab, ao, asp⟩ := a
      cases h6
      exact ⟨ab, ao, rfl, h7, h8⟩)
     rw [hxl] at this
     exact this
  | date=>
   obtain ⟨fs, h1, h2, h3⟩ := hund
   obtain ⟨hl, hf⟩ := fields fs h1 h2 h3
   match cs, hl with
   | [c0, c1, c2, c3], _=>
    obtain ⟨x0, g0, k0⟩ := hf 0 _ rfl rfl
    obtain ⟨x1, g1, k1⟩ := hf 1 _ rfl rfl
    obtain ⟨x2, g2, k2⟩ := hf 2 _ rfl rfl
    obtain ⟨x3, g3, k3⟩ := hf 3 _ rfl rfl
    simp [offL, nc] at k0 k1 k2 k3
    cases k0; cases k1; cases k2; cases k3
    exact ⟨⟨x0, x1, x2, x3⟩, .date _ g0 g1 g2, .date ⟨x0, x1, x2, x3⟩⟩
  | abbr=>
   obtain ⟨fs, h1, h2, h3⟩ := hund
   obtain ⟨hl, hf⟩ := fields fs h1 h2 h3
   match cs, hl with
   | [c0, c1], _=>
    obtain ⟨x0, g0, k0⟩ := hf 0 _ rfl rfl
    obtain ⟨x1, g1, k1⟩ := hf 1 _ rfl rfl
    simp [offL, nc] at k0 k1
    cases k0; cases k1
    exact ⟨⟨x0, x1⟩, .abbr _ g0 g1, .abbr ⟨x0, x1⟩⟩
  | cur=>
   obtain ⟨fs, h1, h2, h3⟩ := hund
   obtain ⟨hl, hf⟩ := fields fs h1 h2 h3
   match cs, hl with
   | [c0, c1, c2], _=>
    obtain ⟨x0, g0, k0⟩ := hf 0 _ rfl rfl
    obtain ⟨x1, g1, k1⟩ := hf 1 _ rfl rfl
    obtain ⟨x2, g2, k2⟩ := hf 2 _ rfl rfl
    simp [offL, nc] at k0 k1 k2
    obtain ⟨v, rfl⟩ : ∃ v, c0 = v := ⟨_, rfl⟩
    cases k1; cases k2
    exact ⟨⟨x0, x1, x2⟩, .cur _ g0 g1 g2, .cur ⟨x0, x1, x2⟩ _ k0⟩
  | name=>
   obtain ⟨fs, h1, h2, h3⟩ := hund
   obtain ⟨hl, hf⟩ := fields fs h1 h2 h3
   match cs, hl with
   | [c0, c1, c2, c3], _=>
    obtain ⟨x0, g0, k0⟩ := hf 0 _ rfl rfl
    obtain ⟨x1, g1, k1⟩ := hf 1 _ rfl rfl
    obtain ⟨x2, g2, k2⟩ := hf 2 _ rfl rfl
    obtain ⟨x3, g3, k3⟩ := hf 3 _ rfl rfl
    simp [offL, nc] at k0 k1 k2 k3
    cases k1; cases k2; cases k3
    exact ⟨⟨x0, x1, x2, x3⟩, .name _ g0 g1 g2 g3, .name ⟨x0, x1, x2, x3⟩ _ k0⟩
  | query=>
   obtain ⟨fs, h1, h2, h3⟩ := hund
   obtain ⟨hl, hf⟩ := fields fs h1 h2 h3
   match cs, hl with
   | [c0, c1, c2, c3], _=>
    obtain ⟨x0, g0, k0⟩ := hf 0 _ rfl rfl
    obtain ⟨x1, g1, k1⟩ := hf 1 _ rfl rfl
    obtain ⟨x2, g2, k2⟩ := hf 2 _ rfl rfl
    obtain ⟨x3, g3, k3⟩ := hf 3 _ rfl rfl
    simp [offL, nc] at k0 k1 k2 k3
    cases k0; cases k1; cases k2
    exact ⟨.mk x0 x1 x2 x3, .query _ g0 g1 g2 g3, .query (.mk x0 x1 x2 x3) _ k3⟩
  | lib=>
   obtain ⟨fs, h1, h2, h3⟩ := hund
   obtain ⟨hl, hf⟩ := fields fs h1 h2 h3
   match cs, hl with
   | [c0], _=>
    obtain ⟨x0, g0, k0⟩ := hf 0 _ rfl rfl
    simp [offL, nc] at k0
    exact ⟨⟨x0⟩, .lib _ g0, .lib ⟨x0⟩ _ k0⟩
  | entry=>
   obtain ⟨fs, h1, h2, h3⟩ := hund
   obtain ⟨hl, hf⟩ := fields fs h1 h2 h3
   match cs, hl with
   | [c0, c1, c2, c3, c4, c5, c6, c7, c8, c9, c10, c11, c12, c13], _=>
    obtain ⟨x0, g0, k0⟩ := hf 0 _ rfl rfl
    obtain ⟨x1, g1, k1⟩ := hf 1 _ rfl rfl
    obtain ⟨x2, g2, k2⟩ := hf 2 _ rfl rfl
    obtain ⟨x3, g3, k3⟩ := hf 3 _ rfl rfl
    obtain ⟨x4, g4, k4⟩ := hf 4 _ rfl rfl
    obtain ⟨x5, g5, k5⟩ := hf 5 _ rfl rfl
    obtain ⟨x6, g6, k6⟩ := hf 6 _ rfl rfl
    obtain ⟨x7, g7, k7⟩ := hf 7 _ rfl rfl
    obtain ⟨x8, g8, k8⟩ := hf 8 _ rfl rfl
    obtain ⟨x9, g9, k9⟩ := hf 9 _ rfl rfl
    obtain ⟨x10, g10, k10⟩ := hf 10 _ rfl rfl
    simp [offL, nc] at k0 k1 k2 k3 k4 k5 k6 k7 k8 k9 k10
    cases k0; cases k1; cases k4; cases k5; cases k6; cases k7; cases k8; cases k9; cases k10
    exact ⟨⟨x0, x1, x2, x3, x4, x5, x6, x7, x8, x9, x10⟩, .entry _ g0 g1 g2 g3 g4 g5 g6 g7 g8 g9 g10, .entry ⟨x0, x1, x2, x3, x4, x5, x6, x7, x8, x9, x10⟩ _ _ k2 k3⟩
def WFs : (l : List Ty) -> TX l -> Prop
 | [], _=> True
 | τ :: l, x=> WF τ x.1 /\ WFs l x.2
def parsOk (E : Env) : List Nat -> List Ty -> Bool
 | [], []=> true
 | T :: l, τ :: m=> (match E.ty T with
  | some σ=> sameTy σ τ
  | none=> false) && (noA τ && parsOk E l m)
 | _, _=> false
theorem val_of (hty : ∀ T τ, E.ty T = some τ -> TyOk P E T τ) {T : Nat} {τ : Ty} (hn : noA τ = true) (hT : E.ty T = some τ) {base : Nat} {v : Value} (hv : Value.okWide P w .any base T v) {x : den τ} {S : Nat -> Prop} : v = valOf (.t τ x) v.cells.toList:= by
 have hund := (hty T τ hT).und
 cases τ with
 | int k=> obtain ⟨n, rfl⟩ := okWide_int hund hv; rfl
 | bool=> obtain ⟨n, rfl⟩ := okWide_bool hund hv; rfl
 | str=> obtain ⟨n, rfl⟩ := okWide_string hund hv; rfl
 | sl e=> obtain ⟨t, h1, _⟩ := hund; obtain ⟨a, l, c, rfl⟩ := okWide_slice h1 hv; rfl
 | arr n e=> cases hn
 | date | name | entry | lib | abbr | query | cur=> obtain ⟨fs, h1, _⟩ := hund; obtain ⟨cs, rfl, _⟩ := okWide_struct h1 hv; rfl
theorem args_open (hty : ∀ T τ, E.ty T = some τ -> TyOk P E T τ) {base : Nat} {pv : Nat -> Value} : ∀ {Ts : List Nat} {τs : List Ty} {vs : List Value} {ds : List (DataW H)} {ps : List MemPlace}, parsOk E Ts τs = true -> DataW.TrodAll enc P w 0 spare held Ts vs ds ps ->
  (∀ (j : Nat) t v, Ts[j]? = some t -> vs[j]? = some v -> Value.okWide P w .any base t v) -> ∃ x : TX τs, WFs τs x /\ ArgsOk (Lt w) w pv (tvals τs x) vs
 | [], [], [], [], ps, _, _, _=> ⟨(), trivial, rfl, fun i a v h=> by simp [tvals] at h⟩
 | T :: Ts, τ :: τs, vs, ds, ps, hp, h, hv=> by
  obtain ⟨v, vs', d, ds', p, q, rfl, rfl, rfl, hd, hr⟩ := trodAll_cons h
  simp only [parsOk, Bool.and_eq_true] at hp
  obtain ⟨hT, hn, hp⟩ := hp
  cases hE : E.ty T with
  | none=> rw [hE] at hT; cases hT
  | some σ=>
   rw [hE] at hT
   have := sameTy_eq hT
   subst this
   obtain ⟨x, hx, hlen, hargs⟩ := args_open hty (pv := pv) hp hr fun j t v h1 h2=> hv (j + 1) t v (by simpa using h1) (by simpa using h2)
   obtain ⟨fuel, hf⟩ := hd
   obtain ⟨x0, hw0, hc0⟩ := trod_cr hty fuel T σ _ _ hn hE hf
   refine ⟨(x0, x), ⟨hw0, hx⟩, by simp [tvals, hlen], fun i a u h1 h2=> ?_⟩
   cases i with
   | zero=>
    cases h1; cases h2
    exact ⟨_, .t σ x0 _ hc0, val_of hty hn hE (hv 0 T v rfl rfl) (S := Lt w)⟩
   | succ i=> exact hargs i a u (by simpa [tvals] using h1) (by simpa using h2)
 | [], _ :: _, _, _, _, hp, _, _=> by cases hp
 | _ :: _, [], _, _, _, hp, _, _=> by cases hp
 | [], [], _ :: _, _, _, _, h, _=> by cases h
 | [], [], [], _ :: _, _, _, h, _=> by cases h
theorem law_contract (hE : EnvOk P E) {f : FuncId} {fn : Func} {c : Code} (hfn : P.funcs[f]? = some fn) (hbody : fn.body = some c) (hname : (fn.name == "runtime.NumGoroutine") = false) {τs : List Ty} (hps : parsOk E fn.params.toList τs = true) {tb : Nat} (hres : fn.resultTypes = #[tb]) (hb : P.underlying tb = some .bool)
  (hl : laidOutB P = true) (hr : ∀ t ∈ fn.params.toList, P.readableRec t = true /\ t < P.types.size) {s : ChangeSpec}
  {W : World} {base : Nat} {args : Array Value} {ds gs : List (DataW H)} {before : List MemPlace} {r : AV} (hrt : r = .t .bool true)
  (hlaw : ∀ x : TX τs, WFs τs x -> Meets P E (fun _=> undef) (.f f) (tvals τs x) r)
  (hspec : s.fn H (ds ++ gs) = { results := [.lit (.bool true)], args := ds, vars := gs })
  (hval : ∀ (j : Nat) t v, fn.params[j]? = some t -> args[j]? = some v -> Value.okWide P W .any base t v)
  (hW : DataW.Whole enc P fn.params.toList s.vars false W args.toList ds gs before) (hgl : GlOk E (fun _=> undef) (Lt W) W)
  (hv : ∀ q, DataW.TrodVars enc P W (fun _=> true) s.vars gs q -> ∀ W', Below W.heap.size W W' -> DataW.TrodVars enc P W' (fun b=> decide (b < W.heap.size)) s.vars gs q) :
  Calls P f args W fun e W'=> ∃ v, e = .returned v /\ s.post enc P fn false true false false W args v W':= by
 have hW' := hW
 obtain ⟨p, q, hA, hV, rfl, hfz, hnd⟩ := hW
 obtain ⟨x, hx, hargs⟩ := args_open (spare := fun _=> true) (held := true) hE.ty (pv := fun _=> undef) hps hA fun j t v h1 h2=> hval j t v (by simpa using h1) (by simpa using h2)
 subst hrt
 have hgo := hlaw x hx (Lt W) W args.toList (fun b hb=> hb) hgl hargs
 have hcall : (callFunc f args).run P W = .ok (.enter f args) W:= by
  have hn' : fn.name ≠ "runtime.NumGoroutine":= by simpa using hname
  simp [callFunc, hfn, hn', hbody]
 have hgo2 : Calls P f args W fun e w''=> ∃ v, e = .returned v /\ (Below W.heap.size W w'' /\ ∃ S' : Nat -> Prop, (∀ b, Lt W b -> S' b) /\ (∀ b, S' b -> Lt W b \/ (W.heap.size <= b /\ b < w''.heap.size)) /\ RR S' w'' W.heap.size (fun _=> undef) (.t .bool true) v):= by
  have h := hgo
  simp only [Goes] at h
  rw [hcall] at h
  exact h
 refine hgo2.mono fun e W' ⟨v, he, hbl, S', _, _, hrr⟩=> ?_
 subst he
 obtain ⟨g, hr1⟩ := hrr
 have hvb : v = .bool true:= by
  cases hr1 with
  | plain _ cs ha=> cases ha with | t _ _ _ hc=> cases hc; rfl
 subst hvb
 have hlt : ∀ y ∈ p ++ q, y.block < W.heap.size := fun y hy=> hW'.lt y hy
 refine ⟨_, rfl, ds, gs, p ++ q, [], p, q, hW', ?_, ?_, ?_, hbl.frame _, fun h=> by cases h⟩
 ·rw [hspec, hres]
  exact trodAll_mk1 (shut_bool hb true)
 ·rw [hspec]
  have all : ∀ {Ts : List Nat} {vs : List Value} {ds : List (DataW H)} {p : List MemPlace}, DataW.TrodAll enc P W 0 (fun _=> true) true Ts vs ds p -> (∀ t ∈ Ts, P.readableRec t = true /\ t < P.types.size) -> (∀ y ∈ p, y.block < W.heap.size) -> DataW.TrodAll enc P W' 0 (fun b=> decide (b < W.heap.size)) true Ts vs ds p:= by
   intro Ts
   induction Ts with
   | nil=>
    intro vs ds p h _ _
    obtain ⟨rfl, rfl, rfl⟩ := trodAll_nil h
    exact trodAll_mk0
   | cons t Ts ih=>
    intro vs ds p h h1 h2
    obtain ⟨v, vs', d, ds', p1, q1, rfl, rfl, rfl, hd, hr'⟩ := trodAll_cons h
    exact ⟨p1, q1, Go.WideElems.Trod_stays hl (h1 t List.mem_cons_self).1 (h1 t List.mem_cons_self).2 hd (fun y hy=> hbl.same (h2 y (List.mem_append_left _ hy))) (fun y hy=> by simpa using h2 y (List.mem_append_left _ hy)), ih hr' (fun t ht=> h1 t (List.mem_cons_of_mem _ ht)) (fun y hy=> h2 y (List.mem_append_right _ hy)), rfl⟩
  exact all hA hr (fun y hy=> hlt y (List.mem_append_left _ hy))
 ·rw [hspec]
  exact hv q hV W' hbl
end
end Go.Gx
end
section
/- Functions whose answers are trees of their own, functions that mark trees: what is interpreted of them is what the machine does. -/
namespace Go.Gx
open Go.RowKit
section
variable {P : Program} {E : Env} {pv : Nat -> Value} {G : Cal -> List AV -> AV -> Prop} {LG : Nat -> St -> Ex -> St -> Prop}
theorem retAllT_get {st : St} : ∀ {rs as : List AV}, retAllT st rs = some as -> as.length = rs.length /\ ∀ (i : Nat) (b : AV), as[i]? = some b -> ∃ a, rs[i]? = some a /\ retT1 st a = some b
 | [], as, h=> by cases h; exact ⟨rfl, fun i b h=> by simp at h⟩
 | a :: l, as, h=> by
  simp only [retAllT] at h
  split at h
  ·rename_i b hb
   split at h
   ·rename_i m hm
    cases h
    obtain ⟨h1, h2⟩ := retAllT_get hm
    refine ⟨by simp [h1], fun i c hc=> ?_⟩
    cases i with
    | zero=> cases hc; exact ⟨a, rfl, hb⟩
    | succ i=> simpa using h2 i c (by simpa using hc)
   ·cases h
  ·cases h
theorem rt1_ok {w0 w1 : World} {B : Old} {S1 : Nat -> Prop} {ρ : Nat -> Option Loc} {st : St} {a : Act} (hs : Sim w0 B pv S1 ρ st a w1) {n0 : Nat} {O : Nat -> Prop} (hB : ∀ b, ¬ B b -> n0 <= b \/ O b) {r b : AV} {v : Value} (hr : retT1 st r = some b) (hv : VR S1 w1 ρ st.row pv r v) (hd : distinctL (toksN 6 r) = true) :
  (∀ l, b ≠ .tup l) /\ RT1 w1 pv b v (ownB ρ (toksN 6 r)) /\ ∀ x, x ∈ toksN 6 r -> (∃ τ, ∃ y : den τ, b = .tr τ y \/ ∃ e, ∃ xs : List (den τ), b = .fr e τ xs) -> st.row x ≠ none:= by
 have other : (match closeR st.row 6 r with
   | some (.t τ x)=> match slT τ with
    | false=> some (.t τ x)
    | true=> cond (treeN st.row 6 r) (some (.tr τ x)) none
   | _=> none) = some b -> r ≠ .any -> (∀ l, b ≠ .tup l) /\ RT1 w1 pv b v (ownB ρ (toksN 6 r)) /\ ∀ x, x ∈ toksN 6 r -> (∃ τ, ∃ y : den τ, b = .tr τ y \/ ∃ e, ∃ xs : List (den τ), b = .fr e τ xs) -> st.row x ≠ none := fun h hne=> by
  split at h
  ·rename_i τ x hc
   obtain ⟨cs, h1, h2⟩ := vr_ar hv hne
   have hval : v = valOf (.t τ x) cs:= by rw [h2, valOf, valOf, closeR_ag hc]
   split at h
   ·rename_i hsl
    cases h
    have := closeR_ok (ρ0 := fun _=> none) (row0 := fun _=> none) (S1 := fun b=> b < w1.heap.size) hs.hs hs.hs.stab hc h1 (.inl fun _ h=> h)
    rw [hval]
    refine ⟨fun l e=> (by cases e), .flat τ x cs _ hsl (cr_flat hsl (ar_t this)), fun x' _ hx=> ?_⟩
    obtain ⟨τ', y', e | ⟨_, _, e⟩⟩ := hx <;> cases e
   ·rename_i hsl
    obtain ⟨ht, h⟩ := cond_some h
    cases h
    rw [hval]
    exact ⟨fun l e=> (by cases e), .tr τ x cs _ hsl (tree_tr hs.hs ht hc (by simp [asT]) h1 hd), fun x' hx' _=> toks_row ht x' hx'⟩
  ·cases h
 cases r with
 | own id=>
  simp only [retT1] at hr
  split at hr
  ·rename_i e τ xs hrow
   cases hsl : slT τ with
   | true=> rw [hsl] at hr; cases hr
   | false=>
    rw [hsl] at hr
    cases hr
    refine ⟨fun l e=> (by cases e), ?_, fun x hx _=> ?_⟩
    ·rcases vr_own hv hrow with ⟨g, c, hl, rfl⟩ | ⟨hl, rfl, rfl⟩
     ·have := hs.hs.rows id _ _ hrow hl
      refine .fr e τ xs g c _ hsl ⟨id, by simp [toksN], _, hl, rfl⟩ ?_
      obtain ⟨cur, f, h1, h2, h3, h4, h5, h6, h7, h8⟩ := this
      exact ⟨cur, f, h1, h2, h3, h4, h5, h6, h7, fun i hi=> (h8 i hi).imp fun cs hc=> ⟨cr_flat hsl hc.1, hc.2⟩⟩
     ·obtain ⟨_, _, hpos⟩ := hs.hs.rows id _ _ hrow hl
      exact .frNil e τ _ hsl hpos
    ·simp only [toksN, List.mem_singleton] at hx
     subst hx
     rw [hrow]; simp
  ·cases hr
 | nil=>
  cases hr
  have := vr_nil hv
  subst this
  exact ⟨fun l e=> (by cases e), .nil _, fun x hx=> by simp [toksN] at hx⟩
 | any=> simp [retT1, closeR] at hr
 | _=> exact other hr (by simp)
theorem tok_new {w0 w1 : World} {B : Old} {S1 : Nat -> Prop} {ρ : Nat -> Option Loc} {st : St} {a : Act} (hs : Sim w0 B pv S1 ρ st a w1) {n0 : Nat} {O : Nat -> Prop} (hB : ∀ b, ¬ B b -> n0 <= b \/ O b) {ids : List Nat} (h : ∀ x, x ∈ ids -> st.row x ≠ none) : NewB w1 n0 O (ownB ρ ids) := fun b ⟨i, hi, l, hl, hb⟩=> by
 cases hr : st.row i with
 | none=> exact absurd hr (h i hi)
 | some r=> exact ⟨hB b (hs.hs.apart0 i r l b hl hr hb).1, row_ob hs.hs hr hl hb⟩
theorem endT_ok (hE : EnvOk P E) {w0 w1 : World} {B : Old} {S1 : Nat -> Prop} {ρ : Nat -> Option Loc} {st : St} {a : Act} (hs : Sim w0 B pv S1 ρ st a w1) {n0 : Nat} {O : Nat -> Prop} (hB : ∀ b, ¬ B b -> n0 <= b \/ O b) {fn : Func} {rs as : List AV} (hvals : resAll E st fn.results.toList = some rs) (hdis : distinctL (toksL rs) = true) (hret : retAllT st rs = some as) :
  ∃ v, (results fn a.tmps).run P w1 = .ok v w1 /\ RT w1 n0 O pv (one as) v:= by
 obtain ⟨vs', hvl, hvv, hres⟩ := res_run hE hs hvals
 obtain ⟨hal, hag⟩ := retAllT_get hret
 -- blocks of what is a tree or a slice; none of what is flat
 let Tk : AV -> AV -> Nat -> Prop := fun r b=> match b with
  | .tr _ _=> ownB ρ (toksN 6 r)
  | .fr _ _ _=> ownB ρ (toksN 6 r)
  | _=> fun _=> False
 have comp : ∀ (i : Nat) (b : AV) (v : Value), as[i]? = some b -> vs'[i]? = some v -> ∃ r, rs[i]? = some r /\ (∀ l, b ≠ .tup l) /\ RT1 w1 pv b v (Tk r b) /\ NewB w1 n0 O (Tk r b) /\ (∀ x, Tk r b x -> ownB ρ (toksN 6 r) x) /\ ((∀ x, Tk r b x -> False) \/ ∀ x, x ∈ toksN 6 r -> st.row x ≠ none) := fun i b v hb hv=> by
  obtain ⟨r, h1, h2⟩ := hag i b hb
  obtain ⟨h3, h4, h5⟩ := rt1_ok hs hB h2 (hvv i r v h1 hv) (distinct_two (f := toksN 6) hdis h1 h1).1
  refine ⟨r, h1, h3, ?_⟩
  cases h4 with
  | flat τ x cs _ hsl hc=> exact ⟨.flat τ x cs _ hsl hc, fun b h=> h.elim, fun x h=> h.elim, .inl fun x h=> h⟩
  | weak τ x _ _ hsl=> exact ⟨.weak τ x _ _ hsl, fun b h=> h.elim, fun x h=> h.elim, .inl fun x h=> h⟩
  | nil=> exact ⟨.nil _, fun b h=> h.elim, fun x h=> h.elim, .inl fun x h=> h⟩
  | fr e τ xs g cap _ hsl hT hrow=> exact ⟨.fr e τ xs g cap _ hsl hT hrow, tok_new hs hB fun x hx=> h5 x hx ⟨τ, dflt τ, .inr ⟨e, xs, rfl⟩⟩, fun x h=> h, .inr fun x hx=> h5 x hx ⟨τ, dflt τ, .inr ⟨e, xs, rfl⟩⟩⟩
  | frNil e τ _ hsl hpos=> exact ⟨.frNil e τ _ hsl hpos, tok_new hs hB fun x hx=> h5 x hx ⟨τ, dflt τ, .inr ⟨e, [], rfl⟩⟩, fun x h=> h, .inr fun x hx=> h5 x hx ⟨τ, dflt τ, .inr ⟨e, [], rfl⟩⟩⟩
  | tr τ x cs _ hsl hc=> exact ⟨.tr τ x cs _ hsl hc, tok_new hs hB fun y hy=> h5 y hy ⟨τ, x, .inl rfl⟩, fun x h=> h, .inr fun y hy=> h5 y hy ⟨τ, x, .inl rfl⟩⟩
 by_cases h1 : as.length = 1
 ·match as, h1, hal, comp with
  | [b], _, hal, comp=>
  match vs', hvl, hres, comp with
  | [v], hvl, hres, comp=>
   obtain ⟨r, _, h3, h4, h5, _⟩ := comp 0 b v rfl rfl
   refine ⟨v, by simpa using hres, ?_⟩
   show RT w1 n0 O pv b v
   cases b with
   | tup l=> exact absurd rfl (h3 l)
   | _=> exact ⟨_, h4, h5⟩
  | [], hvl, _, _=> simp at hvl; simp only [List.length_cons, List.length_nil] at hal; omega
  | _ :: _ :: _, hvl, _, _=> simp only [List.length_cons, List.length_nil] at hvl hal; omega
 ·have hone : one as = .tup as:= by
   match as, h1 with
   | [], _=> rfl
   | [_], h1=> exact absurd rfl h1
   | _ :: _ :: _, _=> rfl
  refine ⟨.tuple vs'.toArray, ?_, ?_⟩
  ·rw [hres, dif_neg (by simp only [List.size_toArray]; omega)]
  ·rw [hone]
   refine ⟨vs', fun i=> Tk (rs.getD i .any) (as.getD i .any), rfl, by omega, fun i b v hb hv=> ?_, fun i j x hne hx hx'=> ?_⟩
   ·obtain ⟨r, h2, _, h4, h5, _⟩ := comp i b v hb hv
    have e1 : rs.getD i .any = r:= by simp [List.getD, h2]
    have e2 : as.getD i .any = b:= by simp [List.getD, hb]
    simp only [e1, e2]
    exact ⟨h4, h5⟩
   ·have in_ : ∀ k x, Tk (rs.getD k .any) (as.getD k .any) x -> k < as.length := fun k x hx=> by
     apply Classical.byContradiction
     intro hn
     have e2 : as.getD k .any = .any:= by simp [List.getD, List.getElem?_eq_none (show as.length <= k by omega)]
     rw [e2] at hx
     exact hx
    have get : ∀ k x, Tk (rs.getD k .any) (as.getD k .any) x -> ∃ r, rs[k]? = some r /\ ownB ρ (toksN 6 r) x /\ ∀ y, y ∈ toksN 6 r -> st.row y ≠ none := fun k x hx=> by
     have hk := in_ k x hx
     have hb : as[k]? = some as[k] := List.getElem?_eq_getElem hk
     have hv : vs'[k]? = some (vs'[k]'(by omega)) := List.getElem?_eq_getElem _
     obtain ⟨r, h2, _, h4, h5, h6, h7⟩ := comp k _ _ hb hv
     have e1 : rs.getD k .any = r:= by simp [List.getD, h2]
     have e2 : as.getD k .any = as[k]:= by simp [List.getD, hb]
     rw [e1, e2] at hx
     refine ⟨r, h2, h6 x hx, h7.resolve_left fun h=> h x hx⟩
    obtain ⟨r, h2, h3, h4⟩ := get i x hx
    obtain ⟨r', h2', h3', h4'⟩ := get j x hx'
    exact own_apart hs.hs ((distinct_two (f := toksN 6) hdis h2 h2').2 hne) h4 h4' h3 h3'
structure FunT (E : Env) (G : Cal -> List AV -> AV -> Prop) (LG : Nat -> St -> Ex -> St -> Prop) (fn : Func) (c : Code) (st0 : St) (e : Ex) (st : St) (rs as : List AV) : Prop where
 body : fn.body = some c
 run : CodeR E G LG 0 c st0 e st
 out : ∀ id, e ≠ .exit id
 vals : resAll E st fn.results.toList = some rs
 dis : distinctL (toksL rs) = true
 ret : retAllT st rs = some as
theorem runST_rel {C : Orc} {L : LOrc} (hC : OrcIs C G) (hL : LIs L LG) {fn : Func} {c : Code} (hc : fn.body = some c) {st0 : St} {R : Type} {K : AV -> Option R} {r : R} (h : runC E C L 0 c st0 (endT E fn K) = some r) :
  ∃ e st rs as, FunT E G LG fn c st0 e st rs as /\ K (one as) = some r:= by
 obtain ⟨e, st, h1, h2⟩ := runC_rel hC hL c 0 _ h
 have go : (match resAll E st fn.results.toList with
  | some rs=> match distinctL (toksL rs) with
   | true=> match retAllT st rs with
    | some as=> K (one as)
    | none=> none
   | false=> none
  | none=> none) = some r -> (∀ id, e ≠ .exit id) -> ∃ e st rs as, FunT E G LG fn c st0 e st rs as /\ K (one as) = some r := fun h2 he=> by
  split at h2
  ·rename_i rs hrs
   split at h2
   ·rename_i hd
    split at h2
    ·rename_i as has
     exact ⟨e, st, rs, as, ⟨hc, h1, he, hrs, hd, has⟩, h2⟩
    ·cases h2
   ·cases h2
  ·cases h2
 cases e with
 | exit id=> cases h2
 | normal=> exact go h2 (fun id h=> by cases h)
 | ret=> exact go h2 (fun id h=> by cases h)
theorem funT_meets (hE : EnvOk P E) (hG : GOk P E pv G) {f : FuncId} {fn : Func} (hf : P.funcs[f]? = some fn) (hname : (fn.name == "runtime.NumGoroutine") = false) {c : Code} {args : List AV} {e : Ex} {st : St} {rs as : List AV}
  (h : FunT E G LG fn c (start fn.ntmps args) e st rs as) (hn : args.length <= fn.ntmps) (hl : ∀ w0 B, ∀ p ∈ loopsOf 0 c, LoopSound P E w0 B pv p.2 (LG p.1)) : MeetsT P E pv f args (one as):= by
 intro S w vs hst hgl hargs
 obtain ⟨hvl, hva⟩ := hargs
 show RunsTo P _ ((callFunc f vs.toArray).run P w)
 rw [call_enter hf h.body hname]
 refine calls_of_wp hf h.body ?_
 have hs0 : Sim w ⟨fun b=> b < w.heap.size, none⟩ pv S (fun _=> none) (start fn.ntmps args) { tmps := vs.toArray ++ Array.replicate (fn.ntmps - vs.toArray.size) undef, defers := [] } w:= by
  refine ⟨by simp [start]; omega, rfl, fun t=> ?_, ⟨hst, fun id r l h1 _=> (by cases h1), fun id id' l l' b h1=> (by cases h1), fun id r l b h1=> (by cases h1), fun l hl=> (by cases hl)⟩, Blw.refl _ _, fun _ h=> h⟩
  rw [Array.getD_eq_getD_getElem?]
  simp only [start]
  by_cases ht : t < args.length
  ·have ha : args[t]? = some args[t] := List.getElem?_eq_getElem ht
   have hv : vs[t]? = some vs[t] := List.getElem?_eq_getElem (by omega)
   obtain ⟨cs, h1, h2⟩ := hva t _ _ ha hv
   rw [Array.getElem?_append_left (by simp; omega)]
   simp only [List.getElem?_toArray, ha, hv, Option.getD_some]
   exact .inr ⟨cs, h1, h2⟩
  ·have ha : args[t]? = none := List.getElem?_eq_none (by omega)
   rw [ha, Array.getElem?_append_right (by simp; omega)]
   simp only
   rw [tmps_undef]
   exact vr_undef
 refine code_ok hE hG h.run (hl w ⟨fun b=> b < w.heap.size, none⟩) hs0 hgl fun S1 ρ a w1 hs hgl1 hg=> ?_
 suffices hfin : a.defers = [] /\ ∃ v, (results fn a.tmps).run P w1 = .ok v w1 /\ (∃ v', Ending.returned v = .returned v' /\ (Below w.heap.size w w1 /\ RT w1 w.heap.size (fun _=> False) pv (one as) v')) by
  cases e with
  | normal=> exact hfin
  | ret=> exact hfin
  | exit id=> exact absurd rfl (h.out id)
 obtain ⟨v, hres, hrt⟩ := endT_ok (n0 := w.heap.size) (O := fun _=> False) hE hs (fun b hb=> .inl (Nat.le_of_not_lt hb)) h.vals h.dis h.ret
 exact ⟨hs.defers, v, hres, v, rfl, hs.below.to, hrt⟩
structure FunX (E : Env) (G : Cal -> List AV -> AV -> Prop) (LG : Nat -> St -> Ex -> St -> Prop) (fn : Func) (c : Code) (τ : Ty) (x : den τ) (k : Int) (y : den τ) (m : Int) (e : Ex) (st : St) : Prop where
 body : fn.body = some c
 run : CodeR E G LG 0 c (startX fn.ntmps τ x k) e st
 out : ∀ id, e ≠ .exit id
 vals : resAll E st fn.results.toList = some [.t (.int .i64) m]
 row : ∃ σ a b, st.row mbase = some (.box σ (.tup [a, b, .t τ y]))
theorem runX_rel {C : Orc} {L : LOrc} (hC : OrcIs C G) (hL : LIs L LG) {fn : Func} {τ : Ty} {x : den τ} {k : Int} {R : Type} {K : AV -> Option R} {r : R} (h : runX E C L fn τ x k K = some r) :
  ∃ c y m e st, FunX E G LG fn c τ x k y m e st /\ K (.kep (.t τ y) (.t (.int .i64) m)) = some r:= by
 unfold runX at h
 split at h
 ·rename_i c hc
  obtain ⟨e, st, h1, h2⟩ := runC_rel hC hL c 0 _ h
  have go : (match resAll E st fn.results.toList with
   | some [.t (.int .i64) m]=> match st.row mbase with
    | some (.box _ (.tup [_, _, .t σ y]))=> match decEq σ τ with
     | .isTrue _=> K (.kep (.t σ y) (.t (.int .i64) m))
     | .isFalse _=> none
    | _=> none
   | _=> none) = some r -> (∀ id, e ≠ .exit id) -> ∃ c y m e st, FunX E G LG fn c τ x k y m e st /\ K (.kep (.t τ y) (.t (.int .i64) m)) = some r := fun h3 he=> by
   clear h2
   have h2 := h3
   clear h3
   split at h2
   ·rename_i m hm
    split at h2
    ·rename_i σ0 a b σ y hr
     split at h2
     ·rename_i e1 _
      subst e1
      exact ⟨c, y, m, e, st, ⟨hc, h1, he, hm, _, _, _, hr⟩, h2⟩
     ·cases h2
    ·cases h2
   ·cases h2
  cases e with
  | exit id=> cases h2
  | normal=> exact go h2 (fun id h=> by cases h)
  | ret=> exact go h2 (fun id h=> by cases h)
 ·cases h
theorem funX_meets (hE : EnvOk P E) (hG : GOk P E pv G) {f : FuncId} {fn : Func} (hf : P.funcs[f]? = some fn) (hname : (fn.name == "runtime.NumGoroutine") = false) {c : Code} {τ : Ty} {x y : den τ} {k m : Int} {e : Ex} {st : St}
  (h : FunX E G LG fn c τ x k y m e st) (hsl : slT τ = true) (hn : 2 <= fn.ntmps) (hl : ∀ w0 B, ∀ p ∈ loopsOf 0 c, LoopSound P E w0 B pv p.2 (LG p.1)) : MeetsX P E pv f τ x k y m:= by
 intro S T v w cs hst hgl hST hsw htr
 show RunsTo P _ ((callFunc f #[valOf (.t τ x) cs, .int .i64 k]).run P w)
 rw [call_enter hf h.body hname]
 refine calls_of_wp hf h.body ?_
 have hrow1 : (startX fn.ntmps τ x k).row mbase = some (treeR 0 false τ x):= by simp [startX]
 have hrow2 : ∀ id r, (startX fn.ntmps τ x k).row id = some r -> id = mbase /\ r = treeR 0 false τ x := fun id r h1=> by
  simp only [startX, beq_eq] at h1
  by_cases e1 : id = mbase
  ·rw [decide_eq_true e1] at h1
   simp only [cond_true, Option.some.injEq] at h1
   exact ⟨e1, h1.symm⟩
  ·rw [decide_eq_false e1] at h1; cases h1
 have hs0 : Sim w ⟨fun b=> b < w.heap.size /\ ¬ T b, some (.tree cs T v)⟩ pv S (fun id=> if id = mbase then some (.tree cs T v) else none) (startX fn.ntmps τ x k) { tmps := #[valOf (.t τ x) cs, .int .i64 k] ++ Array.replicate (fn.ntmps - #[valOf (.t τ x) cs, Value.int .i64 k].size) undef, defers := [] } w:= by
  refine ⟨by simp [startX]; omega, rfl, fun t=> ?_, ⟨hst, fun id r l1 h1 h2=> ?_, fun id id' l1 l2 b h1 h2 h3 h4 _ _=> ?_, fun id r l1 g h1 h2 hg=> ?_, fun l1 hl1=> ?_⟩, Blw.refl _ _, fun _ h=> h.1⟩
  ·rw [Array.getD_eq_getD_getElem?]
   match t with
   | 0=>
    rw [Array.getElem?_append_left (by simp)]
    exact .inr ⟨cs, .tv mbase τ _ cs T v hrow1 (by simp) htr.cr.len htr.cr.one, rfl⟩
   | 1=>
    rw [Array.getElem?_append_left (by simp)]
    exact .inr ⟨_, .t _ _ _ (.int .i64 k), rfl⟩
   | t + 2=>
    have : (#[valOf (.t τ x) cs, Value.int .i64 k] ++ Array.replicate (fn.ntmps - #[valOf (.t τ x) cs, Value.int .i64 k].size) undef)[t + 2]? = (Array.replicate (fn.ntmps - #[valOf (.t τ x) cs, Value.int .i64 k].size) undef)[t]?:= by
     rw [Array.getElem?_append_right (by simp)]
     simp
    rw [this, tmps_undef]
    exact vr_undef
  ·obtain ⟨rfl, rfl⟩ := hrow2 id r h1
   rw [if_pos rfl] at h2
   cases h2
   exact ⟨hsl, hsw, 0, false, x, rfl, htr, fun h=> by cases h⟩
  ·cases hx : (startX fn.ntmps τ x k).row id with
   | none=> exact absurd hx h3
   | some r=>
    cases hy : (startX fn.ntmps τ x k).row id' with
    | none=> exact absurd hy h4
    | some r'=> exact (hrow2 id r hx).1.trans (hrow2 id' r' hy).1.symm
  ·obtain ⟨rfl, rfl⟩ := hrow2 id r h2
   rw [if_pos rfl] at h1
   have h1 := Option.some.inj h1
   subst h1
   exact ⟨fun hb=> hb.2 hg, fun _ hS=> hST g hS hg, fun hz=> by cases hz⟩
  ·simpa using hl1
 refine code_ok hE hG h.run (hl w _) hs0 hgl fun S1 ρ a w1 hs hgl1 hg=> ?_
 suffices hfin : a.defers = [] /\ ∃ u, (results fn a.tmps).run P w1 = .ok u w1 /\ (∃ v', Ending.returned u = .returned v' /\ (v' = .int .i64 m /\ Blw ⟨fun b=> b < w.heap.size /\ ¬ T b, none⟩ w w1 /\ SoftW T v w1 /\ TR w1 T τ y cs)) by
  cases e with
  | normal=> exact hfin
  | ret=> exact hfin
  | exit id=> exact absurd rfl (h.out id)
 refine ⟨hs.defers, ?_⟩
 obtain ⟨σ, a', b', hr0⟩ := h.row
 have hpin : ρ mbase = some (.tree cs T v) := hs.hs.pin _ rfl
 obtain ⟨_, _, hsw1, htr1, _⟩ := tree_row hs.hs hr0 hpin
 obtain ⟨vs', hvl', hvv, hres⟩ := res_run hE hs h.vals
 match vs', hvl' with
 | [u], _=>
  exact ⟨u, by simpa using hres, u, rfl, vr_int (hvv 0 _ u rfl rfl), ⟨hs.below.os, hs.below.tape, hs.below.output, hs.below.size, hs.below.block⟩, hsw1, htr1⟩
end
end Go.Gx
end
section
/- What is printed of functions about trees, tied to the machine. -/
namespace Go.Gx
open Go.RowKit
inductive TK where
 | t (τ : Ty)
 | fr (e : Nat) (τ : Ty)
 | tr (τ : Ty)
@[reducible] def TK.X : TK -> Type
 | .t τ=> den τ
 | .fr _ τ=> List (den τ)
 | .tr τ=> den τ
def TK.val : (k : TK) -> k.X -> AV
 | .t τ, x=> .t τ x
 | .fr e τ, x=> .fr e τ x
 | .tr τ, x=> .tr τ x
def TK.view : (k : TK) -> AV -> Option k.X
 | .t τ, a=> match a with
  | .t σ x=> match decEq σ τ with
   | .isTrue h=> some (h ▸ x)
   | .isFalse _=> none
  | _=> none
 | .fr e τ, a=> match a with
  | .fr e' σ xs=> match decEq σ τ, Nat.beq e' e with
   | .isTrue h, true=> some (h ▸ xs)
   | _, _=> none
  | .nil=> match Nat.blt 0 (nc τ) && !slT τ with
   | true=> some []
   | false=> none
  | _=> none
 | .tr τ, a=> match a with
  | .tr σ x=> match decEq σ τ with
   | .isTrue h=> some (h ▸ x)
   | .isFalse _=> none
  | .nil=> match τ with
   | .sl _=> some []
   | _=> none
  | _=> none
theorem tk_ok {w : World} {pv : Nat -> Value} {k : TK} {a : AV} {x : k.X} {v : Value} {T : Nat -> Prop} (h : k.view a = some x) (hr : RT1 w pv a v T) : RT1 w pv (k.val x) v T:= by
 cases k with
 | t τ=>
  simp only [TK.view] at h
  split at h
  ·split at h
   ·rename_i e _
    subst e
    cases h
    exact hr
   ·cases h
  ·cases h
 | fr e τ=>
  simp only [TK.view] at h
  split at h
  ·split at h
   ·rename_i e1 _ he
    subst e1
    cases h
    have := Nat.eq_of_beq_eq_true he
    subst this
    exact hr
   ·cases h
  ·split at h
   ·rename_i hp
    simp only [Bool.and_eq_true, Bool.not_eq_true'] at hp
    cases h
    cases hr
    exact .frNil e τ _ hp.2 (Nat.le_of_ble_eq_true hp.1)
   ·cases h
  ·cases h
 | tr τ=>
  simp only [TK.view] at h
  split at h
  ·split at h
   ·rename_i e _
    subst e
    cases h
    exact hr
   ·cases h
  ·split at h
   ·cases h
    cases hr
    exact .tr _ _ [.slice none 0 0] _ rfl (.nil _ _)
   ·cases h
  ·cases h
def viewK1 (k : TK) (a : AV) : Option k.X := k.view a
def viewK2 (k l : TK) : AV -> Option (k.X × l.X)
 | .tup [a, b]=> match k.view a, l.view b with
  | some x, some y=> some (x, y)
  | _, _=> none
 | _=> none
def Kt (r r' : AV) : Prop := ∀ (w : World) (n0 : Nat) (O : Nat -> Prop) (pv : Nat -> Value) (v : Value), RT w n0 O pv r v -> RT w n0 O pv r' v
theorem kt_view1 {k : TK} {r : AV} {y : k.X} (h : viewK1 k r = some y) : Kt r (k.val y) := fun w n0 O pv v hr=> by
 have h : k.view r = some y := h
 have hnt : ∀ l, r ≠ .tup l := fun l e=> by
  subst e
  cases k <;> simp [TK.view] at h
 have hr1 : ∃ T, RT1 w pv r v T /\ NewB w n0 O T:= by
  cases r with
  | tup l=> exact absurd rfl (hnt l)
  | _=> exact hr
 obtain ⟨T, h1, h2⟩ := hr1
 have h3 := tk_ok h h1
 cases k <;> exact ⟨T, h3, h2⟩
theorem kt_view2 {k l : TK} {r : AV} {y : k.X × l.X} (h : viewK2 k l r = some y) : Kt r (.tup [k.val y.1, l.val y.2]) := fun w n0 O pv v hr=> by
 unfold viewK2 at h
 split at h
 ·rename_i a b
  split at h
  ·rename_i x z hx hz
   cases h
   obtain ⟨vs, Ts, h1, h2, h3, h4⟩ := hr
   refine ⟨vs, Ts, h1, h2, fun i r v hr hv=> ?_, h4⟩
   match i, hr with
   | 0, hr=>
    cases hr
    obtain ⟨k1, k2⟩ := h3 0 a v rfl hv
    exact ⟨tk_ok hx k1, k2⟩
   | 1, hr=>
    cases hr
    obtain ⟨k1, k2⟩ := h3 1 b v rfl hv
    exact ⟨tk_ok hz k1, k2⟩
   | i + 2, hr=> simp at hr
  ·cases h
 ·cases h
def viewKep (τ : Ty) (r : AV) : Option (den τ × Int) := match r with
 | .kep (.t σ z) (.t (.int .i64) m)=> (match decEq σ τ with
  | .isTrue h=> some ((h ▸ z : den τ), m)
  | .isFalse _=> none)
 | _=> none
theorem view_kep {τ : Ty} {r : AV} {y : den τ × Int} (h : viewKep τ r = some y) : r = .kep (.t τ y.1) (.t (.int .i64) y.2):= by
 unfold viewKep at h
 split at h
 ·split at h
  ·rename_i e _
   subst e
   cases h
   rfl
  ·cases h
 ·cases h
section
variable {P : Program} {E : Env} {pv : Nat -> Value}
theorem loops_ok (hE : EnvOk P E) {t : Nat -> Cal -> Option CArm} (k : Nat) (hG : ∀ k', k' <= k -> ∀ cal A, t k' cal = some A -> ArmOk P E pv cal A) {fn : Func} {c : Code} (hb : fn.body = some c) {lt : Nat -> Option LArm} (hok : loopsOk fn = true) (hlt : ∀ b A, lt b = some A -> A.Ok)
  (hS : ∀ b A, lt b = some A -> ∀ k x, runC E (tabC (t k)) (tabL fn.ntmps k lt) b (loopAt fn b) (stOf fn.ntmps A.sp x) (A.cont fn.ntmps k) = A.l (k + 1) x) : ∀ w0 B, ∀ p ∈ loopsOf 0 c, LoopSound P E w0 B pv p.2 (LG (tabL fn.ntmps k lt) p.1) :=
 fun w0 B p hp st e st' S ρ a w Q h hs hgl hQ=>
  wp_loop_rounds k (rounds_ok hE (C := fun k=> tabC (t k)) (L := fun k=> tabL fn.ntmps k lt) (fun k=> tabC_is _) (fun k=> tabL_is _ _ _) hb hok (n := k) (fun k' hk'=> tabC_ok (hG k' (Nat.le_of_lt hk'))) (tabL_zero hlt) (fun k b e st st' _ h=> tabL_step (C := fun k=> tabC (t k)) hlt hS k b e st st' h) k (Nat.le_refl k) w0 B p hp st e st' S ρ a w Q h hs hgl hQ)
theorem funT_good (hE : EnvOk P E) {C : Orc} {L : LOrc} (hC : OrcIs C (CG C)) (hL : LIs L (LG L)) (hG : GOk P E pv (CG C)) {f : FuncId} {fn : Func} {c : Code} (hf : P.funcs[f]? = some fn) (hb : fn.body = some c) (hname : (fn.name == "runtime.NumGoroutine") = false)
  (hl : ∀ w0 B, ∀ p ∈ loopsOf 0 c, LoopSound P E w0 B pv p.2 (LG L p.1)) {args : List AV} (hn : args.length <= fn.ntmps) {R : Type} {K : AV -> Option R} {y : R} (hrun : runT E C L fn args K = some y) {r' : AV} (hw : ∀ r, K r = some y -> Kt r r') : MeetsT P E pv f args r':= by
 unfold runT at hrun
 rw [hb] at hrun
 obtain ⟨e, st, rs, as, hfr, hk⟩ := runST_rel hC hL hb hrun
 intro S w vs hst hgl hargs
 exact RunsTo.mono (funT_meets hE hG hf hname hfr hn hl S w vs hst hgl hargs) fun u w' ⟨hb', hr⟩=> ⟨hb', hw _ hk _ _ _ _ _ hr⟩
theorem funT_loops (hE : EnvOk P E) {t : Nat -> Cal -> Option CArm} (k : Nat) (hG : ∀ k', k' <= k -> ∀ cal A, t k' cal = some A -> ArmOk P E pv cal A) {f : FuncId} {fn : Func} {c : Code} (hf : P.funcs[f]? = some fn) (hb : fn.body = some c)
  (hname : (fn.name == "runtime.NumGoroutine") = false) {args : List AV} (hn : Nat.ble args.length fn.ntmps = true) {lt : Nat -> Option LArm} (hok : loopsOk fn = true) (hlt : ∀ b A, lt b = some A -> A.Ok)
  (hS : ∀ b A, lt b = some A -> ∀ k x, runC E (tabC (t k)) (tabL fn.ntmps k lt) b (loopAt fn b) (stOf fn.ntmps A.sp x) (A.cont fn.ntmps k) = A.l (k + 1) x)
  {R : Type} {K : AV -> Option R} {y : R} (hrun : runT E (tabC (t k)) (tabL fn.ntmps k lt) fn args K = some y) {r' : AV} (hw : ∀ r, K r = some y -> Kt r r') : MeetsT P E pv f args r' :=
 funT_good hE (tabC_is _) (tabL_is _ _ _) (tabC_ok (hG k (Nat.le_refl k))) hf hb hname (loops_ok hE k hG hb hok hlt hS) (Nat.le_of_ble_eq_true hn) hrun hw
theorem funX_good (hE : EnvOk P E) {C : Orc} {L : LOrc} (hC : OrcIs C (CG C)) (hL : LIs L (LG L)) (hG : GOk P E pv (CG C)) {f : FuncId} {fn : Func} {c : Code} (hf : P.funcs[f]? = some fn) (hb : fn.body = some c) (hname : (fn.name == "runtime.NumGoroutine") = false)
  (hl : ∀ w0 B, ∀ p ∈ loopsOf 0 c, LoopSound P E w0 B pv p.2 (LG L p.1)) (hn : 2 <= fn.ntmps) {τ : Ty} (hsl : slT τ = true) {x : den τ} {k : Int} {y : den τ × Int} (hrun : runX E C L fn τ x k (viewKep τ) = some y) : MeetsX P E pv f τ x k y.1 y.2:= by
 obtain ⟨c', z, m, e, st, hfr, hk⟩ := runX_rel hC hL hrun
 have hcc : c' = c:= by have := hfr.body; rw [hb] at this; cases this; rfl
 subst hcc
 have := view_kep hk
 cases this
 exact funX_meets hE hG hf hname hfr hsl hn hl
theorem funX_loops (hE : EnvOk P E) {t : Nat -> Cal -> Option CArm} (k : Nat) (hG : ∀ k', k' <= k -> ∀ cal A, t k' cal = some A -> ArmOk P E pv cal A) {f : FuncId} {fn : Func} {c : Code} (hf : P.funcs[f]? = some fn) (hb : fn.body = some c)
  (hname : (fn.name == "runtime.NumGoroutine") = false) (hn : Nat.ble 2 fn.ntmps = true) {lt : Nat -> Option LArm} (hok : loopsOk fn = true) (hlt : ∀ b A, lt b = some A -> A.Ok)
  (hS : ∀ b A, lt b = some A -> ∀ k x, runC E (tabC (t k)) (tabL fn.ntmps k lt) b (loopAt fn b) (stOf fn.ntmps A.sp x) (A.cont fn.ntmps k) = A.l (k + 1) x)
  {τ : Ty} (hsl : slT τ = true) {x : den τ} {k0 : Int} {y : den τ × Int} (hrun : runX E (tabC (t k)) (tabL fn.ntmps k lt) fn τ x k0 (viewKep τ) = some y) : MeetsX P E pv f τ x k0 y.1 y.2 :=
 funX_good hE (tabC_is _) (tabL_is _ _ _) (tabC_ok (hG k (Nat.le_refl k))) hf hb hname (loops_ok hE k hG hb hok hlt hS) (Nat.le_of_ble_eq_true hn) hsl hrun
end
end Go.Gx
end
section
/- '==' of dates and abbreviations. -/
namespace Go.Gx
theorem eqF_nil {P : Program} {w : World} {d : Nat} {xs ys : Array Value} : (Op.eqFields d xs ys []).run P w = .ok true w:= by simp [Op.eqFields]
theorem eqF_cons {P : Program} {w : World} {d : Nat} {xs ys : Array Value} {f : Field} {fs : List Field} {a b : Value} {r s : Bool} (hn : f.name ≠ "_") (h1 : (part f.type xs f.offset).run P w = .ok a w) (h2 : (part f.type ys f.offset).run P w = .ok b w)
  (h3 : (Op.equalIn d f.type a b).run P w = .ok r w) (h4 : (Op.eqFields d xs ys fs).run P w = .ok s w) : (Op.eqFields d xs ys (f :: fs)).run P w = .ok (r && s) w:= by
 cases r <;> simp [Op.eqFields, hn, h1, h2, h3, h4]
theorem part_one {P : Program} {E : Env} {w : World} {T : Nat} {τ : Ty} (ht : TyOk P E T τ) (hg : agT τ = false) {cs : Array Value} {o : Nat} {v : Value} (hv : cs[o]? = some v) : (part T cs o).run P w = .ok v w:= by
 simp [part, run_isAgg ht, hg, hv]
theorem date_eq {P : Program} {E : Env} (ht : ∀ T τ, E.ty T = some τ -> TyOk P E T τ) {T : Nat} (hT : E.ty T = some .date) (hg : P.eqGuardType P.depth T = false) (hs : P.stoodInHeld T = false) (hn : (P.fieldsOf T).all (fun f=> f.name != "_") = true) :
  P.eqGuardType P.depth T = false /\ ∀ (x y : Date) (w : World), (Op.equalIn 10000 T (.agg #[.int .i64 x.y, .int .i64 x.m, .int .i64 x.d, .bool x.c]) (.agg #[.int .i64 y.y, .int .i64 y.m, .int .i64 y.d, .bool y.c])).run P w = .ok (x.y == y.y && (x.m == y.m && (x.d == y.d && x.c == y.c))) w:= by
 refine ⟨hg, fun x y w=> ?_⟩
 obtain ⟨fs, hu, hsz, hf⟩ := (ht T _ hT).und
 have hfo : P.fieldsOf T = fs:= by simp [Program.fieldsOf, hu]
 rw [run_equalIn_agg (P := P) w 9999 T _ _ (by rw [hfo]; exact hu) hs, hfo]
 rw [hfo, Array.all_eq_true'] at hn
 have hname : ∀ f ∈ fs.toList, f.name ≠ "_" := fun f hm=> by simpa using hn f (by simpa using hm)
 have hget : ∀ i f, fs.toList[i]? = some f -> ∃ σ, (fty .date)[i]? = some σ /\ f.offset = offL (fty .date) i /\ E.ty f.type = some σ := fun i f h=> hf i f (by simpa using h)
 have hlen : fs.toList.length = 4:= by simpa [fty] using hsz
 match hl : fs.toList, hlen with
 | [f0, f1, f2, f3], _=>
  rw [hl] at hname hget
  obtain ⟨s0, a0, b0, c0⟩ := hget 0 f0 rfl
  obtain ⟨s1, a1, b1, c1⟩ := hget 1 f1 rfl
  obtain ⟨s2, a2, b2, c2⟩ := hget 2 f2 rfl
  obtain ⟨s3, a3, b3, c3⟩ := hget 3 f3 rfl
  cases a0; cases a1; cases a2; cases a3
  have e3 := eqF_cons (P := P) (w := w) (d := 9999) (xs := #[.int .i64 x.y, .int .i64 x.m, .int .i64 x.d, .bool x.c]) (ys := #[.int .i64 y.y, .int .i64 y.m, .int .i64 y.d, .bool y.c]) (hname f3 (by simp)) (part_one (v := .bool x.c) (ht _ _ c3) rfl (by rw [b3]; rfl)) (part_one (v := .bool y.c) (ht _ _ c3) rfl (by rw [b3]; rfl)) (run_equalIn_bool' w 9998 f3.type _ _ (ht _ _ c3).und) eqF_nil
  have e2 := eqF_cons (hname f2 (by simp)) (part_one (v := .int .i64 x.d) (ht _ _ c2) rfl (by rw [b2]; rfl)) (part_one (v := .int .i64 y.d) (ht _ _ c2) rfl (by rw [b2]; rfl)) (run_equalIn_int w 9998 f2.type _ _ _ _ (ht _ _ c2).und) e3
  have e1 := eqF_cons (hname f1 (by simp)) (part_one (v := .int .i64 x.m) (ht _ _ c1) rfl (by rw [b1]; rfl)) (part_one (v := .int .i64 y.m) (ht _ _ c1) rfl (by rw [b1]; rfl)) (run_equalIn_int w 9998 f1.type _ _ _ _ (ht _ _ c1).und) e2
  have e0 := eqF_cons (hname f0 (by simp)) (part_one (v := .int .i64 x.y) (ht _ _ c0) rfl (by rw [b0]; rfl)) (part_one (v := .int .i64 y.y) (ht _ _ c0) rfl (by rw [b0]; rfl)) (run_equalIn_int w 9998 f0.type _ _ _ _ (ht _ _ c0).und) e1
  rw [e0]
  simp
theorem abbr_eq {P : Program} {E : Env} (ht : ∀ T τ, E.ty T = some τ -> TyOk P E T τ) {T : Nat} (hT : E.ty T = some .abbr) (hg : P.eqGuardType P.depth T = false) (hs : P.stoodInHeld T = false) (hn : (P.fieldsOf T).all (fun f=> f.name != "_") = true) :
  P.eqGuardType P.depth T = false /\ ∀ (x y : Abbr) (w : World), (Op.equalIn 10000 T (.agg #[.string x.word, .string x.short]) (.agg #[.string y.word, .string y.short])).run P w = .ok (beqS x.word y.word && beqS x.short y.short) w:= by
 refine ⟨hg, fun x y w=> ?_⟩
 obtain ⟨fs, hu, hsz, hf⟩ := (ht T _ hT).und
 have hfo : P.fieldsOf T = fs:= by simp [Program.fieldsOf, hu]
 rw [run_equalIn_agg (P := P) w 9999 T _ _ (by rw [hfo]; exact hu) hs, hfo]
 rw [hfo, Array.all_eq_true'] at hn
 have hname : ∀ f ∈ fs.toList, f.name ≠ "_" := fun f hm=> by simpa using hn f (by simpa using hm)
 have hget : ∀ i f, fs.toList[i]? = some f -> ∃ σ, (fty .abbr)[i]? = some σ /\ f.offset = offL (fty .abbr) i /\ E.ty f.type = some σ := fun i f h=> hf i f (by simpa using h)
 have hlen : fs.toList.length = 2:= by simpa [fty] using hsz
 match hl : fs.toList, hlen with
 | [f0, f1], _=>
  rw [hl] at hname hget
  obtain ⟨s0, a0, b0, c0⟩ := hget 0 f0 rfl
  obtain ⟨s1, a1, b1, c1⟩ := hget 1 f1 rfl
  cases a0; cases a1
  have e1 := eqF_cons (P := P) (w := w) (d := 9999) (xs := #[.string x.word, .string x.short]) (ys := #[.string y.word, .string y.short]) (hname f1 (by simp)) (part_one (v := .string x.short) (ht _ _ c1) rfl (by rw [b1]; rfl)) (part_one (v := .string y.short) (ht _ _ c1) rfl (by rw [b1]; rfl)) (run_equalIn_string w 9998 f1.type _ _ (ht _ _ c1).und) eqF_nil
  have e0 := eqF_cons (hname f0 (by simp)) (part_one (v := .string x.word) (ht _ _ c0) rfl (by rw [b0]; rfl)) (part_one (v := .string y.word) (ht _ _ c0) rfl (by rw [b0]; rfl)) (run_equalIn_string w 9998 f0.type _ _ (ht _ _ c0).und) e1
  rw [e0]
  simp [beqS]
end Go.Gx
end
section
/- What a printed function answers with rounds enough; plain lemmas. -/
namespace Go.Gx
def Ev {α : Type} (f : Nat -> Option α) (r : α) : Prop := ∃ K, ∀ k, K <= k -> f k = some r
theorem Ev.pure {α : Type} (r : α) : Ev (fun _=> some r) r := ⟨0, fun _ _=> rfl⟩
theorem Ev.bind {α β : Type} {f : Nat -> Option α} {g : Nat -> α -> Option β} {a : α} {b : β} (hf : Ev f a) (hg : Ev (fun k=> g k a) b) : Ev (fun k=> (f k).bind (g k)) b:= by
 obtain ⟨K, hK⟩ := hf
 obtain ⟨L, hL⟩ := hg
 exact ⟨max K L, fun k hk=> by show (f k).bind (g k) = some b; rw [hK k (by omega), Option.bind_some]; exact hL k (by omega)⟩
theorem Ev.bind0 {α β : Type} {f : Option α} {g : Nat -> α -> Option β} {a : α} {b : β} (hf : f = some a) (hg : Ev (fun k=> g k a) b) : Ev (fun k=> f.bind (g k)) b:= by
 subst hf; exact hg
theorem Ev.step {α : Type} {f g : Nat -> Option α} {r : α} (h : ∀ k, f (k + 1) = g k) (hg : Ev g r) : Ev f r:= by
 obtain ⟨K, hK⟩ := hg
 exact ⟨K + 1, fun k hk=> by obtain ⟨m, rfl⟩ : ∃ m, k = m + 1 := ⟨k - 1, by omega⟩; rw [h]; exact hK m (by omega)⟩
theorem Ev.congr {α : Type} {f g : Nat -> Option α} {r : α} (hg : Ev g r) (h : ∀ k, f k = g k) : Ev f r:= by
 obtain ⟨K, hK⟩ := hg
 exact ⟨K, fun k hk=> by rw [h]; exact hK k hk⟩
theorem Ev.eq {α : Type} {f : Nat -> Option α} {r s : α} (h : Ev f r) (e : r = s) : Ev f s := e ▸ h
theorem Ev.get {α : Type} {f : Nat -> Option α} {r : α} (h : Ev f r) : ∃ k, f k = some r:= by
 obtain ⟨K, hK⟩ := h; exact ⟨K, hK K (Nat.le_refl K)⟩
def EvP {α : Type} (f : Nat -> Option α) (P : α -> Prop) : Prop := ∃ r, Ev f r /\ P r
theorem EvP.pure {α : Type} {P : α -> Prop} (r : α) (h : P r) : EvP (fun _=> some r) P := ⟨r, Ev.pure r, h⟩
theorem EvP.bind {α β : Type} {f : Nat -> Option α} {g : Nat -> α -> Option β} {P : α -> Prop} {Q : β -> Prop} (hf : EvP f P) (hg : ∀ a, P a -> EvP (fun k=> g k a) Q) : EvP (fun k=> (f k).bind (g k)) Q:= by
 obtain ⟨a, h1, h2⟩ := hf
 obtain ⟨r, h3, h4⟩ := hg a h2
 exact ⟨r, Ev.bind h1 h3, h4⟩
theorem EvP.of {α β : Type} {f : Nat -> Option α} {g : Nat -> α -> Option β} {a : α} {Q : β -> Prop} (hf : Ev f a) (hg : EvP (fun k=> g k a) Q) : EvP (fun k=> (f k).bind (g k)) Q:= by
 obtain ⟨r, h3, h4⟩ := hg
 exact ⟨r, Ev.bind hf h3, h4⟩
theorem EvP.step {α : Type} {f g : Nat -> Option α} {P : α -> Prop} (h : ∀ k, f (k + 1) = g k) (hg : EvP g P) : EvP f P:= by
 obtain ⟨r, h1, h2⟩ := hg
 exact ⟨r, Ev.step h h1, h2⟩
theorem EvP.mono {α : Type} {f : Nat -> Option α} {P Q : α -> Prop} (h : EvP f P) (hq : ∀ r, P r -> Q r) : EvP f Q:= by
 obtain ⟨r, h1, h2⟩ := h
 exact ⟨r, h1, hq r h2⟩
theorem cpos {α : Type} {p : Prop} [Decidable p] {a b : α} (h : p) : cond (decide p) a b = a:= by rw [decide_eq_true h]; rfl
theorem cneg {α : Type} {p : Prop} [Decidable p] {a b : α} (h : ¬ p) : cond (decide p) a b = b:= by rw [decide_eq_false h]; rfl
theorem ceq {α : Type} {x y : Int} {a b : α} (h : x = y) : cond (x == y) a b = a:= by rw [show (x == y) = true by simpa using h]; rfl
theorem cne {α : Type} {x y : Int} {a b : α} (h : x ≠ y) : cond (x == y) a b = b:= by rw [show (x == y) = false by simpa using h]; rfl
theorem cbeq {α : Type} {x y : Int} {a b : α} (h : x = y) : cond (x != y) a b = b:= by rw [show (x != y) = false by simpa using h]; rfl
theorem cbne {α : Type} {x y : Int} {a b : α} (h : x ≠ y) : cond (x != y) a b = a:= by rw [show (x != y) = true by simpa using h]; rfl
theorem cble {α : Type} {n m : Nat} {a b : α} (h : n <= m) : cond (Nat.ble n m) a b = a:= by rw [Nat.ble_eq_true_of_le h]; rfl
theorem dpos {p : Prop} [Decidable p] (h : p) : decide p = true := decide_eq_true h
theorem dneg {p : Prop} [Decidable p] (h : ¬ p) : decide p = false := decide_eq_false h
theorem wrap_in {x : Int} (h1 : -9223372036854775808 <= x) (h2 : x <= 9223372036854775807) : IntKind.wrap .i64 x = x:= by
 rw [IntKind.wrap_i64]; omega
theorem maxLen_eq : maxLen = 9223372036854775807:= by decide
theorem wf_str {s : ByteArray} (h : WF .str s) : s.size <= 9223372036854775807:= by
 cases h with | str _ h=> exact maxLen_eq ▸ h
def L (s : ByteArray) : List UInt8 := s.data.toList
theorem L_inj {s t : ByteArray} (h : L s = L t) : s = t:= by
 cases s; cases t
 simp only [L] at h
 rw [Array.toList_inj.1 h]
theorem L_size (s : ByteArray) : (L s).length = s.size := rfl
theorem toList_eq (s : ByteArray) : s.toList = s.data.toList := ByteArray.toList_eq s
theorem beqS_iff {s t : ByteArray} : beqS s t = true ↔ s = t:= by
 unfold beqS
 rw [beq_iff_eq, toList_eq, toList_eq]
 exact ⟨fun h=> L_inj h, fun h=> by rw [h]⟩
theorem beqS_self (s : ByteArray) : beqS s s = true := beqS_iff.2 rfl
theorem beqS_eq (s t : ByteArray) : beqS s t = (L s == L t):= by
 unfold beqS; rw [toList_eq, toList_eq]; rfl
theorem L_bt (s : ByteArray) (i : Nat) : bt s i = (((L s).getD i 0).toNat : Int):= by
 simp [bt, L, Array.getD_eq_getD_getElem?, List.getD_eq_getElem?_getD]
theorem L_extract (s : ByteArray) (a b : Nat) : L (s.extract a b) = ((L s).take b).drop a:= by
 simp [L, ByteArray.data_extract, List.drop_take]
theorem L_append (s t : ByteArray) : L (s ++ t) = L s ++ L t:= by simp [L, ByteArray.data_append]
theorem L_mk (l : List UInt8) : L ⟨l.toArray⟩ = l:= by simp [L]
theorem loop_all {R : Type} {f : Nat -> Int -> Option R} {n : Nat} {p : Nat -> Bool} {no yes : R} (hno : ∀ i : Nat, i < n -> p i = false -> Ev (fun k=> f k i) no)
  (hyes : ∀ (i : Nat) r, i < n -> p i = true -> Ev (fun k=> f k ((i : Int) + 1)) r -> Ev (fun k=> f k i) r) (hend : Ev (fun k=> f k n) yes) :
  ∀ m i : Nat, i + m = n -> Ev (fun k=> f k i) (if (List.range' i m).all p = true then yes else no)
 | 0, i, h=> by
  rw [show i = n by omega]
  exact hend
 | m + 1, i, h=> by
  rw [List.range'_succ, List.all_cons]
  cases hp : p i with
  | false=> exact hno i (by omega) hp
  | true=>
   rw [Bool.true_and]
   exact hyes i _ (by omega) hp (loop_all hno hyes hend m (i + 1) (by omega))
theorem range_all {α : Type} (xs : List α) (d : α) (q : α -> Bool) : (List.range' 0 xs.length).all (fun i=> q (xs.getD i d)) = xs.all q:= by
 rw [Bool.eq_iff_iff]
 simp only [List.all_eq_true, List.mem_range'_1, Nat.zero_add, Nat.zero_le, true_and]
 constructor
 ·intro h x hx
  obtain ⟨i, hi, rfl⟩ := List.getElem_of_mem hx
  have := h i hi
  simpa [List.getD, hi] using this
 ·intro h i hi
  simpa [List.getD, hi] using h _ (List.getElem_mem hi)
end Go.Gx
end
