/- Answers, seen as of a weaker kind. -/
import Derived.Test.YtehijcmhhkchiaaGreatDoorMcy2
import Derived.Test.YtehijcmhhkchiaaGreatDoorMcy1
set_option linter.unusedVariables false
set_option linter.unusedSimpArgs false
set_option maxRecDepth 100000
section
namespace Go.Gx
open Go.RowKit
inductive Wk1 : AV -> AV -> Prop
 | refl (a : AV) : Wk1 a a
 | nilFr (e : Nat) (τ : Ty) (h : 0 < nc τ) : Wk1 .nil (.fr e τ [])
 | nilT (e : Ty) : Wk1 .nil (.t (.sl e) [])
 | frT (e : Nat) (τ : Ty) (xs : List (den τ)) : Wk1 (.fr e τ xs) (.t (.sl τ) xs)
 | agN (τ : Ty) (fs : List AV) (k e : Nat) (σ : Ty) (hk : fs[k]? = some .nil) (h : 0 < nc σ) (hn : ∀ (i : Nat) e' τ', ∀ xs : List (den τ'), fs[i]? ≠ some (.fr e' τ' xs)) : Wk1 (.agg τ fs) (.agg τ (fs.set k (.fr e σ [])))
 | pcT (τ : Ty) (x : den τ) : Wk1 (.pc true τ x) (.t τ x)
 | agT (τ : Ty) (fs : List AV) (a : AV) (h : implode τ (fs.map frT) = some a) : Wk1 (.agg τ fs) a
theorem R1.new {S : Nat -> Prop} {w : World} {n0 : Nat} {pv : Nat -> Value} {a : AV} {v : Value} {b : Nat} (h : R1 S w n0 pv a v (some b)) : n0 <= b /\ b < w.heap.size /\ ¬ S b:= by
 cases h with
 | fr e τ xs g cap hg hS hr=> exact ⟨hg, hr.lt, hS⟩
 | agf τ fs css k e σ xs g cap hl hk hc ho hg hS hr=> exact ⟨hg, hr.lt, hS⟩
theorem wk1_ok {S : Nat -> Prop} {w : World} {n0 : Nat} {pv : Nat -> Value} {a a' : AV} {v : Value} {g : Option Nat} (h : Wk1 a a') (hr : R1 S w n0 pv a v g) :
  ∃ g', (g' = none \/ g' = g) /\ ∀ S2 : Nat -> Prop, (∀ b, S b -> S2 b) -> (∀ b, g = some b -> g' = none -> S2 b) -> (∀ b, g' = some b -> ¬ S2 b) -> R1 S2 w n0 pv a' v g':= by
 have row : ∀ {S2 : Nat -> Prop} {e : Nat} {τ : Ty} {xs : List (den τ)} {l : Loc}, (∀ b, S b -> S2 b) -> RowOk S w (fun _=> none) (fun _=> none) pv (.flat e τ xs false true) l -> RowOk S2 w (fun _=> none) (fun _=> none) pv (.flat e τ xs false true) l := fun hsub h=>
  h.ext (P := fun _=> True) hsub (fun _ _=> rfl) (fun id l r _ h1=> by cases h1) (fun _ _=> rfl) (fun _ _ e=> by cases e)
 have up : ∀ {S2 : Nat -> Prop} {a : AV} {cs : List Value}, (∀ b, S b -> S2 b) -> AR S w (fun _=> none) (fun _=> none) pv a cs -> AR S2 w (fun _=> none) (fun _=> none) pv a cs := fun hsub ha=>
  ha.ext (P := fun _=> True) hsub (fun _ _=> rfl) (fun id l r _ h1=> by cases h1) (fun _ _=> trivial)
 have frc : ∀ {S2 : Nat -> Prop} {e : Nat} {τ : Ty} {xs : List (den τ)} {g cap : Nat}, S2 g -> RowOk S2 w (fun _=> none) (fun _=> none) pv (.flat e τ xs false true) (.at g cap) -> CR S2 w (.sl τ) xs [.slice (some ⟨g, 0, none⟩) xs.length cap] := fun {S2 e τ xs g cap} hg hrow=> by
  obtain ⟨cur, f, h1, h2, h3, h4, h5, h6, h7, h8⟩ := hrow
  have hx : ∀ i, ∃ cs, ∀ (hi : i < xs.length), CR S2 w τ xs[i] cs /\ ∀ j v, cs[j]? = some v -> cur[i * nc τ + j]? = some v := fun i=> by
   by_cases hi : i < xs.length
   ·obtain ⟨cs, hc⟩ := h8 i hi
    exact ⟨cs, fun _=> ⟨hc.1.un, hc.2⟩⟩
   ·exact ⟨[], fun h=> absurd h hi⟩
  refine .sl τ xs _ cap (fun i=> Classical.choose (hx i)) h3 h4 (fun i hi=> (Classical.choose_spec (hx i) hi).1) fun i hi=> ⟨g, 0, rfl, hg, fun j v hj=> ?_⟩
  have := (Classical.choose_spec (hx i) hi).2 j v hj
  simp only [World.cell?, h1, Nat.zero_add]
  simpa using this
 cases h with
 | pcT τ x=>
  cases hr with
  | plain _ cs ha=>
   cases ha with
   | pc _ _ _ _ hx=> exact ⟨none, .inl rfl, fun S2 hsub _ _=> .plain (.t τ x) cs (.t τ x cs (hx.mono (fun b hb=> hsub b hb.1) fun _ _=> rfl))⟩
 | refl=>
  refine ⟨g, .inr rfl, fun S2 hsub _ hn=> ?_⟩
  cases hr with
  | plain _ cs ha=> exact .plain a cs (ha.ext (P := fun _=> True) hsub (fun _ _=> rfl) (fun id l r _ h1=> by cases h1) (fun _ _=> trivial))
  | fr e τ xs g cap hg hS hrow=> exact .fr e τ xs g cap hg (hn g rfl) (row hsub hrow)
  | frNil e τ hp=> exact .frNil e τ hp
  | agf τ fs css k e σ xs g cap hl hk hc ho hg hS hrow=> exact .agf τ fs css k e σ xs g cap hl hk hc (fun i a cs h0 h1 h2=> up hsub (ho i a cs h0 h1 h2)) hg (hn g rfl) (row hsub hrow)
  | agfNil τ fs css k e σ hl hk hc ho hp=> exact .agfNil τ fs css k e σ hl hk hc (fun i a cs h0 h1 h2=> up hsub (ho i a cs h0 h1 h2)) hp
 | agN τ fs k e σ hk hp hn=>
  have keep : ∀ {S2 : Nat -> Prop} {css : List (List Value)}, fs.length = css.length -> (∀ c, css[k]? = some c -> c = [.slice none 0 0]) -> (∀ (i : Nat) a cs, i ≠ k -> (fs.set k (.fr e σ []))[i]? = some a -> css[i]? = some cs -> AR S2 w (fun _=> none) (fun _=> none) pv a cs) -> R1 S2 w n0 pv (.agg τ (fs.set k (.fr e σ []))) (.agg css.flatten.toArray) none := fun {S2 css} hl hc ho=> by
   have hkl : k < fs.length := (List.getElem?_eq_some_iff.1 hk).1
   have hc' : css[k]? = some css[k] := List.getElem?_eq_getElem (by omega)
   exact .agfNil τ _ css k e σ (by simpa using hl) (List.getElem?_set_self hkl) (by rw [hc', hc _ hc']) ho hp
  cases hr with
  | plain _ cs ha=>
   cases ha with
   | agg _ _ css hl hh=>
    refine ⟨none, .inl rfl, fun S2 hsub _ _=> keep hl (fun c hc=> ?_) fun i a cs h0 h1 h2=> ?_⟩
    ·have := hh k _ c hk hc
     cases this; rfl
    ·rw [List.getElem?_set_ne (Ne.symm h0)] at h1
     exact up hsub (hh i a cs h1 h2)
  | agf _ _ css k2 e2 σ2 xs g cap hl hk2 hc2 ho hg hS hrow=>
   exact absurd hk2 (hn _ _ _ _)
  | agfNil _ _ css k2 e2 σ2 hl hk2 hc2 ho hp2=>
   exact absurd hk2 (hn _ _ _ _)
 | agT τ fs a hi=>
  have low : ∀ {S2 : Nat -> Prop} {css : List (List Value)}, fs.length = css.length -> (∀ (i : Nat) a cs, fs[i]? = some a -> css[i]? = some cs -> AR S2 w (fun _=> none) (fun _=> none) pv (frT a) cs) -> R1 S2 w n0 pv a' (.agg css.flatten.toArray) none := fun {S2 css} hl hh=> by
   obtain ⟨x, rfl, hx⟩ := implode_ok (S := S2) (w := w) (ρ := fun _=> none) (row := fun _=> none) (pv := pv) hi ⟨css, rfl, by simpa using hl, fun i b cs hb hcs=> by
    rw [List.getElem?_map] at hb
    cases hf : fs[i]? with
    | none=> rw [hf] at hb; cases hb
    | some c=> rw [hf] at hb; cases hb; exact hh i c cs hf hcs⟩
   have hag : agT τ = true:= by have := implode_ag hi; exact this
   have : valOf (.t τ x) css.flatten = .agg css.flatten.toArray:= by rw [valOf, isAg, hag]; rfl
   rw [<- this]
   exact .plain _ _ (.t τ x _ hx)
  have frid : ∀ {S3 : Nat -> Prop} {b : AV} {cs : List Value}, AR S3 w (fun _=> none) (fun _=> none) pv b cs -> frT b = b := fun h=> by cases h <;> rfl
  cases hr with
  | plain _ cs ha=>
   cases ha with
   | agg _ _ css hl hh=>
    refine ⟨none, .inl rfl, fun S2 hsub _ _=> low hl fun i b cs hb hcs=> ?_⟩
    have := hh i b cs hb hcs
    rw [frid this]
    exact up hsub this
  | agf _ _ css k e σ xs g cap hl hk hc ho hg hS hrow=>
   refine ⟨none, .inl rfl, fun S2 hsub hS2 _=> low hl fun i b cs hb hcs=> ?_⟩
   by_cases e1 : i = k
   ·subst e1
    rw [hk] at hb
    rw [hc] at hcs
    cases hb; cases hcs
    exact .t _ _ _ (frc (hS2 g rfl rfl) (row hsub hrow))
   ·have := ho i b cs e1 hb hcs
    rw [frid this]
    exact up hsub this
  | agfNil _ _ css k e σ hl hk hc ho hp=>
   refine ⟨none, .inl rfl, fun S2 hsub hS2 _=> low hl fun i b cs hb hcs=> ?_⟩
   by_cases e1 : i = k
   ·subst e1
    rw [hk] at hb
    rw [hc] at hcs
    cases hb; cases hcs
    exact .t _ _ _ (cr_nil S2 w σ)
   ·have := ho i b cs e1 hb hcs
    rw [frid this]
    exact up hsub this
 | nilFr e τ hp=>
  refine ⟨none, .inl rfl, fun S2 hsub _ _=> ?_⟩
  cases hr with
  | plain _ cs ha=> cases ha; exact .frNil e τ hp
 | nilT e=>
  refine ⟨none, .inl rfl, fun S2 hsub _ _=> ?_⟩
  cases hr with
  | plain _ cs ha=> cases ha; exact .plain (.t (.sl e) []) _ (.t _ _ _ (cr_nil S2 w e))
 | frT e τ xs=>
  refine ⟨none, .inl rfl, fun S2 hsub hS2 _=> ?_⟩
  cases hr with
  | plain _ cs ha=> cases ha
  | fr _ _ _ g cap hg hS hrow=>
   obtain ⟨cur, f, h1, h2, h3, h4, h5, h6, h7, h8⟩ := row hsub hrow
   have hx : ∀ i, ∃ cs, ∀ (hi : i < xs.length), CR S2 w τ xs[i] cs /\ ∀ j v, cs[j]? = some v -> cur[i * nc τ + j]? = some v := fun i=> by
    by_cases hi : i < xs.length
    ·obtain ⟨cs, hc⟩ := h8 i hi
     exact ⟨cs, fun _=> ⟨hc.1.un, hc.2⟩⟩
    ·exact ⟨[], fun h=> absurd h hi⟩
   refine .plain (.t (.sl τ) xs) [.slice (some ⟨g, 0, none⟩) xs.length cap] (.t _ _ _ (.sl τ xs _ cap (fun i=> Classical.choose (hx i)) h3 h4 (fun i hi=> (Classical.choose_spec (hx i) hi).1) fun i hi=> ⟨g, 0, rfl, hS2 g rfl rfl, fun j v hj=> ?_⟩))
   have := (Classical.choose_spec (hx i) hi).2 j v hj
   simp only [World.cell?, h1, Nat.zero_add]
   simpa using this
  | frNil _ _ hp=> exact .plain (.t (.sl τ) []) _ (.t _ _ _ (cr_nil S2 w τ))
def Wk (r r' : AV) : Prop := ((∀ l, r ≠ .tup l) /\ (∀ l, r' ≠ .tup l) /\ Wk1 r r') \/ ∃ rs rs', r = .tup rs /\ r' = .tup rs' /\ rs'.length = rs.length /\ ∀ (i : Nat) a a', rs[i]? = some a -> rs'[i]? = some a' -> Wk1 a a'
theorem rr_one {S : Nat -> Prop} {w : World} {n0 : Nat} {pv : Nat -> Value} {r : AV} {v : Value} (h : ∀ l, r ≠ .tup l) : RR S w n0 pv r v ↔ ∃ g, R1 S w n0 pv r v g:= by
 cases r with
 | tup l=> exact absurd rfl (h l)
 | _=> exact Iff.rfl
theorem rr_wk {S : Nat -> Prop} {w : World} {n0 : Nat} {pv : Nat -> Value} {r r' : AV} {v : Value} (h : Wk r r') (hr : RR S w n0 pv r v) :
  ∃ S2 : Nat -> Prop, (∀ b, S b -> S2 b) /\ (∀ b, S2 b -> S b \/ (n0 <= b /\ b < w.heap.size)) /\ RR S2 w n0 pv r' v:= by
 rcases h with ⟨h1, h2, h3⟩ | ⟨rs, rs', rfl, rfl, hl, hw⟩
 ·obtain ⟨g, hg⟩ := (rr_one h1).1 hr
  obtain ⟨g', h4, h5⟩ := wk1_ok h3 hg
  refine ⟨fun b=> S b \/ (g = some b /\ g' = none), fun b hb=> .inl hb, fun b hb=> hb.imp _root_.id fun ⟨e, _⟩=> by subst e; exact ⟨hg.new.1, hg.new.2.1⟩, (rr_one h2).2 ⟨g', h5 _ (fun b hb=> .inl hb) (fun b e1 e2=> .inr ⟨e1, e2⟩) fun b e=> ?_⟩⟩
  rcases h4 with h4 | h4
  ·rw [h4] at e; cases e
  ·rw [h4] at e
   subst e
   rintro (hb | ⟨_, hb⟩)
   ·exact hg.new.2.2 hb
   ·rw [h4] at hb; cases hb
 ·obtain ⟨vs, gs, rfl, hvl, hgl, hc, hd⟩ := hr
  have key : ∀ i : Nat, ∃ g' : Option Nat, ∀ a a' v g, rs[i]? = some a -> rs'[i]? = some a' -> vs[i]? = some v -> gs[i]? = some g -> (g' = none \/ g' = g) /\ ∀ S2 : Nat -> Prop, (∀ b, S b -> S2 b) -> (∀ b, g = some b -> g' = none -> S2 b) -> (∀ b, g' = some b -> ¬ S2 b) -> R1 S2 w n0 pv a' v g' := fun i=> by
   by_cases hi : i < rs.length
   ·have e1 : rs[i]? = some rs[i] := List.getElem?_eq_getElem hi
    have e2 : rs'[i]? = some rs'[i] := List.getElem?_eq_getElem (by omega)
    have e3 : vs[i]? = some vs[i] := List.getElem?_eq_getElem (by omega)
    have e4 : gs[i]? = some gs[i] := List.getElem?_eq_getElem (by omega)
    obtain ⟨g', h1, h2⟩ := wk1_ok (hw i _ _ e1 e2) (hc i _ _ _ e1 e3 e4)
    refine ⟨g', fun a a' v g f1 f2 f3 f4=> ?_⟩
    rw [e1] at f1; rw [e2] at f2; rw [e3] at f3; rw [e4] at f4
    cases f1; cases f2; cases f3; cases f4
    exact ⟨h1, h2⟩
   ·exact ⟨none, fun a a' v g f1=> by rw [List.getElem?_eq_none (by omega)] at f1; cases f1⟩
  obtain ⟨gf, hgf⟩ : ∃ gf : Nat -> Option Nat, ∀ (i : Nat) a a' v g, rs[i]? = some a -> rs'[i]? = some a' -> vs[i]? = some v -> gs[i]? = some g -> (gf i = none \/ gf i = g) /\ ∀ S2 : Nat -> Prop, (∀ b, S b -> S2 b) -> (∀ b, g = some b -> gf i = none -> S2 b) -> (∀ b, gf i = some b -> ¬ S2 b) -> R1 S2 w n0 pv a' v (gf i) :=
   ⟨fun i=> Classical.choose (key i), fun i=> Classical.choose_spec (key i)⟩
  have full : ∀ i g, gs[i]? = some g -> ∃ a v, rs[i]? = some a /\ vs[i]? = some v /\ R1 S w n0 pv a v g := fun i g hg=> by
   have hi := (List.getElem?_eq_some_iff.1 hg).1
   have e1 : rs[i]? = some rs[i] := List.getElem?_eq_getElem (by omega)
   have e3 : vs[i]? = some vs[i] := List.getElem?_eq_getElem (by omega)
   exact ⟨_, _, e1, e3, hc i _ _ _ e1 e3 hg⟩
  refine ⟨fun b=> S b \/ ∃ i : Nat, gs[i]? = some (some b) /\ gf i = none, fun b hb=> .inl hb, fun b hb=> ?_, vs, (List.range rs.length).map gf, rfl, by omega, by simp [hl], fun i r v g h1 h2 h3=> ?_, fun i j g hij h1 h2=> ?_⟩
  ·rcases hb with hb | ⟨i, hi, _⟩
   ·exact .inl hb
   ·obtain ⟨a, v, _, _, h1⟩ := full i _ hi
    exact .inr ⟨h1.new.1, h1.new.2.1⟩
  ·have hi : i < rs.length:= by have := (List.getElem?_eq_some_iff.1 h1).1; omega
   have e1 : rs[i]? = some rs[i] := List.getElem?_eq_getElem hi
   have e4 : gs[i]? = some gs[i] := List.getElem?_eq_getElem (by omega)
   simp only [List.getElem?_map, List.getElem?_range hi, Option.map_some, Option.some.injEq] at h3
   subst h3
   obtain ⟨h5, h6⟩ := hgf i _ _ _ _ e1 h1 h2 e4
   refine h6 _ (fun b hb=> .inl hb) (fun b e1 e2=> .inr ⟨i, by rw [e4, e1], e2⟩) fun b e=> ?_
   rcases h5 with h5 | h5
   ·rw [h5] at e; cases e
   ·rw [h5] at e
    rw [e] at e4
    obtain ⟨_, _, _, _, h7⟩ := full i _ e4
    rintro (hb | ⟨j, hj, hb⟩)
    ·exact h7.new.2.2 hb
    ·by_cases hij : i = j
     ·subst hij; rw [h5, e] at hb; cases hb
     ·exact hd i j b hij e4 hj
  ·have hi : i < rs.length:= by have := (List.getElem?_eq_some_iff.1 h1).1; simpa using this
   have hj : j < rs.length:= by have := (List.getElem?_eq_some_iff.1 h2).1; simpa using this
   simp only [List.getElem?_map, List.getElem?_range hi, List.getElem?_range hj, Option.map_some, Option.some.injEq] at h1 h2
   have f : ∀ i, i < rs.length -> gf i = some g -> gs[i]? = some (some g) := fun i hi h=> by
    have e1 : rs[i]? = some rs[i] := List.getElem?_eq_getElem hi
    have e2 : rs'[i]? = some rs'[i] := List.getElem?_eq_getElem (by omega)
    have e3 : vs[i]? = some vs[i] := List.getElem?_eq_getElem (by omega)
    have e4 : gs[i]? = some gs[i] := List.getElem?_eq_getElem (by omega)
    rcases (hgf i _ _ _ _ e1 e2 e3 e4).1 with h5 | h5
    ·rw [h5] at h; cases h
    ·rw [e4, <- h5, h]
   exact hd i j g hij (f i hi h1) (f j hj h2)
theorem Goes.mono {P : Program} {E : Env} {pv : Nat -> Value} {cal : Cal} {args args' : List AV} {r r' : AV} (h : Meets P E pv cal args r) (hw : Wk r r') (ha : ∀ S w vs, ArgsOk S w pv args' vs -> ArgsOk S w pv args vs) : Meets P E pv cal args' r':= by
 intro S w vs hst hgl hargs
 have := h S w vs hst hgl (ha S w vs hargs)
 have step : ∀ v w', (Below w.heap.size w w' /\ ∃ S' : Nat -> Prop, (∀ b, S b -> S' b) /\ (∀ b, S' b -> S b \/ (w.heap.size <= b /\ b < w'.heap.size)) /\ RR S' w' w.heap.size pv r v) -> (Below w.heap.size w w' /\ ∃ S' : Nat -> Prop, (∀ b, S b -> S' b) /\ (∀ b, S' b -> S b \/ (w.heap.size <= b /\ b < w'.heap.size)) /\ RR S' w' w.heap.size pv r' v) := fun v w' ⟨hb, S', h1, h2, h3⟩=> by
  obtain ⟨S2, h4, h5, h6⟩ := rr_wk hw h3
  exact ⟨hb, S2, fun b hb=> h4 b (h1 b hb), fun b hb=> (h5 b hb).elim (h2 b) .inr, h6⟩
 cases cal with
 | f n=> exact RunsTo.mono this step
 | par i=> exact RunsTo.mono this step
theorem wk_refl (r : AV) : Wk r r:= by
 cases r with
 | tup rs=> exact .inr ⟨rs, rs, rfl, rfl, rfl, fun i a a' e1 e2=> by rw [e1] at e2; cases e2; exact .refl a⟩
 | _=> exact .inl ⟨fun l h=> (by cases h), fun l h=> (by cases h), .refl _⟩
inductive WkM : AV -> AV -> Prop
 | kep (o r r' : AV) (h : Wk r r') : WkM (.kep o r) (.kep o r')
 | mov (e : Nat) (τ : Ty) (ys : List (den τ)) : WkM (.mov e τ ys) (.mov e τ ys)
 | eat (τ : Ty) (y : den τ) : WkM (.pc false τ y) (.pc false τ y)
theorem MeetsM.mono {P : Program} {E : Env} {pv : Nat -> Value} {f : Nat} {a0 : AV} {args : List AV} {r r' : AV} (h : MeetsM P E pv f a0 args r) (hw : WkM r r') : MeetsM P E pv f a0 args r':= by
 intro S w v0 vs l r0 hst hgl hargs hr0 hrow hSl hv0
 have := h S w v0 vs l r0 hst hgl hargs hr0 hrow hSl hv0
 refine RunsTo.mono this fun v w' ⟨hb, S', h1, h2, h3⟩=> ?_
 cases hw with
 | mov e τ ys=> exact ⟨hb, S', h1, h2, h3⟩
 | eat τ y=> exact ⟨hb, S', h1, h2, h3⟩
 | kep o r r' hw=>
  obtain ⟨h4, r1, ro, h5, h6, h7, h8, h9⟩ := h3
  obtain ⟨S2, k1, k2, k3⟩ := rr_wk hw h4
  have hlt : ∀ g c, l = .at g c -> g < w.heap.size := fun g c e=> by subst e; exact hrow.lt
  refine ⟨hb, S2, fun b hb=> k1 b (h1 b hb), fun b hb=> ?_, k3, r1, ro, h5, h6, ?_, h8, fun g c e hS=> ?_⟩
  ·rcases k2 b hb with h | h
   ·exact h2 b h
   ·exact .inr (.inr h)
  ·exact RowOk.ext (P := fun _=> True) k1 (fun _ _=> rfl) (fun id l r _ h1=> by cases h1) h7 (fun _ _=> rfl) (fun _ _ _ _ _=> trivial)
  ·rcases k2 g hS with h | h
   ·exact h9 g c e h
   ·have := hlt g c e; omega
theorem clF_wk (τ : Ty) (fs : List AV) : Wk1 (.agg τ fs) (clF τ fs):= by
 unfold clF
 split
 ·rename_i a h; exact .agT τ fs a h
 ·exact .refl _
theorem cl1_wk (m : Nat) (a : AV) : Wk1 a (cl1 m a):= by
 cases a with
 | fr e τ xs=>
  match m with
  | 0=> exact .refl _
  | 1=>
   show Wk1 _ (cond (slT τ) _ _)
   cases slT τ
   ·exact .refl _
   ·exact .frT e τ xs
  | m + 2=> exact .frT e τ xs
 | agg τ fs=>
  match m with
  | 0=> exact .refl _
  | 1=>
   show Wk1 _ (cond (frSl fs) _ _)
   cases frSl fs
   ·exact .refl _
   ·exact clF_wk τ fs
  | m + 2=> exact clF_wk τ fs
 | _=> exact .refl _
theorem implode_nt {τ : Ty} {fs : List AV} {a : AV} (h : implode τ fs = some a) : ∃ x, a = .t τ x:= by
 unfold implode at h
 (repeat' split at h) <;> first
  | (cases h; done)
  | (simp only [Option.some.injEq] at h; subst h; exact ⟨_, rfl⟩)
theorem cl1_form (m : Nat) {a : AV} (h : (∃ e τ, ∃ xs : List (den τ), a = .fr e τ xs) \/ ∃ τ fs, a = .agg τ fs) : (∃ τ, ∃ x : den τ, slT τ = true /\ cl1 m a = .t τ x) \/ (∃ τ, ∃ x : den τ, agT τ = true /\ cl1 m a = .t τ x) \/ cl1 m a = a:= by
 have hF : ∀ τ fs, (∃ x : den τ, agT τ = true /\ clF τ fs = .t τ x) \/ clF τ fs = .agg τ fs := fun τ fs=> by
  unfold clF
  split
  ·rename_i a h
   obtain ⟨x, rfl⟩ := implode_nt h
   exact .inl ⟨x, implode_ag h, rfl⟩
  ·exact .inr rfl
 rcases h with ⟨e, τ, xs, rfl⟩ | ⟨τ, fs, rfl⟩
 ·match m with
  | 0=> exact .inr (.inr rfl)
  | 1=>
   show _ \/ _ \/ cond (slT τ) (AV.t (.sl τ) xs) (.fr e τ xs) = _
   cases hs : slT τ
   ·exact .inr (.inr rfl)
   ·exact .inl ⟨.sl τ, xs, rfl, by show cond (slT τ) _ _ = _; rw [hs]; rfl⟩
  | m + 2=> exact .inl ⟨.sl τ, xs, rfl, rfl⟩
 ·match m with
  | 0=> exact .inr (.inr rfl)
  | 1=>
   cases hs : frSl fs
   ·exact .inr (.inr (by show cond (frSl fs) _ _ = _; rw [hs]; rfl))
   ·rcases hF τ fs with ⟨x, h1, h2⟩ | h
    ·exact .inr (.inl ⟨τ, x, h1, by show cond (frSl fs) _ _ = _; rw [hs]; exact h2⟩)
    ·exact .inr (.inr (by show cond (frSl fs) _ _ = _; rw [hs]; exact h))
  | m + 2=>
   rcases hF τ fs with ⟨x, h1, h2⟩ | h
   ·exact .inr (.inl ⟨τ, x, h1, h2⟩)
   ·exact .inr (.inr h)
theorem cl1_nt (m : Nat) {a : AV} (h : (∃ e τ, ∃ xs : List (den τ), a = .fr e τ xs) \/ ∃ τ fs, a = .agg τ fs) : (∀ l, cl1 m a ≠ .tup l) /\ ∀ k n, cl1 m a ≠ .t (.int k) n:= by
 rcases cl1_form m h with ⟨τ, x, hs, e⟩ | ⟨τ, x, hs, e⟩ | e
 ·rw [e]; exact ⟨fun l h=> (by cases h), fun k n h=> (by cases h; cases hs)⟩
 ·rw [e]; exact ⟨fun l h=> (by cases h), fun k n h=> (by cases h; cases hs)⟩
 ·rw [e]
  rcases h with ⟨e, τ, xs, rfl⟩ | ⟨τ, fs, rfl⟩
  ·exact ⟨fun l h=> (by cases h), fun k n h=> (by cases h)⟩
  ·exact ⟨fun l h=> (by cases h), fun k n h=> (by cases h)⟩
theorem clT_wk (m : Nat) (r : AV) : Wk r (clT m r):= by
 cases r with
 | tup l=> exact .inr ⟨l, l.map (cl1 m), rfl, rfl, by simp, fun i a a' e1 e2=> by
   rw [List.getElem?_map, e1] at e2
   cases e2
   exact cl1_wk m a⟩
 | fr e τ xs=> exact .inl ⟨fun l h=> (by cases h), (cl1_nt m (.inl ⟨e, τ, xs, rfl⟩)).1, cl1_wk m _⟩
 | agg τ fs=> exact .inl ⟨fun l h=> (by cases h), (cl1_nt m (.inr ⟨τ, fs, rfl⟩)).1, cl1_wk m _⟩
 | _=> exact .inl ⟨fun l h=> (by cases h), fun l h=> (by cases h), .refl _⟩
theorem MeetsM.cl {P : Program} {E : Env} {pv : Nat -> Value} {f : Nat} {a0 : AV} {args : List AV} {r : AV} (m : Nat) (h : MeetsM P E pv f a0 args r) : MeetsM P E pv f a0 args (clA m r):= by
 cases r with
 | kep o r'=> exact h.mono (.kep _ _ _ (clT_wk (m3 m) r'))
 | fr e τ xs=>
  intro S w v0 vs l r0 hst hgl hargs hr0 hrow hSl hv0
  exact RunsTo.mono (h S w v0 vs l r0 hst hgl hargs hr0 hrow hSl hv0) fun v w' ⟨_, _, _, _, h3⟩=> h3.elim
 | tup l=>
  intro S w v0 vs l r0 hst hgl hargs hr0 hrow hSl hv0
  exact RunsTo.mono (h S w v0 vs l r0 hst hgl hargs hr0 hrow hSl hv0) fun v w' ⟨_, _, _, _, h3⟩=> h3.elim
 | agg τ fs=>
  intro S w v0 vs l r0 hst hgl hargs hr0 hrow hSl hv0
  exact RunsTo.mono (h S w v0 vs l r0 hst hgl hargs hr0 hrow hSl hv0) fun v w' ⟨_, _, _, _, h3⟩=> h3.elim
 | pc c τ x=>
  show MeetsM P E pv f a0 args (cond (c && (slT τ && Nat.blt 0 m)) (.t τ x) (.pc c τ x))
  cases c with
  | false=> exact h
  | true=>
   intro S w v0 vs l r0 hst hgl hargs hr0 hrow hSl hv0
   exact RunsTo.mono (h S w v0 vs l r0 hst hgl hargs hr0 hrow hSl hv0) fun v w' ⟨_, _, _, _, h3⟩=> h3.elim
 | _=> exact h
theorem Meets.cl {P : Program} {E : Env} {pv : Nat -> Value} {cal : Cal} {args : List AV} {r : AV} (m : Nat) (h : Meets P E pv cal args r) : Meets P E pv cal args (clA m r):= by
 have go : clA m r = clT (m3 m) r -> Meets P E pv cal args (clA m r) := fun e=> by
  rw [e]; exact Goes.mono h (clT_wk (m3 m) r) fun _ _ _ h=> h
 cases r with
 | kep o r'=>
  intro S w vs hst hgl hargs
  have := h S w vs hst hgl hargs
  have step : ∀ (v : Value) (w' : World) (X : Prop), (Below w.heap.size w w' /\ ∃ S' : Nat -> Prop, (∀ b, S b -> S' b) /\ (∀ b, S' b -> S b \/ (w.heap.size <= b /\ b < w'.heap.size)) /\ RR S' w' w.heap.size pv (.kep o r') v) -> X := fun v w' X ⟨_, S', _, _, g, h3⟩=> by
   cases h3 with
   | plain _ cs ha=> cases ha
  cases cal with
  | f n=> exact RunsTo.mono this fun v w' h=> step v w' _ h
  | par i=> exact RunsTo.mono this fun v w' h=> step v w' _ h
 | pc c τ x=>
  show Meets P E pv cal args (cond (c && (slT τ && Nat.blt 0 m)) (.t τ x) (.pc c τ x))
  cases hb : (c && (slT τ && Nat.blt 0 m)) with
  | false=> exact h
  | true=>
   simp only [Bool.and_eq_true] at hb
   rw [hb.1] at h
   exact Goes.mono h (.inl ⟨fun l h=> (by cases h), fun l h=> (by cases h), .pcT τ x⟩) fun _ _ _ h=> h
 | _=> exact go rfl
def clG (m : Nat) (G : Cal -> List AV -> AV -> Prop) : Cal -> List AV -> AV -> Prop := fun cal args r=> ∃ r0, G cal args r0 /\ r = clA m r0
theorem OrcIs.cl {C : Orc} {G : Cal -> List AV -> AV -> Prop} (m : Nat) (h : OrcIs C G) : OrcIs (clC m C) (clG m G) := fun R cal args K r hr=> by
 obtain ⟨res, h1, h2⟩ := h R cal args (fun r=> K (clA m r)) r hr
 exact ⟨_, ⟨res, h1, rfl⟩, h2⟩
theorem rt1_cl (m : Nat) {w : World} {pv : Nat -> Value} {r : AV} {v : Value} {T : Nat -> Prop} (h : RT1 w pv r v T) : RT1 w pv (cl1 m r) v T:= by
 have fr : ∀ {e : Nat} {τ : Ty} {xs : List (den τ)} {v : Value}, slT τ = false -> RT1 w pv (.fr e τ xs) v T -> RT1 w pv (cl1 m (.fr e τ xs)) v T := fun {e τ xs v} hs h=> by
  match m with
  | 0=> exact h
  | 1=> simp only [cl1, hs, cond_false]; exact h
  | _ + 2=> exact .weak _ _ _ _ rfl
 cases h with
 | flat τ x cs _ hs h=> exact .flat τ x cs _ hs h
 | weak τ x v _ hs=> exact .weak τ x v _ hs
 | nil=> exact .nil _
 | fr e τ xs g cap _ hs hT h=> exact fr hs (.fr e τ xs g cap _ hs hT h)
 | frNil e τ _ hs h=> exact fr hs (.frNil e τ _ hs h)
 | tr τ x cs _ hs h=> exact .tr τ x cs _ hs h
theorem rt_cl (m : Nat) {w : World} {n0 : Nat} {O : Nat -> Prop} {pv : Nat -> Value} {r : AV} {v : Value} (h : RT w n0 O pv r v) : RT w n0 O pv (clA m r) v:= by
 have one : ∀ {r : AV}, (∀ l, r ≠ .tup l) -> (∃ T, RT1 w pv r v T /\ NewB w n0 O T) -> clA m r = cl1 (m3 m) r -> RT w n0 O pv (clA m r) v := fun {r} hr ⟨T, h1, h2⟩ e=> by
  rw [e]
  have h3 := rt1_cl (m3 m) h1
  have hn : ∀ l, cl1 (m3 m) r ≠ .tup l := fun l e=> by
   rw [e] at h3; cases h3
  generalize cl1 (m3 m) r = r' at *
  cases r' with
  | tup l=> exact absurd rfl (hn l)
  | _=> exact ⟨T, h3, h2⟩
 cases r with
 | tup rs=>
  obtain ⟨vs, Ts, h1, h2, h3, h4⟩ := h
  refine ⟨vs, Ts, h1, by rw [List.length_map]; exact h2, fun i r v hr hv=> ?_, h4⟩
  rw [List.getElem?_map, Option.map_eq_some_iff] at hr
  obtain ⟨r0, hr0, rfl⟩ := hr
  obtain ⟨k1, k2⟩ := h3 i r0 v hr0 hv
  exact ⟨rt1_cl (m3 m) k1, k2⟩
 | kep o r=> obtain ⟨T, h1, _⟩ := h; cases h1
 | pc c τ x=> obtain ⟨T, h1, _⟩ := h; cases h1
 | fr e τ xs=> exact one (by simp) h rfl
 | agg τ fs=> exact one (by simp) h rfl
 | _=> exact h
theorem GOk.cl {P : Program} {E : Env} {pv : Nat -> Value} {G : Cal -> List AV -> AV -> Prop} (m : Nat) (h : GOk P E pv G) : GOk P E pv (clG m G):= by
 rintro cal args _ ⟨r, hr, rfl⟩
 obtain ⟨h1, h2, h3, h4, h5, h6⟩ := h cal args r hr
 refine ⟨fun hn=> ⟨(h1 hn).1.cl m, fun f a0 rest e1 e2 e3=> ((h1 hn).2 f a0 rest e1 e2 e3).cl m⟩, fun f τ x k m' e1 e2 e3=> ?_, fun f as e1 e2=> ?_, fun f as e1 e2=> ?_, fun f τ x as y e1 e2 e3 e4=> ?_, fun f τ x k y m' e1 e2 e3 e4=> ?_⟩
 ·refine h2 f τ x k m' e1 e2 ?_
  cases r with
  | fr e τ xs=> exact absurd e3 ((cl1_nt (m3 m) (.inl ⟨e, τ, xs, rfl⟩)).2 _ _)
  | agg τ fs=> exact absurd e3 ((cl1_nt (m3 m) (.inr ⟨τ, fs, rfl⟩)).2 _ _)
  | tup l=> cases e3
  | kep o r=> cases e3
  | pc c σ z=>
   have e5 : cond (c && (slT σ && Nat.blt 0 m)) (AV.t σ z) (.pc c σ z) = .t (.int .i64) m' := e3
   cases hb : (c && (slT σ && Nat.blt 0 m)) with
   | false=> rw [hb] at e5; cases e5
   | true=>
    rw [hb] at e5
    cases e5
    simp only [Bool.and_eq_true] at hb
    cases hb.2.1
  | _=> exact e3
 ·intro S w vs hst hgl hargs
  refine RunsTo.mono (h3 f as e1 e2 S w vs hst hgl hargs) fun u w' ⟨hb, τ, x, T, cs, e, h4⟩=> ⟨hb, τ, x, T, cs, ?_, h4⟩
  rcases e with e | e
  ·rw [e]
   show cond (true && (slT τ && Nat.blt 0 m)) (AV.t τ x) (.pc true τ x) = _ \/ cond (true && (slT τ && Nat.blt 0 m)) (AV.t τ x) (.pc true τ x) = _
   cases (true && (slT τ && Nat.blt 0 m))
   ·exact .inl rfl
   ·exact .inr rfl
  ·rw [e]; exact .inr rfl
 ·intro S w vs hst hgl hargs
  exact RunsTo.mono (h4 f as e1 e2 S w vs hst hgl hargs) fun u w' ⟨hb, hr⟩=> ⟨hb, rt_cl m hr⟩
 ·refine h5 f τ x as y e1 e2 e3 ?_
  cases r with
  | fr e τ xs=> rcases cl1_form (m3 m) (.inl ⟨e, τ, xs, rfl⟩) with ⟨_, _, _, h⟩ | ⟨_, _, _, h⟩ | h <;> (have e5 : cl1 (m3 m) (.fr e τ xs) = _ := e4; rw [h] at e5; cases e5)
  | agg τ fs=> rcases cl1_form (m3 m) (.inr ⟨τ, fs, rfl⟩) with ⟨_, _, _, h⟩ | ⟨_, _, _, h⟩ | h <;> (have e5 : cl1 (m3 m) (.agg τ fs) = _ := e4; rw [h] at e5; cases e5)
  | tup l=> cases e4
  | kep o r=> cases e4
  | pc c σ z=>
   have e5 : cond (c && (slT σ && Nat.blt 0 m)) (AV.t σ z) (.pc c σ z) = .tr τ y := e4
   cases hb : (c && (slT σ && Nat.blt 0 m)) <;> rw [hb] at e5 <;> cases e5
  | _=> exact e4
 ·refine h6 f τ x k y m' e1 e2 e3 ?_
  cases r with
  | fr e τ xs=> rcases cl1_form (m3 m) (.inl ⟨e, τ, xs, rfl⟩) with ⟨_, _, _, h⟩ | ⟨_, _, _, h⟩ | h <;> (have e5 : cl1 (m3 m) (.fr e τ xs) = _ := e4; rw [h] at e5; cases e5)
  | agg τ fs=> rcases cl1_form (m3 m) (.inr ⟨τ, fs, rfl⟩) with ⟨_, _, _, h⟩ | ⟨_, _, _, h⟩ | h <;> (have e5 : cl1 (m3 m) (.agg τ fs) = _ := e4; rw [h] at e5; cases e5)
  | tup l=> cases e4
  | kep o r=>
   have e5 : AV.kep o (clT (m3 m) r) = .kep (.t τ y) (.t (.int .i64) m') := e4
   injection e5 with e6 e7
   subst e6
   congr 1
   cases r with
   | fr e τ xs=> exact absurd e7 ((cl1_nt (m3 m) (.inl ⟨e, τ, xs, rfl⟩)).2 _ _)
   | agg τ fs=> exact absurd e7 ((cl1_nt (m3 m) (.inr ⟨τ, fs, rfl⟩)).2 _ _)
   | tup l=> cases e7
   | _=> exact e7
  | pc c σ z=>
   have e5 : cond (c && (slT σ && Nat.blt 0 m)) (AV.t σ z) (.pc c σ z) = .kep (.t τ y) (.t (.int .i64) m') := e4
   cases hb : (c && (slT σ && Nat.blt 0 m)) <;> rw [hb] at e5 <;> cases e5
  | _=> exact e4
end Go.Gx
end
section
/- Trees: the interpreter's steps are the machine's. -/
namespace Go.Gx
open Go.RowKit
theorem tyP_snoc : ∀ {p : List Nat} {e τ : Ty} {f : Nat} {σ : Ty}, tyP e p = some τ -> (fty τ)[f]? = some σ -> tyP e (p ++ [f]) = some σ
 | [], e, τ, f, σ, h, h1=> by simp only [tyP, Option.some.injEq] at h; subst h; simp only [List.nil_append, tyP, h1]
 | g :: p, e, τ, f, σ, h, h1=> by
  simp only [tyP] at h
  split at h
  ·rename_i θ hθ
   simp only [List.cons_append, tyP, hθ]
   exact tyP_snoc h h1
  ·cases h
theorem pOk_snoc : ∀ {p : List Nat} {e τ : Ty} {f : Nat}, tyP e p = some τ -> pOk e p = true -> stT τ f = true -> pOk e (p ++ [f]) = true
 | [], e, τ, f, h, _, h1=> by simp only [tyP, Option.some.injEq] at h; subst h; simp only [List.nil_append, pOk, h1, Bool.and_true]
 | g :: p, e, τ, f, h, h0, h1=> by
  simp only [tyP] at h
  split at h
  ·rename_i θ hθ
   have hd : (fty e).getD g .bool = θ:= by rw [List.getD_eq_getElem?_getD, hθ]; rfl
   simp only [pOk, hd, Bool.and_eq_true, List.cons_append] at h0 ⊢
   exact ⟨h0.1, pOk_snoc h h0.2 h1⟩
  ·cases h
theorem offP_snoc : ∀ {p : List Nat} {e τ : Ty} {f : Nat}, tyP e p = some τ -> offP e (p ++ [f]) = offP e p + offL (fty τ) f
 | [], e, τ, f, h=> by simp only [tyP, Option.some.injEq] at h; subst h; simp only [List.nil_append, offP]; omega
 | g :: p, e, τ, f, h=> by
  simp only [tyP] at h
  split at h
  ·rename_i θ hθ
   have hd : (fty e).getD g .bool = θ:= by rw [List.getD_eq_getElem?_getD, hθ]; rfl
   simp only [List.cons_append, offP, hd, offP_snoc h]
   omega
  ·cases h
theorem soft_back {T : Nat -> Prop} {v w : World} (h : SoftW T v w) {g o : Nat} (hg : T g) {A : Option Addr} {n c : Nat} (hu : w.cell? ⟨g, o, none⟩ = some (.slice A n c)) : v.cell? ⟨g, o, none⟩ = some (.slice A n c):= by
 obtain ⟨_, ⟨cur, e, f, h1, h2⟩, h3⟩ := h g hg
 obtain ⟨cur', h4, h5, h6⟩ := h3 cur e f h1
 rw [cell_of h4] at hu
 have ho : o < cur'.size := (Array.getElem?_eq_some_iff.1 hu).1
 have hc : cur[o]? = some (cur[o]'(by omega)) := Array.getElem?_eq_getElem (by omega)
 have := h6 o _ _ hc hu
 rw [cell_of h1, hc]
 generalize cur[o]'(by omega) = u0 at this
 cases u0 <;> simp only [softV] at this <;> first
  | (cases this; done)
  | (cases this; rfl)
theorem softw_set {T : Nat -> Prop} {v w : World} (h : SoftW T v w) {g o : Nat} {cur : Array Value} {t : TypeId} {f : Nat × Nat} {u0 u1 : Value} (hg : w.heap[g]? = some (.cells cur t f)) (hu : cur[o]? = some u0) (hs : softV u0 u1) : SoftW T v (w.setRow g (splice cur.toList o [u1]).toArray):= by
 have ho : o < cur.size := (Array.getElem?_eq_some_iff.1 hu).1
 refine h.trans fun k hk=> ⟨by simpa [World.setRow] using (h k hk).1, softw_ob h hk, ?_⟩
 by_cases e : k = g
 ·subst e
  rw [setRow_heap w k cur _ _ _ hg]
  intro c0 e0 f0 h0
  rw [hg] at h0
  cases h0
  have hlen : (splice cur.toList o [u1]).length = cur.size:= by rw [splice_length (by simp; omega)]; simp
  refine ⟨_, rfl, by simpa using hlen, fun m p p' hp hp'=> ?_⟩
  simp only [List.getElem?_toArray] at hp'
  rw [splice_get (by simp; omega)] at hp'
  by_cases c1 : m < o
  ·rw [if_pos c1] at hp'
   have : cur[m]? = some p':= by simpa using hp'
   rw [hp] at this; cases this
   exact softV_refl _
  ·rw [if_neg c1] at hp'
   by_cases c2 : m < o + [u1].length
   ·rw [if_pos c2] at hp'
    have hmi : m = o:= by simp at c2; omega
    subst hmi
    simp at hp'
    subst hp'
    rw [hu] at hp; cases hp
    exact hs
   ·rw [if_neg c2] at hp'
    have : cur[m]? = some p':= by simpa using hp'
    rw [hp] at this; cases this
    exact softV_refl _
 ·rw [setRow_other w g k _ e]
  exact .refl _
theorem PlaceAt.same {v : World} {cs : List Value} {τ σ : Ty} {q : Option Nat} {p : List Nat} {u u' : Value} (h : PlaceAt v cs τ q p σ u) (k : PlaceAt v cs τ q p σ u') : u = u':= by
 cases h with
 | root _ _ _ _ _ _ h1=>
  cases k with
  | root _ _ _ _ _ _ h2=> rw [h1] at h2; exact Option.some.inj h2
 | elem e i _ _ _ g n c hc _ _ _ h1=>
  cases k with
  | elem _ _ _ _ _ g' n' c' hc' _ _ _ h2=>
   rw [hc] at hc'
   cases hc'
   rw [h1] at h2; exact Option.some.inj h2
section
variable {P : Program} {E : Env} {w0 : World} {B : Old} {pv : Nat -> Value} {S : Nat -> Prop} {ρ : Nat -> Option Loc} {st : St} {a : Act} {w : World} {o : Oper} {id : Nat} {K : Act -> World -> Prop} {Q : Exit -> Act -> World -> Prop} {row : Nat -> Option Row}
theorem vr_tv {j : Nat} {τ : Ty} {v : Value} (h : VR S w ρ row pv (.tv j τ) v) : ∃ b cs T u, row j = some (.box τ b) /\ ρ j = some (.tree cs T u) /\ v = valOf (.tv j τ) cs /\ AR S w ρ row pv (.tv j τ) cs:= by
 obtain ⟨cs, h', rfl⟩ := vr_ar h (by simp)
 have h0 := h'
 cases h' with
 | tv _ _ b _ T u hr hl _ _=> exact ⟨b, cs, T, u, hr, hl, rfl, h0⟩
theorem vr_tq {j i : Nat} {p : List Nat} {v : Value} (h : VR S w ρ row pv (.tq j i p) v) : ∃ e σ b T u g n c, row j = some (.box (.sl e) b) /\ ρ j = some (.tree [.slice (some ⟨g, 0, none⟩) n c] T u) /\ i < n /\ tyP e p = some σ /\ pOk e p = true /\ v = .pointer (some ⟨g, i * nc e + offP e p, none⟩):= by
 obtain ⟨cs, h', rfl⟩ := vr_ar h (by simp)
 cases h' with
 | tq _ _ _ e σ b T u g n c hr hl hi hp hq=> exact ⟨e, σ, b, T, u, g, n, c, hr, hl, hi, hp, hq, rfl⟩
theorem vr_vw {j : Nat} {q : Option Nat} {p : List Nat} {τ : Ty} {v : Value} (h : VR S w ρ row pv (.vw j q p τ) v) : ∃ σ b cs T u, row j = some (.box σ b) /\ ρ j = some (.tree cs T u) /\ PlaceAt u cs σ q p (.sl τ) v:= by
 obtain ⟨cs, h', rfl⟩ := vr_ar h (by simp)
 cases h' with
 | vw _ _ _ _ σ b cs T u v hr hl hv _=> exact ⟨σ, b, cs, T, u, hr, hl, hv⟩
theorem tree_row (h : HS S w ρ row pv B) {j : Nat} {σ0 σ : Ty} {a b : AV} {x : den σ} {cs : List Value} {T : Nat -> Prop} {v : World} (hr : row j = some (.box σ0 (.tup [a, b, .t σ x]))) (hl : ρ j = some (.tree cs T v)) : σ0 = σ /\ slT σ = true /\ SoftW T v w /\ TR w T σ x cs /\
  ∃ e ap, a = .t (.int .i64) ((e : Nat) : Int) /\ b = .t .bool ap /\ (ap = true -> ApOk w e σ x cs):= by
 obtain ⟨h1, h2, e, ap, y, h3, h4, h5⟩ := h.rows j _ _ hr hl
 simp only [AV.tup.injEq, List.cons.injEq, and_true] at h3
 obtain ⟨rfl, rfl, h3⟩ := h3
 cases h3
 exact ⟨rfl, h1, h2, h4, e, ap, rfl, rfl, h5⟩
theorem tr_one {T : Nat -> Prop} {e : Ty} {xs : List (den e)} {v : Value} (h : TR w T (.sl e) xs [v]) : (xs = [] /\ v = .slice none 0 0) \/ ∃ g c, v = .slice (some ⟨g, 0, none⟩) xs.length c /\ T g:= by
 generalize hc : [v] = cs at h
 cases h with
 | flat _ _ _ _ hs _=> cases hs
 | nil=> cases hc; exact .inl ⟨rfl, rfl⟩
 | sl _ _ _ g c _ _ _ _ hg=> cases hc; exact .inr ⟨g, c, rfl, hg⟩
theorem vw_ar {j i : Nat} {p : List Nat} {e τ : Ty} {b : AV} {T T2 : Nat -> Prop} {v : World} {g n c : Nat} (hr : row j = some (.box (.sl e) b)) (hl : ρ j = some (.tree [.slice (some ⟨g, 0, none⟩) n c] T v)) (hi : i < n) (hp : tyP e p = some τ) (hq : pOk e p = true) (hs : SoftW T v w) (hg : T g)
  {y : den τ} {cs : List Value} (hy : TR w T2 τ y cs) (hc : ∀ k u, cs[k]? = some u -> w.cell? ⟨g, i * nc e + offP e p + k, none⟩ = some u) : VR S w ρ row pv (vwOf j (some i) p τ y) (valOf (.t τ y) cs):= by
 have vw : ∀ {f : Nat} {θ : Ty} {u : Value} {T3 : Nat -> Prop} {z : den (.sl θ)}, stT τ f = true -> (fty τ)[f]? = some (.sl θ) -> cs[offL (fty τ) f]? = some u -> TR w T3 (.sl θ) z [u] -> AR S w ρ row pv (.vw j (some i) (p ++ [f]) θ) [u] := fun {f θ u T3 z} h1 h2 h3 h4=> by
  refine .vw j (some i) (p ++ [f]) θ (.sl e) b _ T v u hr hl (.elem e i _ _ u g n c rfl hi (tyP_snoc hp h2) (pOk_snoc hp hq h1) ?_) ?_
  ·have hc' := hc _ u h3
   rw [offP_snoc hp, <- Nat.add_assoc]
   rcases tr_one h4 with ⟨_, rfl⟩ | ⟨g', c', rfl, _⟩ <;> exact soft_back hs hg hc'
  ·rcases tr_one h4 with ⟨_, rfl⟩ | ⟨g', c', rfl, _⟩ <;> rfl
 have vw0 : ∀ {θ : Ty} {u : Value}, τ = .sl θ -> cs = [u] -> (∃ A n c, u = .slice A n c) -> AR S w ρ row pv (.vw j (some i) p θ) [u] := fun {θ u} e1 e2 ⟨A, n', c', e3⟩=> by
  subst e1; subst e2; subst e3
  refine .vw j (some i) p θ (.sl e) b _ T v _ hr hl (.elem e i _ _ _ g n c rfl hi hp hq ?_) rfl
  exact soft_back hs hg (hc 0 _ rfl)
 cases hy with
 | flat _ _ _ _ hsl h=>
  refine .inr ⟨cs, ?_, ?_⟩
  ·unfold vwOf; rw [hsl]; exact .t _ _ _ (cr_flat hsl h)
  ·unfold vwOf; rw [hsl]
 | nil _ θ=> exact .inr ⟨_, vw0 rfl rfl ⟨_, _, _, rfl⟩, rfl⟩
 | sl _ θ xs g' c'=> exact .inr ⟨_, vw0 rfl rfl ⟨_, _, _, rfl⟩, rfl⟩
 | name _ n u h=>
  refine .inr ⟨_, .agg .name _ [[u], [.string n.particle], [.string n.family], [.string n.suffix]] rfl fun k x c hx hcs=> ?_, rfl⟩
  match k, hx, hcs with
  | 0, hx, hcs=> cases hx; cases hcs; exact vw rfl rfl rfl h
  | 1, hx, hcs=> cases hx; cases hcs; exact .t _ _ _ (.str _)
  | 2, hx, hcs=> cases hx; cases hcs; exact .t _ _ _ (.str _)
  | 3, hx, hcs=> cases hx; cases hcs; exact .t _ _ _ (.str _)
  | k + 4, hx, hcs=> simp at hcs
 | entry _ T1 T3 n va ve ha he=>
  refine .inr ⟨_, .agg .entry _ [[.string n.key], [.int .i64 n.kind], [va], [ve], [.string n.title], [.string n.container], [.string n.publisher], [.int .i64 n.date.y, .int .i64 n.date.m, .int .i64 n.date.d, .bool n.date.c], [.int .i64 n.volume], [.string n.pages], [.string n.cross]] rfl fun k x c hx hcs=> ?_, rfl⟩
  match k, hx, hcs with
  | 0, hx, hcs=> cases hx; cases hcs; exact .t _ _ _ (.str _)
  | 1, hx, hcs=> cases hx; cases hcs; exact .t _ _ _ (.int _ _)
  | 2, hx, hcs=> cases hx; cases hcs; exact vw rfl rfl rfl ha
  | 3, hx, hcs=> cases hx; cases hcs; exact vw rfl rfl rfl he
  | 4, hx, hcs=> cases hx; cases hcs; exact .t _ _ _ (.str _)
  | 5, hx, hcs=> cases hx; cases hcs; exact .t _ _ _ (.str _)
  | 6, hx, hcs=> cases hx; cases hcs; exact .t _ _ _ (.str _)
  | 7, hx, hcs=> cases hx; cases hcs; exact .t _ _ _ (.date _)
  | 8, hx, hcs=> cases hx; cases hcs; exact .t _ _ _ (.int _ _)
  | 9, hx, hcs=> cases hx; cases hcs; exact .t _ _ _ (.str _)
  | 10, hx, hcs=> cases hx; cases hcs; exact .t _ _ _ (.str _)
  | k + 11, hx, hcs=> simp at hcs
 | lib _ l u h=>
  refine .inr ⟨_, .agg .lib _ [[u]] rfl fun k x c hx hcs=> ?_, rfl⟩
  match k, hx, hcs with
  | 0, hx, hcs=> cases hx; cases hcs; exact vw rfl rfl rfl h
  | k + 1, hx, hcs=> simp at hcs
 | query _ n u h=>
  refine .inr ⟨_, .agg .query _ [[.int .i64 n.op], [.string n.field], [.string n.word], [u]] rfl fun k x c hx hcs=> ?_, rfl⟩
  match k, hx, hcs with
  | 0, hx, hcs=> cases hx; cases hcs; exact .t _ _ _ (.int _ _)
  | 1, hx, hcs=> cases hx; cases hcs; exact .t _ _ _ (.str _)
  | 2, hx, hcs=> cases hx; cases hcs; exact .t _ _ _ (.str _)
  | 3, hx, hcs=> cases hx; cases hcs; exact vw rfl rfl rfl h
  | k + 4, hx, hcs=> simp at hcs
variable (hE : EnvOk P E) (hs : Sim w0 B pv S ρ st a w) (hgl : GlOk E pv S w) (hd : dstOk o st.nt = true)
include hE hs hgl hd
theorem step_tload {T : TypeId} {x : Operand} {τ : Ty} {j i : Nat} {p : List Nat} {σ0 σ : Ty} {a' b' : AV} {x' : den σ} {y : den τ} (ho : o.op = .load T x) (hT : E.ty T = some τ) (hx : ev E st x = .tq j i p) (hr : st.row j = some (.box σ0 (.tup [a', b', .t σ x']))) (hy : viewAt σ x' (some i) p = some (.t τ y))
  (hK : Nx E w0 B pv S ρ st o.dst (quiet (vwOf j (some i) p τ y)) id K) : o.wp P a w K Q:= by
 have e1 := ev_ok hgl hs x
 rw [hx] at e1
 obtain ⟨e, θ, b, D, u, g, n, c, hr', hl, hi, hp, hq, e2⟩ := vr_tq e1
 have hr0 := hr
 rw [hr] at hr'
 injection hr' with hr'
 injection hr' with e3 _
 obtain ⟨rfl, hsl, hsw, htr, _⟩ := tree_row hs.hs hr hl
 subst e3
 obtain ⟨rfl, hg, hO, hi', ds, T1, k1, k2, k3, _⟩ := htr.elem hi
 have hy' := viewAt_elem hi' hy
 obtain ⟨m1, m2, T2, m3, m4, _⟩ := k1.path hq hy'
 rw [hp] at m1
 cases m1
 have hcell : ∀ k u, ((ds.drop (offP e p)).take (nc τ))[k]? = some u -> w.cell? ⟨g, i * nc e + offP e p + k, none⟩ = some u := fun k u hk=> by
  rw [List.getElem?_take] at hk
  split at hk
  ·rw [List.getElem?_drop] at hk
   have := k3 _ u hk
   rwa [<- Nat.add_assoc] at this
  ·cases hk
 have hrun := run_loadT (P := P) (S := T2) (ρ := ρ) (row := st.row) (pv := pv) (hE.ty _ _ hT) (.t τ y) (.t _ _ _ m4.cr) hcell
 refine wp_quiet hs hgl hd (v := valOf (.t τ y) ((ds.drop (offP e p)).take (nc τ))) ?_ (vw_ar hr0 hl hi hp hq hsw hg m4 hcell) hK
 unfold execOp
 simp only [ho, e2, Sem.run_bind, hrun, Result.andThen_ok, Sem.run_pure]
theorem step_tstore {T : TypeId} {x v : Operand} {τ : Ty} {j i : Nat} {p : List Nat} {σ0 σ : Ty} {a' b' : AV} {x' y : den σ} {z z0 : den τ} (ho : o.op = .store T x v) (hT : E.ty T = some τ) (hx : ev E st x = .tq j i p) (hv : ev E st v = .t τ z) (hr : st.row j = some (.box σ0 (.tup [a', b', .t σ x']))) (hag : agT τ = false) (hsl : slT τ = false)
  (hz : viewAt σ x' (some i) p = some (.t τ z0)) (hy : setAt σ x' (some i) p (.t τ z) = some y) (hK : Nx E w0 B pv S ρ st o.dst ⟨undefV, [], [], none, some (j, treeR 0 false σ y)⟩ id K) : o.wp P a w K Q:= by
 have e1 := ev_ok hgl hs x
 rw [hx] at e1
 obtain ⟨e, θ, b, D, u, g, n, c, hr', hl, hi, hp, hq, e2⟩ := vr_tq e1
 have hr0 := hr
 rw [hr] at hr'
 injection hr' with hr'
 injection hr' with e3 _
 obtain ⟨rfl, hsl', hsw, htr, _⟩ := tree_row hs.hs hr hl
 subst e3
 have e3 := ev_ok hgl hs v
 rw [hv] at e3
 obtain ⟨ds, h5, h6⟩ := vr_ar e3 (by simp)
 have h50 := h5
 cases h5 with
 | t _ _ _ hcz=>
 have hlen := hcz.len
 rw [nc_one hag] at hlen
 match ds, hlen with
 | [u1], _=>
 obtain ⟨cur, t, f, hh, hg, hff, hsz, ⟨u0, hu0, hsv⟩, htp, hup⟩ := htr.store hi hq hz hag hsl hcz
 have ht := hE.ty _ _ hT
 have hrun := run_storeT ht (.t τ z) h50 hh hff (o := i * nc e + offP e p) (by rw [nc_one hag]; omega)
 have hap := hs.hs.apart0 j _ _ g hl hr hg
 obtain ⟨y', n1, n2⟩ := hup (w.setRow g (splice cur.toList (i * nc e + offP e p) [u1]).toArray) (fun b hb=> setRow_other w g b _ hb) (setRow_heap w g cur _ _ _ hh)
 rw [hy] at n1
 cases n1
 have hm := hs.sto (w' := w.setRow g (splice cur.toList (i * nc e + offP e p) [u1]).toArray) (r' := treeR 0 false (.sl e) y) (below_setRow hs.below hap.1 _) hr hl (.box _ _ _) rfl rfl (by simp [World.setRow])
   (fun k _ hk=> setRow_other w g k _ fun e=> hk (e ▸ hg)) (fun row' _=> ⟨hsl', softw_set hsw hh hu0 hsv, 0, false, y, rfl, n2, fun h=> by cases h⟩)
 exact Oper.wp_skip (by unfold execOp; simp only [ho, e2, h6, Sem.run_bind, hrun, Result.andThen_ok, Sem.run_pure])
  (hK S ρ _ _ (hm.put (dst_lt hd) vr_undef) (hgl.mono (fun _ h=> h) fun k hk=> setRow_other w g k _ fun e=> hap.2.1 rfl (e ▸ hk)) (Grew.refl _ _) (fun _ h _=> h))
omit hE in
theorem step_tnil {x : Operand} {j i : Nat} {p : List Nat} (ho : o.op = .nilCheck x) (hx : ev E st x = .tq j i p) (hK : Nx E w0 B pv S ρ st o.dst (quiet (.tq j i p)) id K) : o.wp P a w K Q:= by
 have e1 := ev_ok hgl hs x
 rw [hx] at e1
 obtain ⟨e, θ, b, D, u, g, n, c, hr', hl, hi, hp, hq, e2⟩ := vr_tq e1
 refine wp_quiet hs hgl hd (v := a.eval x) ?_ e1 hK
 unfold execOp
 simp [ho, e2]
theorem step_tfieldAddr {T : TypeId} {τ : Ty} {x : Operand} {f : Nat} {j i : Nat} {p : List Nat} {σ : Ty} {b : AV} (ho : o.op = .fieldAddr T x f) (hτ : E.ty T = some τ) (hst : stT τ f = true) (hx : ev E st x = .tq j i p) (hr : st.row j = some (.box (.sl σ) b)) (htp : tyP σ p = some τ)
  (hK : Nx E w0 B pv S ρ st o.dst (quiet (.tq j i (p ++ [f]))) id K) : o.wp P a w K Q:= by
 have ht := hE.ty T τ hτ
 obtain ⟨fs, d, σ', hu, hfd, hσ, hoff, hdt, hpos⟩ := stT_und ht hst
 have e1 := ev_ok hgl hs x
 rw [hx] at e1
 obtain ⟨e, θ, b', D, u, g, n, c, hr', hl, hi, hp, hq, e2⟩ := vr_tq e1
 have hr0 := hr
 rw [hr] at hr'
 injection hr' with hr'
 injection hr' with e3 _
 injection e3 with e3
 subst e3
 refine wp_quiet hs hgl hd (v := .pointer (some ⟨g, i * nc σ + offP σ p + offL (fty τ) f, none⟩)) ?_ (.inr ⟨_, .tq j i (p ++ [f]) σ σ' b D u g n c hr0 hl hi (tyP_snoc htp hσ) (pOk_snoc htp hq hst), ?_⟩) hK
 ·unfold execOp
  simp [ho, Instr.fieldAt, run_underlying hu, hfd, e2, Instr.sureAddr, fieldPlace, run_sizeOfT (hE.ty _ _ hdt), Nat.ne_of_gt hpos, hoff, Addr.add_lit]
 ·rw [offP_snoc htp, <- Nat.add_assoc]; rfl
theorem step_tfield {T : TypeId} {τ : Ty} {x : Operand} {f : Nat} {j : Nat} {σ0 : Ty} {a' b' : AV} {y : den τ} {σ : Ty} {z : den σ} (ho : o.op = .field T x f) (hτ : E.ty T = some τ) (hst : stT τ f = true) (hx : ev E st x = .tv j τ) (hr : st.row j = some (.box σ0 (.tup [a', b', .t τ y]))) (hz : fieldA (.t τ y) f = some (.t σ z))
  (hK : Nx E w0 B pv S ρ st o.dst (quiet (vw1 j none [f] σ z)) id K) : o.wp P a w K Q:= by
 have ht := hE.ty T τ hτ
 obtain ⟨fs, d, σ', hu, hfd, hσ, hoff, hdt, hpos⟩ := stT_und ht hst
 have e1 := ev_ok hgl hs x
 rw [hx] at e1
 obtain ⟨b, cs, D, u, hr', hl, e2, _⟩ := vr_tv e1
 obtain ⟨rfl, hsl', hsw, htr, _⟩ := tree_row hs.hs hr hl
 obtain ⟨h4, h5, T1, h6, h7, _⟩ := htr.field hst hz
 rw [hσ] at h4
 cases h4
 have hag : agT σ0 = true:= by
  cases σ0 <;> simp only [stT] at hst <;> first
   | rfl
   | (simp [fty, Nat.blt] at hst; done)
   | cases hst
 have hval : a.eval x = .agg cs.toArray:= by rw [e2, valOf, isAg, hag]; rfl
 have hrun : (execOp a.eval o).run P w = .ok (.value (valOf (.t σ z) ((cs.drop (offL (fty σ0) f)).take (nc σ)))) w:= by
  unfold execOp
  simp only [ho, Instr.field, Sem.run_bind, run_underlying hu, Result.andThen_ok, hfd, hval, asAgg, Sem.run_pure, hoff]
  have hp := run_part (w := w) (S := S) (ρ := ρ) (row := st.row) (pv := pv) (cur := cs) (o := offL (fty σ0) f) (hE.ty _ _ hdt) (.hole σ) (.hole σ _ h7.cr.len (fun q hq=> h7.cr.one q hq)) h5
  rw [hp]
  rfl
 refine wp_quiet hs hgl hd hrun ?_ hK
 unfold vw1
 cases hsl : slT σ with
 | false=> exact .inr ⟨_, .t σ z _ (cr_flat hsl h7.cr), rfl⟩
 | true=>
  cases σ with
  | sl θ=>
   obtain ⟨u1, hu1⟩ := tr_sl h7
   rw [hu1]
   refine .inr ⟨_, .vw j none [f] θ σ0 _ cs D u u1 hr hl (.root σ0 [f] _ u1 (by simp only [tyP, hσ]) (by simp only [pOk, hst, Bool.and_true]) ?_) ?_, rfl⟩
   ·simp only [offP, Nat.add_zero]
    have : ((cs.drop (offL (fty σ0) f)).take (nc (.sl θ)))[0]? = some u1:= by rw [hu1]; rfl
    rw [show nc (.sl θ) = 1 from rfl, List.take_one, List.head?_drop] at this
    cases hx1 : cs[offL (fty σ0) f]? with
    | none=> rw [hx1] at this; cases this
    | some q=> rw [hx1] at this; simpa using this
   ·rw [hu1] at h7
    rcases tr_one h7 with ⟨_, rfl⟩ | ⟨g', c', rfl, _⟩ <;> rfl
  | _=> exact .inl rfl
theorem step_tindex {T : TypeId} {x ix : Operand} {i : Int} {τ : Ty} {j : Nat} {σ0 : Ty} {a' b' : AV} {xs : List (den τ)} (ho : o.op = .indexAddr T x ix) (hT : E.ty T = some (.sl τ)) (hx : ev E st x = .tv j (.sl τ)) (hi : ev E st ix = .t (.int .i64) i) (hr : st.row j = some (.box σ0 (.tup [a', b', .t (.sl τ) xs]))) (h0 : 0 <= i) (h1 : i < (xs.length : Int))
  (hK : Nx E w0 B pv S ρ st o.dst (quiet (.tq j i.toNat [])) id K) : o.wp P a w K Q:= by
 have e2 := ev_ok hgl hs ix
 rw [hi] at e2
 have e1 := ev_ok hgl hs x
 rw [hx] at e1
 obtain ⟨b, cs, D, u, hr', hl, e3, _⟩ := vr_tv e1
 obtain ⟨rfl, hsl', hsw, htr, _⟩ := tree_row hs.hs hr hl
 obtain ⟨t, hu, _, hte, _⟩ := (hE.ty _ _ hT).und
 obtain ⟨z, rfl⟩ := tr_sl htr
 have hlt : i.toNat < xs.length:= by omega
 rcases tr_one htr with ⟨rfl, _⟩ | ⟨g, c, rfl, hg⟩
 ·simp at hlt
 refine wp_quiet hs hgl hd (v := .pointer (some ⟨g, i.toNat * nc τ, none⟩)) ?_ (.inr ⟨_, .tq j i.toNat [] τ τ _ D u g xs.length c hr hl hlt rfl rfl, by simp [valOf, isAg, offP]⟩) hK
 have e3 : a.eval x = .slice (some ⟨g, 0, none⟩) xs.length c := e3
 unfold execOp
 simp [ho, e3, vr_int e2, Instr.indexAt, asIntOf, run_underlying hu, h0, h1, run_sizeOfT (hE.ty _ _ hte), Addr.add_lit]
theorem step_tlen {args : Array Operand} {ats : Array TypeId} {n : Int} (ho : o.op = .call { callee := .builtin .len, args := args, argTypes := ats }) (hl : lenT st.row E ats.toList (mapE (ev E st) args.toList) = some n)
  (hK : Nx E w0 B pv S ρ st o.dst (quiet (.t (.int .i64) n)) id K) : o.wp P a w K Q:= by
 have one : ∀ {T : Nat} {b : AV} {ρ' : Ty} {z : Nat} {A : Option Addr} {c : Nat}, ats.toList = [T] -> mapE (ev E st) args.toList = [b] -> E.ty T = some (.sl ρ') -> n = (z : Int) -> (∀ v, VR S w ρ st.row pv b v -> v = .slice A z c) -> o.wp P a w K Q := fun {T b ρ' z A c} h1 h2 h3 h4 h5=> by
  obtain ⟨x, hx⟩ : ∃ x, args = #[x] /\ ev E st x = b:= by
   rw [mapE_eq] at h2
   match h : args.toList, h2 with
   | [x], hargs=> exact ⟨x, Array.toList_inj.1 (by rw [h]), by simpa using hargs⟩
   | [], hargs=> simp at hargs
   | _ :: _ :: _, hargs=> simp at hargs
  obtain ⟨rfl, rfl⟩ := hx
  have hats : ats = #[T] := Array.toList_inj.1 (by rw [h1])
  subst hats
  have e1 := h5 _ (ev_ok hgl hs x)
  obtain ⟨t, hu, _⟩ := (hE.ty _ _ h3).und
  refine wp_quiet hs hgl hd (v := .int .i64 n) (builtin_run ho ?_) (.inr ⟨_, .t _ _ _ (.int _ _), rfl⟩) hK
  subst h4
  simp [builtin, Builtin.len_, run_underlying hu, e1, goInt]
 unfold lenT at hl
 split at hl
 ·rename_i T j τ h1 h2
  split at hl
  ·rename_i ρ' σ0 a' b' σ xs hT hr
   split at hl
   ·rename_i e e' _ _
    subst e; subst e'
    cases hl
    have key : ∃ A c, ∀ v, VR S w ρ st.row pv (.tv j (.sl ρ')) v -> v = .slice A xs.length c:= by
     by_cases hex : ∃ cs D u, ρ j = some (.tree cs D u)
     ·obtain ⟨cs, D, u, hlj⟩ := hex
      obtain ⟨rfl, _, _, htr, _⟩ := tree_row hs.hs hr hlj
      obtain ⟨z, rfl⟩ := tr_sl htr
      have hz : ∃ A c, z = .slice A xs.length c:= by
       rcases tr_one htr with ⟨h, rfl⟩ | ⟨g, c, rfl, _⟩
       ·rw [h]; exact ⟨_, _, rfl⟩
       ·exact ⟨_, _, rfl⟩
      obtain ⟨A, c, rfl⟩ := hz
      refine ⟨A, c, fun v hv=> ?_⟩
      obtain ⟨b, cs', D', u', _, hl', e2, _⟩ := vr_tv hv
      rw [hlj] at hl'
      cases hl'
      exact e2
     ·exact ⟨none, 0, fun v hv=> by
       obtain ⟨b, cs', D', u', _, hl', _⟩ := vr_tv hv
       exact absurd ⟨_, _, _, hl'⟩ hex⟩
    obtain ⟨A, c, key⟩ := key
    exact one h1 h2 hT rfl key
   ·cases hl
  ·cases hl
 ·rename_i T j q p τ h1 h2
  split at hl
  ·rename_i ρ' σ0 a' b' σ x' hT hr
   split at hl
   ·rename_i θ xs hxs
    split at hl
    ·rename_i e e' _ _
     subst e; subst e'
     cases hl
     have key : ∀ v, VR S w ρ st.row pv (.vw j q p ρ') v -> ∃ A c, v = .slice A xs.length c := fun v hv=> by
      obtain ⟨σ1, b1, cs, D, u, hr', hlj, hpl⟩ := vr_vw hv
      obtain ⟨rfl, _, hsw, htr, _⟩ := tree_row hs.hs hr hlj
      rw [hr] at hr'
      cases hr'
      obtain ⟨T1, _, k2, _⟩ := htr.focus hsw hxs hpl
      rcases tr_one k2 with ⟨h, rfl⟩ | ⟨g, c, rfl, _⟩
      ·rw [h]; exact ⟨_, _, rfl⟩
      ·exact ⟨_, _, rfl⟩
     obtain ⟨x, hx⟩ : ∃ x, args = #[x] /\ ev E st x = .vw j q p ρ':= by
      rw [mapE_eq] at h2
      match h : args.toList, h2 with
      | [x], hargs=> exact ⟨x, Array.toList_inj.1 (by rw [h]), by simpa using hargs⟩
      | [], hargs=> simp at hargs
      | _ :: _ :: _, hargs=> simp at hargs
     have e1 := ev_ok hgl hs x
     rw [hx.2] at e1
     obtain ⟨A, c, e4⟩ := key _ e1
     refine one h1 h2 hT rfl (A := A) (c := c) fun v hv=> ?_
     have hvv : v = a.eval x:= by
      obtain ⟨σ1, b1, cs, D, u, hr1, hl1, hp1⟩ := vr_vw hv
      obtain ⟨σ2, b2, cs', D', u', hr2, hl2, hp2⟩ := vr_vw e1
      rw [hr1] at hr2
      rw [hl1] at hl2
      cases hr2; cases hl2
      exact hp1.same hp2
     rw [hvv, e4]
    ·cases hl
   ·cases hl
  ·cases hl
 ·cases hl
end
end Go.Gx
end
section
/- Trees: calls; trees put together and taken apart. -/
namespace Go.Gx
open Go.RowKit
theorem setRows_nt1 : ∀ (l : List (Nat × Row)) (st : St), (st.setRows l).nt = st.nt
 | [], st=> rfl
 | p :: l, st=> setRows_nt1 l (st.setRow p.1 p.2)
section
variable {w0 : World} {B : Old} {pv : Nat -> Value} {S S' : Nat -> Prop} {ρ ρ' : Nat -> Option Loc} {st : St} {a : Act} {w w' : World}
theorem adoptT1 (h : Sim w0 B pv S ρ st a w) {r : AV} {v : Value} {T : Nat -> Prop} (hr : RT1 w pv r v T) (hO : ∀ b, T b -> OB w b) {id : Nat} (hid : ρ id = none) {b : AV} {l : List (Nat × Row)} (hi : instT1 id r (fun b l=> some (b, l)) = some (b, l))
  (hg : ∀ g, T g -> ¬ B g /\ ¬ S g /\ ∀ j l', ρ j = some l' -> l'.has g -> st.row j = none) :
  ∃ ρ', Sim w0 B pv S ρ' (st.setRows l) a w /\ (∃ cs, AR S w ρ' (st.setRows l).row pv b cs /\ v = valOf b cs) /\ (∀ j, j ≠ id -> ρ' j = ρ j /\ (st.setRows l).row j = st.row j) /\ ∀ j l' g0, ρ' j = some l' -> l'.has g0 -> (j ≠ id /\ ρ j = some l') \/ T g0:= by
 have same : l = [] -> (∃ cs, AR S w ρ st.row pv b cs /\ v = valOf b cs) -> ∃ ρ', Sim w0 B pv S ρ' (st.setRows l) a w /\ (∃ cs, AR S w ρ' (st.setRows l).row pv b cs /\ v = valOf b cs) /\ (∀ j, j ≠ id -> ρ' j = ρ j /\ (st.setRows l).row j = st.row j) /\ ∀ j l' g0, ρ' j = some l' -> l'.has g0 -> (j ≠ id /\ ρ j = some l') \/ T g0 := fun e k=> by
  subst e
  exact ⟨ρ, h, k, fun j _=> ⟨rfl, rfl⟩, fun j l' g0 hj _=> .inl ⟨(by rintro rfl; rw [hid] at hj; cases hj), hj⟩⟩
 have tail : ∀ (l0 : Loc) (r0 : Row), (∀ g, l0.has g -> T g) -> (∀ j, j ≠ id -> upd ρ id l0 j = ρ j /\ (st.setRow id r0).row j = st.row j) /\ ∀ j l' g0, upd ρ id l0 j = some l' -> l'.has g0 -> (j ≠ id /\ ρ j = some l') \/ T g0 := fun l0 r0 hT=> by
  refine ⟨fun j hj=> ⟨by simp [upd, hj], by rw [setRow_row, if_neg hj]⟩, fun j l' g0 hj hb=> ?_⟩
  by_cases e : j = id
  ·subst e
   rw [upd_self] at hj
   cases hj
   exact .inr (hT g0 hb)
  ·simp only [upd, if_neg e] at hj
   exact .inl ⟨e, hj⟩
 cases hr with
 | flat τ x cs _ hs hc=>
  simp only [instT1, hs, cond_false, Option.some.injEq, Prod.mk.injEq] at hi
  obtain ⟨rfl, rfl⟩ := hi
  exact same rfl ⟨cs, .t τ x cs (cr_flat hs hc), rfl⟩
 | weak τ x _ _ hs=>
  simp only [instT1, hs, cond_true] at hi
  cases hi
 | nil=>
  cases hi
  exact same rfl ⟨_, .nil, rfl⟩
 | fr e τ xs g cap _ hs hT hrow=>
  simp only [instT1, hs, cond_false, Option.some.injEq, Prod.mk.injEq] at hi
  obtain ⟨rfl, rfl⟩ := hi
  have hrow' : ∀ ρ' row', RowOk S w ρ' row' pv (.flat e τ xs false true) (.at g cap) := fun ρ' row'=> by
   obtain ⟨cur, f, h1, h2, h3, h4, h5, h6, h7, h8⟩ := hrow
   exact ⟨cur, f, h1, h2, h3, h4, h5, h6, h7, fun i hi=> (h8 i hi).imp fun cs hc=> ⟨cr_flat hs hc.1, hc.2⟩⟩
  obtain ⟨t1, t2⟩ := tail (.at g cap) (.flat e τ xs false true) (fun g' e=> by cases e; exact hT)
  exact ⟨upd ρ id (.at g cap), h.adopt hid rfl (fun g' e=> by cases e; exact hg g hT) hrow', ⟨_, .own id e τ xs false true g cap (by simp only [St.setRows]; rw [setRow_row, if_pos rfl]) (upd_self _ _ _), rfl⟩, t1, t2⟩
 | frNil e τ _ hs hpos=>
  simp only [instT1, hs, cond_false, Option.some.injEq, Prod.mk.injEq] at hi
  obtain ⟨rfl, rfl⟩ := hi
  obtain ⟨t1, t2⟩ := tail .nilrow (.flat e τ [] false true) (fun g' e=> False.elim e)
  exact ⟨upd ρ id .nilrow, h.adopt hid rfl (fun g' e=> False.elim e) (fun _ _=> ⟨rfl, rfl, hpos⟩), ⟨_, .ownNil id e τ false true (by simp only [St.setRows]; rw [setRow_row, if_pos rfl]) (upd_self _ _ _), rfl⟩, t1, t2⟩
 | tr τ x cs _ hs hc=>
  simp only [instT1, hs, cond_true, Option.some.injEq, Prod.mk.injEq] at hi
  obtain ⟨rfl, rfl⟩ := hi
  obtain ⟨t1, t2⟩ := tail (.tree cs T w) (treeR 0 false τ x) (fun g' e=> e)
  exact ⟨upd ρ id (.tree cs T w), h.adopt hid rfl (fun g' e=> hg g' e) (fun _ _=> ⟨hs, softw_refl hO, 0, false, x, rfl, hc, fun h=> by cases h⟩),
   ⟨cs, .tv id τ _ cs T w (by simp only [St.setRows]; rw [setRow_row, if_pos rfl]; rfl) (upd_self _ _ _) hc.cr.len hc.cr.one, rfl⟩, t1, t2⟩
theorem instT_ok (h : Sim w0 B pv S ρ st a w) {n0 : Nat} (hB : ∀ k, B k -> k < n0) (hS : ∀ k, S k -> k < n0) {r : AV} {v : Value} (hr : RT w n0 (fun _=> False) pv r v) {id : Nat} (hid : ∀ c, c < 4 -> ρ (id + c) = none) {b : AV} {l : List (Nat × Row)} (hi : instT id r (fun b l=> some (b, l)) = some (b, l))
  (hlow : ∀ j l b, ρ j = some l -> st.row j ≠ none -> l.has b -> b < n0) :
  ∃ ρ', Sim w0 B pv S ρ' (st.setRows l) a w /\ VR S w ρ' (st.setRows l).row pv b v /\ (∀ j, ρ j = none -> ¬ (id <= j /\ j < id + 4) -> ρ' j = none):= by
 have ge : ∀ {T : Nat -> Prop}, NewB w n0 (fun _=> False) T -> ∀ g, T g -> n0 <= g := fun h g hg=> (h g hg).1.resolve_right fun h=> h
 have low : ∀ {T : Nat -> Prop}, NewB w n0 (fun _=> False) T -> ∀ g, T g -> ¬ B g /\ ¬ S g /\ ∀ j l', ρ j = some l' -> l'.has g -> st.row j = none := fun h1 g hg=> by
  have := ge h1 g hg
  refine ⟨fun hb=> by have := hB g hb; omega, fun hb=> by have := hS g hb; omega, fun j l' hj hb=> ?_⟩
  apply Classical.byContradiction
  intro hn
  have := hlow j l' g hj hn hb
  omega
 have h0 : ρ id = none:= by simpa using hid 0 (by omega)
 have single : ∀ {r}, (∃ T, RT1 w pv r v T /\ NewB w n0 (fun _=> False) T) -> instT1 id r (fun b l=> some (b, l)) = some (b, l) -> ∃ ρ', Sim w0 B pv S ρ' (st.setRows l) a w /\ VR S w ρ' (st.setRows l).row pv b v /\ (∀ j, ρ j = none -> ¬ (id <= j /\ j < id + 4) -> ρ' j = none) := fun {r} ⟨T, hT, hn⟩ hi=> by
  obtain ⟨ρ', h1, ⟨cs, h2, h3⟩, h4, h5⟩ := adoptT1 h hT (fun b hb=> (hn b hb).2) h0 hi (low hn)
  exact ⟨ρ', h1, .inr ⟨cs, h2, h3⟩, fun j hj hn=> by rw [(h4 j (by omega)).1]; exact hj⟩
 cases r with
 | tup rs=>
  obtain ⟨vs, Ts, rfl, hvl, h1, hd⟩ := hr
  match rs, hi, hvl, h1 with
  | [], hi, _, _=> simp [instT] at hi
  | [_], hi, _, _=> simp [instT] at hi
  | [x, y], hi, hvl, h1=>
   match vs, hvl with
   | [v1, v2], _=>
    obtain ⟨r1, n1⟩ := h1 0 x v1 rfl rfl
    obtain ⟨r2, n2⟩ := h1 1 y v2 rfl rfl
    simp only [instT] at hi
    obtain ⟨b1, l1, e1, hi⟩ := instT1_nat hi
    obtain ⟨b2, l2, e2, hi⟩ := instT1_nat hi
    cases hi
    obtain ⟨ρ1, s1, ⟨c1, a1, rfl⟩, k1, m1⟩ := adoptT1 h r1 (fun b hb=> (n1 b hb).2) h0 e1 (low n1)
    have f1 : ρ1 (id + 1) = none:= by rw [(k1 _ (by omega)).1]; exact hid 1 (by omega)
    obtain ⟨ρ2, s2, ⟨c2, a2, rfl⟩, k2, m2⟩ := adoptT1 s1 r2 (fun b hb=> (n2 b hb).2) f1 e2 (fun g0 hg=> ⟨(low n2 g0 hg).1, (low n2 g0 hg).2.1, fun j c hj hb=> by
     rcases m1 j c g0 hj hb with ⟨hj1, hj2⟩ | e'
     ·rw [(k1 j hj1).2]; exact (low n2 g0 hg).2.2 j c hj2 hb
     ·exact absurd hg (hd 0 1 g0 (by omega) e')⟩)
    rw [setRows_append]
    have a1' := a1.ext (P := fun _=> True) (S' := S) (w' := w) (ρ' := ρ2) (row' := ((st.setRows l1).setRows l2).row) (fun _ h=> h) (fun _ _=> rfl) (fun j l r _ h3 h4=> by
     have hj : j ≠ id + 1:= by rintro rfl; rw [f1] at h3; cases h3
     exact ⟨(k2 j hj).1.trans h3, r, (k2 j hj).2.trans h4, .refl r⟩) (fun _ _=> trivial)
    refine ⟨ρ2, s2, .inr ⟨_, .tup [b1, b2] [c1, c2] rfl (fun i b c hb hc=> ?_), rfl⟩, fun j hj hn=> ?_⟩
    ·match i, hb, hc with
     | 0, hb, hc=> cases hb; cases hc; exact a1'
     | 1, hb, hc=> cases hb; cases hc; exact a2
     | i + 2, hb, hc=> simp at hb
    ·rw [(k2 j (by omega)).1, (k1 j (by omega)).1]; exact hj
  | [x, y, z], hi, hvl, h1=>
   match vs, hvl with
   | [v1, v2, v3], _=>
    obtain ⟨r1, n1⟩ := h1 0 x v1 rfl rfl
    obtain ⟨r2, n2⟩ := h1 1 y v2 rfl rfl
    obtain ⟨r3, n3⟩ := h1 2 z v3 rfl rfl
    simp only [instT] at hi
    obtain ⟨b1, l1, e1, hi⟩ := instT1_nat hi
    obtain ⟨b2, l2, e2, hi⟩ := instT1_nat hi
    obtain ⟨b3, l3, e3, hi⟩ := instT1_nat hi
    cases hi
    obtain ⟨ρ1, s1, ⟨c1, a1, rfl⟩, k1, m1⟩ := adoptT1 h r1 (fun b hb=> (n1 b hb).2) h0 e1 (low n1)
    have f1 : ρ1 (id + 1) = none:= by rw [(k1 _ (by omega)).1]; exact hid 1 (by omega)
    obtain ⟨ρ2, s2, ⟨c2, a2, rfl⟩, k2, m2⟩ := adoptT1 s1 r2 (fun b hb=> (n2 b hb).2) f1 e2 (fun g0 hg=> ⟨(low n2 g0 hg).1, (low n2 g0 hg).2.1, fun j c hj hb=> by
     rcases m1 j c g0 hj hb with ⟨hj1, hj2⟩ | e'
     ·rw [(k1 j hj1).2]; exact (low n2 g0 hg).2.2 j c hj2 hb
     ·exact absurd hg (hd 0 1 g0 (by omega) e')⟩)
    have f2 : ρ2 (id + 2) = none:= by rw [(k2 _ (by omega)).1, (k1 _ (by omega)).1]; exact hid 2 (by omega)
    obtain ⟨ρ3, s3, ⟨c3, a3, rfl⟩, k3, m3⟩ := adoptT1 s2 r3 (fun b hb=> (n3 b hb).2) f2 e3 (fun g0 hg=> ⟨(low n3 g0 hg).1, (low n3 g0 hg).2.1, fun j c hj hb=> by
     rcases m2 j c g0 hj hb with ⟨hj1, hj2⟩ | e'
     ·rcases m1 j c g0 hj2 hb with ⟨hj3, hj4⟩ | e'
      ·rw [(k2 j hj1).2, (k1 j hj3).2]; exact (low n3 g0 hg).2.2 j c hj4 hb
      ·exact absurd hg (hd 0 2 g0 (by omega) e')
     ·exact absurd hg (hd 1 2 g0 (by omega) e')⟩)
    rw [setRows_append, setRows_append]
    have a1' := a1.ext (P := fun _=> True) (S' := S) (w' := w) (ρ' := ρ3) (row' := (((st.setRows l1).setRows l2).setRows l3).row) (fun _ h=> h) (fun _ _=> rfl) (fun j l r _ h3 h4=> by
     have hj : j ≠ id + 1:= by rintro rfl; rw [f1] at h3; cases h3
     have hj2 : j ≠ id + 2:= by rintro rfl; rw [(k1 _ (by omega)).1, hid 2 (by omega)] at h3; cases h3
     exact ⟨(k3 j hj2).1.trans ((k2 j hj).1.trans h3), r, (k3 j hj2).2.trans ((k2 j hj).2.trans h4), .refl r⟩) (fun _ _=> trivial)
    have a2' := a2.ext (P := fun _=> True) (S' := S) (w' := w) (ρ' := ρ3) (row' := (((st.setRows l1).setRows l2).setRows l3).row) (fun _ h=> h) (fun _ _=> rfl) (fun j l r _ h3 h4=> by
     have hj2 : j ≠ id + 2:= by rintro rfl; rw [f2] at h3; cases h3
     exact ⟨(k3 j hj2).1.trans h3, r, (k3 j hj2).2.trans h4, .refl r⟩) (fun _ _=> trivial)
    refine ⟨ρ3, s3, .inr ⟨_, .tup [b1, b2, b3] [c1, c2, c3] rfl (fun i b c hb hc=> ?_), rfl⟩, fun j hj hn=> ?_⟩
    ·match i, hb, hc with
     | 0, hb, hc=> cases hb; cases hc; exact a1'
     | 1, hb, hc=> cases hb; cases hc; exact a2'
     | 2, hb, hc=> cases hb; cases hc; exact a3
     | i + 3, hb, hc=> simp at hb
    ·rw [(k3 j (by omega)).1, (k2 j (by omega)).1, (k1 j (by omega)).1]; exact hj
  | _ :: _ :: _ :: _ :: _, hi, _, _=> simp [instT] at hi
 | _=> exact single hr (by simpa only [instT] using hi)
end
section
variable {P : Program} {E : Env} {w0 : World} {B : Old} {pv : Nat -> Value} {S : Nat -> Prop} {ρ : Nat -> Option Loc} {st : St} {a : Act} {w : World} {o : Oper} {id : Nat} {K : Act -> World -> Prop} {Q : Exit -> Act -> World -> Prop}
theorem closeV_ok (h : HS S w ρ st.row pv B) {i : Nat} {r0 : Row} {l : Loc} (hri : st.row i = some r0) (hli : ρ i = some l) (hf : frz r0 = false) : ∀ {n m : Nat} {a b : AV} {cs : List Value}, freeV i n a = true -> closeR st.row m a = some b -> AR S w ρ st.row pv a cs -> AR (fun b=> b < w.heap.size /\ ¬ l.has b) w (fun _=> none) (fun _=> none) pv b cs
 | 0, m, a, b, cs, hp, _, _=> by cases hp
 | n + 1, 0, a, b, cs, hp, hc, _=> by simp [closeR] at hc
 | n + 1, m + 1, a, b, cs, hp, hc, ha=> by
  have hS : ∀ b, S b -> b < w.heap.size /\ ¬ l.has b := fun b hb=> ⟨h.stab b hb, fun hb'=> (h.apart0 i r0 l b hli hri hb').2.1 hf hb⟩
  have far : ∀ {j : Nat} {r : Row} {l' : Loc}, (!Nat.beq j i) = true -> st.row j = some r -> ρ j = some l' -> ∀ b, l'.has b -> b < w.heap.size /\ ¬ l.has b := fun {j r l'} hj hr hl b hb=> by
   refine ⟨(h.rows j r l' hr hl).has_lt hb, fun hb'=> ?_⟩
   have := h.inj0 j i l' l b hl hli (by rw [hr]; simp) (by rw [hri]; simp) hb hb'
   subst this
   rw [Nat.beq_refl] at hj
   cases hj
  cases ha with
  | t τ x _ hx=>
   simp only [closeR, Option.some.injEq] at hc
   subst hc
   exact .t _ _ _ (hx.mono hS fun _ _=> rfl)
  | nil=>
   simp only [closeR, Option.some.injEq] at hc
   subst hc
   exact .nil
  | own j e τ xs fz app g cap hr hl=>
   simp only [closeR, hr, Option.some.injEq] at hc
   subst hc
   exact .t _ _ _ (row_cr h hS hr hl (far hp hr hl g rfl))
  | ownNil j e τ fz app hr hl=>
   simp only [closeR, hr, Option.some.injEq] at hc
   subst hc
   exact .t _ _ _ (cr_nil _ w τ)
  | tv j τ b0 _ T v hr hl hcl h1=>
   obtain ⟨_, h2, e, ap, x, rfl, h3, _⟩ := h.rows j _ _ hr hl
   simp only [closeR, hr] at hc
   split at hc
   ·cases hc
    exact .t τ x _ (h3.cr.mono (fun b hb=> far hp hr hl b hb) fun _ _=> rfl)
   ·cases hc
  | vw j q p τ σ b0 cs0 T v u hr hl hv h1=>
   obtain ⟨_, h2, e, ap, x, rfl, h3, _⟩ := h.rows j _ _ hr hl
   simp only [closeR, hr] at hc
   split at hc
   ·rename_i ρ' y hy
    split at hc
    ·rename_i e' _
     subst e'
     cases hc
     exact .t _ y _ ((viewAt_cr h2 h3.cr hy hv).mono (fun b hb=> far hp hr hl b hb) fun _ _=> rfl)
    ·cases hc
   ·cases hc
  | agg τ fs css hl hh=>
   simp only [closeR] at hc
   split at hc
   ·rename_i gs hgs
    obtain ⟨m1, m2⟩ := mapO_get hgs
    obtain ⟨x, rfl, hx⟩ := implode_ok (ρ := fun _=> none) (row := fun _=> none) (pv := pv) hc ⟨css, rfl, m1.trans hl, fun k g c hg hcs=> by
     obtain ⟨a, k1, k2⟩ := m2 k g hg
     exact closeV_ok h hri hli hf (allL_mem (f := freeV i n) hp a (List.mem_of_getElem? k1)) k2 (hh k a c k1 hcs)⟩
    exact .t τ x _ hx
   ·cases hc
  | _=> simp [freeV] at hp
variable (hs : Sim w0 B pv S ρ st a w) (hgl : GlOk E pv S w) (hd : dstOk o st.nt = true)
include hs hgl hd
variable {G : Cal -> List AV -> AV -> Prop} (hG : GOk P E pv G)
include hG
theorem step_callT {args : Array Operand} {ats : Array TypeId} {f : Operand} {g : Nat} {caps : List AV} {u : Upd} (ho : o.op = .call { callee := .value f, args := args, argTypes := ats }) (hf : ev E st f = .clo g caps) (hid : ∀ c, c < 4 -> ρ (id + c) = none)
  (h : CallT G st.row id g (mapE (ev E st) args.toList ++ caps) u) (hK : Nx E w0 B pv S ρ st o.dst u id K) : o.wp P a w K Q:= by
 obtain ⟨vs, hvl, hva, hrun⟩ := call_clo (P := P) hs hgl ho hf
 obtain ⟨cl, r, av, news, hcl, hg, hi, rfl⟩ := h
 have hm := (hG _ _ _ hg).2.2.2.1 g cl rfl rfl
 obtain ⟨hl1, hl2⟩ := mapO_get hcl
 have hall : ArgsOk (fun b=> b < w.heap.size) w pv cl vs:= by
  refine ⟨hvl.trans hl1.symm, fun i b v hb hv=> ?_⟩
  obtain ⟨c, h1, h2⟩ := hl2 i b hb
  obtain ⟨cs, h3, h4⟩ := vr_ar (hva i c v h1 hv) (by rintro rfl; simp [closeR] at h2)
  exact ⟨cs, closeR_ok hs.hs hs.hs.stab h2 h3 (.inl fun _ h=> h), by rw [h4, valOf, valOf, closeR_ag h2]⟩
 refine wp_runsTo (hrun _ (RunsTo.mono (hm (fun b=> b < w.heap.size) w vs (fun _ h=> h) (hgl.mono hs.hs.stab fun _ _=> rfl) hall) fun v w' ⟨hb, hr⟩=> ?_))
 have hold : ∀ b, b < w.heap.size -> w'.heap[b]? = w.heap[b]? := fun b hb'=> hb.block b hb'
 have h1 := hs.growX (w' := w') (S' := S) (hs.below.trans (Blw.of hb hs.hB)) hb.size (fun b hb'=> hold b (hs.hs.stab b hb')) (fun j r l g h1 h2 h3=> hold g ((hs.hs.rows j r l h2 h1).has_lt h3)) (fun _ h=> h) (fun b hb'=> .inl hb')
 obtain ⟨ρ', h2, h3, h4⟩ := instT_ok h1 hs.hB hs.hs.stab hr hid hi (fun j l b hj hr' hb'=> by
  cases hrj : st.row j with
  | none=> exact absurd hrj hr'
  | some r0=> exact (hs.hs.rows j r0 l hrj hj).has_lt hb')
 have hnt : (st.setRows news).nt = st.nt := setRows_nt1 news st
 refine hK S ρ' _ w' (h2.put (by rw [hnt]; exact dst_lt hd) h3) (hgl.mono (fun _ h=> h) fun b hb'=> hold b (hs.hs.stab b hb')) (Grew.refl _ _) h4
theorem step_callXm {args : Array Operand} {ats : Array TypeId} {f : Operand} {g : Nat} {caps : List AV} {u : Upd} {dr : Bool} (ho : o.op = .call { callee := .value f, args := args, argTypes := ats }) (hf : ev E st f = .clo g caps)
  (h : CallXm G st.row dr g (mapE (ev E st) args.toList ++ caps) u) (hK : Nx E w0 B pv S ρ st o.dst u id K) : o.wp P a w K Q:= by
 obtain ⟨vs, hvl, hva, hrun⟩ := call_clo (P := P) hs hgl ho hf
 have fin : ∀ {j : Nat} {σ : Ty} {b0 : AV} {cs : List Value} {T : Nat -> Prop} {v0 : World} {x' : den σ} {m : Int} {T1 : Nat -> Prop} {v' : Value} {w' : World}, st.row j = some (.box σ b0) -> ρ j = some (.tree cs T v0) -> (∀ b, T1 b -> T b) -> slT σ = true -> SoftW T v0 w' -> TR w' T σ x' cs -> v' = .int .i64 m -> Blw ⟨fun b=> b < w.heap.size /\ ¬ T1 b, none⟩ w w' ->
   Nx E w0 B pv S ρ st o.dst ⟨.t (.int .i64) m, [], [], none, some (j, treeR 0 false σ x')⟩ id K -> K (a.put o.dst v') w' := fun {j σ b0 cs T v0 x' m T1 v' w'} hr hl hT hsl hsw htr hv hb hK=> by
  subst hv
  have hap := fun b hb=> hs.hs.apart0 j _ _ b hl hr hb
  have h1 := hs.sto (w' := w') (r' := treeR 0 false σ x') (hs.below.trans ⟨hb.os, hb.tape, hb.output, hb.size, fun q hq=> hb.block q ⟨hs.hB q hq, fun hq'=> (hap q (hT q hq')).1 hq⟩⟩) hr hl (.box _ _ _) rfl rfl hb.size (fun q hq hn=> hb.block q ⟨hq, fun hq'=> hn (hT q hq')⟩) fun row' _=>
   ⟨hsl, hsw, 0, false, x', rfl, htr, fun h=> by cases h⟩
  exact hK S ρ _ w' (h1.put (dst_lt hd) (.inr ⟨_, .t _ _ _ (.int .i64 m), rfl⟩)) (hgl.mono (fun _ h=> h) fun q hq=> hb.block q ⟨hs.hs.stab q hq, fun hq'=> (hap q (hT q hq')).2.1 rfl hq⟩) (Grew.refl _ _) (fun _ h _=> h)
 obtain ⟨_, k, m, ⟨j, τ, σ0, a', b', x, y, e, hr, hg, rfl⟩ | ⟨j, q, p, τ, σ0, a', b', σ, x, x', z, y, e, hr, hz, hg, hx', rfl⟩⟩ := h
 ·rw [e] at hvl hva
  match vs, hvl with
  | [v0, v1], _=>
  have e0 := hva 0 _ v0 rfl rfl
  have e1 := vr_int (hva 1 _ v1 rfl rfl)
  subst e1
  obtain ⟨b0, cs, T, u, hr', hl, rfl, _⟩ := vr_tv e0
  obtain ⟨rfl, hsl, hsw, htr, _⟩ := tree_row hs.hs hr hl
  have hm := (hG _ _ _ hg).2.2.2.2.2 g σ0 x k y m rfl rfl hsl rfl S T u w cs hs.hs.stab hgl (fun b hb hT=> (hs.hs.apart0 j _ _ b hl hr hT).2.1 rfl hb) hsw htr
  exact wp_runsTo (hrun _ (RunsTo.mono hm fun v w' ⟨hv, hb, hsw', htr'⟩=> fin hr hl (fun _ h=> h) hsl hsw' htr' hv hb hK))
 ·rw [e] at hvl hva
  match vs, hvl with
  | [v0, v1], _=>
  have e0 := hva 0 _ v0 rfl rfl
  have e1 := vr_int (hva 1 _ v1 rfl rfl)
  subst e1
  obtain ⟨σ1, b0, cs, T, u, hr', hl, hpl⟩ := vr_vw e0
  obtain ⟨rfl, hsl, hsw, htr, _⟩ := tree_row hs.hs hr hl
  rw [hr] at hr'
  cases hr'
  obtain ⟨T1, h1, h2, h3⟩ := htr.focus hsw hz hpl
  have hsw1 : SoftW T1 w w := softw_refl fun b hb=> softw_ob hsw (h1 b hb)
  have hm := (hG _ _ _ hg).2.2.2.2.2 g (.sl τ) z k y m rfl rfl rfl rfl S T1 w w [v0] hs.hs.stab hgl (fun b hb hT=> (hs.hs.apart0 j _ _ b hl hr (h1 b hT)).2.1 rfl hb) hsw1 h2
  refine wp_runsTo (hrun _ (RunsTo.mono hm fun v w' ⟨hv, hb, hsw', htr'⟩=> ?_))
  have hlt : ∀ b, T b -> b < w.heap.size := fun b hb=> (hsw b hb).1
  obtain ⟨x2, n1, n2⟩ := h3 w' y (fun b hbT hn=> hb.block b ⟨hlt b hbT, hn⟩) htr'
  rw [hx'] at n1
  cases n1
  refine fin hr hl h1 hsl (hsw.trans fun b hT=> ?_) n2 hv hb hK
  by_cases hb1 : T1 b
  ·exact ⟨(hsw' b hb1).1, softw_ob hsw hT, (hsw' b hb1).2.2⟩
  ·have e5 := hb.block b ⟨hlt b hT, hb1⟩
   refine ⟨Nat.lt_of_lt_of_le (hlt b hT) hb.size, softw_ob hsw hT, ?_⟩
   rw [e5]
   exact .refl _
theorem step_callV {args : Array Operand} {ats : Array TypeId} {f : Operand} {g : Nat} {caps : List AV} {u : Upd} {dr : Bool} (ho : o.op = .call { callee := .value f, args := args, argTypes := ats }) (hf : ev E st f = .clo g caps)
  (h : CallV G st.row dr g (mapE (ev E st) args.toList ++ caps) u) (hK : Nx E w0 B pv S ρ st o.dst u id K) : o.wp P a w K Q:= by
 obtain ⟨vs, hvl, hva, hrun⟩ := call_clo (P := P) hs hgl ho hf
 obtain ⟨_, j, τ, rest, σ0, a', b', x, y, cl, e, hr, hcl, hfree, hjm, hg, rfl⟩ := h
 rw [e] at hvl hva
 match vs, hvl with
 | v0 :: vs, hvl=>
 have e0 := hva 0 _ v0 rfl rfl
 obtain ⟨b0, cs, T, u, hr', hl, rfl, _⟩ := vr_tv e0
 obtain ⟨rfl, hsl, hsw, htr, _⟩ := tree_row hs.hs hr hl
 have hap := fun b hb=> hs.hs.apart0 j _ _ b hl hr hb
 obtain ⟨hl1, hl2⟩ := mapO_get hcl
 have hS1 : ∀ b, S b -> b < w.heap.size /\ ¬ T b := fun b hb=> ⟨hs.hs.stab b hb, fun hT=> (hap b hT).2.1 rfl hb⟩
 have hall : ArgsOk (fun b=> b < w.heap.size /\ ¬ T b) w pv cl vs:= by
  refine ⟨by simp only [List.length_cons] at hvl; omega, fun i b v hb hv=> ?_⟩
  obtain ⟨c, h1, h2⟩ := hl2 i b hb
  obtain ⟨cs', h3, h4⟩ := vr_ar (hva (i + 1) c v (by simpa using h1) (by simpa using hv)) (by rintro rfl; simp [closeR] at h2)
  exact ⟨cs', closeV_ok hs.hs hr hl rfl (allL_mem hfree c (List.mem_of_getElem? h1)) h2 h3, by rw [h4, valOf, valOf, closeR_ag h2]⟩
 have hm := (hG _ _ _ hg).2.2.2.2.1 g σ0 x cl y rfl rfl hsl rfl (fun b=> b < w.heap.size /\ ¬ T b) T u w cs vs (fun _ h=> h.1) (hgl.mono hS1 fun _ _=> rfl) (fun b hb=> hb.2) hsw htr hall
 refine wp_runsTo (hrun _ (RunsTo.mono hm fun v w' ⟨hb, hr1⟩=> ?_))
 obtain ⟨T', h1, h2⟩ := hr1
 cases h1 with
 | tr _ _ cs' _ _ htr'=>
 have hm1 := hs.app (w' := w') (r' := treeR 0 false σ0 y) (l' := .tree cs' T' w') (hs.below.trans ⟨hb.os, hb.tape, hb.output, hb.size, fun q hq=> hb.block q ⟨hs.hB q hq, fun hT=> (hap q hT).1 hq⟩⟩) hjm hr hl rfl rfl hb.size (fun b hb1 hn=> hb.block b ⟨hb1, hn⟩)
  (fun b hb1=> (h2 b hb1).1.symm.imp_right fun h=> h) (fun ρ' row'=> ⟨hsl, softw_refl fun b hb1=> (h2 b hb1).2, 0, false, y, rfl, htr', fun h=> by cases h⟩)
 refine hK S _ _ w' (hm1.put (dst_lt hd) (.inr ⟨cs', .tv j σ0 _ cs' T' w' (by rw [setRow_row, if_pos rfl]; rfl) (upd_self _ _ _) htr'.cr.len htr'.cr.one, rfl⟩)) (hgl.mono (fun _ h=> h) fun q hq=> hb.block q (hS1 q hq)) (Grew.refl _ _) fun i hi _=> ?_
 have : i ≠ j:= by rintro rfl; rw [hl] at hi; cases hi
 simp only [upd, if_neg this, killL, hi]
 cases inR j (j + 1) i <;> rfl
end
end Go.Gx
end
section
/- Trees: what is put together of rows, and taken apart. -/
namespace Go.Gx
open Go.RowKit
def killLs : List Nat -> (Nat -> Option Loc) -> Nat -> Option Loc
 | [], ρ=> ρ
 | id :: l, ρ=> killLs l (killL id (id + 1) ρ)
theorem inR_self (i : Nat) : inR i (i + 1) i = true:= by
 unfold inR
 simp only [Bool.and_eq_true]
 exact ⟨Nat.ble_eq_true_of_le (Nat.le_refl _), Nat.ble_eq_true_of_le (Nat.le_refl _)⟩
theorem killL_some {i j : Nat} {ρ : Nat -> Option Loc} {l : Loc} (h : killL i (i + 1) ρ j = some l) : j ≠ i /\ ρ j = some l:= by
 unfold killL at h
 cases hb : inR i (i + 1) j with
 | true=> rw [hb] at h; cases h
 | false=>
  rw [hb] at h
  refine ⟨?_, h⟩
  rintro rfl
  rw [inR_self] at hb
  cases hb
theorem killLs_some : ∀ {ids : List Nat} {ρ : Nat -> Option Loc} {j : Nat} {l : Loc}, killLs ids ρ j = some l -> j ∉ ids /\ ρ j = some l
 | [], ρ, j, l, h=> ⟨by simp, h⟩
 | id :: ids, ρ, j, l, h=> by
  obtain ⟨h1, h2⟩ := killLs_some (ids := ids) h
  obtain ⟨h3, h4⟩ := killL_some h2
  exact ⟨by simp [h3, h1], h4⟩
theorem killLs_none : ∀ {ids : List Nat} {ρ : Nat -> Option Loc} {j : Nat}, ρ j = none -> killLs ids ρ j = none := fun {ids ρ j} h=> by
 cases hk : killLs ids ρ j with
 | none=> rfl
 | some l=> rw [(killLs_some hk).2] at h; cases h
theorem kill_row {st : St} {i j : Nat} (h : (st.kill i (i + 1)).row j ≠ none) : st.row j ≠ none := fun e=> h (by show killR i (i + 1) j (st.row j) = none; rw [e]; exact killR_none)
theorem killL_row : ∀ {ids : List Nat} {st : St} {j : Nat}, (st.killL ids).row j ≠ none -> st.row j ≠ none
 | [], st, j, h=> h
 | id :: ids, st, j, h=> kill_row (killL_row (ids := ids) (st := st.kill id (id + 1)) h)
theorem killL_nt : ∀ {ids : List Nat} {st : St}, (st.killL ids).nt = st.nt
 | [], st=> rfl
 | id :: ids, st=> killL_nt (ids := ids) (st := st.kill id (id + 1))
section
variable {w0 : World} {B : Old} {pv : Nat -> Value} {S : Nat -> Prop} {ρ : Nat -> Option Loc} {st : St} {a : Act} {w : World}
theorem Sim.killL' : ∀ {ids : List Nat} {st : St} {ρ : Nat -> Option Loc}, mbase ∉ ids -> Sim w0 B pv S ρ st a w -> Sim w0 B pv S (killLs ids ρ) (st.killL ids) a w
 | [], st, ρ, _, h=> h
 | id :: ids, st, ρ, hm, h=> by
  simp only [List.mem_cons, not_or] at hm
  exact Sim.killL' (ids := ids) (ρ := killL id (id + 1) ρ) hm.2 (h.kill id (id + 1) (inR_one (Ne.symm hm.1)))
end
section
variable {P : Program} {E : Env} {w0 : World} {B : Old} {pv : Nat -> Value} {S : Nat -> Prop} {ρ : Nat -> Option Loc} {st : St} {a : Act} {w : World} {o : Oper} {id : Nat} {K : Act -> World -> Prop} {Q : Exit -> Act -> World -> Prop}
def NxS (E : Env) (w0 : World) (B : Old) (pv : Nat -> Value) (S : Nat -> Prop) (ρ : Nat -> Option Loc) (st' : St) (id : Nat) (K : Act -> World -> Prop) : Prop :=
 ∀ S' ρ' a' w', Sim w0 B pv S' ρ' st' a' w' -> GlOk E pv S' w' -> Grew B S S' -> (∀ j, ρ j = none -> ¬ (id <= j /\ j < id + 4) -> ρ' j = none) -> K a' w'
theorem tok_frz {row : Nat -> Option Row} : ∀ {n : Nat} {a : AV} {cs : List Value}, treeN row n a = true -> AR S w ρ row pv a cs -> ∀ id, id ∈ toksN n a -> ∃ r, row id = some r /\ frz r = false
 | 0, a, cs, h, _, _, _=> by cases h
 | n + 1, a, cs, h, ha, id, hid=> by
  cases ha with
  | own j e τ xs fz app g cap hr hl=>
   simp only [toksN, List.mem_singleton] at hid
   subst hid
   simp only [treeN, hr] at h
   split at h
   ·rename_i e1; cases e1; exact ⟨_, hr, rfl⟩
   ·cases h
  | ownNil j e τ fz app hr hl=>
   simp only [toksN, List.mem_singleton] at hid
   subst hid
   simp only [treeN, hr] at h
   split at h
   ·rename_i e1; cases e1; exact ⟨_, hr, rfl⟩
   ·cases h
  | tv j τ b _ T v hr hl _ _=>
   simp only [toksN, List.mem_singleton] at hid
   subst hid
   exact ⟨_, hr, rfl⟩
  | vw j q p τ σ b _ T v u hr hl _ _=>
   simp only [toksN, List.mem_singleton] at hid
   subst hid
   exact ⟨_, hr, rfl⟩
  | agg τ fs css hl hh=>
   simp only [treeN, Bool.and_eq_true] at h
   simp only [toksN] at hid
   obtain ⟨b, hb, hi⟩ := go_mem hid
   obtain ⟨k, hk⟩ := List.getElem?_of_mem hb
   have hkl := (List.getElem?_eq_some_iff.1 hk).1
   exact tok_frz (allL_mem h.2 b hb) (hh k b _ hk (List.getElem?_eq_getElem (by omega))) id hi
  | _=> simp [toksN] at hid
theorem own_far (h : HS S w ρ st.row pv B) {ids : List Nat} (hf : ∀ id, id ∈ ids -> ∃ r, st.row id = some r /\ frz r = false) {b : Nat} (hb : ownB ρ ids b) : ¬ B b /\ ¬ S b /\ b < w.heap.size /\ ∀ j l', killLs ids ρ j = some l' -> l'.has b -> (st.killL ids).row j = none:= by
 obtain ⟨i, hi, l, hl, hb⟩ := hb
 obtain ⟨r, hr, hz⟩ := hf i hi
 obtain ⟨h1, h2, _⟩ := h.apart0 i r l b hl hr hb
 refine ⟨h1, h2 hz, (h.rows i r l hr hl).has_lt hb, fun j l' hj hb'=> ?_⟩
 obtain ⟨h3, h4⟩ := killLs_some hj
 apply Classical.byContradiction
 intro hn
 have := h.inj0 j i l' l b h4 hl (killL_row hn) (by rw [hr]; simp) hb' hb
 subst this
 exact h3 hi
theorem row_ob (h : HS S w ρ st.row pv B) {id : Nat} {r : Row} {l : Loc} (hr : st.row id = some r) (hl : ρ id = some l) {b : Nat} (hb : l.has b) : OB w b:= by
 have := h.rows id r l hr hl
 cases l with
 | nilrow=> exact hb.elim
 | soft T v=>
  cases r with
  | flat e τ xs fz app=> exact this.elim
  | box τ a=> exact softw_ob this.2.2 hb
 | tree cs T v=>
  cases r with
  | flat e τ xs fz app=> exact this.elim
  | box τ a=> exact softw_ob this.2.1 hb
 | «at» g c=>
  cases hb
  cases r with
  | flat e τ xs fz app=> obtain ⟨cur, f, h1, _, _, _, _, h2, _⟩ := this; exact ⟨cur, e, f, h1, h2⟩
  | box τ a=> obtain ⟨cur, T, h1, _⟩ := this; exact ⟨cur, T, (0, 0), h1, .inl (Nat.le_refl _)⟩
variable (hE : EnvOk P E) (hs : Sim w0 B pv S ρ st a w) (hgl : GlOk E pv S w) (hd : dstOk o st.nt = true)
include hE hs hgl hd
theorem move_index {T : TypeId} {x ix : Operand} {τ : Ty} {j : Nat} {q : Option Nat} {p : List Nat} {σ0 σ : Ty} {a' b' : AV} {x' : den σ} {xs : List (den τ)} {i : Int} (hid : ρ id = none) (ho : o.op = .indexAddr T x ix) (hT : E.ty T = some (.sl τ)) (hx : ev E st x = .vw j q p τ) (hi : ev E st ix = .t (.int .i64) i)
  (hr : st.row j = some (.box σ0 (.tup [a', b', .t σ x']))) (hxs : viewAt σ x' q p = some (.t (.sl τ) xs)) (hjm : j ≠ mbase) (h0 : 0 <= i) (h1 : i < (xs.length : Int))
  (hK : NxS E w0 B pv S ρ (((st.kill j (j + 1)).setRow id (treeR 0 false (.sl τ) xs)).putO o.dst (.tq id i.toNat [])) id K) : o.wp P a w K Q:= by
 have e2 := ev_ok hgl hs ix
 rw [hi] at e2
 have e1 := ev_ok hgl hs x
 rw [hx] at e1
 obtain ⟨σ1, b0, cs, D, u, hr', hl, hpl⟩ := vr_vw e1
 obtain ⟨rfl, hsl, hsw, htr, _⟩ := tree_row hs.hs hr hl
 rw [hr] at hr'
 cases hr'
 obtain ⟨T1, k1, k2, _⟩ := htr.focus hsw hxs hpl
 have hlt : i.toNat < xs.length:= by omega
 rcases tr_one k2 with ⟨rfl, _⟩ | ⟨g, c, hu, hg⟩
 ·simp at hlt
 rw [hu] at k2
 obtain ⟨t, hun, _, hte, _⟩ := (hE.ty _ _ hT).und
 have hk := hs.kill j (j + 1) (inR_one hjm)
 have hid' : killL j (j + 1) ρ id = none:= by
  cases h : killL j (j + 1) ρ id with
  | none=> rfl
  | some l=> rw [(killL_some h).2] at hid; cases hid
 have hm := hk.adopt (id := id) (r := treeR 0 false (.sl τ) xs) (l := .tree [.slice (some ⟨g, 0, none⟩) xs.length c] T1 w) hid' rfl (fun b hb=> by
  obtain ⟨m1, m2, _⟩ := hs.hs.apart0 j _ _ b hl hr (k1 b hb)
  refine ⟨m1, m2 rfl, fun j' l' hj' hb'=> ?_⟩
  obtain ⟨m3, m4⟩ := killL_some hj'
  apply Classical.byContradiction
  intro hn
  exact m3 (hs.hs.inj0 j' j l' _ b m4 hl (kill_row hn) (by rw [hr]; simp) hb' (k1 b hb))) (fun ρ' row'=> ⟨rfl, softw_refl fun b hb=> softw_ob hsw (k1 b hb), 0, false, xs, rfl, k2, fun h=> by cases h⟩)
 have e3 : a.eval x = .slice (some ⟨g, 0, none⟩) xs.length c := hu
 have hrun : (execOp a.eval o).run P w = .ok (.value (.pointer (some ⟨g, i.toNat * nc τ, none⟩))) w:= by
  unfold execOp
  simp [ho, e3, vr_int e2, Instr.indexAt, asIntOf, run_underlying hun, h0, h1, run_sizeOfT (hE.ty _ _ hte), Addr.add_lit]
 refine Oper.wp_value hrun (hK S _ _ w (hm.put (dst_lt hd) (.inr ⟨_, .tq id i.toNat [] τ τ _ T1 w g xs.length c (by rw [setRow_row, if_pos rfl]; rfl) (upd_self _ _ _) hlt rfl rfl, by simp [valOf, isAg, offP]⟩)) hgl (Grew.refl _ _) fun j' hj' hn=> ?_)
 have : j' ≠ id:= by rintro rfl; exact hn ⟨Nat.le_refl _, by omega⟩
 simp only [upd, if_neg this]
 cases h : killL j (j + 1) ρ j' with
 | none=> rfl
 | some l=> rw [(killL_some h).2] at hj'; cases hj'
theorem move_build {T : TypeId} {τ : Ty} {n : Nat} {ps : Array (Nat × Operand)} {fs : List AV} {xs : List (den τ)} (hid : ρ id = none) (ho : o.op = .buildSlice T n ps) (hT : E.ty T = some (.sl τ)) (hn : n * nc τ <= 16777216)
  (hfs : partsA (ev E st) (List.replicate n τ) ps.toList (List.replicate n (.t τ (dflt τ))) = some fs) (hxs : closeAll st.row τ fs = some xs) (htree : purN.allL (treeN st.row 6) fs = true) (hsl : slT τ = true) (hdis : distinctL (toksL fs) = true) (hmb : mbase ∉ toksL fs)
  (hK : NxS E w0 B pv S ρ (((st.killL (toksL fs)).setRow id (treeR (E.el T) true (.sl τ) xs)).putO o.dst (.tv id (.sl τ))) id K) : o.wp P a w K Q:= by
 obtain ⟨t, hu, het, hte, hpos, hnb⟩ := (hE.ty _ _ hT).und
 obtain ⟨i, hi, hsz, hby, hz⟩ := (hE.ty _ _ hte).info
 have hzc : (valOf (.t τ (dflt τ)) (zc τ)).cells.toList = zc τ := valOf_cells (S := S) (w := w) (ρ := ρ) (row := st.row) (pv := pv) (.t τ (dflt τ)) (.t τ _ _ (zc_ok S w τ))
 have hzs : (valOf (.t τ (dflt τ)) (zc τ)).cells.size = nc τ:= by rw [<- Array.length_toList, hzc]; exact (zc_ok S w τ).len
 have hpl : ∀ i σ, (List.replicate n τ)[i]? = some σ -> (fun i=> some (i * nc τ, nc τ)) i = some (offL (List.replicate n τ) i, nc σ) := fun k σ hk=> by
  obtain ⟨h6, h7⟩ := List.getElem?_eq_some_iff.1 hk
  simp only [List.length_replicate] at h6
  simp only [List.getElem_replicate] at h7
  subst h7
  rw [offL_replicate _ _ _ (by omega)]
 obtain ⟨css', h6, h7, h8, h9, h10⟩ := fill_ok (ev_ok hgl hs) hpl ps.toList _ fs (List.replicate n (zc τ)) hfs (by simp) (by simp) (fun k σ b hk hb=> by
  have e1 := (List.getElem?_eq_some_iff.1 hk).2
  have e2 := (List.getElem?_eq_some_iff.1 hb).2
  simp only [List.getElem_replicate] at e1 e2
  subst e1; subst e2
  exact .t _ _) (fun k b c hb hc=> by
  have e1 := (List.getElem?_eq_some_iff.1 hb).2
  have e2 := (List.getElem?_eq_some_iff.1 hc).2
  simp only [List.getElem_replicate] at e1 e2
  subst e1; subst e2
  exact .t _ _ _ (zc_ok S w τ))
 simp only [List.length_replicate] at h7 h8
 have hcells : (Array.range (n * i.size)).map ((valOf (.t τ (dflt τ)) (zc τ)).cells[· % (valOf (.t τ (dflt τ)) (zc τ)).cells.size]!) = (List.replicate n (zc τ)).flatten.toArray:= by
  apply Array.ext'
  have := made_flat (valOf (.t τ (dflt τ)) (zc τ)).cells n
  rw [hzc, hzs] at this
  rw [hsz]
  simpa [madeCells] using this
 have hrun : (execOp a.eval o).run P w = .ok (.value (.slice (some ⟨w.heap.size, 0, none⟩) n n)) (w.alloc (.cells css'.flatten.toArray t)):= by
  unfold execOp
  by_cases h0 : n = 0
  ·subst h0
   have e1 : ps.toList = []:= by
    cases hps : ps.toList with
    | nil=> rfl
    | cons p l=> rw [hps] at hfs; simp [partsA] at hfs
   have e2 : ps = #[] := Array.toList_eq_nil_iff.1 e1
   have e3 : css' = [] := List.eq_nil_of_length_eq_zero h8
   subst e2; subst e3
   simp [ho, Instr.buildSlice, run_underlying hu, sizeOf, typeInfo, hi, Instr.fill, newRow, Array.range_zero', Array.map_empty]
  ·have hr := run_buildSlice (P := P) w T t n (ps.map fun p=> (p.1, a.eval p.2)) css'.flatten.toArray i _ hu hi hz (by rw [hsz]; omega) (by rw [hsz]; intro h; rcases Nat.mul_eq_zero.1 h with h | h <;> omega)
    (by rw [hcells, hsz, Array.toList_map]; exact h6)
   simp only [ho, Sem.run_bind, hr, Result.andThen_ok, Sem.run_pure]
 obtain ⟨hxl, hxg⟩ := closeAll_get hxs
 have hlen : xs.length = n:= by omega
 have hft : ∀ id, id ∈ toksL fs -> ∃ r, st.row id = some r /\ frz r = false := fun k hk=> by
  obtain ⟨b, hb, hi⟩ := go_mem hk
  obtain ⟨m, hm⟩ := List.getElem?_of_mem hb
  have hml := (List.getElem?_eq_some_iff.1 hm).1
  exact tok_frz (allL_mem htree b hb) (h10 m b _ hm (List.getElem?_eq_getElem (by omega))) k hi
 have hbl : ∀ b, b < w.heap.size -> (w.alloc (.cells css'.flatten.toArray t)).heap[b]? = w.heap[b]? := fun b hb=> heap_alloc_old w _ b hb
 have hbt : ∀ b, ownB ρ (toksL fs) b -> b < w.heap.size := fun b hb=> (own_far hs.hs hft hb).2.2.1
 have hclen : ∀ (k : Nat) (σ : Ty) (d : List Value), (List.replicate n τ)[k]? = some σ -> css'[k]? = some d -> d.length = nc σ := fun k σ d hk hd=> by
  have hkl : k < fs.length:= by have := (List.getElem?_eq_some_iff.1 hk).1; simp at this; omega
  exact AR.len (h9 k σ _ hk (List.getElem?_eq_getElem hkl)) (h10 k _ d (List.getElem?_eq_getElem hkl) hd)
 obtain ⟨hs1, hs2⟩ := seg (by simp [h8]) hclen
 have hnew := heap_alloc_new w (.cells css'.flatten.toArray t)
 have hTR : TR (w.alloc (.cells css'.flatten.toArray t)) (fun b=> b = w.heap.size \/ ownB ρ (toksL fs) b) (.sl τ) xs [.slice (some ⟨w.heap.size, 0, none⟩) xs.length n]:= by
  refine .sl _ τ xs w.heap.size n (fun k=> css'.getD k []) (fun k=> ownB ρ (toksN 6 (fs.getD k .any))) (by omega) (by have := Nat.le_mul_of_pos_right n hpos; simp only [maxLen]; omega) (.inl rfl) ⟨_, t, (0, 0), hnew, .inl (Nat.le_refl _)⟩ (fun k hk=> ?_) (fun k m v hk hv=> ?_) (fun k b hk hb=> ?_) (fun k k' b hk hk' hne hb hb'=> ?_)
  ·obtain ⟨b, c, h11, h12, h13⟩ := hxg k hk
   have hck : css'[k]? = some css'[k] := List.getElem?_eq_getElem (by omega)
   have e1 : css'.getD k [] = css'[k]:= by simp [List.getD, hck]
   have e2 : fs.getD k .any = b:= by simp [List.getD, h11]
   rw [e1, e2]
   refine (tree_tr hs.hs (allL_mem htree b (List.mem_of_getElem? h11)) h12 h13 (h10 k b _ h11 hck) (distinct_two (f := toksN 6) hdis h11 h11).1).mono (fun _ h=> h) fun b' hb'=> hbl b' (hbt b' (hb'.mono fun i hi=> mem_go (f := toksN 6) h11 hi))
  ·have hkn : k < n:= by omega
   have hck : css'[k]? = some css'[k] := List.getElem?_eq_getElem (by omega)
   have e1 : css'.getD k [] = css'[k]:= by simp [List.getD, hck]
   rw [e1] at hv
   obtain ⟨h14, h15⟩ := hs2 k _ τ hck (by simp [hkn])
   rw [offL_replicate _ _ _ (by omega)] at h14 h15
   rw [<- h14, List.getElem?_take] at hv
   split at hv
   ·rw [List.getElem?_drop] at hv
    rw [cell_of hnew]
    simpa using hv
   ·cases hv
  ·have hkf : fs[k]? = some fs[k] := List.getElem?_eq_getElem (by omega)
   have e2 : fs.getD k .any = fs[k]:= by simp [List.getD, hkf]
   rw [e2] at hb
   have hb2 : ownB ρ (toksL fs) b := hb.mono fun i hi=> mem_go (f := toksN 6) hkf hi
   exact ⟨.inr hb2, Nat.ne_of_lt (hbt b hb2)⟩
  ·have hkf : fs[k]? = some fs[k] := List.getElem?_eq_getElem (by omega)
   have hkf' : fs[k']? = some fs[k'] := List.getElem?_eq_getElem (by omega)
   have e2 : fs.getD k .any = fs[k]:= by simp [List.getD, hkf]
   have e3 : fs.getD k' .any = fs[k']:= by simp [List.getD, hkf']
   rw [e2] at hb
   rw [e3] at hb'
   exact own_apart hs.hs ((distinct_two (f := toksN 6) hdis hkf hkf').2 hne) (toks_row (allL_mem htree _ (List.mem_of_getElem? hkf))) (toks_row (allL_mem htree _ (List.mem_of_getElem? hkf'))) hb hb'
 have hk := Sim.killL' (ids := toksL fs) hmb hs
 have hk2 := hk.growX (w' := w.alloc (.cells css'.flatten.toArray t)) (S' := S) (hs.below.alloc hs.hB _) (by rw [World.size_alloc']; omega) (fun b hb=> hbl b (hs.hs.stab b hb)) (fun j r l g h1 h2 h3=> hbl g ((hk.hs.rows j r l h2 h1).has_lt h3)) (fun _ h=> h) (fun b hb=> .inl hb)
 have hm := hk2.adopt (id := id) (r := treeR (E.el T) true (.sl τ) xs) (l := .tree [.slice (some ⟨w.heap.size, 0, none⟩) xs.length n] (fun b=> b = w.heap.size \/ ownB ρ (toksL fs) b) (w.alloc (.cells css'.flatten.toArray t))) (killLs_none hid) rfl (fun b hb=> by
  rcases hb with rfl | hb
  ·exact ⟨fun hb=> by have := hs.hB _ hb; omega, fun hb=> by have := hs.hs.stab _ hb; omega, fun j l' hj hb'=> by
    apply Classical.byContradiction
    intro hne
    cases hrj : (st.killL (toksL fs)).row j with
    | none=> exact hne hrj
    | some r=> have := (hk.hs.rows j r l' hrj hj).has_lt hb'; omega⟩
  ·obtain ⟨m1, m2, _, m4⟩ := own_far hs.hs hft hb
   exact ⟨m1, m2, m4⟩) (fun ρ' row'=> ⟨rfl, softw_refl fun b hb=> ?_, E.el T, true, xs, rfl, hTR, fun _=> ⟨τ, xs, rfl, HEq.rfl, hpos, .inr ⟨_, n, _, rfl, by rw [het]; exact hnew, ?_⟩⟩⟩)
 ·rw [hlen] at hm
  refine Oper.wp_value hrun (hK S _ _ _ (hm.put (by show ∀ d, o.dst = some d -> d < ((st.killL (toksL fs)).setRow id _).nt; show ∀ d, o.dst = some d -> d < (st.killL (toksL fs)).nt; rw [killL_nt]; exact dst_lt hd) (.inr ⟨_, .tv id (.sl τ) _ _ _ _ (by rw [setRow_row, if_pos rfl]; rfl) (upd_self _ _ _) rfl (by intro u hu; simp only [List.mem_singleton] at hu; subst hu; rfl), rfl⟩)) (hgl.mono (fun _ h=> h) fun b hb=> hbl b (hs.hs.stab b hb)) (Grew.refl _ _) fun j hj hn=> ?_)
  have : j ≠ id:= by rintro rfl; exact hn ⟨Nat.le_refl _, by omega⟩
  simp only [upd, if_neg this]
  exact killLs_none hj
 ·rcases hb with rfl | hb
  ·exact ⟨_, t, (0, 0), hnew, .inl (Nat.le_refl _)⟩
  ·refine OB.mono ?_ (hbl b (hbt b hb))
   obtain ⟨i, hi, l, hl, hb⟩ := hb
   obtain ⟨r, hr, _⟩ := hft i hi
   exact row_ob hs.hs hr hl hb
 ·simp [hs1, sumNc_replicate]
omit hE hs hgl hd in
theorem tr_parts {T : Nat -> Prop} {e : Ty} {xs : List (den e)} {h : Value} (ht : TR w T (.sl e) xs [h]) : ∃ (A : Option Addr) (c : Nat) (cv : Nat -> List Value) (Ts : Nat -> Nat -> Prop), h = .slice A xs.length c /\ xs.length <= c /\ c <= maxLen /\ (∀ i (hi : i < xs.length), TR w (Ts i) e xs[i] (cv i)) /\
  (∀ i, i < xs.length -> ∃ g, A = some ⟨g, 0, none⟩ /\ T g /\ (∀ j v, (cv i)[j]? = some v -> w.cell? ⟨g, i * nc e + j, none⟩ = some v) /\ ∀ b, Ts i b -> T b /\ b ≠ g) /\ ∀ i j b, i < xs.length -> j < xs.length -> i ≠ j -> Ts i b -> ¬ Ts j b:= by
 generalize hc : [h] = cs at ht
 cases ht with
 | flat _ _ _ _ hs _=> cases hs
 | nil=>
  cases hc
  exact ⟨none, 0, fun _=> [], fun _ _=> False, rfl, Nat.le_refl _, Nat.zero_le _, fun i hi=> absurd hi (Nat.not_lt_zero i), fun i hi=> absurd hi (Nat.not_lt_zero i), fun i j b hi=> absurd hi (Nat.not_lt_zero i)⟩
 | sl _ _ _ g c cv Ts hc1 hm hg hO h1 h2 h3 h4=>
  cases hc
  exact ⟨_, c, cv, Ts, rfl, hc1, hm, h1, fun i hi=> ⟨g, rfl, hg, fun j v hv=> h2 i j v hi hv, fun b hb=> h3 i b hi hb⟩, h4⟩
omit hE hs hgl hd in
theorem tr_join {Tx Ty' : Nat -> Prop} {τ : Ty} {xs ys : List (den τ)} {cvx cvy : Nat -> List Value} {Tsx Tsy : Nat -> Nat -> Prop} {w' : World} {g cap : Nat} {cur : Array Value} {t : TypeId} {f : Nat × Nat} (hg : w'.heap[g]? = some (.cells cur t f)) (hf : f.2 <= f.1) (hcap : xs.length + ys.length <= cap) (hm : cap <= maxLen)
  (hx1 : ∀ i (hi : i < xs.length), TR w (Tsx i) τ xs[i] (cvx i)) (hy1 : ∀ i (hi : i < ys.length), TR w (Tsy i) τ ys[i] (cvy i)) (hx2 : ∀ i j v, i < xs.length -> (cvx i)[j]? = some v -> cur[i * nc τ + j]? = some v) (hy2 : ∀ i j v, i < ys.length -> (cvy i)[j]? = some v -> cur[(xs.length + i) * nc τ + j]? = some v)
  (hx3 : ∀ i b, i < xs.length -> Tsx i b -> Tx b /\ b ≠ g /\ w'.heap[b]? = w.heap[b]?) (hy3 : ∀ i b, i < ys.length -> Tsy i b -> Ty' b /\ b ≠ g /\ w'.heap[b]? = w.heap[b]?) (hx4 : ∀ i j b, i < xs.length -> j < xs.length -> i ≠ j -> Tsx i b -> ¬ Tsx j b) (hy4 : ∀ i j b, i < ys.length -> j < ys.length -> i ≠ j -> Tsy i b -> ¬ Tsy j b)
  (hd : ∀ b, Tx b -> ¬ Ty' b) : TR w' (fun b=> b = g \/ (Tx b \/ Ty' b)) (.sl τ) (xs ++ ys) [.slice (some ⟨g, 0, none⟩) (xs ++ ys).length cap]:= by
 have hl : (xs ++ ys).length = xs.length + ys.length := List.length_append
 refine .sl _ τ (xs ++ ys) g cap (fun k=> if k < xs.length then cvx k else cvy (k - xs.length)) (fun k=> if k < xs.length then Tsx k else Tsy (k - xs.length)) (by omega) hm (.inl rfl) ⟨cur, t, f, hg, .inl hf⟩ (fun k hk=> ?_) (fun k j v hk hv=> ?_) (fun k b hk hb=> ?_) (fun k k' b hk hk' hne hb hb'=> ?_)
 ·by_cases h : k < xs.length
  ·simp only [if_pos h]
   rw [List.getElem_append_left h]
   exact (hx1 k h).mono (fun _ h=> h) fun b hb=> (hx3 k b h hb).2.2
  ·have h2 : k - xs.length < ys.length:= by omega
   simp only [if_neg h]
   rw [List.getElem_append_right (by omega)]
   exact (hy1 _ h2).mono (fun _ h=> h) fun b hb=> (hy3 _ b h2 hb).2.2
 ·rw [cell_of hg]
  by_cases h : k < xs.length
  ·simp only [if_pos h] at hv
   exact hx2 k j v h hv
  ·simp only [if_neg h] at hv
   have := hy2 (k - xs.length) j v (by omega) hv
   rwa [show xs.length + (k - xs.length) = k by omega] at this
 ·by_cases h : k < xs.length
  ·simp only [if_pos h] at hb
   obtain ⟨h1, h2, _⟩ := hx3 k b h hb
   exact ⟨.inr (.inl h1), h2⟩
  ·simp only [if_neg h] at hb
   obtain ⟨h1, h2, _⟩ := hy3 (k - xs.length) b (by omega) hb
   exact ⟨.inr (.inr h1), h2⟩
 ·by_cases h : k < xs.length <;> by_cases h' : k' < xs.length
  ·simp only [if_pos h] at hb
   simp only [if_pos h'] at hb'
   exact hx4 k k' b h h' hne hb hb'
  ·simp only [if_pos h] at hb
   simp only [if_neg h'] at hb'
   exact hd b (hx3 k b h hb).1 (hy3 _ b (by omega) hb').1
  ·simp only [if_neg h] at hb
   simp only [if_pos h'] at hb'
   exact hd b (hx3 k' b h' hb').1 (hy3 _ b (by omega) hb).1
  ·simp only [if_neg h] at hb
   simp only [if_neg h'] at hb'
   exact hy4 _ _ b (by omega) (by omega) (by omega) hb hb'
theorem move_append {args : Array Operand} {T : TypeId} {j k : Nat} {τ σ1 σ2 : Ty} {a' b' : AV} {xs ys : List (den τ)} (ho : o.op = .call { callee := .builtin .append, args := args, argTypes := #[T, T] }) (hargs : mapE (ev E st) args.toList = [.tv j (.sl τ), .tv k (.sl τ)]) (hT : E.ty T = some (.sl τ))
  (hr1 : st.row j = some (.box σ1 (.tup [.t (.int .i64) ((E.el T : Nat) : Int), .t .bool true, .t (.sl τ) xs]))) (hr2 : st.row k = some (.box σ2 (.tup [a', b', .t (.sl τ) ys]))) (hjk : j ≠ k) (hjm : j ≠ mbase) (hkm : k ≠ mbase) (hroom : room (xs.length + ys.length) τ = true)
  (hK : NxS E w0 B pv S ρ ((((st.kill k (k + 1)).kill j (j + 1)).setRow j (treeR (E.el T) true (.sl τ) (xs ++ ys))).putO o.dst (.tv j (.sl τ))) id K) : o.wp P a w K Q:= by
 obtain ⟨x, y, rfl, hx, hy⟩ := two_args hargs
 obtain ⟨t, hu, het, hte, hpos, hnb⟩ := (hE.ty _ _ hT).und
 obtain ⟨i, hi, hsz, hby, hz⟩ := (hE.ty _ _ hte).info
 have hzc : (valOf (.t τ (dflt τ)) (zc τ)).cells.toList = zc τ := valOf_cells (S := S) (w := w) (ρ := ρ) (row := st.row) (pv := pv) (.t τ (dflt τ)) (.t τ _ _ (zc_ok S w τ))
 have hzs : (valOf (.t τ (dflt τ)) (zc τ)).cells.size = nc τ:= by rw [<- Array.length_toList, hzc]; exact (zc_ok S w τ).len
 have e1 := ev_ok hgl hs x
 have e2 := ev_ok hgl hs y
 rw [hx] at e1
 rw [hy] at e2
 obtain ⟨b1, cs1, Tj, u1, hr1', hl1, e3, _⟩ := vr_tv e1
 obtain ⟨b2, cs2, Tk, u2, hr2', hl2, e4, _⟩ := vr_tv e2
 obtain ⟨rfl, hsl1, hsw1, ht1, ee, eap, he1, he2, hap⟩ := tree_row hs.hs hr1 hl1
 obtain ⟨rfl, hsl2, hsw2, ht2, _⟩ := tree_row hs.hs hr2 hl2
 have hee : ee = E.el T:= by
  injection he1 with _ he1
  have : ((E.el T : Nat) : Int) = (ee : Int) := he1
  omega
 have heap1 : eap = true:= by
  injection he2 with _ he2
  exact he2.symm
 subst hee
 obtain ⟨v1, rfl⟩ := tr_sl ht1
 obtain ⟨v2, rfl⟩ := tr_sl ht2
 have hv1 : a.eval x = v1 := e3
 have hv2 : a.eval y = v2 := e4
 obtain ⟨A2, c2, cvy, Tsy, rfl, hc2, hm2, py1, py2, py3⟩ := tr_parts ht2
 have hap := hap heap1
 obtain ⟨σ', xs', q1, q2, _, q3⟩ := hap
 injection q1 with q1
 subst q1
 have q2 := eq_of_heq q2
 subst q2
 have far1 := fun b hb=> hs.hs.apart0 j _ _ b hl1 hr1 hb
 have far2 := fun b hb=> hs.hs.apart0 k _ _ b hl2 hr2 hb
 have hdis : ∀ b, Tj b -> ¬ Tk b := fun b h1 h2=> hjk (hs.hs.inj0 j k _ _ b hl1 hl2 (by rw [hr1]; simp) (by rw [hr2]; simp) h1 h2)
 have lt1 : ∀ b, Tj b -> b < w.heap.size := fun b hb=> (hsw1 b hb).1
 have lt2 : ∀ b, Tk b -> b < w.heap.size := fun b hb=> (hsw2 b hb).1
 have run : ∀ {v : Value} {w' : World}, (Builtin.append_ #[T, T] o.type #[a.eval x, a.eval y]).run P w = .ok v w' -> (execOp a.eval o).run P w = .ok (.value v) w' := fun hr=> builtin_run ho (by simp [builtin, hr])
 have fin : ∀ {w' : World} {h' : Value} {T' : Nat -> Prop}, (Builtin.append_ #[T, T] o.type #[a.eval x, a.eval y]).run P w = .ok h' w' -> Blw B w0 w' -> w.heap.size <= w'.heap.size -> (∀ b, b < w.heap.size -> ¬ Tj b -> w'.heap[b]? = w.heap[b]?) -> TR w' T' (.sl τ) (xs ++ ys) [h'] ->
   (∀ b, T' b -> (Tj b \/ Tk b) \/ w.heap.size <= b) -> (∀ b, T' b -> OB w' b) -> (h' = .slice none 0 0 \/ ∃ g c cur, h' = .slice (some ⟨g, 0, none⟩) (xs ++ ys).length c /\ w'.heap[g]? = some (.cells cur (E.el T) (0, 0)) /\ cur.size = c * nc τ) -> o.wp P a w K Q := fun {w' h' T'} hrun hb hsz hold htr hT' hO happ=> by
  have hk := (hs.kill k (k + 1) (inR_one hkm)).kill j (j + 1) (inR_one hjm)
  have live : ∀ {i l}, killL j (j + 1) (killL k (k + 1) ρ) i = some l -> i ≠ j /\ i ≠ k /\ ρ i = some l := fun h=> by
   obtain ⟨h1, h2⟩ := killL_some h
   obtain ⟨h3, h4⟩ := killL_some h2
   exact ⟨h1, h3, h4⟩
  have away : ∀ {i l b}, killL j (j + 1) (killL k (k + 1) ρ) i = some l -> ((st.kill k (k + 1)).kill j (j + 1)).row i ≠ none -> l.has b -> ¬ Tj b /\ ¬ Tk b := fun {i l b} h hn hb=> by
   obtain ⟨h1, h2, h3⟩ := live h
   have hn' := kill_row (kill_row hn)
   exact ⟨fun hj=> h1 (hs.hs.inj0 i j l _ b h3 hl1 hn' (by rw [hr1]; simp) hb hj), fun hj=> h2 (hs.hs.inj0 i k l _ b h3 hl2 hn' (by rw [hr2]; simp) hb hj)⟩
  have hk2 := hk.growX (w' := w') (S' := S) hb hsz (fun b hb=> hold b (hs.hs.stab b hb) fun hj=> (far1 b hj).2.1 rfl hb)
   (fun i r l g h1 h2 h3=> hold g ((hk.hs.rows i r l h2 h1).has_lt h3) (away h1 (by rw [h2]; simp) h3).1) (fun _ h=> h) (fun b hb=> .inl hb)
  have hjn : killL j (j + 1) (killL k (k + 1) ρ) j = none:= by
   cases h : killL j (j + 1) (killL k (k + 1) ρ) j with
   | none=> rfl
   | some l=> exact absurd rfl (live h).1
  have hm := hk2.adopt (id := j) (r := treeR (E.el T) true (.sl τ) (xs ++ ys)) (l := .tree [h'] T' w') hjn rfl (fun b hb=> by
   rcases hT' b hb with (hb' | hb') | hb'
   ·refine ⟨(far1 b hb').1, (far1 b hb').2.1 rfl, fun i l' hi hbi=> ?_⟩
    apply Classical.byContradiction
    intro hn
    exact (away hi hn hbi).1 hb'
   ·refine ⟨(far2 b hb').1, (far2 b hb').2.1 rfl, fun i l' hi hbi=> ?_⟩
    apply Classical.byContradiction
    intro hn
    exact (away hi hn hbi).2 hb'
   ·refine ⟨fun h=> by have := hs.hB b h; omega, fun h=> by have := hs.hs.stab b h; omega, fun i l' hi hbi=> ?_⟩
    cases hri : ((st.kill k (k + 1)).kill j (j + 1)).row i with
    | none=> rfl
    | some r=> have := (hk.hs.rows i r l' hri hi).has_lt hbi; omega) (fun ρ' row'=> ⟨rfl, softw_refl hO, E.el T, true, xs ++ ys, rfl, htr, fun _=> ⟨τ, xs ++ ys, rfl, HEq.rfl, hpos, by
     rcases happ with rfl | ⟨g, c, cur, rfl, h1, h2⟩
     ·exact .inl rfl
     ·exact .inr ⟨g, c, cur, rfl, h1, h2⟩⟩⟩)
  have hone : h'.oneCell' = true:= by rcases happ with rfl | ⟨g, c, cur, rfl, _⟩ <;> rfl
  refine Oper.wp_value (run hrun) (hK S _ _ w' (hm.put (dst_lt hd) (.inr ⟨_, .tv j (.sl τ) _ [h'] T' w' (by rw [setRow_row, if_pos rfl]; rfl) (upd_self _ _ _) rfl (by intro u hu; simp only [List.mem_singleton] at hu; subst hu; exact hone), rfl⟩)) (hgl.mono (fun _ h=> h) fun b hb=> hold b (hs.hs.stab b hb) fun hj=> (far1 b hj).2.1 rfl hb) (Grew.refl _ _) fun i hi _=> ?_)
  have : i ≠ j:= by rintro rfl; rw [hl1] at hi; cases hi
  simp only [upd, if_neg this]
  cases h : killL j (j + 1) (killL k (k + 1) ρ) i with
  | none=> rfl
  | some l=> rw [(live h).2.2] at hi; cases hi
 have small : ∀ n, room n τ = true -> n <= 140737488355328 /\ n * i.bytes <= 140737488355328 := fun n hn=> by
  have h1 := Nat.le_of_ble_eq_true hn
  exact ⟨Nat.le_trans (Nat.le_mul_of_pos_right _ hnb) h1, by rw [hby]; exact h1⟩
 obtain ⟨hm1, hm3⟩ := small _ hroom
 have hdold : ∀ (o' : Obj) (b : Nat), b < w.heap.size -> (w.drew.alloc o').heap[b]? = w.heap[b]? := fun o' b hb=> heap_alloc_old w.drew _ b hb
 have hdb : ∀ o' : Obj, Blw B w0 (w.drew.alloc o') := fun o'=> hs.drew.below.alloc hs.drew.hB _
 have hdsz : ∀ o' : Obj, w.heap.size <= (w.drew.alloc o').heap.size := fun o'=> by rw [World.size_alloc']; exact Nat.le_succ _
 have ob1 : ∀ b, Tj b -> OB w b := fun b hb=> softw_ob hsw1 hb
 have ob2 : ∀ b, Tk b -> OB w b := fun b hb=> softw_ob hsw2 hb
 obtain ⟨A1, c1, cvx, Tsx, hvx, hc1, hm1', px1, px2, px3⟩ := tr_parts ht1
 -- the new ones' cells
 have hnews : ys.length ≠ 0 -> ∃ (g : Nat) (news : List Value), A2 = some ⟨g, 0, none⟩ /\ news.length = ys.length * nc τ /\ (∀ j u, news[j]? = some u -> w.cell? ⟨g, j, none⟩ = some u) /\ (∀ u ∈ news, u.oneCell' = true) /\ ∀ i j v, i < ys.length -> (cvy i)[j]? = some v -> news[i * nc τ + j]? = some v := fun h0=> by
  have hel : ∀ i (hi : i < ys.length), ∃ g o cs, A2 = some ⟨g, o, none⟩ /\ CR Tk w τ ys[i] cs /\ ∀ j u, cs[j]? = some u -> w.cell? ⟨g, o + (i * nc τ + j), none⟩ = some u := fun i hi=> by
   obtain ⟨g, h1, h2, h3, h4⟩ := py2 i hi
   exact ⟨g, 0, cvy i, h1, (py1 i hi).cr.mono (fun b hb=> (h4 b hb).1) (fun _ _=> rfl), fun j u hj=> by rw [Nat.zero_add]; exact h3 j u hj⟩
  obtain ⟨g, o', hA, news, hn1, hn2, hn3, hn4⟩ := news_ok hpos hel h0
  obtain ⟨g', h1, h2, h3, h4⟩ := py2 0 (by omega)
  rw [hA] at h1
  cases h1
  have hn2' : ∀ j u, news[j]? = some u -> w.cell? ⟨g, j, none⟩ = some u := fun j u hj=> by have := hn2 j u hj; rwa [Nat.zero_add] at this
  refine ⟨g, news, hA, hn1, hn2', hn3, fun i j v hi hv=> ?_⟩
  obtain ⟨g2, h5, h6, h7, h8⟩ := py2 i hi
  rw [hA] at h5
  cases h5
  have hc := h7 j v hv
  have hj : j < nc τ:= by have := (List.getElem?_eq_some_iff.1 hv).1; rw [(py1 i hi).cr.len] at this; exact this
  have hlt : i * nc τ + j < news.length:= by
   rw [hn1]
   have : (i + 1) * nc τ <= ys.length * nc τ := Nat.mul_le_mul_right _ hi
   rw [Nat.succ_mul] at this
   omega
  have := hn2' _ _ (List.getElem?_eq_getElem hlt)
  rw [hc] at this
  rw [List.getElem?_eq_getElem hlt]
  exact this.symm
 -- into a new block
 have fresh : ∀ (olds news : List Value) (n cap : Nat), n = xs.length + ys.length -> olds.length = xs.length * nc τ -> news.length = ys.length * nc τ -> (∀ i j v, i < xs.length -> (cvx i)[j]? = some v -> olds[i * nc τ + j]? = some v) -> (∀ i j v, i < ys.length -> (cvy i)[j]? = some v -> news[i * nc τ + j]? = some v) -> n <= cap -> cap <= maxLen ->
   (Builtin.append_ #[T, T] o.type #[a.eval x, a.eval y]).run P w = .ok (.slice (some ⟨w.heap.size, 0, none⟩) n cap) (w.drew.alloc (.cells (olds.toArray ++ news.toArray ++ Builtin.zeroCells (valOf (.t τ (dflt τ)) (zc τ)).cells (cap - n)) t)) -> o.wp P a w K Q := fun olds news n cap hn ho' hn2 h1 h2 h3 h4 hrun=> by
  have hl : (xs ++ ys).length = n:= by rw [List.length_append]; exact hn.symm
  have hnew := heap_alloc_new w.drew (.cells (olds.toArray ++ news.toArray ++ Builtin.zeroCells (valOf (.t τ (dflt τ)) (zc τ)).cells (cap - n)) t)
  have hnew : (w.drew.alloc (.cells (olds.toArray ++ news.toArray ++ Builtin.zeroCells (valOf (.t τ (dflt τ)) (zc τ)).cells (cap - n)) t)).heap[w.heap.size]? = some (.cells (olds.toArray ++ news.toArray ++ Builtin.zeroCells (valOf (.t τ (dflt τ)) (zc τ)).cells (cap - n)) t (0, 0)) := hnew
  have htr := tr_join (w := w) (Tx := Tj) (Ty' := Tk) (cap := cap) hnew (Nat.le_refl _) (by omega) h4 px1 py1 (fun i j v hi hv=> ?_) (fun i j v hi hv=> ?_)
   (fun i b hi hb=> by obtain ⟨g, _, _, _, k4⟩ := px2 i hi; have := lt1 b (k4 b hb).1; exact ⟨(k4 b hb).1, by omega, hdold _ b this⟩)
   (fun i b hi hb=> by obtain ⟨g, _, _, _, k4⟩ := py2 i hi; have := lt2 b (k4 b hb).1; exact ⟨(k4 b hb).1, by omega, hdold _ b this⟩) px3 py3 hdis
  ·rw [hl] at htr
   refine fin hrun (hdb _) (hdsz _) (fun b hb _=> hdold _ b hb) htr (fun b hb=> ?_) (fun b hb=> ?_) (.inr ⟨_, cap, _, by rw [hl], by rw [het]; exact hnew, ?_⟩)
   ·rcases hb with rfl | hb
    ·exact .inr (Nat.le_refl _)
    ·exact .inl hb
   ·rcases hb with rfl | hb | hb
    ·exact ⟨_, _, _, hnew, .inl (Nat.le_refl _)⟩
    ·exact (ob1 b hb).mono (hdold _ b (lt1 b hb))
    ·exact (ob2 b hb).mono (hdold _ b (lt2 b hb))
   ·simp only [Array.size_append, List.size_toArray, size_zeroCells, hzs, ho', hn2, <- Nat.add_mul]
    congr 1
    omega
  ·have := h1 i j v hi hv
   have hlt := (List.getElem?_eq_some_iff.1 this).1
   rw [Array.append_assoc, Array.getElem?_append_left (by simpa using hlt)]
   simpa using this
  ·have := h2 i j v hi hv
   have hlt := (List.getElem?_eq_some_iff.1 this).1
   rw [Nat.add_mul, Nat.add_assoc, Array.append_assoc, Array.getElem?_append_right (by simp [ho']), Array.getElem?_append_left (by simp [ho']; omega)]
   simp only [List.size_toArray, ho', Nat.add_sub_cancel_left]
   simpa using this
 have same0 : ys.length = 0 -> ∀ h', (Builtin.append_ #[T, T] o.type #[a.eval x, a.eval y]).run P w = .ok h' w -> v1 = h' -> o.wp P a w K Q := fun h0 h' hrun e=> by
  have e5 : ys = [] := List.eq_nil_of_length_eq_zero h0
  subst e
  refine fin hrun hs.below (Nat.le_refl _) (fun _ _ _=> rfl) (T' := Tj) (by rw [e5, List.append_nil]; exact ht1) (fun b hb=> .inl (.inl hb)) ob1 ?_
  rw [e5, List.append_nil]
  rcases q3 with q3 | ⟨g, c, cur, q4, q5, q6⟩
  ·cases q3; exact .inl rfl
  ·cases q4; exact .inr ⟨g, c, cur, rfl, q5, q6⟩
 rcases q3 with q3 | ⟨g, c, cur, q4, q5, q6⟩
 · -- the slice nil
  cases q3
  have hx0 : xs = []:= by
   cases hvx' : xs with
   | nil=> rfl
   | cons a l=> rw [hvx'] at hvx; cases hvx
  by_cases h0 : ys.length = 0
  ·have hrun := run_append_zero (P := P) (w := w) (ty := o.type) hu hi none A2 0 0 c2 (Nat.le_refl _)
   rw [h0] at hv2
   exact same0 h0 _ (by rw [hv1, hv2]; exact hrun) rfl
  ·obtain ⟨ga, news, hA, hn1, hn2, hn3, hn4⟩ := hnews h0
   subst hA
   have hroom' : ys.length <= 140737488355328 /\ ys.length * i.bytes <= 140737488355328:= by rw [hx0] at hm1 hm3; simp only [List.length_nil, Nat.zero_add] at hm1 hm3; exact ⟨hm1, hm3⟩
   have hrun := run_append_nil (P := P) w T o.type t i _ hu hi hz ⟨ga, 0, none⟩ ys.length c2 news (by rw [hn1, hsz]) (fun j v hj=> by rw [Addr.add_lit, Nat.zero_add]; exact hn2 j v hj) (by omega) (by omega) (by omega)
   have hcm : grownCap w ys.length 0 t <= maxLen := grownCap_le_maxLen w _ _ _ (by simp only [maxLen]; omega)
   refine fresh [] news ys.length (grownCap w ys.length 0 t) (by rw [hx0]; simp) (by rw [hx0]; simp) hn1 (fun i j v hi=> by rw [hx0] at hi; exact absurd hi (Nat.not_lt_zero i)) hn4 (grownCap_ge _ _ _ _) hcm ?_
   rw [hv1, hv2]
   simpa using hrun
 ·cases q4
  by_cases h0 : ys.length = 0
  ·have hcl : xs.length <= c:= by cases hvx; exact hc1
   have hrun := run_append_zero (P := P) (w := w) (ty := o.type) hu hi (some ⟨g, 0, none⟩) A2 xs.length c c2 hcl
   rw [h0] at hv2
   exact same0 h0 _ (by rw [hv1, hv2]; exact hrun) rfl
  ·injection hvx with eA _ ec
   subst eA
   subst ec
   obtain ⟨ga, news, hA, hn1, hn2, hn3, hn4⟩ := hnews h0
   subst hA
   have hg : Tj g := ht1.root
   have hxl : (cur.toList.take (xs.length * nc τ)).length = xs.length * nc τ:= by
    have e : cur.toList.length = cur.size := Array.length_toList
    rw [List.length_take, e, q6]
    exact Nat.min_eq_left (Nat.mul_le_mul_right _ hc1)
   have hold : ∀ i j v, i < xs.length -> (cvx i)[j]? = some v -> cur[i * nc τ + j]? = some v /\ i * nc τ + j < xs.length * nc τ := fun i j v hi hv=> by
    obtain ⟨g', h1, _, h3, _⟩ := px2 i hi
    cases h1
    have hj : j < nc τ:= by have := (List.getElem?_eq_some_iff.1 hv).1; rw [(px1 i hi).cr.len] at this; exact this
    refine ⟨by have := h3 j v hv; rwa [cell_of q5] at this, ?_⟩
    have : (i + 1) * nc τ <= xs.length * nc τ := Nat.mul_le_mul_right _ hi
    rw [Nat.succ_mul] at this
    omega
   by_cases hfit : xs.length + ys.length <= c
   ·have hfit2 : xs.length * nc τ + news.length <= cur.size:= by rw [hn1, q6, <- Nat.add_mul]; exact Nat.mul_le_mul_right _ hfit
    rw [het] at q5
    have hrun := run_append_room (P := P) w T o.type t i hu hi g xs.length c cur q5 ⟨ga, 0, none⟩ ys.length c2 news (by rw [hn1, hsz]) (fun j v hj=> by rw [Addr.add_lit, Nat.zero_add]; exact hn2 j v hj) hn3 hfit (by rw [hsz]; exact hfit2)
    rw [hsz] at hrun
    have hset := setRow_heap w g cur (cur.toList.take (xs.length * nc τ) ++ news ++ cur.toList.drop (xs.length * nc τ + news.length)).toArray t (0, 0) q5
    have htr := tr_join (w := w) (Tx := Tj) (Ty' := Tk) (cap := c) hset (Nat.le_refl _) hfit hm1' px1 py1 (fun i j v hi hv=> ?_) (fun i j v hi hv=> ?_)
     (fun i b hi hb=> by obtain ⟨g', k1, _, _, k4⟩ := px2 i hi; cases k1; exact ⟨(k4 b hb).1, (k4 b hb).2, setRow_other w g b _ (k4 b hb).2⟩)
     (fun i b hi hb=> by obtain ⟨g', _, _, _, k4⟩ := py2 i hi; have hne : b ≠ g := fun e=> hdis g hg (e ▸ (k4 b hb).1); exact ⟨(k4 b hb).1, hne, setRow_other w g b _ hne⟩) px3 py3 hdis
    ·refine fin (h' := .slice (some ⟨g, 0, none⟩) (xs ++ ys).length c) (by rw [hv1, hv2, List.length_append]; exact hrun) (below_setRow hs.below (far1 g hg).1 _) (by simp [World.setRow]) (fun b hb hn=> setRow_other w g b _ fun e=> hn (e ▸ hg)) htr (fun b hb=> ?_) (fun b hb=> ?_) (.inr ⟨g, c, _, rfl, by rw [het]; exact hset, ?_⟩)
     ·rcases hb with rfl | hb
      ·exact .inl (.inl hg)
      ·exact .inl hb
     ·by_cases hbg : b = g
      ·subst hbg; exact ⟨_, _, _, hset, .inl (Nat.le_refl _)⟩
      ·rcases hb with hb | hb | hb
       ·exact absurd hb hbg
       ·exact (ob1 b hb).mono (setRow_other w g b _ hbg)
       ·exact (ob2 b hb).mono (setRow_other w g b _ hbg)
     ·simp only [List.size_toArray, List.length_append, hxl, List.length_drop, Array.length_toList]
      omega
    ·obtain ⟨h1, h2⟩ := hold i j v hi hv
     simp only [List.getElem?_toArray, List.append_assoc]
     rw [List.getElem?_append_left (by rw [hxl]; exact h2), List.getElem?_take, if_pos h2]
     simpa using h1
    ·have := hn4 i j v hi hv
     have hlt := (List.getElem?_eq_some_iff.1 this).1
     simp only [List.getElem?_toArray, List.append_assoc]
     rw [Nat.add_mul, Nat.add_assoc, List.getElem?_append_right (by rw [hxl]; omega), hxl, Nat.add_sub_cancel_left, List.getElem?_append_left hlt]
     exact this
   ·have holds : ∀ m v, (cur.toList.take (xs.length * nc τ))[m]? = some v -> w.cell? ((⟨g, 0, none⟩ : Addr).add m) = some v := fun m v hm=> by
     rw [Addr.add_lit]
     rw [List.getElem?_take] at hm
     split at hm
     ·exact cells_of q5 m v hm
     ·cases hm
    have hrun := run_append_grow (P := P) w T o.type t i _ hu hi hz ⟨g, 0, none⟩ xs.length c (cur.toList.take (xs.length * nc τ)) (by rw [hxl, hsz]) holds ⟨ga, 0, none⟩ ys.length c2 news (by rw [hn1, hsz]) (fun j v hj=> by rw [Addr.add_lit, Nat.zero_add]; exact hn2 j v hj)
     (by omega) (by omega) (growslice_fits (by omega) hm3)
    have hcm : grownCap w (xs.length + ys.length) c t <= maxLen := grownCap_le_maxLen w _ _ _ (by simp only [maxLen]; omega)
    refine fresh _ news _ _ rfl hxl hn1 (fun i j v hi hv=> ?_) hn4 (grownCap_ge _ _ _ _) hcm (by rw [hv1, hv2]; exact hrun)
    obtain ⟨h1, h2⟩ := hold i j v hi hv
    rw [List.getElem?_take, if_pos h2]
    simpa using h1
theorem step_mop (hid : ∀ c, c < 4 -> ρ (id + c) = none) {st' : St} (h : MOp E o id st st') (hK : NxS E w0 B pv S ρ st' id K) : o.wp P a w K Q:= by
 have h0 : ρ id = none:= by simpa using hid 0 (by omega)
 obtain ⟨dst, op, type, pos, after, guard⟩ := o
 unfold MOp at h
 cases op <;> simp only at h
 case buildSlice T n ps=>
  obtain ⟨τ, fs, xs, hT, hn, hfs, hxs, htree, hsl, hdis, hmb, rfl⟩ := h
  exact move_build hE hs hgl hd h0 rfl hT hn hfs hxs htree hsl hdis hmb hK
 case indexAddr T x ix=>
  obtain ⟨τ, j, q, p, σ0, a', b', σ, x', xs, i, hT, hx, hi, hr, hxs, hjm, h1, h2, rfl⟩ := h
  exact move_index hE hs hgl hd h0 rfl hT hx hi hr hxs hjm h1 h2 hK
 case call c=>
  obtain ⟨T, j, k, τ, σ1, σ2, a', b', xs, ys, hc, hat, hargs, hT, hr1, hr2, hjk, hjm, hkm, hroom, rfl⟩ := h
  obtain ⟨callee, args, ats⟩ := c
  simp only at hc hat
  subst hc
  subst hat
  exact move_append hE hs hgl hd rfl hargs hT hr1 hr2 hjk hjm hkm hroom hK
end
end Go.Gx
end
section
/- What an operation's meaning hangs on: its operands, and the rows that are there. -/
namespace Go.Gx
open Go.RowKit
def SubRow (row row' : Nat -> Option Row) : Prop := ∀ id r, row id = some r -> row' id = some r
theorem mapO_mono {f g : AV -> Option AV} (h : ∀ a b, f a = some b -> g a = some b) : ∀ {l m : List AV}, mapO f l = some m -> mapO g l = some m
 | [], m, hm=> hm
 | a :: l, m, hm=> by
  simp only [mapO] at hm ⊢
  split at hm
  ·rename_i b hb
   rw [h a b hb]
   split at hm
   ·rename_i ms hms
    rw [mapO_mono h hms]
    exact hm
   ·cases hm
  ·cases hm
section
variable {row row' : Nat -> Option Row} (h : SubRow row row')
include h
theorem closeR_mono : ∀ {n : Nat} {a b : AV}, closeR row n a = some b -> closeR row' n a = some b
 | 0, a, b, hb=> by cases hb
 | n + 1, a, b, hb=> by
  have ih : ∀ a b, closeR row n a = some b -> closeR row' n a = some b := fun a b=> closeR_mono
  cases a with
  | own id=>
   simp only [closeR] at hb ⊢
   split at hb
   ·rename_i e τ xs fz app hr
    rw [h _ _ hr]; exact hb
   ·cases hb
  | ep id i p=>
   cases i with
   | none=>
    simp only [closeR] at hb ⊢
    split at hb
    ·rename_i σ c hr
     rw [h _ _ hr]
     split at hb
     ·rename_i d τ hg ht
      simp only [hg, ht]
      split at hb
      ·rename_i e he
       rw [ih _ _ he]
       exact hb
      ·cases hb
     ·cases hb
    ·cases hb
   | some i=>
    simp only [closeR] at hb ⊢
    split at hb
    ·rename_i e τ xs fz app hr
     rw [h _ _ hr]; exact hb
    ·cases hb
  | agg τ fs=>
   simp only [closeR] at hb ⊢
   split at hb
   ·rename_i gs hgs
    rw [mapO_mono ih hgs]; exact hb
   ·cases hb
  | clo f fs=>
   simp only [closeR] at hb ⊢
   split at hb
   ·rename_i gs hgs
    rw [mapO_mono ih hgs]; exact hb
   ·cases hb
  | ds id τ x=>
   simp only [closeR] at hb ⊢
   split at hb
   ·rename_i hr
    rw [h _ _ hr]; exact hb
   ·cases hb
  | tv id τ=>
   simp only [closeR] at hb ⊢
   split at hb
   ·rename_i hr
    rw [h _ _ hr]; exact hb
   ·cases hb
  | vw id q p τ=>
   simp only [closeR] at hb ⊢
   split at hb
   ·rename_i hr
    rw [h _ _ hr]; exact hb
   ·cases hb
  | _=> exact hb
theorem closeAll_mono {τ : Ty} : ∀ {fs : List AV} {xs : List (den τ)}, closeAll row τ fs = some xs -> closeAll row' τ fs = some xs
 | [], xs, hx=> hx
 | a :: l, xs, hx=> by
  simp only [closeAll] at hx ⊢
  split at hx
  ·rename_i b hb
   rw [closeR_mono h hb]
   split at hx
   ·rename_i x hxx
    simp only [hxx]
    split at hx
    ·rename_i ys hys
     rw [closeAll_mono hys]; exact hx
    ·cases hx
   ·cases hx
  ·cases hx
theorem listOf_mono {τ : Ty} {a : AV} {xs : List (den τ)} (hx : listOf row τ a = some xs) : listOf row' τ a = some xs:= by
 unfold listOf at hx ⊢
 split at hx
 ·exact hx
 ·exact hx
 ·rename_i id
  split at hx
  ·rename_i e σ ys fz app hr
   rw [h _ _ hr]; exact hx
  ·cases hx
 ·cases hx
theorem lenA_mono {t : Option Ty} {a : AV} {n : Int} (hx : lenA row t a = some n) : lenA row' t a = some n:= by
 unfold lenA at hx ⊢
 split at hx
 ·exact hx
 ·exact hx
 ·exact hx
 ·rename_i id
  split at hx
  ·rename_i e σ ys fz app hr
   rw [h _ _ hr]; exact hx
  ·cases hx
 ·exact hx
 ·cases hx
theorem callR_mono {G : Cal -> List AV -> AV -> Prop} {dr : Bool} {id : Nat} {cal : Cal} {args : List AV} {u : Upd} (hx : CallR G row dr id cal args u) : CallR G row' dr id cal args u:= by
 obtain ⟨cl, r, av, news, h1, h2⟩ := hx
 exact ⟨cl, r, av, news, mapO_mono (fun a b hb=> closeR_mono h hb) h1, h2⟩
theorem hand_mono {a : AV} {x : Nat × AV} (hx : hand row a = some x) : hand row' a = some x:= by
 unfold hand at hx ⊢
 split at hx
 ·split at hx
  ·rename_i hr; rw [h _ _ hr]; exact hx
  ·cases hx
 ·split at hx
  ·rename_i hr; rw [h _ _ hr]; exact hx
  ·cases hx
 ·cases hx
theorem plE_mono {i n : Nat} {a : AV} (hx : plE row i n a = true) : plE row' i n a = true:= by
 unfold plE at hx ⊢
 split at hx
 ·split at hx
  ·rename_i hb hr
   rw [h _ _ hr, hb]
  ·cases hx
 ·exact hx
 ·exact hx
theorem plL_mono {i n : Nat} : ∀ {l : List AV}, plL row i n l = true -> plL row' i n l = true
 | [], _=> rfl
 | a :: l, hx=> by
  simp only [plL, Bool.and_eq_true] at hx ⊢
  exact ⟨plE_mono h hx.1, plL_mono hx.2⟩
theorem plA_mono {i : Nat} {a : AV} (hx : plA row i a = true) : plA row' i a = true:= by
 unfold plA at hx ⊢
 split at hx
 ·exact plL_mono h hx
 ·exact plE_mono h hx
theorem plArgs_mono {i : Nat} : ∀ {l : List AV}, plArgs row i l = true -> plArgs row' i l = true
 | [], _=> rfl
 | a :: l, hx=> by
  simp only [plArgs, Bool.and_eq_true] at hx ⊢
  exact ⟨plA_mono h hx.1, plArgs_mono hx.2⟩
theorem callX_mono {E : Env} {G : Cal -> List AV -> AV -> Prop} {dr d' : Bool} {id : Nat} {g : Nat} {args : List AV} {u : Upd} (hx : CallX E G row dr d' id g args u) : CallX E G row' dr d' id g args u:= by
 rcases hx with ⟨h1, h2⟩ | ⟨h1, hd, a0, rest, i, x0, cl, r, e, h2, h3, h4, h5⟩
 ·exact .inl ⟨h1, callR_mono h h2⟩
 ·exact .inr ⟨h1, hd, a0, rest, i, x0, cl, r, e, hand_mono h h2, mapO_mono (fun a b hb=> closeR_mono h hb) h3, h4.imp _root_.id (plArgs_mono h), h5⟩
theorem appR_mono {E : Env} {sT : Nat} {a b : AV} {id : Nat} {u : Upd} (hx : AppR E sT a b id row u) : AppR E sT a b id row' u:= by
 obtain ⟨τ, ys, h1, hon, h2, h3⟩ := hx
 refine ⟨τ, ys, h1, hon, listOf_mono h h2, ?_⟩
 rcases h3 with h3 | ⟨j, xs, h4, hj, h5, h6⟩
 ·exact .inl h3
 ·exact .inr ⟨j, xs, h4, hj, h _ _ h5, h6⟩
theorem builtR_mono {E : Env} {b : Builtin} {ats : Array Nat} {args : List AV} {id : Nat} {u : Upd} (hx : BuiltR E b ats args id row u) : BuiltR E b ats args id row' u:= by
 rcases hx with ⟨h1, a, n, T, h2, h3, h4, h5⟩ | ⟨h1, a, x, T, h2, h3, h4⟩ | hx | hx | hx | ⟨h1, j, i, e, τ, xs, app, p, T, h2, h3, h4, h5, h6, h7⟩
 ·exact .inl ⟨h1, a, n, T, h2, h3, lenA_mono h h4, h5⟩
 ·exact .inr (.inl ⟨h1, a, x, T, h2, h3, appR_mono h h4⟩)
 ·exact .inr (.inr (.inl hx))
 ·exact .inr (.inr (.inr (.inl hx)))
 ·exact .inr (.inr (.inr (.inr (.inl hx))))
 ·exact .inr (.inr (.inr (.inr (.inr ⟨h1, j, i, e, τ, xs, app, p, T, h2, h3, h4, h5, h _ _ h6, h7⟩))))
end
theorem mapE_congr {f g : Operand -> AV} : ∀ {l : List Operand}, (∀ x ∈ l, g x = f x) -> mapE g l = mapE f l
 | [], _=> rfl
 | x :: l, h=> by simp only [mapE, h x List.mem_cons_self, mapE_congr fun y hy=> h y (List.mem_cons_of_mem _ hy)]
theorem partsA_congr {f g : Operand -> AV} {l : List Ty} : ∀ {ps : List (Nat × Operand)} {fs : List AV}, (∀ p ∈ ps, g p.2 = f p.2) -> partsA g l ps fs = partsA f l ps fs
 | [], _, _=> rfl
 | p :: ps, fs, h=> by
  simp only [partsA, h p List.mem_cons_self]
  split
  ·split
   ·exact partsA_congr fun q hq=> h q (List.mem_cons_of_mem _ hq)
   ·rfl
  ·rfl
theorem evO_congr {f g : Operand -> AV} {x : Option Operand} (h : ∀ y, x = some y -> g y = f y) : evO g x = evO f x:= by
 cases x with
 | none=> rfl
 | some y=> simp only [evO, h y rfl]
theorem AOp0.mono {E : Env} {G : Cal -> List AV -> AV -> Prop} {dr : Bool} {o : Oper} {id : Nat} {ev ev' : Operand -> AV} {row row' : Nat -> Option Row} {u : Upd} (h : AOp0 E G dr o id ev row u) (he : ∀ x ∈ o.op.operands, ev' x = ev x) (hr : SubRow row row') : AOp0 E G dr o id ev' row' u:= by
 obtain ⟨dst, op, type, pos, after, guard⟩ := o
 unfold AOp0 at h ⊢
 cases op <;> simp only [Op.operands] at h he ⊢
 case move x=> rw [he x (by simp)]; exact h
 case assign x=> rw [he x (by simp)]; exact h
 case pick c a b=> rw [he c (by simp), he a (by simp), he b (by simp)]; exact h
 case alloc T=> exact h
 case box T x=> rw [he x (by simp)]; exact h
 case build T ps=>
  obtain ⟨τ, fs, h1, h2, h3, h4⟩ := h
  exact ⟨τ, fs, h1, h2, by rw [partsA_congr (f := ev) (g := ev') fun p hp=> he p.2 (by simpa using ⟨p.1, by simpa using hp⟩)]; exact h3, h4⟩
 case buildSlice T n ps=>
  obtain ⟨τ, fs, xs, h1, hon, h2, h3, h4, h5⟩ := h
  exact ⟨τ, fs, xs, h1, hon, h2, by rw [partsA_congr (f := ev) (g := ev') fun p hp=> he p.2 (by simpa using ⟨p.1, by simpa using hp⟩)]; exact h3, closeAll_mono hr h4, h5⟩
 case load T x=>
  rw [he x (by simp)]
  obtain ⟨τ, h1, h2 | ⟨j, p, σ, a, b, h2, h3, h4⟩ | ⟨j, i, p, e, σ, xs, fz, app, b, h2, h3, h4⟩⟩ := h
  ·exact ⟨τ, h1, .inl h2⟩
  ·exact ⟨τ, h1, .inr (.inl ⟨j, p, σ, a, b, h2, hr _ _ h3, h4⟩)⟩
  ·exact ⟨τ, h1, .inr (.inr ⟨j, i, p, e, σ, xs, fz, app, b, h2, hr _ _ h3, h4⟩)⟩
 case store T x v=>
  rw [he x (by simp), he v (by simp)]
  obtain ⟨τ, h1, h0, ⟨j, p, σ, a, b, h2, h3, h4⟩ | ⟨j, i, p, e, σ, xs, app, b, y, h2, h3, h4⟩⟩ := h
  ·exact ⟨τ, h1, h0, .inl ⟨j, p, σ, a, b, h2, hr _ _ h3, h4⟩⟩
  ·exact ⟨τ, h1, h0, .inr ⟨j, i, p, e, σ, xs, app, b, y, h2, hr _ _ h3, h4⟩⟩
 case nilCheck x=> rw [he x (by simp)]; exact h
 case binOp op t x y z=> rw [he x (by simp), he y (by simp)]; exact h
 case unOp op t x=> rw [he x (by simp)]; exact h
 case convert S T x=>
  rw [he x (by simp)]
  rcases h with h | h | h | ⟨xs, h1, h2, h3, h4⟩ | h
  ·exact .inl h
  ·exact .inr (.inl h)
  ·exact .inr (.inr (.inl h))
  ·exact .inr (.inr (.inr (.inl ⟨xs, h1, h2, listOf_mono hr h3, h4⟩)))
  ·exact .inr (.inr (.inr (.inr h)))
 case makeFunc fn first caps=>
  rw [mapE_congr (f := ev) (g := ev') fun x hx=> he x (by simp at hx ⊢; exact .inr hx)]
  exact h
 case makeSlice T l c=> rw [he l (by simp), he c (by simp)]; exact h
 case slice T x lo hi mx=>
  rw [he x (by simp), evO_congr (f := ev) (g := ev') (x := lo) fun y hy=> he y (by simp [hy]), evO_congr (f := ev) (g := ev') (x := hi) fun y hy=> he y (by simp [hy])]
  obtain ⟨h0, l, h', h1, h2, ⟨hdr, j, e, τ, xs, app, a, b, h3, h4, h5, h6⟩ | h3 | h3 | ⟨h3, j, e, τ, xs, fz, app, a, b, h4, h5, h6, h7⟩ | h3 | ⟨j, e, τ, xs, app, a, b, h4, h5, h6, h7⟩⟩ := h
  ·exact ⟨h0, l, h', h1, h2, .inl ⟨hdr, j, e, τ, xs, app, a, b, h3, h4, hr _ _ h5, h6⟩⟩
  ·exact ⟨h0, l, h', h1, h2, .inr (.inl h3)⟩
  ·exact ⟨h0, l, h', h1, h2, .inr (.inr (.inl h3))⟩
  ·exact ⟨h0, l, h', h1, h2, .inr (.inr (.inr (.inl ⟨h3, j, e, τ, xs, fz, app, a, b, h4, h5, hr _ _ h6, h7⟩)))⟩
  ·exact ⟨h0, l, h', h1, h2, .inr (.inr (.inr (.inr (.inl h3))))⟩
  ·exact ⟨h0, l, h', h1, h2, .inr (.inr (.inr (.inr (.inr ⟨j, e, τ, xs, app, a, b, h4, h5, hr _ _ h6, h7⟩))))⟩
 case fieldAddr T x f=>
  rw [he x (by simp)]
  obtain ⟨τ, h1, h2, h3 | ⟨j, i, p, σ, r, h3, h4, h5⟩⟩ := h
  ·exact ⟨τ, h1, h2, .inl h3⟩
  ·exact ⟨τ, h1, h2, .inr ⟨j, i, p, σ, r, h3, hr _ _ h4, h5⟩⟩
 case field T x f=> rw [he x (by simp)]; exact h
 case indexAddr T x ix=>
  rw [he x (by simp), he ix (by simp)]
  obtain ⟨i, h1, h2, h3 | ⟨j, e, τ, xs, fz, app, h4, h5, h6, h7⟩ | h3⟩ := h
  ·exact ⟨i, h1, h2, .inl h3⟩
  ·exact ⟨i, h1, h2, .inr (.inl ⟨j, e, τ, xs, fz, app, h4, h5, hr _ _ h6, h7⟩)⟩
  ·exact ⟨i, h1, h2, .inr (.inr h3)⟩
 case index T x ix=> rw [he x (by simp), he ix (by simp)]; exact h
 case extract x i=> rw [he x (by simp)]; exact h
 case call c=>
  have hargs : mapE ev' c.args.toList = mapE ev c.args.toList := mapE_congr fun x hx=> he x (by
   simp only [Call.operands]
   cases c.callee <;> simp at hx ⊢ <;> first | exact hx | exact .inr hx)
  rw [hargs]
  rcases h with ⟨b, h1, h2⟩ | ⟨f, h1, h2⟩
  ·exact .inl ⟨b, h1, builtR_mono hr h2⟩
  ·have hf : ev' f = ev f := he f (by simp [Call.operands, h1])
   rw [<- hf] at h2
   rcases h2 with ⟨g, caps, h3, h4⟩ | ⟨i, h3, h4⟩
   ·exact .inr ⟨f, h1, .inl ⟨g, caps, h3, callX_mono hr h4⟩⟩
   ·exact .inr ⟨f, h1, .inr ⟨i, h3, callR_mono hr h4⟩⟩
theorem DOp.mono {E : Env} {G : Cal -> List AV -> AV -> Prop} {dr : Bool} {o : Oper} {id : Nat} {ev ev' : Operand -> AV} {row row' : Nat -> Option Row} {u : Upd} (h : DOp E G dr o id ev row u) (he : ∀ x ∈ o.op.operands, ev' x = ev x) (hr : SubRow row row') : DOp E G dr o id ev' row' u:= by
 obtain ⟨dst, op, type, pos, after, guard⟩ := o
 unfold DOp at h ⊢
 cases op <;> simp only [Op.operands] at h he ⊢
 case load T x=> rw [he x (by simp)]; exact h
 case store T x v=>
  rw [he x (by simp), he v (by simp)]
  obtain ⟨τ, j, y, z, ρ, b, h1, h2, h3, h4⟩ := h
  exact ⟨τ, j, y, z, ρ, b, h1, h2, hr _ _ h3, h4⟩
 case nilCheck x=> rw [he x (by simp)]; exact h
 case fieldAddr T x f=> rw [he x (by simp)]; exact h
 case field T x f=> rw [he x (by simp)]; exact h
 case indexAddr T x ix=> rw [he x (by simp), he ix (by simp)]; exact h
 case call c=>
  have hargs : mapE ev' c.args.toList = mapE ev c.args.toList := mapE_congr fun x hx=> he x (by
   simp only [Call.operands]
   cases c.callee <;> simp at hx ⊢ <;> first | exact hx | exact .inr hx)
  rw [hargs]
  obtain ⟨f, g, caps, h1, h2, h3⟩ := h
  have hf : ev' f = ev f := he f (by simp [Call.operands, h1])
  refine ⟨f, g, caps, h1, hf.trans h2, ?_⟩
  rcases h3 with ⟨cl, τ, x, h4, h5⟩ | ⟨h0, j, τ, x, k, σ, b, m, h4, h5, h6⟩
  ·exact .inl ⟨cl, τ, x, mapO_mono (fun a b hb=> closeR_mono hr hb) h4, h5⟩
  ·exact .inr ⟨h0, j, τ, x, k, σ, b, m, h4, hr _ _ h5, h6⟩
theorem lenT_mono {row row' : Nat -> Option Row} (hr : SubRow row row') {E : Env} {ts : List Nat} {as : List AV} {n : Int} (h : lenT row E ts as = some n) : lenT row' E ts as = some n:= by
 unfold lenT at h ⊢
 split at h
 ·split at h
  ·rename_i h1 h2
   rw [h1, hr _ _ h2]
   exact h
  ·cases h
 ·split at h
  ·rename_i h1 h2
   rw [h1, hr _ _ h2]
   exact h
  ·cases h
 ·cases h
theorem TOp.mono {E : Env} {G : Cal -> List AV -> AV -> Prop} {dr : Bool} {o : Oper} {id : Nat} {ev ev' : Operand -> AV} {row row' : Nat -> Option Row} {u : Upd} (h : TOp E G dr o id ev row u) (he : ∀ x ∈ o.op.operands, ev' x = ev x) (hr : SubRow row row') : TOp E G dr o id ev' row' u:= by
 obtain ⟨dst, op, type, pos, after, guard⟩ := o
 unfold TOp at h ⊢
 cases op <;> simp only [Op.operands] at h he ⊢
 case load T x=>
  rw [he x (by simp)]
  obtain ⟨τ, j, i, p, σ0, a, b, σ, x', y, h1, h2, h3, h4⟩ := h
  exact ⟨τ, j, i, p, σ0, a, b, σ, x', y, h1, h2, hr _ _ h3, h4⟩
 case store T x v=>
  rw [he x (by simp), he v (by simp)]
  obtain ⟨τ, j, i, p, σ0, a, b, σ, x', y, z, z0, h1, h2, h3, h4, h5⟩ := h
  exact ⟨τ, j, i, p, σ0, a, b, σ, x', y, z, z0, h1, h2, h3, hr _ _ h4, h5⟩
 case nilCheck x=> rw [he x (by simp)]; exact h
 case fieldAddr T x f=>
  rw [he x (by simp)]
  obtain ⟨τ, j, i, p, σ, a, h1, h2, h3, h4⟩ := h
  exact ⟨τ, j, i, p, σ, a, h1, h2, hr _ _ h3, h4⟩
 case field T x f=>
  rw [he x (by simp)]
  obtain ⟨τ, j, σ0, a, b, y, ρ, z, h1, h2, h3, h4⟩ := h
  exact ⟨τ, j, σ0, a, b, y, ρ, z, h1, h2, hr _ _ h3, h4⟩
 case indexAddr T x ix=>
  rw [he x (by simp), he ix (by simp)]
  obtain ⟨τ, j, σ0, a, b, xs, i, h1, h2, h3, h4, h5⟩ := h
  exact ⟨τ, j, σ0, a, b, xs, i, h1, h2, h3, hr _ _ h4, h5⟩
 case buildSlice T n ps=> exact h
 case call c=>
  have hargs : mapE ev' c.args.toList = mapE ev c.args.toList := mapE_congr fun x hx=> he x (by
   simp only [Call.operands]
   cases c.callee <;> simp at hx ⊢ <;> first | exact hx | exact .inr hx)
  rw [hargs]
  rcases h with ⟨n, h1, h2, h3⟩ | ⟨f, g, caps, h1, h2, h3⟩
  ·exact .inl ⟨n, h1, lenT_mono hr h2, h3⟩
  ·have hf : ev' f = ev f := he f (by simp [Call.operands, h1])
   rw [<- hf] at h2
   refine .inr ⟨f, g, caps, h1, h2, ?_⟩
   rcases h3 with ⟨h4, j, τ, rest, σ0, a, b, x, y, cl, h5, h6, h7, h8⟩ | ⟨cl, r, av, news, h4, h5⟩ | ⟨h4, k, m, ⟨j, τ, σ0, a, b, x, y, h5, h6, h7⟩ | ⟨j, q, p, τ, σ0, a, b, σ, x, x', z, y, h5, h6, h7⟩⟩
   ·exact .inl ⟨h4, j, τ, rest, σ0, a, b, x, y, cl, h5, hr _ _ h6, mapO_mono (fun _ _=> closeR_mono hr) h7, h8⟩
   ·exact .inr (.inl ⟨cl, r, av, news, mapO_mono (fun _ _=> closeR_mono hr) h4, h5⟩)
   ·exact .inr (.inr ⟨h4, k, m, .inl ⟨j, τ, σ0, a, b, x, y, h5, hr _ _ h6, h7⟩⟩)
   ·exact .inr (.inr ⟨h4, k, m, .inr ⟨j, q, p, τ, σ0, a, b, σ, x, x', z, y, h5, hr _ _ h6, h7⟩⟩)
theorem AOp.mono {E : Env} {G : Cal -> List AV -> AV -> Prop} {dr : Bool} {o : Oper} {id : Nat} {ev ev' : Operand -> AV} {row row' : Nat -> Option Row} {u : Upd} (h : AOp E G dr o id ev row u) (he : ∀ x ∈ o.op.operands, ev' x = ev x) (hr : SubRow row row') : AOp E G dr o id ev' row' u :=
 h.imp (fun h=> h.mono he hr) fun h=> h.imp (fun h=> h.mono he hr) fun h=> h.mono he hr
theorem hide_sub (E : Env) (row : Nat -> Option Row) : SubRow (hideC E row) row := fun id r h=> by
 unfold hideC at h
 cases hr : row id with
 | none=> rw [hr] at h; cases h
 | some r0=>
  rw [hr] at h
  cases hc : hidR E id r0 with
  | true=> simp only [hc] at h; cases h
  | false=> simp only [hc] at h; cases h; rfl
theorem hide_at {E : Env} {row : Nat -> Option Row} {id : Nat} {r : Row} (h : row id = some r) (hc : hidR E id r = false) : hideC E row id = some r:= by
 unfold hideC; rw [h]; simp only [hc]
theorem hideO_sub (E : Env) (c : Nat) (row : Nat -> Option Row) : SubRow (hideO E c row) row := fun id r h=> by
 unfold hideO at h
 cases hr : row id with
 | none=> rw [hr] at h; cases h
 | some r0=>
  rw [hr] at h
  cases hc : (hidR E id r0 && !Nat.beq (rcls E id) c) with
  | true=> simp only [hc] at h; cases h
  | false=> simp only [hc] at h; cases h; rfl
theorem hideO_at {E : Env} {c : Nat} {row : Nat -> Option Row} {id : Nat} {r : Row} (h : row id = some r) (hc : (hidR E id r && !Nat.beq (rcls E id) c) = false) : hideO E c row id = some r:= by
 unfold hideO; rw [h]; simp only [hc]
theorem hideO_no {E : Env} {c : Nat} {row : Nat -> Option Row} {id : Nat} {r : Row} (h : hideO E c row id = some r) : (hidR E id r && !Nat.beq (rcls E id) c) = false:= by
 have h2 := hideO_sub E c _ _ _ h
 unfold hideO at h
 rw [h2] at h
 cases hc : (hidR E id r && !Nat.beq (rcls E id) c) with
 | true=> simp only [hc] at h; cases h
 | false=> rfl
end Go.Gx
end
section
/- The interpreter's operations are the machine's: all of them. -/
namespace Go.Gx
open Go.RowKit
theorem step_ok0 {P : Program} {E : Env} {w0 : World} {B : Old} {pv : Nat -> Value} {S : Nat -> Prop} {ρ : Nat -> Option Loc} {st : St} {a : Act} {w : World} {o : Oper} {id : Nat} {K : Act -> World -> Prop} {Q : Exit -> Act -> World -> Prop}
  (hE : EnvOk P E) {G : Cal -> List AV -> AV -> Prop} (hG : GOk P E pv G) (hs : Sim w0 B pv S ρ st a w) (hgl : GlOk E pv S w) (hd : dstOk o st.nt = true) (hid : ∀ c, c < 4 -> ρ (id + c) = none) {dr : Bool} {u : Upd}
  (h : AOp0 E G dr o id (ev E st) st.row u) (hK : Nx E w0 B pv S ρ st o.dst u id K) : o.wp P a w K Q:= by
 have h0 : ρ id = none:= by simpa using hid 0 (by omega)
 obtain ⟨dst, op, type, pos, after, guard⟩ := o
 unfold AOp0 at h
 cases op <;> simp only at h
 case move x=> subst h; exact step_move hs hgl hd (.inl rfl) hK
 case assign x=> subst h; exact step_move hs hgl hd (.inr rfl) hK
 case pick c x y=> obtain ⟨v, hc, rfl⟩ := h; exact step_pick hs hgl hd rfl hc hK
 case alloc T=> obtain ⟨τ, hτ, rfl⟩ := h; exact step_alloc hE hs hgl hd h0 rfl hτ hK
 case box T x=> obtain ⟨τ, hτ, hf, rfl⟩ := h; exact step_box hs hgl hd h0 rfl hf hK
 case build T ps=> obtain ⟨τ, fs, hτ, hag, hfs, rfl⟩ := h; exact step_build hE hs hgl hd rfl hτ hag hfs hK
 case buildSlice T n ps=> obtain ⟨τ, fs, xs, hτ, hon, hn, hfs, hxs, hep, _, rfl⟩ := h; exact step_buildSlice hE hs hgl hd h0 rfl hτ hon hn hfs hxs hep hK
 case load T x=> obtain ⟨τ, hτ, h⟩ := h; exact step_load hE hs hgl hd rfl hτ h hK
 case store T x v=> obtain ⟨τ, hτ, hf, h⟩ := h; exact step_store hE hs hgl hd rfl hτ hf h hK
 case nilCheck x=> obtain ⟨rfl, h⟩ := h; exact step_nilCheck hs hgl hd rfl h hK
 case binOp op t x y z=> obtain ⟨b, hb, rfl⟩ := h; exact step_binT hE hs hgl hd rfl hb hK
 case unOp op t x=> obtain ⟨b, hb, rfl⟩ := h; exact step_unOp hs hgl hd rfl hb hK
 case convert S0 T x=> exact step_convert hE hs hgl hd h0 rfl h hK
 case makeFunc fn first caps=> obtain ⟨f, rfl, rfl, hn, rfl⟩ := h; exact step_makeFunc hs hgl hd rfl hK hn
 case makeSlice T l c=> obtain ⟨τ, n, hT, hl, hc, hp, hb, rfl⟩ := h; exact step_makeSlice hE hs hgl hd h0 rfl hT hl hc hp hb hK
 case slice T x lo hi mx=>
  obtain ⟨rfl, l, h', hl, hh, hx⟩ := h
  rcases hx with ⟨_, hx⟩ | hx
  ·exact step_sliceM hE hs hgl hd rfl hl hh hx hK
  ·exact step_slice hE hs hgl hd rfl hl hh hx hK
 case fieldAddr T x f=> obtain ⟨τ, hτ, hst, h⟩ := h; exact step_fieldAddr hE hs hgl hd rfl hτ hst h hK
 case field T x f=> obtain ⟨τ, b, hτ, hst, hf, hb, rfl⟩ := h; exact step_field hE hs hgl hd rfl hτ hst hb hf hK
 case indexAddr T x ix=> obtain ⟨i, hi, hp, h⟩ := h; exact step_indexAddr hE hs hgl hd rfl hi hp h hK
 case index T x ix=> 
  rcases h with ⟨s, _, i, hT, hx, hi, hp, h1, rfl⟩ | ⟨n, xs, i, hT, hx, hi, hp, h1, rfl⟩
  ·exact step_index hE hs hgl hd rfl hT hx hi hp h1 hK
  ·exact step_indexArr hE hs hgl hd rfl hT hx hi hp h1 hK
 case extract x i=> obtain ⟨vs, b, hx, hb, rfl⟩ := h; exact step_extract hs hgl hd rfl hx hb hK
 case call c=>
  obtain ⟨callee, args, ats⟩ := c
  rcases h with ⟨b, hb, h⟩ | ⟨f, hf, h⟩
  ·simp only at hb h
   subst hb
   rcases h with ⟨rfl, x, n, T, hargs, rfl, hl, rfl⟩ | ⟨rfl, x, y, T, hargs, rfl, h⟩ | ⟨rfl, x, y, hargs, rfl⟩ | ⟨rfl, x, y, hargs, rfl⟩ | ⟨rfl, x, y, z, hargs, rfl⟩ | ⟨rfl, j, i, e, τ, xs, app, p, T, hargs, rfl, hT, hp, hr, hag, rfl⟩
   ·exact step_len hE hs hgl hd rfl hargs hl hK
   ·exact step_append hE hs hgl hd h0 rfl hargs h hK
   ·exact step_minmax hs hgl hd rfl (.inl ⟨rfl, x, y, hargs, rfl⟩) hK
   ·exact step_minmax hs hgl hd rfl (.inr (.inl ⟨rfl, x, y, hargs, rfl⟩)) hK
   ·exact step_minmax hs hgl hd rfl (.inr (.inr ⟨rfl, x, y, z, hargs, rfl⟩)) hK
   ·exact step_clear hE hs hgl hd rfl hargs hT hp hr hag hK
  ·simp only at hf h
   subst hf
   exact step_call hs hgl hd hG rfl hid h hK
theorem step_okD {P : Program} {E : Env} {w0 : World} {B : Old} {pv : Nat -> Value} {S : Nat -> Prop} {ρ : Nat -> Option Loc} {st : St} {a : Act} {w : World} {o : Oper} {id : Nat} {K : Act -> World -> Prop} {Q : Exit -> Act -> World -> Prop}
  (hE : EnvOk P E) {G : Cal -> List AV -> AV -> Prop} (hG : GOk P E pv G) (hs : Sim w0 B pv S ρ st a w) (hgl : GlOk E pv S w) (hd : dstOk o st.nt = true) (hid : ∀ c, c < 4 -> ρ (id + c) = none) {dr : Bool} {u : Upd}
  (h : DOp E G dr o id (ev E st) st.row u) (hK : Nx E w0 B pv S ρ st o.dst u id K) : o.wp P a w K Q:= by
 have h0 : ρ id = none:= by simpa using hid 0 (by omega)
 obtain ⟨dst, op, type, pos, after, guard⟩ := o
 unfold DOp at h
 cases op <;> simp only at h
 case load T x=> obtain ⟨j, e, y, hT, hx, rfl⟩ := h; exact step_dload hE hs hgl hd rfl hT hx hK
 case store T x v=> obtain ⟨τ, j, y, z, ρ', b, hT, hx, hr, hag, hsl, hv, rfl⟩ := h; exact step_dstore hE hs hgl hd rfl hT hx hr hag hsl hv hK
 case nilCheck x=> obtain ⟨j, σ, y, hx, rfl⟩ := h; exact step_dnil hs hgl hd rfl hx hK
 case fieldAddr T x f=> obtain ⟨τ, j, y, σ, z, hT, hst, hx, hz, rfl⟩ := h; exact step_dfieldAddr hE hs hgl hd rfl hT hst hx hz hK
 case field T x f=> obtain ⟨τ, j, y, b, hT, hst, hx, hb, rfl⟩ := h; exact step_dfield hE hs hgl hd rfl hT hst hx hb hK
 case indexAddr T x ix=> obtain ⟨τ, j, xs, i, hT, hx, hi, h1, h2, rfl⟩ := h; exact step_dindex hE hs hgl hd rfl hT hx hi h1 h2 hK
 case call c=>
  obtain ⟨callee, args, ats⟩ := c
  obtain ⟨f, g, caps, hc, hf, h⟩ := h
  simp only at hc h
  subst hc
  rcases h with h | h
  ·exact step_callP hs hgl hd hG rfl hf h0 h hK
  ·exact step_callD hs hgl hd hG rfl hf h hK
theorem step_okT {P : Program} {E : Env} {w0 : World} {B : Old} {pv : Nat -> Value} {S : Nat -> Prop} {ρ : Nat -> Option Loc} {st : St} {a : Act} {w : World} {o : Oper} {id : Nat} {K : Act -> World -> Prop} {Q : Exit -> Act -> World -> Prop}
  (hE : EnvOk P E) {G : Cal -> List AV -> AV -> Prop} (hG : GOk P E pv G) (hs : Sim w0 B pv S ρ st a w) (hgl : GlOk E pv S w) (hd : dstOk o st.nt = true) (hid : ∀ c, c < 4 -> ρ (id + c) = none) {dr : Bool} {u : Upd}
  (h : TOp E G dr o id (ev E st) st.row u) (hK : Nx E w0 B pv S ρ st o.dst u id K) : o.wp P a w K Q:= by
 have h0 : ρ id = none:= by simpa using hid 0 (by omega)
 obtain ⟨dst, op, type, pos, after, guard⟩ := o
 unfold TOp at h
 cases op <;> simp only at h
 case load T x=> obtain ⟨τ, j, i, p, σ0, a', b, σ, x', y, hT, hx, hr, hy, rfl⟩ := h; exact step_tload hE hs hgl hd rfl hT hx hr hy hK
 case store T x v=> obtain ⟨τ, j, i, p, σ0, a', b, σ, x', y, z, z0, hT, hx, hv, hr, hag, hsl, hz, hy, rfl⟩ := h; exact step_tstore hE hs hgl hd rfl hT hx hv hr hag hsl hz hy hK
 case nilCheck x=> obtain ⟨j, i, p, hx, rfl⟩ := h; exact step_tnil hs hgl hd rfl hx hK
 case fieldAddr T x f=> obtain ⟨τ, j, i, p, σ, a', hT, hx, hr, hp, hst, rfl⟩ := h; exact step_tfieldAddr hE hs hgl hd rfl hT hst hx hr hp hK
 case field T x f=> obtain ⟨τ, j, σ0, a', b, y, σ, z, hT, hx, hr, hz, hst, rfl⟩ := h; exact step_tfield hE hs hgl hd rfl hT hst hx hr hz hK
 case indexAddr T x ix=> obtain ⟨τ, j, σ0, a', b, xs, i, hT, hx, hi, hr, h1, h2, rfl⟩ := h; exact step_tindex hE hs hgl hd rfl hT hx hi hr h1 h2 hK
 case buildSlice T n ps=>
  obtain ⟨τ, hT, rfl, hsl, hps, rfl⟩ := h
  exact move_build (fs := []) (xs := []) hE hs hgl hd h0 rfl hT (by omega) (by rw [hps]; rfl) rfl rfl hsl rfl (by simp [toksL, idsN.go]) fun S' ρ' a' w' k1 k2 k3 k4=> hK S' ρ' a' w' k1 k2 k3 k4
 case call c=>
  obtain ⟨callee, args, ats⟩ := c
  rcases h with ⟨n, hc, hl, rfl⟩ | ⟨f, g, caps, hc, hf, h⟩
  ·simp only at hc
   subst hc
   exact step_tlen hE hs hgl hd rfl hl hK
  ·simp only at hc h
   subst hc
   rcases h with h | h | h
   ·exact step_callV hs hgl hd hG rfl hf h hK
   ·exact step_callT hs hgl hd hG rfl hf hid h hK
   ·exact step_callXm hs hgl hd hG rfl hf h hK
theorem step_ok {P : Program} {E : Env} {w0 : World} {B : Old} {pv : Nat -> Value} {S : Nat -> Prop} {ρ : Nat -> Option Loc} {st : St} {a : Act} {w : World} {o : Oper} {id : Nat} {K : Act -> World -> Prop} {Q : Exit -> Act -> World -> Prop}
  (hE : EnvOk P E) {G : Cal -> List AV -> AV -> Prop} (hG : GOk P E pv G) (hs : Sim w0 B pv S ρ st a w) (hgl : GlOk E pv S w) (hd : dstOk o st.nt = true) (hid : ∀ c, c < 4 -> ρ (id + c) = none) {dr : Bool} {u : Upd}
  (h : AOp E G dr o id (ev E st) st.row u) (hK : Nx E w0 B pv S ρ st o.dst u id K) : o.wp P a w K Q:= by
 rcases h with h | h | h
 ·exact step_ok0 hE hG hs hgl hd hid h hK
 ·exact step_okD hE hG hs hgl hd hid h hK
 ·exact step_okT hE hG hs hgl hd hid h hK
theorem plainU_eq {u u' : Upd} (h : plainU u = some u') : ∃ i j e τ, ∃ xs : List (den τ), u = ⟨.own i, [(j, .flat e τ xs false true)], [], none, none⟩ /\ u' = quiet (.t (.sl τ) xs):= by
 obtain ⟨v, news, frz, app, sto⟩ := u
 unfold plainU at h
 split at h
 ·rename_i i j e τ xs h1 h2 h3 h4 h5
  simp only at h1 h2 h3 h4 h5
  subst h1; subst h2; subst h3; subst h4; subst h5
  cases h
  exact ⟨_, _, _, _, _, rfl, rfl⟩
 ·cases h
theorem step_okS {P : Program} {E : Env} {w0 : World} {B : Old} {pv : Nat -> Value} {S : Nat -> Prop} {ρ : Nat -> Option Loc} {st : St} {a : Act} {w : World} {o : Oper} {id : Nat} {K : Act -> World -> Prop} {Q : Exit -> Act -> World -> Prop}
  (hE : EnvOk P E) {G : Cal -> List AV -> AV -> Prop} (hG : GOk P E pv G) (hs : Sim w0 B pv S ρ st a w) (hgl : GlOk E pv S w) (hd : dstOk o st.nt = true) (hid : ∀ c, c < 4 -> ρ (id + c) = none) {dr : Bool} {u : Upd}
  (h : AOpS E G dr o id (ev E st) st.row u) (hK : Nx E w0 B pv S ρ st o.dst u id K) : o.wp P a w K Q:= by
 rcases h with ⟨_, h⟩ | ⟨_, ⟨_, h, _⟩ | ⟨_, hb, u0, h, hu⟩ | ⟨_, _, h, _⟩ | ⟨_, h, _⟩⟩
 ·exact step_ok hE hG hs hgl hd hid h hK
 ·exact step_ok0 hE hG hs hgl hd hid (h.mono (ev' := ev E st) (fun _ _=> rfl) (hideO_sub E _ st.row)) hK
 ·have h0 : ρ id = none:= by simpa using hid 0 (by omega)
  obtain ⟨i, j, e, τ', xs', rfl, rfl⟩ := plainU_eq hu
  have h := h.mono (ev' := ev E st) (fun _ _=> rfl) (hide_sub E st.row)
  obtain ⟨dst, op, type, pos, after, guard⟩ := o
  cases op <;> simp only [isBS] at hb <;> try cases hb
  unfold AOp0 at h
  obtain ⟨τ, fs, xs, hτ, hon, hn, hfs, hxs, hep, _, hu⟩ := h
  injection hu with h1 h2 h3 h4 h5
  have hids : idsL fs = [] := h3.symm
  injection h2 with h2 _
  injection h2 with _ h2
  injection h2 with _ hτ' hxs' _ _
  subst hτ'
  have hxs' := eq_of_heq hxs'
  subst hxs'
  exact step_buildSliceP hE hs hgl hd h0 rfl hτ hon hn hfs hxs hep hids hK
 ·exact step_ok0 hE hG hs hgl hd hid (h.mono (ev' := ev E st) (fun _ _=> rfl) (hide_sub E st.row)) hK
 ·exact step_ok hE hG hs hgl hd hid (.inr (.inr (h.mono (ev' := ev E st) (fun _ _=> rfl) (hide_sub E st.row)))) hK
end Go.Gx
end
section
/- A region, carried out in order. -/
namespace Go.Gx
open Go.RowKit
def WantY (ops : Array Oper) (o : Oper) (st : St) : Prop := o.guard = none \/ ∃ j b g d, o.guard = some (j, b) /\ ops[j]? = some g /\ g.dst = some d /\ st.slot d = .t .bool b
def WantN (ops : Array Oper) (o : Oper) (st : St) : Prop := ∃ j b, o.guard = some (j, b) /\ (ops[j]? = none \/ ∃ g, ops[j]? = some g /\ (g.dst = none \/ ∃ d, g.dst = some d /\ (st.slot d = .t .bool (!b) \/ st.slot d = .tup [])))
inductive RunR (E : Env) (G : Cal -> List AV -> AV -> Prop) (dr : Bool) (ops : Array Oper) (rid : Nat) : List Oper -> Nat -> St -> St -> Prop
 | nil (i : Nat) (st : St) : RunR E G dr ops rid [] i st st
 | yes (o : Oper) (l : List Oper) (i : Nat) (st st' : St) (u : Upd) (hd : dstOk o st.nt = true) (hw : WantY ops o st) (h : AOpS E (clG (clM E dr ops o) G) dr o ((rid * 256 + i) * 4) (ev E st) st.row u) (hr : RunR E G dr ops rid l (i + 1) (st.apply o.dst u) st') : RunR E G dr ops rid (o :: l) i st st'
 | mv (o : Oper) (l : List Oper) (i : Nat) (st st1 st' : St) (hdr : dr = false) (hd : dstOk o st.nt = true) (hw : WantY ops o st) (h : MOp E o ((rid * 256 + i) * 4) st st1) (hr : RunR E G dr ops rid l (i + 1) st1 st') : RunR E G dr ops rid (o :: l) i st st'
 | no (o : Oper) (l : List Oper) (i : Nat) (st st' : St) (hd : dstOk o st.nt = true) (hw : WantN ops o st) (hr : RunR E G dr ops rid l (i + 1) (st.putO o.dst undefV) st') : RunR E G dr ops rid (o :: l) i st st'
theorem put_self {st : St} {d : Nat} {b : AV} (h : st.slot d = b) : st.put d b = st:= by
 cases st with
 | mk slot row nt=>
  simp only [St.put] at *
  congr 1
  funext t
  rw [beq_eq]
  by_cases e : t = d
  ·subst e; simp [h]
  ·simp [e]
theorem wantedK_rel {R : Type} {r : R} {ops : Array Oper} {o : Oper} {st : St} {yes no : St -> Option R} (h : wantedK ops o st yes no = some r) : (WantY ops o st /\ yes st = some r) \/ (WantN ops o st /\ no st = some r):= by
 unfold wantedK at h
 split at h
 ·rename_i hg
  exact .inl ⟨.inl hg, h⟩
 ·rename_i j want hg
  split at h
  ·rename_i g hj
   split at h
   ·rename_i d hd
    split at h
    ·rename_i b hb
     cases want with
     | true=>
      cases b with
      | true=> rw [put_self hb] at h; exact .inl ⟨.inr ⟨j, true, g, d, hg, hj, hd, hb⟩, h⟩
      | false=> rw [put_self hb] at h; exact .inr ⟨⟨j, true, hg, .inr ⟨g, hj, .inr ⟨d, hd, .inl hb⟩⟩⟩, h⟩
     | false=>
      cases b with
      | true=> rw [put_self hb] at h; exact .inr ⟨⟨j, false, hg, .inr ⟨g, hj, .inr ⟨d, hd, .inl hb⟩⟩⟩, h⟩
      | false=> rw [put_self hb] at h; exact .inl ⟨.inr ⟨j, false, g, d, hg, hj, hd, hb⟩, h⟩
    ·rename_i hb
     exact .inr ⟨⟨j, want, hg, .inr ⟨g, hj, .inr ⟨d, hd, .inr hb⟩⟩⟩, h⟩
    ·cases h
   ·rename_i hd
    exact .inr ⟨⟨j, want, hg, .inr ⟨g, hj, .inl hd⟩⟩, h⟩
  ·rename_i hj
   exact .inr ⟨⟨j, want, hg, .inl hj⟩, h⟩
theorem runOps_rel {R : Type} {r : R} {E : Env} {C : Orc} {G : Cal -> List AV -> AV -> Prop} (hC : OrcIs C G) {dr : Bool} {ops : Array Oper} {rid : Nat} : ∀ (l : List Oper) (i : Nat) (st : St) {K : St -> Option R}, runOps E C dr ops rid l i st K = some r ->
  ∃ st', RunR E G dr ops rid l i st st' /\ K st' = some r
 | [], i, st, K, h=> ⟨st, .nil i st, h⟩
 | o :: l, i, st, K, h=> by
  unfold runOps at h
  split at h
  ·rename_i hd
   rcases wantedK_rel h with ⟨hw, h⟩ | ⟨hw, h⟩
   ·split at h
    ·cases hx : (dr || E.so) with
     | true=> rw [hx] at h; cases h
     | false=>
      rw [hx, cond_false] at h
      obtain ⟨st1, h1, h⟩ := mop_rel h
      obtain ⟨st', h2, h3⟩ := runOps_rel hC l (i + 1) _ h
      exact ⟨st', .mv o l i st st1 st' (by simpa using (Bool.or_eq_false_iff.1 hx).1) hd hw h1 h2, h3⟩
    ·obtain ⟨u, h1, h⟩ := aopS_rel (hC.cl _) h
     obtain ⟨st', h2, h3⟩ := runOps_rel hC l (i + 1) _ h
     exact ⟨st', .yes o l i st st' u hd hw h1 h2, h3⟩
   ·obtain ⟨st', h2, h3⟩ := runOps_rel hC l (i + 1) _ h
    exact ⟨st', .no o l i st st' hd hw h2, h3⟩
  ·cases h
section
variable {P : Program} {E : Env} {w0 : World} {B : Old} {pv : Nat -> Value} {S : Nat -> Prop} {ρ : Nat -> Option Loc} {st : St} {a : Act} {w : World} {G : Cal -> List AV -> AV -> Prop} {Q : Exit -> Act -> World -> Prop}
theorem tmps_get {d : Nat} {v : Value} (h : a.tmps.getD d undef = v) (hv : v ≠ undef) : a.tmps[d]? = some v:= by
 rw [Array.getD_eq_getD_getElem?] at h
 cases hd : a.tmps[d]? with
 | none=> rw [hd] at h; exact absurd h.symm hv
 | some u=> rw [hd] at h; rw [<- h]; rfl
theorem want_y {ops : Array Oper} {o : Oper} (hs : Sim w0 B pv S ρ st a w) (h : WantY ops o st) : Region.wanted o (yielded ops a.tmps) = true:= by
 rcases h with h | ⟨j, b, g, d, h1, h2, h3, h4⟩
 ·simp [Region.wanted, h]
 ·have := hs.slots d
  rw [h4] at this
  have hv := tmps_get (vr_bool this) (by simp [undef])
  simp [Region.wanted, h1, yielded, h2, h3, hv]
theorem want_n {ops : Array Oper} {o : Oper} (hs : Sim w0 B pv S ρ st a w) (h : WantN ops o st) : Region.wanted o (yielded ops a.tmps) = false:= by
 obtain ⟨j, b, h1, h2 | ⟨g, h2, h3 | ⟨d, h3, h4 | h4⟩⟩⟩ := h
 ·simp [Region.wanted, h1, yielded, h2]
 ·simp [Region.wanted, h1, yielded, h2, h3]
 ·have := hs.slots d
  rw [h4] at this
  have hv := tmps_get (vr_bool this) (by simp [undef])
  simp [Region.wanted, h1, yielded, h2, h3, hv]
 ·have := hs.slots d
  rw [h4] at this
  obtain ⟨cs, h', h5⟩ := vr_ar this (by simp)
  cases h' with
  | tup _ css hl _=>
   have : a.tmps.getD d undef = .tuple #[]:= by rw [h5]; cases css <;> rfl
   rw [Array.getD_eq_getD_getElem?] at this
   cases hd : a.tmps[d]? with
   | none=> simp [Region.wanted, h1, yielded, h2, h3, hd]
   | some u=>
    rw [hd] at this
    have : u = .tuple #[] := this
    subst this
    simp [Region.wanted, h1, yielded, h2, h3, hd]
theorem seq_ok (hE : EnvOk P E) (hG : GOk P E pv G) {ops : Array Oper} {rid : Nat} {dr : Bool} : ∀ {l : List Oper} {i : Nat} {st st' : St} {S : Nat -> Prop} {ρ : Nat -> Option Loc} {a : Act} {w : World}, RunR E G dr ops rid l i st st' -> Sim w0 B pv S ρ st a w -> GlOk E pv S w ->
  (∀ k, i <= k -> k < i + l.length -> ∀ c, c < 4 -> ρ ((rid * 256 + k) * 4 + c) = none) ->
  (∀ S' ρ' a' w', Sim w0 B pv S' ρ' st' a' w' -> GlOk E pv S' w' -> Grew B S S' -> Q .normal a' w') -> wpList P ops Q l a w
 | [], i, st, st', S, ρ, a, w, hr, hs, hgl, _, hQ=> by
  cases hr
  exact hQ S ρ a w hs hgl (Grew.refl _ _)
 | o :: l, i, st, st', S, ρ, a, w, hr, hs, hgl, hid, hQ=> by
  cases hr with
  | yes _ _ _ _ _ u hd hw h hr=>
   unfold wpList
   rw [if_pos (want_y hs hw)]
   refine .inl (step_okS hE (hG.cl _) hs hgl hd (hid i (Nat.le_refl _) (by simp)) h fun S1 ρ1 a1 w1 hs1 hgl1 hS1 hρ1=> ?_)
   exact seq_ok hE hG hr hs1 hgl1 (fun k hk1 hk2 c hc=> hρ1 _ (hid k (by omega) (by simp; omega) c hc) (by omega)) fun S2 ρ2 a2 w2 hs2 hgl2 hS2=> hQ S2 ρ2 a2 w2 hs2 hgl2 (hS1.trans hS2)
  | mv _ _ _ _ st1 _ hdr hd hw h hr=>
   unfold wpList
   rw [if_pos (want_y hs hw)]
   refine .inl (step_mop hE hs hgl hd (hid i (Nat.le_refl _) (by simp)) h fun S1 ρ1 a1 w1 hs1 hgl1 hS1 hρ1=> ?_)
   exact seq_ok hE hG hr hs1 hgl1 (fun k hk1 hk2 c hc=> hρ1 _ (hid k (by omega) (by simp; omega) c hc) (by omega)) fun S2 ρ2 a2 w2 hs2 hgl2 hS2=> hQ S2 ρ2 a2 w2 hs2 hgl2 (hS1.trans hS2)
  | no _ _ _ _ _ hd hw hr=>
   unfold wpList
   rw [want_n hs hw]
   exact seq_ok hE hG hr (hs.put (dst_lt hd) vr_undef) hgl (fun k hk1 hk2 c hc=> hid k (by omega) (by simp; omega) c hc) hQ
end
end Go.Gx
end
section
/- What an operation's meaning hangs on: its operands, and the rows that are there. -/
namespace Go.Gx
open Go.RowKit
structure UpdOk (E : Env) (dr : Bool) (o : Oper) (id : Nat) (row : Nat -> Option Row) (u : Upd) : Prop where
 news : NewsOk id u.news
 frz : dr = true -> u.frz = []
 quiet : dr = true -> (effB o || mdL E o) = false -> u.app = none /\ u.sto = none
 app : ∀ j r, u.app = some (j, r) -> row j ≠ none
 sto : ∀ j r, u.sto = some (j, r) -> row j ≠ none
theorem UpdOk.q {E : Env} {dr : Bool} {o : Oper} {id : Nat} {row : Nat -> Option Row} (v : AV) : UpdOk E dr o id row (Gx.quiet v) :=
 ⟨news_nil id, fun _=> rfl, fun _ _=> ⟨rfl, rfl⟩, fun _ _ h=> (by cases h), fun _ _ h=> (by cases h)⟩
theorem UpdOk.m {E : Env} {dr : Bool} {o : Oper} {id : Nat} {row : Nat -> Option Row} (v : AV) {l : List (Nat × Row)} (h : NewsOk id l) : UpdOk E dr o id row (makes v l) :=
 ⟨h, fun _=> rfl, fun _ _=> ⟨rfl, rfl⟩, fun _ _ h=> (by cases h), fun _ _ h=> (by cases h)⟩
theorem UpdOk.f {E : Env} {dr : Bool} {o : Oper} {id : Nat} {row : Nat -> Option Row} (v : AV) {l : List (Nat × Row)} (h : NewsOk id l) {ids : List Nat} (hd : ids = [] \/ dr = false) : UpdOk E dr o id row ⟨v, l, ids, none, none⟩ :=
 ⟨h, fun e=> (by rcases hd with hd | hd; exact hd; rw [e] at hd; cases hd), fun _ _=> ⟨rfl, rfl⟩, fun _ _ h=> (by cases h), fun _ _ h=> (by cases h)⟩
theorem callR_upd {E : Env} {G : Cal -> List AV -> AV -> Prop} {row : Nat -> Option Row} {dr : Bool} {o : Oper} {id : Nat} {cal : Cal} {args : List AV} {u : Upd} (hx : CallR G row dr id cal args u) : UpdOk E dr o id row u:= by
 obtain ⟨cl, r, av, news, h1, h2, h3, ⟨h4, rfl⟩ | ⟨h4, h5, rfl⟩⟩ := hx
 ·exact .m _ (news_instR h3)
 ·exact .f _ (news_instR h3) h5
theorem hand_row {row : Nat -> Option Row} {a : AV} {i : Nat} {x : AV} (h : hand row a = some (i, x)) : ∃ r, row i = some r /\ rowOf x = some r:= by
 unfold hand at h
 split at h
 ·split at h
  ·rename_i hr; cases h; exact ⟨_, hr, rfl⟩
  ·cases h
 ·split at h
  ·rename_i σ σ' y hr
   split at h
   ·rename_i e _
    subst e
    cases h
    exact ⟨_, hr, rfl⟩
   ·cases h
  ·cases h
 ·cases h
theorem noIds_rest {a : AV} {rest : List AV} (h : noIds (a :: rest) = true) : idsL rest = []:= by
 simp only [noIds] at h
 split at h
 ·rename_i e; exact e
 ·cases h
theorem callM_upd {E : Env} {G : Cal -> List AV -> AV -> Prop} {row : Nat -> Option Row} {dr d' : Bool} {o : Oper} {id : Nat} {g : Nat} {args : List AV} {u : Upd} (hd' : dr = true -> d' = false -> noIds args = true /\ mdL E o = true) (hx : CallM G row d' id g args u) : UpdOk E dr o id row u:= by
 obtain ⟨hd, a0, rest, i, x0, cl, r, ea, hh, _, _, _, _, ⟨o', r', ro, av, news, _, _, _, hn, hu⟩ | ⟨e, τ, ys, _, _, _, hu⟩ | ⟨_, _, _, _, _, _, _, _, _, rfl⟩⟩ := hx
 all_goals have hq : dr = true -> (effB o || mdL E o) = false -> False := fun h1 h2=> by rw [(hd' h1 hd).2, Bool.or_true] at h2; cases h2
 all_goals have hz : dr = true -> idsL rest = [] := fun h1=> noIds_rest (ea ▸ (hd' h1 hd).1)
 ·obtain ⟨r0, hr, _⟩ := hand_row hh
  rcases hu with ⟨_, _, rfl⟩ | ⟨_, rfl⟩
  ·exact ⟨news_instR hn, fun _=> rfl, fun h1 h2=> (hq h1 h2).elim, fun _ _ h=> (by cases h), fun _ _ h=> (by cases h; rw [hr]; simp)⟩
  ·exact ⟨news_instR hn, hz, fun h1 h2=> (hq h1 h2).elim, fun _ _ h=> (by cases h), fun _ _ h=> (by cases h; rw [hr]; simp)⟩
 ·obtain ⟨r0, hr, _⟩ := hand_row hh
  rcases hu with ⟨_, rfl⟩ | ⟨_, rfl⟩
  ·exact ⟨news_nil id, fun _=> rfl, fun h1 h2=> (hq h1 h2).elim, fun _ _ h=> (by cases h; rw [hr]; simp), fun _ _ h=> (by cases h)⟩
  ·exact ⟨news_nil id, hz, fun h1 h2=> (hq h1 h2).elim, fun _ _ h=> (by cases h; rw [hr]; simp), fun _ _ h=> (by cases h)⟩
 ·obtain ⟨r0, hr, _⟩ := hand_row hh
  exact ⟨news_nil id, fun _=> rfl, fun h1 h2=> (hq h1 h2).elim, fun _ _ h=> (by cases h; rw [hr]; simp), fun _ _ h=> (by cases h)⟩
theorem callX_upd {E : Env} {G : Cal -> List AV -> AV -> Prop} {row : Nat -> Option Row} {dr : Bool} {o : Oper} {id : Nat} {g : Nat} {args : List AV} {d' : Bool} {u : Upd} (hd' : E.md g = true -> dr = true -> d' = false -> noIds args = true /\ mdL E o = true) (hx : CallX E G row dr d' id g args u) : UpdOk E dr o id row u:= by
 rcases hx with ⟨_, h⟩ | ⟨hm, h⟩
 ·exact callR_upd h
 ·exact callM_upd (hd' hm) h
theorem AOp0.upd {E : Env} {G : Cal -> List AV -> AV -> Prop} {dr : Bool} {o : Oper} {id : Nat} {ev : Operand -> AV} {row : Nat -> Option Row} {u : Upd} (h : AOp0 E G dr o id ev row u) : UpdOk E dr o id row u:= by
 obtain ⟨dst, op, type, pos, after, guard⟩ := o
 unfold AOp0 at h
 cases op <;> simp only at h
 case move x=> subst h; exact .q _
 case assign x=> subst h; exact .q _
 case pick c a b=> obtain ⟨v, _, rfl⟩ := h; exact .q _
 case alloc T=> obtain ⟨τ, _, rfl⟩ := h; exact .m _ (news_one _ _)
 case box T x=> obtain ⟨τ, _, _, rfl⟩ := h; exact .m _ (news_one _ _)
 case build T ps=> obtain ⟨τ, fs, _, _, _, rfl⟩ := h; exact .q _
 case buildSlice T n ps=> obtain ⟨τ, fs, xs, _, _, _, _, _, _, h1, rfl⟩ := h; exact .f _ (news_one _ _) h1
 case load T x=>
  obtain ⟨τ, _, ⟨_, _, rfl⟩ | ⟨_, _, _, _, _, _, _, _, _, rfl⟩ | ⟨_, _, _, _, _, _, _, _, _, _, _, _, _, rfl⟩⟩ := h <;> exact .q _
 case store T x v=>
  obtain ⟨τ, _, _, ⟨j, p, σ, a, b, _, h3, _, _, rfl⟩ | ⟨j, i, p, e, σ, xs, app, b, y, _, h3, _, _, _, rfl⟩⟩ := h <;>
   exact ⟨news_nil id, fun _=> rfl, fun _ h=> (by cases h), fun _ _ h=> (by cases h), fun j' r' h=> by cases h; rw [h3]; simp⟩
 case nilCheck x=> obtain ⟨rfl, _⟩ := h; exact .q _
 case binOp op t x y z=> obtain ⟨_, _, rfl⟩ := h; exact .q _
 case unOp op t x=> obtain ⟨_, _, rfl⟩ := h; exact .q _
 case convert S T x=>
  rcases h with ⟨_, _, _, _, _, _, _, rfl⟩ | ⟨_, _, _, _, rfl⟩ | ⟨_, _, _, _, _, rfl⟩ | ⟨_, _, _, _, rfl⟩ | ⟨_, _, _, _, _, _, rfl⟩
  ·exact .q _
  ·exact .q _
  ·exact .m _ (news_one _ _)
  ·exact .q _
  ·exact .q _
 case makeFunc fn first caps=> obtain ⟨_, _, _, _, rfl⟩ := h; exact .q _
 case makeSlice T l c=> obtain ⟨_, _, _, _, _, _, _, rfl⟩ := h; exact .m _ (news_one _ _)
 case slice T x lo hi mx=>
  obtain ⟨h0, l, h', h1, h2, ⟨hdr, j, e, τ, xs, app, a, b, _, _, hr, _, _, _, ⟨_, _, _, rfl⟩ | ⟨_, _, _, rfl⟩⟩ | ⟨_, _, _, _, _, _, rfl⟩ | ⟨_, _, _, _, _, _, _, rfl⟩ | ⟨hd, j, e, τ, xs, fz, app, a, b, _, _, _, _, rfl⟩ | ⟨_, _, _, _, _, _, _, _, rfl⟩ | ⟨_, _, _, _, _, _, _, _, _, _, _, rfl⟩⟩ := h
  ·exact .q _
  ·exact ⟨news_nil id, fun _=> rfl, fun h=> (by rw [hdr] at h; cases h), fun j' r' h=> (by cases h; rw [hr]; simp), fun _ _ h=> (by cases h)⟩
  ·exact .q _
  ·exact .q _
  ·exact .f _ (news_nil _) (.inr hd)
  ·exact .q _
  ·exact .q _
 case fieldAddr T x f=>
  obtain ⟨τ, h1, h2, ⟨_, _, _, _, rfl⟩ | ⟨_, _, _, _, _, _, _, _, _, rfl⟩⟩ := h <;> exact .q _
 case field T x f=> obtain ⟨_, _, _, _, _, _, rfl⟩ := h; exact .q _
 case indexAddr T x ix=>
  obtain ⟨i, h1, h2, ⟨_, _, _, _, _, rfl⟩ | ⟨_, _, _, _, _, _, _, _, _, _, rfl⟩ | ⟨_, _, _, _, _, _, _, rfl⟩⟩ := h <;> exact .q _
 case index T x ix=> rcases h with ⟨_, _, _, _, _, _, _, _, rfl⟩ | ⟨_, _, _, _, _, _, _, _, rfl⟩ <;> exact .q _
 case extract x i=> obtain ⟨_, _, _, _, rfl⟩ := h; exact .q _
 case call c=>
  rcases h with ⟨b, hb, h⟩ | ⟨f, hf, ⟨g, caps, _, h⟩ | ⟨i, _, h⟩⟩
  rotate_left
  ·refine callX_upd (fun hm h1 h2=> ?_) h
   subst h1
   obtain ⟨callee, args, ats⟩ := c
   simp only at hf
   subst hf
   cases f with
   | func h'=>
    simp only [drM, litF, Bool.true_and, Bool.not_eq_false', Bool.and_eq_true] at h2
    obtain rfl := Nat.eq_of_beq_eq_true h2.1
    exact ⟨h2.2, hm⟩
   | _=> simp [drM, litF] at h2
  ·exact callR_upd h
  ·rcases h with ⟨_, _, _, _, _, _, _, rfl⟩ | ⟨rfl, a, x, T, _, _, τ, ys, _, _, _, ⟨_, _, rfl⟩ | ⟨j, xs, _, _, hr, _, rfl⟩⟩ | ⟨_, _, _, _, rfl⟩ | ⟨_, _, _, _, rfl⟩ | ⟨_, _, _, _, _, rfl⟩ | ⟨rfl, j, i, e, τ, xs, app, p, T, _, _, _, _, hr, _, rfl⟩
   ·exact .q _
   ·exact .m _ (news_one _ _)
   ·refine ⟨news_nil id, fun _=> rfl, fun _ h=> ?_, fun j' r' h=> ?_, fun _ _ h=> (by cases h)⟩
    ·obtain ⟨callee, args, ats⟩ := c
     simp only at hb
     subst hb
     cases h
    ·cases h; rw [hr]; simp
   ·exact .q _
   ·exact .q _
   ·exact .q _
   ·refine ⟨news_nil id, fun _=> rfl, fun _ h=> ?_, fun _ _ h=> (by cases h), fun j' r' h=> (by cases h; rw [hr]; simp)⟩
    obtain ⟨callee, args, ats⟩ := c
    simp only at hb
    subst hb
    cases h
theorem DOp.upd {E : Env} {G : Cal -> List AV -> AV -> Prop} {dr : Bool} {o : Oper} {id : Nat} {ev : Operand -> AV} {row : Nat -> Option Row} {u : Upd} (h : DOp E G dr o id ev row u) : UpdOk E dr o id row u:= by
 obtain ⟨dst, op, type, pos, after, guard⟩ := o
 unfold DOp at h
 cases op <;> simp only at h
 case load T x=> obtain ⟨_, _, _, _, _, rfl⟩ := h; exact .q _
 case store T x v=>
  obtain ⟨τ, j, y, z, ρ, b, _, _, h3, _, _, _, rfl⟩ := h
  exact ⟨news_nil id, fun _=> rfl, fun _ h=> (by cases h), fun _ _ h=> (by cases h), fun j' r' h=> by cases h; rw [h3]; simp⟩
 case nilCheck x=> obtain ⟨_, _, _, _, rfl⟩ := h; exact .q _
 case fieldAddr T x f=> obtain ⟨_, _, _, _, _, _, _, _, _, rfl⟩ := h; exact .q _
 case field T x f=> obtain ⟨_, _, _, _, _, _, _, _, rfl⟩ := h; exact .q _
 case indexAddr T x ix=> obtain ⟨_, _, _, _, _, _, _, _, _, rfl⟩ := h; exact .q _
 case call c=>
  obtain ⟨f, g, caps, h1, h2, ⟨cl, τ, x, h4, _, ⟨h5, rfl⟩ | ⟨h5, rfl⟩⟩ | ⟨h0, j, τ, x, k, σ, b, m, h4, h5, h6, rfl⟩⟩ := h
  ·exact .m _ (news_one _ _)
  ·exact .m _ (news_nil id)
  ·exact ⟨news_nil id, fun h=> (by simp [h0] at h), fun h=> (by simp [h0] at h), fun _ _ h=> (by cases h), fun _ _ h=> (by cases h; rw [h5]; simp)⟩
theorem news_instT1 {id : Nat} {r : AV} {b : AV} {l : List (Nat × Row)} (hi : instT1 id r (fun b l=> some (b, l)) = some (b, l)) : l = [] \/ ∃ row, l = [(id, row)]:= by
 cases r <;> simp only [instT1] at hi <;> first
  | (cases hi; done)
  | (cases hi; exact .inl rfl)
  | (cases hs : slT _ <;> rw [hs] at hi <;> cases hi <;> first
    | exact .inl rfl
    | exact .inr ⟨_, rfl⟩)
theorem news_instT {id : Nat} {r : AV} {b : AV} {l : List (Nat × Row)} (hi : instT id r (fun b l=> some (b, l)) = some (b, l)) : NewsOk id l:= by
 have one : instT1 id r (fun b l=> some (b, l)) = some (b, l) -> NewsOk id l := fun hi=> by
  rcases news_instT1 hi with rfl | ⟨row, rfl⟩
  ·exact news_nil id
  ·exact news_one id row
 cases r with
 | tup rs=>
  match rs, hi with
  | [], hi=> simp [instT] at hi
  | [_], hi=> simp [instT] at hi
  | [x, y], hi=>
   simp only [instT] at hi
   obtain ⟨b1, l1, e1, hi⟩ := instT1_nat hi
   obtain ⟨b2, l2, e2, hi⟩ := instT1_nat hi
   cases hi
   rcases news_instT1 e1 with rfl | ⟨r1, rfl⟩ <;> rcases news_instT1 e2 with rfl | ⟨r2, rfl⟩ <;>
    exact news_gen (by simp <;> omega) (by simp)
  | [x, y, z], hi=>
   simp only [instT] at hi
   obtain ⟨b1, l1, e1, hi⟩ := instT1_nat hi
   obtain ⟨b2, l2, e2, hi⟩ := instT1_nat hi
   obtain ⟨b3, l3, e3, hi⟩ := instT1_nat hi
   cases hi
   rcases news_instT1 e1 with rfl | ⟨r1, rfl⟩ <;> rcases news_instT1 e2 with rfl | ⟨r2, rfl⟩ <;> rcases news_instT1 e3 with rfl | ⟨r3, rfl⟩ <;>
    exact news_gen (by simp <;> omega) (by simp)
  | _ :: _ :: _ :: _ :: _, hi=> simp [instT] at hi
 | _=> exact one (by simpa only [instT] using hi)
theorem TOp.upd {E : Env} {G : Cal -> List AV -> AV -> Prop} {dr : Bool} {o : Oper} {id : Nat} {ev : Operand -> AV} {row : Nat -> Option Row} {u : Upd} (h : TOp E G dr o id ev row u) : UpdOk E dr o id row u:= by
 obtain ⟨dst, op, type, pos, after, guard⟩ := o
 unfold TOp at h
 cases op <;> simp only at h
 case load T x=> obtain ⟨_, _, _, _, _, _, _, _, _, _, _, _, _, _, rfl⟩ := h; exact .q _
 case store T x v=>
  obtain ⟨_, _, _, _, _, _, _, _, _, _, _, _, _, _, _, h3, _, _, _, _, rfl⟩ := h
  exact ⟨news_nil id, fun _=> rfl, fun _ h=> (by cases h), fun _ _ h=> (by cases h), fun j' r' h=> by cases h; rw [h3]; simp⟩
 case nilCheck x=> obtain ⟨_, _, _, _, rfl⟩ := h; exact .q _
 case fieldAddr T x f=> obtain ⟨_, _, _, _, _, _, _, _, _, _, _, rfl⟩ := h; exact .q _
 case field T x f=> obtain ⟨_, _, _, _, _, _, _, _, _, _, _, _, _, rfl⟩ := h; exact .q _
 case indexAddr T x ix=> obtain ⟨_, _, _, _, _, _, _, _, _, _, _, _, _, rfl⟩ := h; exact .q _
 case buildSlice T n ps=> obtain ⟨_, _, _, _, _, rfl⟩ := h; exact .m _ (news_one _ _)
 case call c=>
  rcases h with ⟨_, _, _, rfl⟩ | ⟨f, g, caps, hc, hf, ⟨hdr, j, τ, rest, σ0, a, b, x, y, cl, _, hr, _, _, _, _, rfl⟩ | ⟨cl, r, av, news, _, _, hi, rfl⟩ | ⟨hdr, k, m, ⟨j, τ, σ0, a, b, x, y, _, hr, _, rfl⟩ | ⟨j, q, p, τ, σ0, a, b, σ, x, x', z, y, _, hr, _, _, _, rfl⟩⟩⟩
  ·exact .q _
  ·refine ⟨news_nil id, fun _=> rfl, fun h1 h2=> ?_, fun _ _ h=> (by cases h; rw [hr]; simp), fun _ _ h=> (by cases h)⟩
   subst h1
   exfalso
   obtain ⟨callee, args, ats⟩ := c
   simp only at hc
   subst hc
   cases f with
   | func h'=>
    simp only [litF, Bool.true_and, Bool.not_eq_false', Bool.and_eq_true] at hdr
    simp only [effB, mdL, Bool.false_or] at h2
    obtain rfl := Nat.eq_of_beq_eq_true hdr.1
    rw [hdr.2] at h2
    cases h2
   | _=> simp [litF] at hdr
  ·exact .m _ (news_instT hi)
  ·exact ⟨news_nil id, fun h=> (by simp [hdr] at h), fun h=> (by simp [hdr] at h), fun _ _ h=> (by cases h), fun _ _ h=> (by cases h; rw [hr]; simp)⟩
  ·exact ⟨news_nil id, fun h=> (by simp [hdr] at h), fun h=> (by simp [hdr] at h), fun _ _ h=> (by cases h), fun _ _ h=> (by cases h; rw [hr]; simp)⟩
theorem AOp.upd {E : Env} {G : Cal -> List AV -> AV -> Prop} {dr : Bool} {o : Oper} {id : Nat} {ev : Operand -> AV} {row : Nat -> Option Row} {u : Upd} (h : AOp E G dr o id ev row u) : UpdOk E dr o id row u :=
 h.elim (fun h=> h.upd) fun h=> h.elim (fun h=> h.upd) fun h=> h.upd
theorem eff_of {E : Env} {o : Oper} (h : effS E o = false) (h' : softO E o = false) : (effB o || mdL E o) = false:= by
 unfold effS at h
 rw [h'] at h
 simpa using h
theorem softU_eq {E : Env} {o : Oper} {row : Nat -> Option Row} {u : Upd} (h : softU E o row u = true) : u.news = [] /\ u.frz = [] /\ u.app = none /\ ∃ i r r', u.sto = some (i, r') /\ row i = some r /\ rcls E i = ocls E o /\ hidR E i r = true /\ hidR E i r' = true:= by
 unfold softU at h
 split at h
 ·rename_i i r' h1 h2 h3 h4
  split at h
  ·rename_i r hr
   simp only [Bool.and_eq_true] at h
   exact ⟨h1, h2, h3, i, r, r', h4, hr, Nat.eq_of_beq_eq_true h.1, h.2.1, h.2.2⟩
  ·cases h
 ·cases h
theorem AOpS.upd {E : Env} {G : Cal -> List AV -> AV -> Prop} {o : Oper} {id : Nat} {ev : Operand -> AV} {row : Nat -> Option Row} {u : Upd} (h : AOpS E G true o id ev row u) :
  NewsOk id u.news /\ u.frz = [] /\ (∀ j r, u.app = some (j, r) -> row j ≠ none) /\ (∀ j r, u.sto = some (j, r) -> row j ≠ none) /\ (effS E o = false -> softO E o = false -> u.app = none /\ u.sto = none) /\
  (softO E o = true -> softU E o row u = true) /\ (E.so = true -> noCur E u.news = true):= by
 rcases h with ⟨hs, h⟩ | ⟨hs, ⟨hf, h, hu⟩ | ⟨hf, hb, u0, h, hu⟩ | ⟨hf, hb, h, hu⟩ | ⟨hf, h, hu⟩⟩
 ·obtain ⟨h1, h2, h3, h4, h5⟩ := h.upd
  exact ⟨h1, h2 rfl, h4, h5, fun h h'=> h3 rfl (eff_of h h'), fun h=> (by simp [softO, hs] at h), fun h=> (by rw [hs] at h; cases h)⟩
 ·obtain ⟨h1, h2, h3, i, x, y, h4, h5, _⟩ := softU_eq hu
  refine ⟨by rw [h1]; exact news_nil id, h2, fun j r e=> (by rw [h3] at e; cases e), fun j r e=> ?_, fun _ e=> (by simp [softO, hs, hf] at e), fun _=> hu, fun _=> by rw [h1]; rfl⟩
  rw [h4] at e
  cases e
  rw [h5]; simp
 ·obtain ⟨i, j, e, τ, xs, rfl, rfl⟩ := plainU_eq hu
  exact ⟨news_nil id, rfl, fun _ _ h=> (by cases h), fun _ _ h=> (by cases h), fun _ _=> ⟨rfl, rfl⟩, fun e=> (by simp [softO, hf] at e), fun _=> rfl⟩
 ·obtain ⟨h1, h2, h3, h4, h5⟩ := h.upd
  have hh : ∀ j, hideC E row j ≠ none -> row j ≠ none := fun j hj e=> by
   cases hr : hideC E row j with
   | none=> exact hj hr
   | some r=> rw [hide_sub E row _ _ hr] at e; cases e
  exact ⟨h1, h2 rfl, fun j r e=> hh j (h4 j r e), fun j r e=> hh j (h5 j r e), fun h h'=> h3 rfl (eff_of h h'), fun e=> (by simp [softO, hf] at e), fun _=> hu⟩
 ·obtain ⟨h1, h2, h3, h4, h5⟩ := h.upd
  have hh : ∀ j, hideC E row j ≠ none -> row j ≠ none := fun j hj e=> by
   cases hr : hideC E row j with
   | none=> exact hj hr
   | some r=> rw [hide_sub E row _ _ hr] at e; cases e
  exact ⟨h1, h2 rfl, fun j r e=> hh j (h4 j r e), fun j r e=> hh j (h5 j r e), fun h h'=> h3 rfl (eff_of h h'), fun e=> (by simp [softO, hf] at e), fun _=> hu⟩
theorem noCur_mem {E : Env} : ∀ {l : List (Nat × Row)}, noCur E l = true -> ∀ p ∈ l, hidR E p.1 p.2 = false
 | [], _, p, hp=> by cases hp
 | q :: l, h, p, hp=> by
  simp only [noCur, Bool.and_eq_true, Bool.not_eq_true'] at h
  rcases List.mem_cons.1 hp with rfl | hp
  ·exact h.1
  ·exact noCur_mem h.2 p hp
end Go.Gx
end
section
/- A region whose order is open: any order comes to the same. -/
namespace Go.Gx
open Go.RowKit
def StepR (E : Env) (G : Cal -> List AV -> AV -> Prop) (ops : Array Oper) (rid i : Nat) (o : Oper) (s s' : St) : Prop :=
 dstOk o s.nt = true /\ ((WantY ops o s /\ ∃ u, AOpS E (clG (clM E true ops o) G) true o ((rid * 256 + i) * 4) (ev E s) s.row u /\ s' = s.apply o.dst u) \/ (WantN ops o s /\ s' = s.putO o.dst undefV))
theorem trace {E : Env} {G : Cal -> List AV -> AV -> Prop} {ops : Array Oper} {rid : Nat} : ∀ {l : List Oper} {i : Nat} {st st' : St}, RunR E G true ops rid l i st st' ->
  ∃ sq : Nat -> St, sq i = st /\ sq (i + l.length) = st' /\ ∀ k o, l[k]? = some o -> StepR E G ops rid (i + k) o (sq (i + k)) (sq (i + k + 1))
 | [], i, st, st', h=> by
  cases h
  exact ⟨fun _=> st, rfl, rfl, fun k o h=> by simp at h⟩
 | o :: l, i, st, st', h=> by
  have go : ∀ s1, StepR E G ops rid i o st s1 -> RunR E G true ops rid l (i + 1) s1 st' -> ∃ sq : Nat -> St, sq i = st /\ sq (i + (o :: l).length) = st' /\ ∀ k o', (o :: l)[k]? = some o' -> StepR E G ops rid (i + k) o' (sq (i + k)) (sq (i + k + 1)) := fun s1 h1 h2=> by
   obtain ⟨sq, h3, h4, h5⟩ := trace h2
   refine ⟨fun j=> if j = i then st else sq j, by simp, ?_, fun k o' hk=> ?_⟩
   ·show (if i + (o :: l).length = i then st else sq (i + (o :: l).length)) = st'
    rw [if_neg (by simp), <- h4, List.length_cons]
    congr 1
    omega
   ·cases k with
    | zero=>
     simp only [List.getElem?_cons_zero, Option.some.injEq] at hk
     subst hk
     simp only [Nat.add_zero, if_true]
     rw [if_neg (by omega), h3]
     exact h1
    | succ k=>
     have := h5 k o' (by simpa using hk)
     show StepR E G ops rid (i + (k + 1)) o' (if i + (k + 1) = i then st else sq (i + (k + 1))) (if i + (k + 1) + 1 = i then st else sq (i + (k + 1) + 1))
     rw [if_neg (by omega), if_neg (by omega)]
     rw [show i + (k + 1) = i + 1 + k by omega]
     exact this
  cases h with
  | yes _ _ _ _ _ u hd hw h hr=> exact go _ ⟨hd, .inl ⟨hw, u, h, rfl⟩⟩ hr
  | mv _ _ _ _ _ _ hdr=> cases hdr
  | no _ _ _ _ _ hd hw hr=> exact go _ ⟨hd, .inr ⟨hw, rfl⟩⟩ hr
theorem putO_row (st : St) (d : Option Nat) (b : AV) : (st.putO d b).row = st.row /\ (st.putO d b).nt = st.nt:= by cases d <;> exact ⟨rfl, rfl⟩
theorem putO_slot (st : St) (d : Option Nat) (b : AV) (t : Nat) : (st.putO d b).slot t = if d = some t then b else st.slot t:= by
 cases d with
 | none=> simp [St.putO]
 | some d=>
  simp only [St.putO, St.put, beq_eq]
  by_cases e : t = d
  ·subst e; simp
  ·have : ¬ d = t := fun h=> e h.symm
   simp [e, this]
theorem setRows_nt : ∀ (l : List (Nat × Row)) (st : St), (st.setRows l).nt = st.nt /\ (st.setRows l).slot = st.slot
 | [], st=> ⟨rfl, rfl⟩
 | p :: l, st=> setRows_nt l (st.setRow p.1 p.2)
theorem apply_nt (st : St) (d : Option Nat) (u : Upd) : (st.apply d u).nt = st.nt:= by
 unfold St.apply
 rw [(putO_row _ _ _).2]
 have h1 : ((st.freeze u.frz).setRows u.news).nt = st.nt:= by rw [(setRows_nt _ _).1, (freeze_slot _ _).2]
 cases u.sto with
 | none=>
  cases u.app with
  | none=> exact h1
  | some p=> obtain ⟨j, r⟩ := p; exact h1
 | some q=>
  obtain ⟨k, s⟩ := q
  cases u.app with
  | none=> exact h1
  | some p=> obtain ⟨j, r⟩ := p; exact h1
structure Ordered (E : Env) (ops : Array Oper) (pre : Nat -> Nat -> Prop) : Prop where
 lt : ∀ i o, ops[i]? = some o -> ∀ e ∈ o.after, Region.binds .any e = true -> e.on < i
 step : ∀ i o j, ops[i]? = some o -> pre i j -> ∃ e ∈ o.after, Region.binds .any e = true /\ (e.on = j \/ pre e.on j)
 ord : ∀ i j o p, ops[i]? = some o -> ops[j]? = some p -> i ≠ j -> pre (max i j) (min i j) \/ (effS E o = false /\ ∀ d, p.dst = some d -> d ∉ o.looksAt ops /\ o.dst ≠ some d)
theorem fold_bits {B : List Nat} {j : Nat} : ∀ (l : List Edge) (s : Nat), (l.foldl (fun s e=> if Region.binds .any e then s ||| 2 ^ e.on ||| B.getD e.on 0 else s) s).testBit j = true -> s.testBit j = true \/ ∃ e ∈ l, Region.binds .any e = true /\ (e.on = j \/ (B.getD e.on 0).testBit j = true)
 | [], s, h=> .inl h
 | e :: l, s, h=> by
  rcases fold_bits l _ h with h1 | ⟨e', he, h1⟩
  ·simp only at h1
   by_cases hb : Region.binds .any e = true
   ·rw [if_pos hb, Nat.testBit_or, Nat.testBit_or, Nat.testBit_two_pow] at h1
    simp only [Bool.or_eq_true, decide_eq_true_eq] at h1
    rcases h1 with (h1 | h1) | h1
    ·exact .inl h1
    ·exact .inr ⟨e, List.mem_cons_self, hb, .inl h1⟩
    ·exact .inr ⟨e, List.mem_cons_self, hb, .inr h1⟩
   ·rw [if_neg hb] at h1
    exact .inl h1
  ·exact .inr ⟨e', List.mem_cons_of_mem _ he, h1⟩
theorem drawOk_ordered {E : Env} {ops : Array Oper} (h : drawOk E ops = true) : Ordered E ops fun i j=> ((Region.before ops).toList.getD i 0).testBit j = true:= by
 unfold drawOk at h
 simp only [List.all_eq_true, List.mem_range] at h
 have row : ∀ i o, ops[i]? = some o -> (∀ e ∈ o.after, Region.binds .any e = true -> e.on < i) /\
   ((Region.before ops).toList.getD i 0 = o.after.toList.foldl (fun s e=> if Region.binds .any e then s ||| 2 ^ e.on ||| (Region.before ops).toList.getD e.on 0 else s) 0) /\
   ∀ j p, ops[j]? = some p -> inOrder (Region.before ops).toList i j = true \/ (effS E o = false /\ ∀ d, p.dst = some d -> d ∉ o.looksAt ops /\ o.dst ≠ some d) := fun i o hi=> by
  have h1 := h i (Array.getElem?_eq_some_iff.1 hi).1
  rw [hi] at h1
  simp only [Bool.and_eq_true, List.all_eq_true, List.mem_range] at h1
  obtain ⟨⟨⟨_, h2⟩, h3⟩, h4⟩ := h1
  refine ⟨fun e he hb=> ?_, Nat.eq_of_beq_eq_true h3, fun j p hj=> ?_⟩
  ·have := h2 e (by simpa using he)
   rw [hb] at this
   simpa using this
  ·have h5 := h4 j (Array.getElem?_eq_some_iff.1 hj).1
   rw [hj] at h5
   simp only [Bool.or_eq_true, Bool.and_eq_true, Bool.not_eq_true'] at h5
   rcases h5 with h5 | ⟨h5, h6⟩
   ·exact .inl h5
   ·refine .inr ⟨h5, fun d hd=> ?_⟩
    rw [hd] at h6
    simp only [Bool.and_eq_true, Bool.not_eq_true', bne_iff_ne, looks] at h6
    exact ⟨by simpa using h6.1, h6.2⟩
 refine ⟨fun i o hi=> (row i o hi).1, fun i o j hi hp=> ?_, fun i j o p hi hj hne=> ?_⟩
 ·rw [(row i o hi).2.1] at hp
  rcases fold_bits _ _ hp with h1 | ⟨e, he, h1⟩
  ·simp at h1
  ·exact ⟨e, by simpa using he, h1⟩
 ·rcases (row i o hi).2.2 j p hj with h1 | h1
  ·unfold inOrder at h1
   simp only [Bool.or_eq_true] at h1
   rcases h1 with h1 | h1
   ·exact absurd (Nat.eq_of_beq_eq_true h1) hne
   ·exact .inl h1
  ·exact .inr h1
theorem pre_mem {E : Env} {ops : Array Oper} {pre : Nat -> Nat -> Prop} (ho : Ordered E ops pre) {X : Nat -> Prop} (hlt : ∀ i, X i -> i < ops.size) (hX : ∀ i o, ops[i]? = some o -> X i -> ∀ e ∈ o.after, Region.binds .any e = true -> X e.on) : ∀ (i : Nat) (o : Oper) (j : Nat), ops[i]? = some o -> pre i j ->
  (∀ e ∈ o.after, Region.binds .any e = true -> X e.on) -> X j:= by
 intro i
 induction i using Nat.strongRecOn with
 | _ i ih=>
  intro o j hi hp hall
  obtain ⟨e, he, hb, h1⟩ := ho.step i o j hi hp
  have hXe := hall e he hb
  rcases h1 with h1 | h1
  ·exact h1 ▸ hXe
  ·have hlt' := hlt _ hXe
   have hoe : ops[e.on]? = some ops[e.on] := Array.getElem?_eq_getElem hlt'
   exact ih e.on (ho.lt i o hi e he hb) _ j hoe h1 (hX _ _ hoe hXe)
end Go.Gx
end
section
/- A region whose order is open: any order comes to the same. The states between. -/
namespace Go.Gx
open Go.RowKit
section
variable {E : Env} {G : Cal -> List AV -> AV -> Prop} {ops : Array Oper} {rid : Nat}
def Site (rid i id : Nat) : Prop := (rid * 256 + i) * 4 <= id /\ id < (rid * 256 + i) * 4 + 4
theorem Site.ne {rid i j id : Nat} (h : Site rid i id) (h' : Site rid j id) : i = j:= by unfold Site at *; omega
def CurStep (E : Env) (o : Oper) (row row' : Nat -> Option Row) : Prop := ∀ id, row' id = row id \/ (rcls E id = ocls E o /\ ∃ r r', row id = some r /\ row' id = some r' /\ hidR E id r = true /\ hidR E id r' = true)
theorem step_rows {i : Nat} {o : Oper} {s s' : St} (h : StepR E G ops rid i o s s') : s'.nt = s.nt /\ (∀ k, i < k -> (∀ id, Site rid k id -> s.row id = none) -> ∀ id, Site rid k id -> s'.row id = none) /\
  (effS E o = false -> (∀ id, Site rid i id -> s.row id = none) ->
   (softO E o = false -> SubRow s.row s'.row /\ (∀ id, ¬ Site rid i id -> s'.row id = s.row id) /\ (E.so = true -> ∀ id r, Site rid i id -> s'.row id = some r -> hidR E id r = false)) /\
   (softO E o = true -> CurStep E o s.row s'.row) /\
   ∃ v, ∀ t, s'.slot t = if o.dst = some t then v else s.slot t):= by
 obtain ⟨hd, ⟨hw, u, h, rfl⟩ | ⟨hw, rfl⟩⟩ := h
 ·obtain ⟨h1, hz, h4, h5, h3, hsf, hnc⟩ := h.upd
  refine ⟨apply_nt _ _ _, fun k hk hf id hid=> ?_, fun hq hf=> ?_⟩
  ·have e1 : ((s.freeze u.frz).setRows u.news).row id = none:= by
    rw [hz]
    rcases (h1 s).2.1 id with e | ⟨p, hp, e⟩
    ·exact e.trans (hf id hid)
    ·have := ((h1 s).1 p hp).2
     unfold Site at hid
     omega
   have e2 : ∀ s2 : St, s2.row id = none -> ∀ j r, s.row j ≠ none -> (s2.setRow j r).row id = none := fun s2 h6 j r h7=> by
    rw [setRow_row, if_neg (by rintro rfl; exact h7 (hf id hid))]
    exact h6
   have e3 : ∀ (s2 : St) (j : Nat), s2.row id = none -> (s2.kill j (j + 1)).row id = none := fun s2 j h6=> by
    show killR j (j + 1) id (s2.row id) = none
    rw [h6, killR_none]
   unfold St.apply
   rw [(putO_row _ _ _).1]
   cases hsto : u.sto with
   | none=>
    cases happ : u.app with
    | none=> exact e1
    | some p=> obtain ⟨j, r⟩ := p; exact e2 _ (e3 _ _ e1) _ _ (h4 j r happ)
   | some q=>
    obtain ⟨k', r'⟩ := q
    cases happ : u.app with
    | none=> exact e2 _ e1 _ _ (h5 k' r' hsto)
    | some p=> obtain ⟨j, r⟩ := p; exact e2 _ (e2 _ (e3 _ _ e1) _ _ (h4 j r happ)) _ _ (h5 k' r' hsto)
  ·cases hso : softO E o with
   | false=>
    obtain ⟨h6, h7⟩ := h3 hq hso
    have e : s.apply o.dst u = (s.setRows u.news).putO o.dst u.v:= by
     unfold St.apply
     rw [hz, h6, h7]
     rfl
    rw [e]
    refine ⟨fun _=> ⟨fun id r hr=> ?_, fun id hid=> ?_, fun hE id r hid hr=> ?_⟩, fun h=> (by cases h), u.v, fun t=> ?_⟩
    ·rw [(putO_row _ _ _).1]
     rcases (h1 s).2.1 id with e | ⟨p, hp, e⟩
     ·rw [e]; exact hr
     ·have := hf id (by have := ((h1 s).1 p hp).2; unfold Site; omega)
      rw [hr] at this
      cases this
    ·rw [(putO_row _ _ _).1]
     rcases (h1 s).2.1 id with e | ⟨p, hp, e⟩
     ·exact e
     ·exact absurd (show Site rid i id by have := ((h1 s).1 p hp).2; unfold Site; omega) hid
    ·rw [(putO_row _ _ _).1] at hr
     rcases (h1 s).2.1 id with e | ⟨p, hp, e⟩
     ·rw [e, hf id hid] at hr; cases hr
     ·have h8 := ((h1 s).1 p hp).1
      rw [e, hr] at h8
      cases h8
      have := noCur_mem (hnc hE) p hp
      rwa [e] at this
    ·rw [putO_slot, (setRows_nt _ _).2]
   | true=>
    obtain ⟨h6, h7, h8, j, x, y, h9, h10, h11, h12, h13⟩ := softU_eq (hsf hso)
    have e : s.apply o.dst u = (s.setRow j y).putO o.dst u.v:= by
     unfold St.apply
     rw [h6, h7, h8, h9]
     rfl
    rw [e]
    refine ⟨fun h=> (by cases h), fun _ id=> ?_, u.v, fun t=> putO_slot _ _ _ _⟩
    rw [(putO_row _ _ _).1, setRow_row]
    by_cases e1 : id = j
    ·subst e1; rw [if_pos rfl]; exact .inr ⟨h11, _, _, h10, rfl, h12, h13⟩
    ·rw [if_neg e1]; exact .inl rfl
 ·refine ⟨(putO_row _ _ _).2, fun k hk hf id hid=> by rw [(putO_row _ _ _).1]; exact hf id hid, fun _ hf=> ⟨fun _=> ⟨fun id r hr=> by rw [(putO_row _ _ _).1]; exact hr, fun id _=> by rw [(putO_row _ _ _).1], fun _ id r hid hr=> by rw [(putO_row _ _ _).1, hf id hid] at hr; cases hr⟩, fun _ id=> .inl (by rw [(putO_row _ _ _).1]), undefV, fun t=> putO_slot _ _ _ _⟩⟩
variable {sq : Nat -> St} (hsq : ∀ i o, ops[i]? = some o -> StepR E G ops rid i o (sq i) (sq (i + 1))) (h0 : ∀ k, k < ops.size -> ∀ id, Site rid k id -> (sq 0).row id = none)
include hsq h0
theorem fresh_row : ∀ i, i <= ops.size -> ∀ k, i <= k -> k < ops.size -> ∀ id, Site rid k id -> (sq i).row id = none
 | 0, _, k, _, hk, id, hid=> h0 k hk id hid
 | i + 1, hi, k, hk, hk2, id, hid=> by
  have ho : ops[i]? = some ops[i] := Array.getElem?_eq_getElem (by omega)
  exact (step_rows (hsq i _ ho)).2.1 k (by omega) (fun id hid=> fresh_row i (by omega) k (by omega) hk2 id hid) id hid
omit h0 in
theorem nt_eq : ∀ i, i <= ops.size -> (sq i).nt = (sq 0).nt
 | 0, _=> rfl
 | i + 1, hi=> by
  have ho : ops[i]? = some ops[i] := Array.getElem?_eq_getElem (by omega)
  rw [(step_rows (hsq i _ ho)).1]
  exact nt_eq i (by omega)
theorem seg_rows {b e1 : Nat} (he : e1 <= ops.size) (hq : ∀ i o, b <= i -> i < e1 -> ops[i]? = some o -> effS E o = false) {i : Nat} (hb : b <= i) : ∀ d, i + d <= e1 ->
  (∀ id r, (sq i).row id = some r -> ∃ r', (sq (i + d)).row id = some r' /\ (r' = r \/ (hidR E id r = true /\ hidR E id r' = true /\ E.so = true))) /\
  (∀ id, (∀ k, i <= k -> k < i + d -> ¬ Site rid k id) -> (sq i).row id = none -> (sq (i + d)).row id = none) /\
  (E.so = true -> ∀ id r', (sq (i + d)).row id = some r' -> hidR E id r' = true -> ∃ r, (sq i).row id = some r /\ hidR E id r = true) /\
  (∀ id, (∀ j o, i <= j -> j < i + d -> ops[j]? = some o -> softO E o = true -> ocls E o ≠ rcls E id) -> ∀ r, (sq i).row id = some r -> (sq (i + d)).row id = some r)
 | 0, _=> ⟨fun id r h=> ⟨r, h, .inl rfl⟩, fun _ _ h=> h, fun _ id r h h'=> ⟨r, h, h'⟩, fun _ _ _ h=> h⟩
 | d + 1, hd=> by
  obtain ⟨h1, h2, h3, h4⟩ := seg_rows he hq hb d (by omega)
  have ho : ops[i + d]? = some ops[i + d] := Array.getElem?_eq_getElem (by omega)
  obtain ⟨k1, k2, _⟩ := (step_rows (hsq (i + d) _ ho)).2.2 (hq (i + d) _ (by omega) (by omega) ho) (fun id hid=> fresh_row hsq h0 (i + d) (by omega) (i + d) (Nat.le_refl _) (by omega) id hid)
  cases hso : softO E ops[i + d] with
  | false=>
   obtain ⟨k3, k4, k5⟩ := k1 hso
   refine ⟨fun id r h=> ?_, fun id hid h=> ?_, fun hE id r' h h'=> ?_, fun id hn r h=> k3 id r (h4 id (fun j o a b c=> hn j o a (by omega) c) r h)⟩
   ·obtain ⟨r', h5, h6⟩ := h1 id r h
    exact ⟨r', k3 id r' h5, h6⟩
   ·exact (k4 id (hid (i + d) (by omega) (by omega))).trans (h2 id (fun k a b=> hid k a (by omega)) h)
   ·by_cases hsite : Site rid (i + d) id
    ·rw [k5 hE id r' hsite h] at h'; cases h'
    ·exact h3 hE id r' ((k4 id hsite).symm.trans h) h'
  | true=>
   have k3 := k2 hso
   refine ⟨fun id r h=> ?_, fun id hid h=> ?_, fun hE id r' h h'=> ?_, fun id hn r h=> ?_⟩
   ·obtain ⟨r', h5, h6⟩ := h1 id r h
    rcases k3 id with e | ⟨_, r1, r2, e1, e2, e3, e4⟩
    ·exact ⟨r', e.trans h5, h6⟩
    ·rw [h5] at e1
     cases e1
     refine ⟨r2, e2, .inr ⟨?_, e4, by simp [softO] at hso; exact hso.1⟩⟩
     rcases h6 with rfl | h6
     ·exact e3
     ·exact h6.1
   ·have h5 := h2 id (fun k a b=> hid k a (by omega)) h
    rcases k3 id with e | ⟨_, r1, r2, e1, e2, e3, e4⟩
    ·exact e.trans h5
    ·rw [h5] at e1; cases e1
   ·rcases k3 id with e | ⟨_, r1, r2, e1, e2, e3, e4⟩
    ·exact h3 hE id r' (e.symm.trans h) h'
    ·exact h3 hE id r1 e1 e3
   ·have h5 := h4 id (fun j o a b c=> hn j o a (by omega) c) r h
    rcases k3 id with e | ⟨e, _⟩
    ·exact e.trans h5
    ·exact absurd e.symm (hn (i + d) _ (by omega) (by omega) ho hso)
theorem seg_slot {b e1 : Nat} (he : e1 <= ops.size) (hq : ∀ i o, b <= i -> i < e1 -> ops[i]? = some o -> effS E o = false) {i : Nat} (hb : b <= i) (hi : i < e1) {o : Oper} (ho : ops[i]? = some o) (t : Nat) (ht : o.dst ≠ some t) : (sq (i + 1)).slot t = (sq i).slot t:= by
 obtain ⟨_, _, v, hv⟩ := (step_rows (hsq i _ ho)).2.2 (hq i o hb hi ho) (fun id hid=> fresh_row hsq h0 i (by omega) i (Nat.le_refl _) (by omega) id hid)
 rw [hv, if_neg ht]
end
def rx (E : Env) (sq : Nat -> St) (m : Nat -> Nat) (e1 : Nat) : Nat -> Option Row := fun id=> match (sq e1).row id with
 | some r=> match hidR E id r with
  | true=> (sq (m (rcls E id))).row id
  | false=> some r
 | none=> none
theorem rx_self (E : Env) (sq : Nat -> St) {m : Nat -> Nat} {e1 : Nat} (h : ∀ c, m c = e1) : rx E sq m e1 = (sq e1).row:= by
 funext id
 unfold rx
 cases hr : (sq e1).row id with
 | none=> rfl
 | some r=>
  cases hc : hidR E id r
  ·simp only [hc]
  ·simp only [hc, h, hr]
theorem rx_cur {E : Env} {sq : Nat -> St} {m : Nat -> Nat} {e1 id : Nat} {r : Row} (h : (sq e1).row id = some r) (hc : hidR E id r = true) : rx E sq m e1 id = (sq (m (rcls E id))).row id:= by unfold rx; simp only [h, hc]
theorem rx_non {E : Env} {sq : Nat -> St} {m : Nat -> Nat} {e1 id : Nat} {r : Row} (h : (sq e1).row id = some r) (hc : hidR E id r = false) : rx E sq m e1 id = some r:= by unfold rx; simp only [h, hc]
theorem rx_none {E : Env} {sq : Nat -> St} {m : Nat -> Nat} {e1 id : Nat} (h : (sq e1).row id = none) : rx E sq m e1 id = none:= by unfold rx; simp only [h]
section
variable {E : Env} {sq : Nat -> St} {i e1 : Nat} {m : Nat -> Nat} (h1 : ∀ id r, (sq i).row id = some r -> ∃ r', (sq e1).row id = some r' /\ (r' = r \/ (hidR E id r = true /\ hidR E id r' = true /\ E.so = true)))
include h1
theorem rx_sub (hm : ∀ id r, (sq i).row id = some r -> (sq (m (rcls E id))).row id = some r) : SubRow (sq i).row (rx E sq m e1) := fun id r h=> by
 obtain ⟨r', h2, h3⟩ := h1 id r h
 cases hc : hidR E id r' with
 | true=> rw [rx_cur h2 hc]; exact hm id r h
 | false=>
  rw [rx_non h2 hc]
  rcases h3 with rfl | h3
  ·rfl
  ·rw [h3.2.1] at hc; cases hc
theorem rx_hideO {c : Nat} (hm : m c = i) : SubRow (hideO E c (sq i).row) (hideO E c (rx E sq m e1)) := fun id r h=> by
 have h2 := hideO_sub E c _ _ _ h
 have hc := hideO_no h
 obtain ⟨r', h3, h4⟩ := h1 id r h2
 cases hh : hidR E id r' with
 | true=>
  have hr : hidR E id r = true:= by
   rcases h4 with rfl | h4
   ·exact hh
   ·exact h4.1
  have hcl : rcls E id = c:= by
   rw [hr] at hc
   simp only [Bool.true_and, Bool.not_eq_false'] at hc
   exact Nat.eq_of_beq_eq_true hc
  refine hideO_at ?_ hc
  rw [rx_cur h3 hh, hcl, hm]
  exact h2
 | false=>
  refine hideO_at ?_ hc
  rw [rx_non h3 hh]
  rcases h4 with rfl | h4
  ·rfl
  ·rw [h4.2.1] at hh; cases hh
theorem rx_hide : SubRow (hideC E (sq i).row) (hideC E (rx E sq m e1)) := fun id r h=> by
 have h2 := hide_sub E _ _ _ h
 have hc : hidR E id r = false:= by
  unfold hideC at h
  rw [h2] at h
  cases hc : hidR E id r with
  | true=> simp only [hc] at h; cases h
  | false=> rfl
 obtain ⟨r', h3, h4⟩ := h1 id r h2
 rcases h4 with rfl | h4
 ·exact hide_at (rx_non h3 hc) hc
 ·rw [h4.1] at hc; cases hc
end
def ovl (ops : Array Oper) (sq : Nat -> St) (X : Nat -> Bool) (b : Nat) : Nat -> Nat -> AV
 | 0, t=> (sq b).slot t
 | m + 1, t=> match X (b + m), ops[b + m]? with
  | true, some o=> if o.dst = some t then (sq (b + m + 1)).slot t else ovl ops sq X b m t
  | _, _=> ovl ops sq X b m t
section
variable {ops : Array Oper} {sq : Nat -> St} {X : Nat -> Bool} {b : Nat}
theorem ovl_succ_no {m t : Nat} (h : X (b + m) = false \/ ∀ o, ops[b + m]? = some o -> o.dst ≠ some t) : ovl ops sq X b (m + 1) t = ovl ops sq X b m t:= by
 simp only [ovl]
 split
 ·rename_i o h1 h2
  rcases h with h | h
  ·rw [h] at h1; cases h1
  ·rw [if_neg (h o h2)]
 ·rfl
theorem ovl_succ_yes {m t : Nat} {o : Oper} (h : X (b + m) = true) (ho : ops[b + m]? = some o) (hd : o.dst = some t) : ovl ops sq X b (m + 1) t = (sq (b + m + 1)).slot t:= by
 simp only [ovl, h, ho, hd, if_true]
theorem ovl_stay {k t : Nat} : ∀ {m : Nat}, k <= m -> (∀ i, b + k <= i -> i < b + m -> X i = false \/ ∀ o, ops[i]? = some o -> o.dst ≠ some t) -> ovl ops sq X b m t = ovl ops sq X b k t
 | 0, h, _=> by
  have : k = 0:= by omega
  subst this; rfl
 | m + 1, h, hn=> by
  by_cases e : k = m + 1
  ·subst e; rfl
  ·rw [ovl_succ_no (hn (b + m) (by omega) (by omega))]
   exact ovl_stay (by omega) fun i h1 h2=> hn i h1 (by omega)
theorem ovl_seq {t : Nat} : ∀ {m : Nat}, (∀ i, b <= i -> i < b + m -> ∃ o, ops[i]? = some o /\ (o.dst = some t -> X i = true) /\ (o.dst ≠ some t -> (sq (i + 1)).slot t = (sq i).slot t)) -> ovl ops sq X b m t = (sq (b + m)).slot t
 | 0, _=> rfl
 | m + 1, h=> by
  obtain ⟨o, ho, h1, h2⟩ := h (b + m) (by omega) (by omega)
  by_cases hd : o.dst = some t
  ·rw [ovl_succ_yes (h1 hd) ho hd]; rfl
  ·rw [ovl_succ_no (.inr fun o' ho'=> by rw [ho] at ho'; cases ho'; exact hd), ovl_seq fun i hi1 hi2=> h i hi1 (by omega)]
   exact (h2 hd).symm
theorem ovl_congr {X' : Nat -> Bool} {t : Nat} : ∀ {m : Nat}, (∀ i, b <= i -> i < b + m -> X' i = X i \/ ∀ o, ops[i]? = some o -> o.dst ≠ some t) -> ovl ops sq X' b m t = ovl ops sq X b m t
 | 0, _=> rfl
 | m + 1, h=> by
  have ih := ovl_congr (m := m) fun i h1 h2=> h i h1 (by omega)
  rcases h (b + m) (by omega) (by omega) with h1 | h1
  ·simp only [ovl, h1, ih]
  ·rw [ovl_succ_no (.inr h1), ovl_succ_no (.inr h1), ih]
end
end Go.Gx
end
section
/- A region whose order is open: any order comes to the same. -/
namespace Go.Gx
open Go.RowKit
theorem Sim.rows {w0 : World} {B : Old} {pv : Nat -> Value} {S : Nat -> Prop} {ρ : Nat -> Option Loc} {st : St} {a : Act} {w : World} (h : Sim w0 B pv S ρ st a w) {row' : Nat -> Option Row} (hr : ∀ id l, ρ id = some l -> row' id = st.row id) : Sim w0 B pv S ρ ⟨st.slot, row', st.nt⟩ a w :=
 h.grow h.below (Nat.le_refl _) (fun _ _=> rfl) (fun _ h=> h) (fun _ h=> .inl h) (fun id l h1=> ⟨h1, hr id l h1⟩) (fun id r l h1 h2=> by rw [h1] at h2; cases h2) (fun id id' g c c' h1 _ h2=> by rw [h1] at h2; cases h2)
theorem Sim.slotsEq {w0 : World} {B : Old} {pv : Nat -> Value} {S : Nat -> Prop} {ρ : Nat -> Option Loc} {st : St} {a : Act} {w : World} (h : Sim w0 B pv S ρ st a w) {st' : St} (h1 : ∀ t, st'.slot t = st.slot t) (h2 : st'.row = st.row) (h3 : st'.nt = st.nt) : Sim w0 B pv S ρ st' a w :=
 h.cong (funext h1) h2 h3
theorem nextEff {E : Env} {ops : Array Oper} : ∀ (d b : Nat), b + d = ops.size -> ∃ e1, b <= e1 /\ e1 <= ops.size /\ (∀ i o, b <= i -> i < e1 -> ops[i]? = some o -> effS E o = false) /\ (e1 = ops.size \/ ∃ o, ops[e1]? = some o /\ effS E o = true)
 | 0, b, h=> ⟨b, Nat.le_refl _, by omega, fun i o h1 h2=> by omega, .inl (by omega)⟩
 | d + 1, b, h=> by
  have ho : ops[b]? = some ops[b] := Array.getElem?_eq_getElem (by omega)
  cases hb : effS E ops[b] with
  | true=> exact ⟨b, Nat.le_refl _, by omega, fun i o h1 h2=> by omega, .inr ⟨_, ho, hb⟩⟩
  | false=>
   obtain ⟨e1, h1, h2, h3, h4⟩ := nextEff (E := E) (ops := ops) d (b + 1) (by omega)
   refine ⟨e1, by omega, h2, fun i o h5 h6 h7=> ?_, h4⟩
   by_cases e : i = b
   ·subst e; rw [ho] at h7; cases h7; exact hb
   ·exact h3 i o (by omega) h6 h7
theorem nextSoft {E : Env} {ops : Array Oper} (c : Nat) : ∀ (d b : Nat), b + d <= ops.size -> ∃ m, b <= m /\ m <= b + d /\ (∀ i o, b <= i -> i < m -> ops[i]? = some o -> softO E o = true -> ocls E o ≠ c) /\ (m = b + d \/ ∃ o, ops[m]? = some o /\ softO E o = true /\ ocls E o = c)
 | 0, b, h=> ⟨b, Nat.le_refl _, Nat.le_refl _, fun i o h1 h2=> by omega, .inl rfl⟩
 | d + 1, b, h=> by
  have ho : ops[b]? = some ops[b] := Array.getElem?_eq_getElem (by omega)
  by_cases hb : softO E ops[b] = true /\ ocls E ops[b] = c
  ·exact ⟨b, Nat.le_refl _, by omega, fun i o h1 h2=> by omega, .inr ⟨_, ho, hb⟩⟩
  ·obtain ⟨m, h1, h2, h3, h4⟩ := nextSoft (E := E) (ops := ops) c d (b + 1) (by omega)
   refine ⟨m, by omega, by omega, fun i o h5 h6 h7 h8=> ?_, h4.imp (fun e=> by omega) _root_.id⟩
   by_cases e : i = b
   ·subst e; rw [ho] at h7; cases h7; exact fun e=> hb ⟨h8, e⟩
   ·exact h3 i o (by omega) h6 h7 h8
theorem nextSofts {E : Env} {ops : Array Oper} {b e1 : Nat} (hb : b <= e1) (he : e1 <= ops.size) : ∃ m : Nat -> Nat, ∀ c, b <= m c /\ m c <= e1 /\ (∀ i o, b <= i -> i < m c -> ops[i]? = some o -> softO E o = true -> ocls E o ≠ c) /\ (m c = e1 \/ ∃ o, ops[m c]? = some o /\ softO E o = true /\ ocls E o = c):= by
 have h : ∀ c, ∃ m, b <= m /\ m <= e1 /\ (∀ i o, b <= i -> i < m -> ops[i]? = some o -> softO E o = true -> ocls E o ≠ c) /\ (m = e1 \/ ∃ o, ops[m]? = some o /\ softO E o = true /\ ocls E o = c) := fun c=> by
  have := nextSoft (E := E) (ops := ops) c (e1 - b) b (by omega)
  rwa [show b + (e1 - b) = e1 by omega] at this
 exact ⟨fun c=> Classical.choose (h c), fun c=> Classical.choose_spec (h c)⟩
theorem wantY_congr {ops : Array Oper} {o : Oper} {s s' : St} (h : ∀ t ∈ o.looksAt ops, s'.slot t = s.slot t) (hw : WantY ops o s) : WantY ops o s':= by
 rcases hw with hw | ⟨j, b, g, d, h1, h2, h3, h4⟩
 ·exact .inl hw
 ·refine .inr ⟨j, b, g, d, h1, h2, h3, ?_⟩
  rw [h d (by simp [Oper.looksAt, h1, h2, h3])]; exact h4
theorem wantN_congr {ops : Array Oper} {o : Oper} {s s' : St} (h : ∀ t ∈ o.looksAt ops, s'.slot t = s.slot t) (hw : WantN ops o s) : WantN ops o s':= by
 obtain ⟨j, b, h1, h2 | ⟨g, h2, h3 | ⟨d, h3, h4⟩⟩⟩ := hw
 ·exact ⟨j, b, h1, .inl h2⟩
 ·exact ⟨j, b, h1, .inr ⟨g, h2, .inl h3⟩⟩
 ·refine ⟨j, b, h1, .inr ⟨g, h2, .inr ⟨d, h3, ?_⟩⟩⟩
  rw [h d (by simp [Oper.looksAt, h1, h2, h3])]; exact h4
theorem setRows_same {l : List (Nat × Row)} {st : St} (h : ∀ p ∈ l, st.row p.1 = some p.2) : st.setRows l = st:= by
 induction l with
 | nil=> rfl
 | cons p l ih=>
  have e : st.setRow p.1 p.2 = st:= by
   have : (st.setRow p.1 p.2).row = st.row:= by
    funext j
    rw [setRow_row]
    by_cases e : j = p.1
    ·subst e; rw [if_pos rfl, h p List.mem_cons_self]
    ·rw [if_neg e]
   cases st
   simp only [St.setRow] at this ⊢
   rw [this]
  show (st.setRow p.1 p.2).setRows l = st
  rw [e]
  exact ih fun q hq=> h q (List.mem_cons_of_mem _ hq)
section
variable {P : Program} {E : Env} {w0 : World} {B : Old} {pv : Nat -> Value} {G : Cal -> List AV -> AV -> Prop} {Q : Exit -> Act -> World -> Prop} {ops : Array Oper} {rid : Nat} {S0 : Nat -> Prop} {sq : Nat -> St} {pre : Nat -> Nat -> Prop}
def Inv (E : Env) (w0 : World) (B : Old) (pv : Nat -> Value) (ops : Array Oper) (rid : Nat) (S0 : Nat -> Prop) (sq : Nat -> St) (X : Nat -> Bool) (S : Nat -> Prop) (ρ : Nat -> Option Loc) (a : Act) (w : World) : Prop :=
 ∃ b, ∃ m : Nat -> Nat, ∃ e1, b <= e1 /\ (∀ c, b <= m c /\ m c <= e1) /\ e1 <= ops.size /\ (∀ i, i < b -> X i = true) /\ (∀ i, e1 <= i -> X i = false) /\ (∀ i o, b <= i -> i < e1 -> ops[i]? = some o -> effS E o = false) /\ (e1 = ops.size \/ ∃ o, ops[e1]? = some o /\ effS E o = true) /\
  (∀ i o, b <= i -> i < m (ocls E o) -> ops[i]? = some o -> softO E o = true -> X i = true) /\ (∀ i o, m (ocls E o) <= i -> ops[i]? = some o -> softO E o = true -> X i = false) /\ (∀ c, m c = e1 \/ ∃ o, ops[m c]? = some o /\ softO E o = true /\ ocls E o = c) /\
  Sim w0 B pv S ρ ⟨ovl ops sq X b (e1 - b), rx E sq m e1, (sq 0).nt⟩ a w /\ GlOk E pv S w /\ (∀ i, i < ops.size -> X i = false -> ∀ id, Site rid i id -> ρ id = none) /\
  (∀ i o, ops[i]? = some o -> X i = true -> ∀ e ∈ o.after, Region.binds .any e = true -> X e.on = true) /\ Grew B S0 S
variable (hE : EnvOk P E) (hG : GOk P E pv G) (hO : Ordered E ops pre) (hSo : ∀ i j o p, ops[i]? = some o -> ops[j]? = some p -> softO E o = true -> softO E p = true -> ocls E o = ocls E p -> i ≠ j -> pre (max i j) (min i j)) (hsq : ∀ i o, ops[i]? = some o -> StepR E G ops rid i o (sq i) (sq (i + 1))) (h0 : ∀ k, k < ops.size -> ∀ id, Site rid k id -> (sq 0).row id = none)
include hsq h0
theorem startSeg {X : Nat -> Bool} {b : Nat} (hb : b <= ops.size) (h1 : ∀ i, i < b -> X i = true) (h2 : ∀ i, b <= i -> X i = false) {S : Nat -> Prop} {ρ : Nat -> Option Loc} {a : Act} {w : World} (hs : Sim w0 B pv S ρ (sq b) a w) (hgl : GlOk E pv S w)
  (hρ : ∀ i, i < ops.size -> X i = false -> ∀ id, Site rid i id -> ρ id = none) (hX : ∀ i o, ops[i]? = some o -> X i = true -> ∀ e ∈ o.after, Region.binds .any e = true -> X e.on = true) (hS : Grew B S0 S) : Inv E w0 B pv ops rid S0 sq X S ρ a w:= by
 obtain ⟨e1, h3, h4, h5, h6⟩ := nextEff (E := E) (ops := ops) (ops.size - b) b (by omega)
 obtain ⟨m, hm⟩ := nextSofts (E := E) (ops := ops) h3 h4
 refine ⟨b, m, e1, h3, fun c=> ⟨(hm c).1, (hm c).2.1⟩, h4, h1, fun i hi=> h2 i (by omega), h5, h6, fun i o a c d e=> absurd rfl ((hm _).2.2.1 i o a c d e), fun i o a _ _=> h2 i (by have := (hm (ocls E o)).1; omega), fun c=> (hm c).2.2.2, ?_, hgl, hρ, hX, hS⟩
 obtain ⟨k1, k2, _, _⟩ := seg_rows hsq h0 h4 h5 (Nat.le_refl b) (e1 - b) (by omega)
 rw [show b + (e1 - b) = e1 by omega] at k1 k2
 have hsub := rx_sub (m := m) k1 fun id r hr=> by
  obtain ⟨q1, q2, q3, _⟩ := hm (rcls E id)
  have k4 := (seg_rows hsq h0 h4 h5 (Nat.le_refl b) (m (rcls E id) - b) (by omega)).2.2.2 id
  rw [show b + (m (rcls E id) - b) = m (rcls E id) by omega] at k4
  exact k4 (fun j o a c d e=> q3 j o a c d e) r hr
 have hz := hs.rows (row' := rx E sq m e1) fun id l hl=> by
  cases hr : (sq b).row id with
  | some r=> exact hsub id r hr
  | none=> exact rx_none (k2 id (fun k hk1 hk2 hsite=> by
    rw [hρ k (by omega) (h2 k hk1) id hsite] at hl
    cases hl) hr)
 refine hz.slotsEq (fun t=> ?_) rfl (nt_eq hsq b hb).symm
 exact ovl_stay (k := 0) (Nat.zero_le _) fun i hi _=> .inl (h2 i (by omega))
include hE hG hO hSo in
theorem inv_step {X X' : Nat -> Bool} {i : Nat} {o : Oper} {S : Nat -> Prop} {ρ : Nat -> Option Loc} {a : Act} {w : World} (hn : ops.size <= 256) (h : Inv E w0 B pv ops rid S0 sq X S ρ a w) (ho : ops[i]? = some o) (hi : X i = false) (hready : ∀ e ∈ o.after, Region.binds .any e = true -> X e.on = true)
  (hX' : ∀ j, X' j = if j = i then true else X j) {K : Act -> World -> Prop} (hK : ∀ S' ρ' a' w', Inv E w0 B pv ops rid S0 sq X' S' ρ' a' w' -> K a' w') : wpOp P ops Q i K a w:= by
 obtain ⟨b, m, e1, hbe, hmm, hen, hX1, hX2, hq, heff, hm1, hm2, hm3, hs, hgl, hρ, hcl, hS⟩ := h
 have hin : i < ops.size := (Array.getElem?_eq_some_iff.1 ho).1
 have hbi : b <= i:= by
  apply Classical.byContradiction
  intro hlt
  rw [hX1 i (by omega)] at hi
  cases hi
 have hXlt : ∀ j, X j = true -> j < ops.size := fun j hj=> by
  apply Classical.byContradiction
  intro hge
  rw [hX2 j (by omega)] at hj
  cases hj
 have hpre : ∀ j, pre i j -> X j = true := fun j hp=> pre_mem hO (X := fun j=> X j = true) hXlt hcl i o j ho hp hready
 have hpost : ∀ j, pre j i -> X j = false := fun j hp=> by
  cases hj : X j with
  | false=> rfl
  | true=>
   have hjl := hXlt j hj
   have hoj : ops[j]? = some ops[j] := Array.getElem?_eq_getElem hjl
   have := pre_mem hO (X := fun j=> X j = true) hXlt hcl j _ i hoj hp (hcl j _ hoj hj)
   rw [hi] at this
   cases this
 have hcl' : ∀ j o', ops[j]? = some o' -> X' j = true -> ∀ e ∈ o'.after, Region.binds .any e = true -> X' e.on = true := fun j o' hj hXj e he hb=> by
  rw [hX'] at hXj ⊢
  split
  ·rfl
  ·by_cases e' : j = i
   ·subst e'; rw [ho] at hj; cases hj; exact hready e he hb
   ·rw [if_neg e'] at hXj; exact hcl j o' hj hXj e he hb
 have hid : ∀ c, c < 4 -> ρ ((rid * 256 + i) * 4 + c) = none := fun c hc=> hρ i hin hi _ (by unfold Site; omega)
 have hρ' : ∀ ρ' : Nat -> Option Loc, (∀ j, ρ j = none -> ¬ ((rid * 256 + i) * 4 <= j /\ j < (rid * 256 + i) * 4 + 4) -> ρ' j = none) -> ∀ j, j < ops.size -> X' j = false -> ∀ id, Site rid j id -> ρ' id = none := fun ρ' hk j hj hXj id hsite=> by
  rw [hX'] at hXj
  split at hXj
  ·cases hXj
  ·rename_i e
   exact hk id (hρ j hj hXj id hsite) fun hsite'=> e (Site.ne hsite hsite')
 have hstep := hsq i o ho
 unfold wpOp
 rw [ho]
 simp only
 by_cases hlt : i < e1
 · -- within the stretch
  have hqi := hq i o hbi hlt ho
  have hfr := fresh_row hsq h0 i (by omega) i (Nat.le_refl _) hin
  have hlooks : ∀ t ∈ o.looksAt ops, ovl ops sq X b (e1 - b) t = (sq i).slot t := fun t ht=> by
   have hord : ∀ j p, ops[j]? = some p -> i ≠ j -> p.dst = some t -> pre (max i j) (min i j) := fun j p hp hne hd=> by
    rcases hO.ord i j o p ho hp hne with h1 | ⟨_, h1⟩
    ·exact h1
    ·exact absurd ht (h1 t hd).1
   rw [ovl_stay (k := i - b) (by omega) fun j hj1 hj2=> ?_, ovl_seq fun j hj1 hj2=> ?_, show b + (i - b) = i by omega]
   ·have hj : j < ops.size:= by omega
    have hoj : ops[j]? = some ops[j] := Array.getElem?_eq_getElem hj
    refine ⟨_, hoj, fun hd=> ?_, fun hd=> seg_slot hsq h0 hen hq hj1 (by omega) hoj t hd⟩
    have := hord j _ hoj (by omega) hd
    rw [Nat.max_eq_left (by omega), Nat.min_eq_right (by omega)] at this
    exact hpre j this
   ·by_cases e : j = i
    ·subst e; exact .inl hi
    ·by_cases hd : ∃ p, ops[j]? = some p /\ p.dst = some t
     ·obtain ⟨p, hp, hd⟩ := hd
      have := hord j p hp (fun h=> e h.symm) hd
      rw [Nat.max_eq_right (by omega), Nat.min_eq_left (by omega)] at this
      exact .inl (hpost j this)
     ·exact .inr fun p hp hd'=> hd ⟨p, hp, hd'⟩
  obtain ⟨hseg, _, hcur, _⟩ := seg_rows hsq h0 hen hq hbi (e1 - i) (by omega)
  rw [show i + (e1 - i) = e1 by omega] at hseg hcur
  obtain ⟨hseg1, hnone1, hcur1, _⟩ := seg_rows hsq h0 hen hq (show b <= i + 1 by omega) (e1 - (i + 1)) (by omega)
  rw [show i + 1 + (e1 - (i + 1)) = e1 by omega] at hseg1 hnone1 hcur1
  have hsr := (step_rows (hsq i o ho)).2.2 hqi (fun id hid=> hfr id hid)
  -- what is seen afterwards
  have hovl : ∀ v, (∀ t, (sq (i + 1)).slot t = if o.dst = some t then v else (sq i).slot t) -> ∀ t, ovl ops sq X' b (e1 - b) t = if o.dst = some t then v else ovl ops sq X b (e1 - b) t := fun v hv t=> by
   by_cases hd : o.dst = some t
   ·rw [if_pos hd, ovl_stay (k := i - b + 1) (by omega) fun j hj1 hj2=> ?_, ovl_succ_yes (o := o) (by rw [show b + (i - b) = i by omega, hX', if_pos rfl]) (by rw [show b + (i - b) = i by omega]; exact ho) hd,
     show b + (i - b) + 1 = i + 1 by omega, hv, if_pos hd]
    by_cases hdj : ∃ p, ops[j]? = some p /\ p.dst = some t
    ·obtain ⟨p, hp, hdj⟩ := hdj
     rcases hO.ord i j o p ho hp (by omega) with h1 | ⟨_, h1⟩
     ·rw [Nat.max_eq_right (by omega), Nat.min_eq_left (by omega)] at h1
      exact .inl (by rw [hX', if_neg (by omega)]; exact hpost j h1)
     ·exact absurd hd (h1 t hdj).2
    ·exact .inr fun p hp hd'=> hdj ⟨p, hp, hd'⟩
   ·rw [if_neg hd]
    refine ovl_congr fun j _ _=> ?_
    by_cases e : j = i
    ·subst e
     exact .inr fun p hp=> by rw [ho] at hp; cases hp; exact hd
    ·exact .inl (by rw [hX', if_neg e])
  have fin : ∀ S' ρ' a' w' v (m' : Nat -> Nat), (∀ t, (sq (i + 1)).slot t = if o.dst = some t then v else (sq i).slot t) -> (∀ c, b <= m' c /\ m' c <= e1) -> (∀ j p, b <= j -> j < m' (ocls E p) -> ops[j]? = some p -> softO E p = true -> X' j = true) -> (∀ j p, m' (ocls E p) <= j -> ops[j]? = some p -> softO E p = true -> X' j = false) -> (∀ c, m' c = e1 \/ ∃ o, ops[m' c]? = some o /\ softO E o = true /\ ocls E o = c) ->
    Sim w0 B pv S' ρ' ((⟨ovl ops sq X b (e1 - b), rx E sq m' e1, (sq 0).nt⟩ : St).putO o.dst v) a' w' -> GlOk E pv S' w' -> Grew B S S' ->
    (∀ j, ρ j = none -> ¬ ((rid * 256 + i) * 4 <= j /\ j < (rid * 256 + i) * 4 + 4) -> ρ' j = none) -> K a' w' := fun S' ρ' a' w' v m' hv n1 n3 n4 n5 hs' hgl' hS' hk=> by
   refine hK S' ρ' a' w' ⟨b, m', e1, hbe, n1, hen, fun j hj=> by rw [hX', if_neg (by omega)]; exact hX1 j hj, fun j hj=> by rw [hX', if_neg (by omega)]; exact hX2 j hj, hq, heff, n3, n4, n5, ?_, hgl', hρ' ρ' hk, hcl', hS.trans hS'⟩
   refine hs'.slotsEq (fun t=> ?_) (putO_row (⟨ovl ops sq X b (e1 - b), rx E sq m' e1, (sq 0).nt⟩ : St) o.dst v).1.symm (putO_row (⟨ovl ops sq X b (e1 - b), rx E sq m' e1, (sq 0).nt⟩ : St) o.dst v).2.symm
   rw [putO_slot]
   exact hovl v hv t
  cases hso : softO E o with
  | false=>
   -- no cursor is changed
   obtain ⟨ssub, sout, scur⟩ := hsr.1 hso
   have n3 : ∀ j p, b <= j -> j < m (ocls E p) -> ops[j]? = some p -> softO E p = true -> X' j = true := fun j p a c d e=> by
    rw [hX']; split
    ·rfl
    ·exact hm1 j p a c d e
   have n4 : ∀ j p, m (ocls E p) <= j -> ops[j]? = some p -> softO E p = true -> X' j = false := fun j p a d e=> by
    rw [hX', if_neg (by rintro rfl; rw [ho] at d; cases d; rw [hso] at e; cases e)]
    exact hm2 j p a d e
   obtain ⟨hd, ⟨hw, u, hop, hsu⟩ | ⟨hw, hsu⟩⟩ := hstep
   ·have hwX := wantY_congr (s' := (⟨ovl ops sq X b (e1 - b), rx E sq m e1, (sq 0).nt⟩ : St)) hlooks hw
    rw [if_pos (want_y hs hwX)]
    obtain ⟨hnews, hfz, _, _, hquiet, _, hnc⟩ := hop.upd
    obtain ⟨happ, hsto⟩ := hquiet hqi hso
    have hev : ∀ x ∈ o.op.operands, ev E (⟨ovl ops sq X b (e1 - b), rx E sq m e1, (sq 0).nt⟩ : St) x = ev E (sq i) x := fun x hx=> by
     cases x with
     | tmp t=>
      refine hlooks t (List.mem_append_left _ (List.mem_filterMap.2 ⟨.tmp t, by simpa using hx, rfl⟩))
     | _=> rfl
    have hopX : AOpS E (clG (clM E true ops o) G) true o ((rid * 256 + i) * 4) (ev E (⟨ovl ops sq X b (e1 - b), rx E sq m e1, (sq 0).nt⟩ : St)) (rx E sq m e1) u:= by
     rcases hop with ⟨hE0, hop⟩ | ⟨hE1, ⟨hf, _⟩ | ⟨hf, hb, u0, hop, hu⟩ | ⟨hf, hb, hop, hu⟩ | ⟨hf, hop, hu⟩⟩
     ·have hme' : ∀ c, m c = e1 := fun c=> by
       rcases hm3 c with e | ⟨p, _, e, _⟩
       ·exact e
       ·simp [softO, hE0] at e
      refine .inl ⟨hE0, hop.mono hev fun id r hr=> ?_⟩
      obtain ⟨r', h5, h6⟩ := hseg id r hr
      rcases h6 with rfl | h6
      ·show rx E sq m e1 id = some r'
       rw [rx_self E sq hme']; exact h5
      ·rw [hE0] at h6; cases h6.2.2
     ·simp [softO, hE1, hf] at hso
     ·exact .inr ⟨hE1, .inr (.inl ⟨hf, hb, u0, hop.mono hev (rx_hide hseg), hu⟩)⟩
     ·exact .inr ⟨hE1, .inr (.inr (.inl ⟨hf, hb, hop.mono hev (rx_hide hseg), hu⟩))⟩
     ·exact .inr ⟨hE1, .inr (.inr (.inr ⟨hf, hop.mono hev (rx_hide hseg), hu⟩))⟩
    have happly : ∀ s : St, s.apply o.dst u = (s.setRows u.news).putO o.dst u.v := fun s=> by
     unfold St.apply
     rw [hfz, happ, hsto]
     rfl
    refine .inl (step_okS hE (hG.cl _) hs hgl (by rw [<- nt_eq hsq i (by omega)]; exact hd) hid hopX fun S' ρ' a' w' hs' hgl' hS' hk=> ?_)
    rw [happly, setRows_same fun p hp=> ?_] at hs'
    ·refine fin S' ρ' a' w' u.v m (fun t=> ?_) hmm n3 n4 hm3 hs' hgl' hS' hk
     rw [hsu, happly, putO_slot, (setRows_nt _ _).2]
    ·have h9 : (sq (i + 1)).row p.1 = some p.2:= by
      rw [hsu, happly, (putO_row _ _ _).1]
      exact ((hnews (sq i)).1 p hp).1
     obtain ⟨r', h5, h6⟩ := hseg1 _ _ h9
     show rx E sq m e1 p.1 = some p.2
     rcases h6 with rfl | h6
     ·cases hE0 : E.so with
      | false=>
       have hme' : ∀ c, m c = e1 := fun c=> by
        rcases hm3 c with e | ⟨p, _, e, _⟩
        ·exact e
        ·simp [softO, hE0] at e
       rw [rx_self E sq hme']; exact h5
      | true=> exact rx_non h5 (noCur_mem (hnc hE0) p hp)
     ·rw [noCur_mem (hnc h6.2.2) p hp] at h6
      cases h6.1
   ·have hwX := wantN_congr (s' := (⟨ovl ops sq X b (e1 - b), rx E sq m e1, (sq 0).nt⟩ : St)) hlooks hw
    rw [want_n hs hwX]
    refine fin S ρ _ w undefV m (fun t=> ?_) hmm n3 n4 hm3 (hs.put (dst_lt (by rw [<- nt_eq hsq i (by omega)]; exact hd)) vr_undef) hgl (Grew.refl _ _) (fun j hj _=> hj)
    rw [hsu, putO_slot]
  | true=>
   -- a cursor's call: it is the next one
   have him : m (ocls E o) = i:= by
    apply Classical.byContradiction
    intro hne
    by_cases hlt' : i < m (ocls E o)
    ·rw [hm1 i o hbi hlt' ho hso] at hi; cases hi
    ·rcases hm3 (ocls E o) with e | ⟨p, hp, hsp, hcp⟩
     ·omega
     ·have := hSo i _ o p ho hp hso hsp hcp.symm (fun e=> hne e.symm)
      rw [Nat.max_eq_left (by omega), Nat.min_eq_right (by omega)] at this
      have h5 := hpre _ this
      rw [hm2 _ p (by rw [hcp]; exact Nat.le_refl _) hp hsp] at h5
      cases h5
   have heq : i + 1 + (e1 - (i + 1)) = e1:= by clear hm1 hm2 hm3 hmm; omega
   obtain ⟨mn, p1, p2, p3, p4⟩ := nextSoft (E := E) (ops := ops) (ocls E o) (e1 - (i + 1)) (i + 1) (by omega)
   rw [heq] at p2 p4
   have hEs : E.so = true:= by simp [softO] at hso; exact hso.1
   have hmc : ∀ c, (if c = ocls E o then mn else m c) = if c = ocls E o then mn else m c := fun _=> rfl
   have n1 : ∀ c, b <= (if c = ocls E o then mn else m c) /\ (if c = ocls E o then mn else m c) <= e1 := fun c=> by
    split
    ·exact ⟨by omega, p2⟩
    ·exact hmm c
   have n3 : ∀ j p, b <= j -> j < (if ocls E p = ocls E o then mn else m (ocls E p)) -> ops[j]? = some p -> softO E p = true -> X' j = true := fun j p a c d e=> by
    rw [hX']
    split
    ·rfl
    ·split at c
     ·rename_i hcl
      by_cases hj : j < i
      ·exact hm1 j p a (by rw [hcl, him]; exact hj) d e
      ·exact absurd hcl (p3 j p (by omega) c d e)
     ·exact hm1 j p a c d e
   have n4 : ∀ j p, (if ocls E p = ocls E o then mn else m (ocls E p)) <= j -> ops[j]? = some p -> softO E p = true -> X' j = false := fun j p a d e=> by
    split at a
    ·rename_i hcl
     rw [hX', if_neg (by omega)]
     exact hm2 j p (by rw [hcl, him]; omega) d e
    ·rename_i hcl
     rw [hX', if_neg (by rintro rfl; rw [ho] at d; cases d; exact hcl rfl)]
     exact hm2 j p a d e
   have n5 : ∀ c, (if c = ocls E o then mn else m c) = e1 \/ ∃ p, ops[(if c = ocls E o then mn else m c)]? = some p /\ softO E p = true /\ ocls E p = c := fun c=> by
    by_cases hc : c = ocls E o
    ·simp only [if_pos hc]
     exact p4.imp _root_.id fun ⟨p, a, d, e⟩=> ⟨p, a, d, e.trans hc.symm⟩
    ·simp only [if_neg hc]
     exact hm3 c
   have hsegn := (seg_rows hsq h0 hen hq (show b <= i + 1 by omega) (mn - (i + 1)) (by omega)).2.2.2
   rw [show i + 1 + (mn - (i + 1)) = mn by omega] at hsegn
   -- the rows afterwards
   have hrows : ∀ R : Nat -> Option Row, (∀ id, rcls E id = ocls E o -> R id = (sq (i + 1)).row id \/ (R id = rx E sq m e1 id /\ (sq (i + 1)).row id = (sq i).row id)) -> (∀ id, rcls E id ≠ ocls E o -> R id = rx E sq m e1 id) -> (∀ id r, (sq e1).row id = some r -> hidR E id r = false -> R id = some r) -> (∀ id, (sq e1).row id = none -> R id = none) -> R = rx E sq (fun c=> if c = ocls E o then mn else m c) e1 := fun R hR hRo hR2 hR3=> by
    funext id
    cases he : (sq e1).row id with
    | none=> rw [rx_none he]; exact hR3 id he
    | some r=>
     cases hc : hidR E id r with
     | false=> rw [rx_non he hc]; exact hR2 id r he hc
     | true=>
      rw [rx_cur he hc]
      by_cases hcl : rcls E id = ocls E o
      ·rw [if_pos hcl]
       obtain ⟨r1, h5, h6⟩ := hcur1 hEs id r he hc
       rw [hsegn id (fun j p a c d e=> by rw [hcl]; exact p3 j p a c d e) r1 h5]
       rcases hR id hcl with e | ⟨e1', e2'⟩
       ·rw [e, h5]
       ·rw [e1', rx_cur he hc, hcl, him, <- e2', h5]
      ·rw [if_neg hcl, hRo id hcl, rx_cur he hc]
   obtain ⟨hd, ⟨hw, u, hop, hsu⟩ | ⟨hw, hsu⟩⟩ := hstep
   ·have hwX := wantY_congr (s' := (⟨ovl ops sq X b (e1 - b), rx E sq m e1, (sq 0).nt⟩ : St)) hlooks hw
    rw [if_pos (want_y hs hwX)]
    have hev : ∀ x ∈ o.op.operands, ev E (⟨ovl ops sq X b (e1 - b), rx E sq m e1, (sq 0).nt⟩ : St) x = ev E (sq i) x := fun x hx=> by
     cases x with
     | tmp t=>
      refine hlooks t (List.mem_append_left _ (List.mem_filterMap.2 ⟨.tmp t, by simpa using hx, rfl⟩))
     | _=> rfl
    have hsf : softB E o = true:= by simp [softO] at hso; exact hso.2
    obtain ⟨hop0, hU⟩ : AOp0 E (clG (clM E true ops o) G) false o ((rid * 256 + i) * 4) (ev E (sq i)) (hideO E (ocls E o) (sq i).row) u /\ softU E o (sq i).row u = true:= by
     rcases hop with ⟨hE0, _⟩ | ⟨_, ⟨_, h5, h6⟩ | ⟨hf, _⟩ | ⟨hf, _⟩ | ⟨hf, _⟩⟩
     ·rw [hEs] at hE0; cases hE0
     ·exact ⟨h5, h6⟩
     ·rw [hsf] at hf; cases hf
     ·rw [hsf] at hf; cases hf
     ·rw [hsf] at hf; cases hf
    obtain ⟨u1, u2, u3, j, rj, rj', u4, u5, u6, u7, u8⟩ := softU_eq hU
    obtain ⟨r1, hj1, hj2⟩ := hseg j rj u5
    have hj1h : hidR E j r1 = true:= by
     rcases hj2 with rfl | hj2
     ·exact u7
     ·exact hj2.2.1
    have hrxj : rx E sq m e1 j = some rj:= by rw [rx_cur hj1 hj1h, u6, him]; exact u5
    have hUx : softU E o (rx E sq m e1) u = true:= by
     unfold softU
     rw [u1, u2, u3, u4]
     simp only [hrxj, u6, u7, u8, Bool.and_true, Nat.beq_refl]
    have hopX : AOpS E (clG (clM E true ops o) G) true o ((rid * 256 + i) * 4) (ev E (⟨ovl ops sq X b (e1 - b), rx E sq m e1, (sq 0).nt⟩ : St)) (rx E sq m e1) u :=
     .inr ⟨hEs, .inl ⟨hsf, hop0.mono hev (rx_hideO hseg him), hUx⟩⟩
    have happly : ∀ s : St, s.apply o.dst u = (s.setRow j rj').putO o.dst u.v := fun s=> by
     unfold St.apply
     rw [u1, u2, u3, u4]
     rfl
    have hsuj : ∀ id, (sq (i + 1)).row id = if id = j then some rj' else (sq i).row id := fun id=> by
     rw [hsu, happly, (putO_row _ _ _).1, setRow_row]
    refine .inl (step_okS hE (hG.cl _) hs hgl (by rw [<- nt_eq hsq i (by omega)]; exact hd) hid hopX fun S' ρ' a' w' hs' hgl' hS' hk=> ?_)
    rw [happly] at hs'
    have hR : ((⟨ovl ops sq X b (e1 - b), rx E sq m e1, (sq 0).nt⟩ : St).setRow j rj').row = rx E sq (fun c=> if c = ocls E o then mn else m c) e1:= by
     refine hrows _ (fun id _=> ?_) (fun id hcl=> ?_) (fun id r h5 h6=> ?_) (fun id h5=> ?_)
     ·rw [setRow_row, hsuj]
      by_cases e : id = j
      ·rw [if_pos e, if_pos e]; exact .inl rfl
      ·rw [if_neg e, if_neg e]; exact .inr ⟨rfl, rfl⟩
     ·rw [setRow_row, if_neg (by rintro rfl; exact hcl u6)]
     ·rw [setRow_row, if_neg (by rintro rfl; rw [hj1] at h5; cases h5; rw [hj1h] at h6; cases h6)]
      exact rx_non h5 h6
     ·rw [setRow_row, if_neg (by rintro rfl; rw [hj1] at h5; cases h5)]
      exact rx_none h5
    refine fin S' ρ' a' w' u.v _ (fun t=> ?_) n1 n3 n4 n5 (hs'.slotsEq (fun t=> (by rw [putO_slot, putO_slot]; rfl)) (by rw [(putO_row _ _ _).1, (putO_row _ _ _).1, hR]) (by rw [(putO_row _ _ _).2, (putO_row _ _ _).2]; rfl)) hgl' hS' hk
    rw [hsu, happly, putO_slot]; rfl
   ·have hwX := wantN_congr (s' := (⟨ovl ops sq X b (e1 - b), rx E sq m e1, (sq 0).nt⟩ : St)) hlooks hw
    rw [want_n hs hwX]
    have hsame : ∀ id, (sq (i + 1)).row id = (sq i).row id := fun id=> by rw [hsu, (putO_row _ _ _).1]
    have hR : rx E sq m e1 = rx E sq (fun c=> if c = ocls E o then mn else m c) e1 := hrows _ (fun id _=> .inr ⟨rfl, hsame id⟩) (fun id _=> rfl) (fun id r h5 h6=> rx_non h5 h6) (fun id h5=> rx_none h5)
    rw [hR] at hs
    refine fin S ρ _ w undefV _ (fun t=> ?_) n1 n3 n4 n5 (hs.put (dst_lt (by rw [<- nt_eq hsq i (by omega)]; exact hd)) vr_undef) hgl (Grew.refl _ _) (fun j hj _=> hj)
    rw [hsu, putO_slot]
 · -- the operation that ends the stretch
  obtain ⟨oe, hoe, hee⟩ : ∃ o, ops[e1]? = some o /\ effS E o = true:= by
   rcases heff with h1 | h1
   ·omega
   ·exact h1
  have hie : i = e1:= by
   apply Classical.byContradiction
   intro hne
   rcases hO.ord e1 i oe o hoe ho (fun h=> hne h.symm) with h1 | ⟨h1, _⟩
   ·rw [Nat.max_eq_right (by omega), Nat.min_eq_left (by omega)] at h1
    have := hpre e1 h1
    rw [hX2 e1 (Nat.le_refl _)] at this
    cases this
   ·rw [hee] at h1; cases h1
  subst hie
  rw [ho] at hoe
  cases hoe
  have hall : ∀ j, j < i -> X j = true := fun j hj=> by
   have hoj : ops[j]? = some ops[j] := Array.getElem?_eq_getElem (by omega)
   rcases hO.ord i j o _ ho hoj (by omega) with h1 | ⟨h1, _⟩
   ·rw [Nat.max_eq_left (by omega), Nat.min_eq_right (by omega)] at h1
    exact hpre j h1
   ·rw [hee] at h1; cases h1
  have hmi : ∀ c, m c = i := fun c=> by
   rcases hm3 c with e | ⟨p, hp, hsp, hcp⟩
   ·exact e
   ·apply Classical.byContradiction
    intro hne
    have := hm2 (m c) p (by rw [hcp]; exact Nat.le_refl _) hp hsp
    rw [hall (m c) (by have := (hmm c).2; omega)] at this
    cases this
  rw [rx_self E sq hmi] at hs
  have hs2 : Sim w0 B pv S ρ (sq i) a w := hs.slotsEq (fun t=> by
   have := ovl_seq (ops := ops) (sq := sq) (X := X) (b := b) (t := t) (m := i - b) fun j hj1 hj2=> by
    have hoj : ops[j]? = some ops[j] := Array.getElem?_eq_getElem (by omega)
    exact ⟨_, hoj, fun _=> hall j (by omega), fun hd=> seg_slot hsq h0 hen hq hj1 (by omega) hoj t hd⟩
   rw [show b + (i - b) = i by omega] at this
   exact this.symm) rfl (nt_eq hsq i (by omega))
  have fin : ∀ S' ρ' a' w', Sim w0 B pv S' ρ' (sq (i + 1)) a' w' -> GlOk E pv S' w' -> Grew B S S' -> (∀ j, ρ j = none -> ¬ ((rid * 256 + i) * 4 <= j /\ j < (rid * 256 + i) * 4 + 4) -> ρ' j = none) -> K a' w' := fun S' ρ' a' w' hs' hgl' hS' hk=>
   hK S' ρ' a' w' (startSeg hsq h0 (b := i + 1) (by omega) (fun j hj=> by
    rw [hX']
    split
    ·rfl
    ·exact hall j (by omega)) (fun j hj=> by rw [hX', if_neg (by omega)]; exact hX2 j (by omega)) hs' hgl' (hρ' ρ' hk) hcl' (hS.trans hS'))
  obtain ⟨hd, ⟨hw, u, hop, hsu⟩ | ⟨hw, hsu⟩⟩ := hstep
  ·rw [if_pos (want_y hs2 hw)]
   refine .inl (step_okS hE (hG.cl _) hs2 hgl hd hid hop fun S' ρ' a' w' hs' hgl' hS' hk=> ?_)
   rw [<- hsu] at hs'
   exact fin S' ρ' a' w' hs' hgl' hS' hk
  ·rw [want_n hs2 hw]
   refine fin S ρ _ w ?_ hgl (Grew.refl _ _) (fun j hj _=> hj)
   rw [hsu]
   exact hs2.put (dst_lt hd) vr_undef
end
end Go.Gx
end
section
/- Regions. -/
namespace Go.Gx
open Go.RowKit
theorem count_set {l : List Bool} : ∀ {i : Nat}, l[i]? = some false -> (l.set i true).count false + 1 = l.count false:= by
 induction l with
 | nil=> intro i h; simp at h
 | cons b l ih=>
  intro i h
  cases i with
  | zero=>
   simp only [List.getElem?_cons_zero, Option.some.injEq] at h
   subst h
   simp
  | succ i=>
   have := ih (i := i) (by simpa using h)
   simp only [List.set_cons_succ, List.count_cons]
   omega
section
variable {P : Program} {E : Env} {w0 : World} {B : Old} {pv : Nat -> Value} {G : Cal -> List AV -> AV -> Prop} {Q : Exit -> Act -> World -> Prop} {ops : Array Oper} {rid : Nat} {S0 : Nat -> Prop} {sq : Nat -> St} {pre : Nat -> Nat -> Prop}
theorem any_ok (hE : EnvOk P E) (hG : GOk P E pv G) (hO : Ordered E ops pre) (hSo : ∀ i j o p, ops[i]? = some o -> ops[j]? = some p -> softO E o = true -> softO E p = true -> ocls E o = ocls E p -> i ≠ j -> pre (max i j) (min i j)) (hsq : ∀ i o, ops[i]? = some o -> StepR E G ops rid i o (sq i) (sq (i + 1))) (h0 : ∀ k, k < ops.size -> ∀ id, Site rid k id -> (sq 0).row id = none) (hn : ops.size <= 256)
  (hQ : ∀ S' ρ' a' w', Sim w0 B pv S' ρ' (sq ops.size) a' w' -> GlOk E pv S' w' -> Grew B S0 S' -> Q .normal a' w') :
  ∀ (fuel : Nat) (listed : Array Bool) (S : Nat -> Prop) (ρ : Nat -> Option Loc) (a : Act) (w : World), listed.size = ops.size -> listed.toList.count false <= fuel -> Inv E w0 B pv ops rid S0 sq (fun i=> listed.getD i false) S ρ a w -> wpAny P .any ops Q fuel listed a w:= by
 have done : ∀ (listed : Array Bool) (S : Nat -> Prop) (ρ : Nat -> Option Loc) (a : Act) (w : World), Inv E w0 B pv ops rid S0 sq (fun i=> listed.getD i false) S ρ a w -> (∀ i, i < ops.size -> listed.getD i false = true) -> Q .normal a w := fun listed S ρ a w h hall=> by
  obtain ⟨b, m, e1, hbe, hmm, hen, hX1, hX2, hq, heff, hm1, hm2, hm3, hs, hgl, hρ, hcl, hS⟩ := h
  have he : e1 = ops.size:= by
   apply Classical.byContradiction
   intro hne
   have : listed.getD e1 false = false := hX2 e1 (Nat.le_refl _)
   rw [hall e1 (by omega)] at this
   cases this
  subst he
  have hms : ∀ c, m c = ops.size := fun c=> by
   rcases hm3 c with e | ⟨p, hp, hsp, hcp⟩
   ·exact e
   ·have : listed.getD (m c) false = false := hm2 (m c) p (by rw [hcp]; exact Nat.le_refl _) hp hsp
    rw [hall (m c) (Array.getElem?_eq_some_iff.1 hp).1] at this
    cases this
  rw [rx_self E sq hms] at hs
  refine hQ S ρ a w (hs.slotsEq (fun t=> ?_) rfl (nt_eq hsq _ (Nat.le_refl _))) hgl hS
  have := ovl_seq (ops := ops) (sq := sq) (X := fun i=> listed.getD i false) (b := b) (t := t) (m := ops.size - b) fun j hj1 hj2=> by
   have hoj : ops[j]? = some ops[j] := Array.getElem?_eq_getElem (by omega)
   exact ⟨_, hoj, fun _=> hall j (by omega), fun hd=> seg_slot hsq h0 hen hq hj1 (by omega) hoj t hd⟩
  rw [show b + (ops.size - b) = ops.size by omega] at this
  exact this.symm
 have stuck : ∀ (listed : Array Bool), listed.size = ops.size -> Region.ready .any ops listed = [] -> ∀ i, i < ops.size -> listed.getD i false = true := fun listed hsz hr i=> by
  induction i using Nat.strongRecOn with
  | _ i ih=>
   intro hi
   apply Classical.byContradiction
   intro hne
   have hoi : ops[i]? = some ops[i] := Array.getElem?_eq_getElem hi
   have hmem : i ∈ Region.ready .any ops listed:= by
    rw [mem_ready]
    refine ⟨?_, ops[i], hoi, fun e he hb=> ?_⟩
    ·have hlt : i < listed.size:= by omega
     rw [Array.getD_eq_getD_getElem?, Array.getElem?_eq_getElem hlt] at hne ⊢
     simpa using hne
    ·have := hO.lt i _ hoi e he hb
     exact ih e.on this (by omega)
   rw [hr] at hmem
   cases hmem
 intro fuel
 induction fuel with
 | zero=>
  intro listed S ρ a w hsz hc hI
  have hall : ∀ i, i < ops.size -> listed.getD i false = true := fun i hi=> by
   have hlt : i < listed.size:= by omega
   rw [Array.getD_eq_getD_getElem?, Array.getElem?_eq_getElem hlt]
   cases hb : listed[i] with
   | true=> rfl
   | false=>
    have hm : false ∈ listed.toList:= by rw [<- hb]; exact Array.getElem_mem_toList hlt
    have := List.count_pos_iff.2 hm
    omega
  refine ⟨?_, done listed S ρ a w hI hall⟩
  apply List.eq_nil_iff_forall_not_mem.2
  intro i hi
  rw [mem_ready] at hi
  obtain ⟨h1, o, ho, _⟩ := hi
  have hlt : i < listed.size:= by have := (Array.getElem?_eq_some_iff.1 ho).1; omega
  have := hall i (by omega)
  rw [Array.getD_eq_getD_getElem?, Array.getElem?_eq_getElem hlt] at this h1
  simp at this h1
  rw [this] at h1
  cases h1
 | succ fuel ih=>
  intro listed S ρ a w hsz hc hI
  refine ⟨fun hr=> done listed S ρ a w hI (stuck listed hsz hr), fun i hi=> ?_⟩
  rw [mem_ready] at hi
  obtain ⟨h1, o, ho, hall⟩ := hi
  have hlt : i < listed.size:= by have := (Array.getElem?_eq_some_iff.1 ho).1; omega
  have hli : listed[i] = false:= by
   rw [Array.getD_eq_getD_getElem?, Array.getElem?_eq_getElem hlt] at h1
   simpa using h1
  refine inv_step hE hG hO hSo hsq h0 hn hI ho ?_ hall (X' := fun j=> (listed.setIfInBounds i true).getD j false) (fun j=> ?_) fun S' ρ' a' w' hI'=> ih _ S' ρ' a' w' (by simpa using hsz) ?_ hI'
  ·rw [Array.getD_eq_getD_getElem?, Array.getElem?_eq_getElem hlt, hli]
   rfl
  ·rw [Array.getD_eq_getD_getElem?, Array.getD_eq_getD_getElem?, Array.getElem?_setIfInBounds]
   by_cases e : j = i
   ·subst e; simp [hlt]
   ·rw [if_neg (fun h=> e h.symm), if_neg e]
  ·have := count_set (l := listed.toList) (i := i) (by rw [Array.getElem?_toList, Array.getElem?_eq_getElem hlt, hli])
   rw [Array.toList_setIfInBounds]
   omega
theorem soOk_ord {E : Env} {ops : Array Oper} (h : E.so = true -> soOk E ops = true) : ∀ i j o p, ops[i]? = some o -> ops[j]? = some p -> softO E o = true -> softO E p = true -> ocls E o = ocls E p -> i ≠ j -> ((Region.before ops).toList.getD (max i j) 0).testBit (min i j) = true := fun i j o p hi hj h1 h2 hcl hne=> by
 simp only [softO, Bool.and_eq_true] at h1 h2
 have h := h h1.1
 unfold soOk at h
 simp only [List.all_eq_true, List.mem_range] at h
 have h3 := h i (Array.getElem?_eq_some_iff.1 hi).1
 rw [hi] at h3
 simp only [h1.2, Bool.not_true, Bool.false_or, List.all_eq_true, List.mem_range] at h3
 have h4 := h3 j (Array.getElem?_eq_some_iff.1 hj).1
 rw [hj] at h4
 simp only [h2.2, hcl, Nat.beq_refl, Bool.not_true, Bool.false_or, inOrder, Bool.or_eq_true] at h4
 exact h4.resolve_left fun e=> hne (Nat.eq_of_beq_eq_true e)
theorem region_ok (hE : EnvOk P E) (hG : GOk P E pv G) {dr : Bool} (hn : ops.size <= 256) (hm : rid * 1024 + 1024 <= mbase) (hdr : dr = true -> drawOk E ops = true) (hso : dr = true -> E.so = true -> soOk E ops = true) {S : Nat -> Prop} {ρ : Nat -> Option Loc} {st st' : St} {a : Act} {w : World}
  (hr : RunR E G dr ops rid ops.toList 0 (st.kill (rid * 1024) (rid * 1024 + 1024)) st') (hs : Sim w0 B pv S ρ st a w) (hgl : GlOk E pv S w)
  (hQ : ∀ S' ρ' a' w', Sim w0 B pv S' ρ' st' a' w' -> GlOk E pv S' w' -> Grew B S S' -> Q .normal a' w') : (Code.region rid ops dr).wp P Q a w:= by
 have hk := hs.kill (rid * 1024) (rid * 1024 + 1024) (by
  unfold inR
  rw [Bool.and_eq_false_iff]
  refine .inr ?_
  cases hb : Nat.blt mbase (rid * 1024 + 1024) with
  | false=> rfl
  | true=> have := Nat.le_of_ble_eq_true hb; omega)
 have hin : ∀ k, k < 256 -> ∀ id, Site rid k id -> inR (rid * 1024) (rid * 1024 + 1024) id = true := fun k hk id hsite=> by
  unfold Site at hsite
  simp only [inR, Bool.and_eq_true, Nat.blt, Nat.ble_eq]
  omega
 have hkn : ∀ k, k < 256 -> ∀ id, Site rid k id -> killL (rid * 1024) (rid * 1024 + 1024) ρ id = none := fun k hk id hsite=> by
  unfold killL; rw [hin k hk id hsite]; rfl
 cases dr with
 | false=>
  refine wp_region_list (seq_ok hE hG hr hk hgl (fun k _ hk2 c hc=> hkn k (by simp at hk2; omega) _ (by unfold Site; omega)) fun S' ρ' a' w' h1 h2 h3=> hQ S' ρ' a' w' h1 h2 h3)
 | true=>
  have hO := drawOk_ordered (hdr rfl)
  obtain ⟨sq, h1, h2, h3⟩ := trace hr
  simp only [Nat.zero_add, Array.length_toList] at h2 h3
  have hsq : ∀ i o, ops[i]? = some o -> StepR E G ops rid i o (sq i) (sq (i + 1)) := fun i o ho=> h3 i o (by simpa using ho)
  have h0 : ∀ k, k < ops.size -> ∀ id, Site rid k id -> (sq 0).row id = none := fun k hk id hsite=> by
   rw [h1]
   exact killR_in (hin k (by omega) id hsite)
  refine wp_region_any hE.mixed (any_ok (S0 := S) hE hG hO (soOk_ord fun h=> hso rfl h) hsq h0 hn (by rw [h2]; exact hQ) ops.size _ S (killL (rid * 1024) (rid * 1024 + 1024) ρ) a _ (by simp) (by simp) ?_)
  have hdrew := hk.drew
  rw [<- h1] at hdrew
  have hX : ∀ i, (Array.replicate ops.size false).getD i false = false := fun i=> by
   rw [Array.getD_eq_getD_getElem?]
   by_cases hi : i < ops.size
   ·simp [hi]
   ·simp [hi]
  refine startSeg hsq h0 (b := 0) (Nat.zero_le _) (fun i hi=> absurd hi (Nat.not_lt_zero i)) (fun i _=> hX i) hdrew (hgl.mono (fun _ h=> h) fun _ _=> rfl) (fun i hi _ id hsite=> hkn i (by omega) id hsite) (fun i o _ hx=> ?_) (Grew.refl _ _)
  have hx : (Array.replicate ops.size false).getD i false = true := hx
  rw [hX i] at hx
  cases hx
end
end Go.Gx
end
section
/- A region whose order is open: its appends stand in order to each other, all else floats. -/
namespace Go.Gx
open Go.RowKit
def StepF (E : Env) (G : Cal -> List AV -> AV -> Prop) (ops : Array Oper) (rid i : Nat) (o : Oper) (s s' : St) : Prop :=
 dstOk o s.nt = true /\ o.guard = none /\ ((hardO ops o = true /\ ∃ u, AOp E G false o ((rid * 256 + i) * 4) (ev E s) s.row u /\ (apB ops = true \/ u.app = none) /\ s' = s.apply o.dst u) \/
  (hardO ops o = false /\ ∃ u v, AOp0 E G true o ((rid * 256 + i) * 4) (ev E s) (rowF ops i s.row) u /\ fltU o u = some v /\ flatW (apB ops) v = true /\ s' = s.putO o.dst v))
theorem runFl_rel {R : Type} {r : R} {E : Env} {C : Orc} {G : Cal -> List AV -> AV -> Prop} (hC : OrcIs C G) {ops : Array Oper} {rid : Nat} : ∀ (l : List Oper) (i : Nat) (st : St) {K : St -> Option R}, runFl E C ops rid l i st K = some r ->
  ∃ sq : Nat -> St, sq i = st /\ (∀ k o, l[k]? = some o -> StepF E G ops rid (i + k) o (sq (i + k)) (sq (i + k + 1))) /\ K (sq (i + l.length)) = some r
 | [], i, st, K, h=> ⟨fun _=> st, rfl, fun k o h=> by simp at h, h⟩
 | o :: l, i, st, K, h=> by
  have go : ∀ s1, StepF E G ops rid i o st s1 -> runFl E C ops rid l (i + 1) s1 K = some r -> ∃ sq : Nat -> St, sq i = st /\ (∀ k o', (o :: l)[k]? = some o' -> StepF E G ops rid (i + k) o' (sq (i + k)) (sq (i + k + 1))) /\ K (sq (i + (o :: l).length)) = some r := fun s1 h1 h2=> by
   obtain ⟨sq, h3, h5, h4⟩ := runFl_rel hC l (i + 1) s1 h2
   refine ⟨fun j=> if j = i then st else sq j, by simp, fun k o' hk=> ?_, ?_⟩
   ·cases k with
    | zero=>
     simp only [List.getElem?_cons_zero, Option.some.injEq] at hk
     subst hk
     simp only [Nat.add_zero, if_true]
     rw [if_neg (by omega), h3]
     exact h1
    | succ k=>
     have := h5 k o' (by simpa using hk)
     show StepF E G ops rid (i + (k + 1)) o' (if i + (k + 1) = i then st else sq (i + (k + 1))) (if i + (k + 1) + 1 = i then st else sq (i + (k + 1) + 1))
     rw [if_neg (by omega), if_neg (by omega)]
     rw [show i + (k + 1) = i + 1 + k by omega]
     exact this
   ·show K (if i + (o :: l).length = i then st else sq (i + (o :: l).length)) = some r
    rw [if_neg (by simp), <- h4, List.length_cons]
    congr 2
    omega
  unfold runFl at h
  split at h
  ·rename_i hd hg
   split at h
   ·rename_i hh
    obtain ⟨u, h1, h2⟩ := aop_rel hC h
    obtain ⟨ha, h2⟩ := cond_some h2
    simp only [Bool.or_eq_true, Option.isNone_iff_eq_none] at ha
    exact go _ ⟨hd, hg, .inl ⟨hh, u, h1, ha, rfl⟩⟩ h2
   ·rename_i hh
    obtain ⟨u, h1, h2⟩ := aop0_rel hC h
    split at h2
    ·rename_i v hv
     obtain ⟨hf, h2⟩ := cond_some h2
     exact go _ ⟨hd, hg, .inr ⟨hh, u, v, h1, hv, hf, rfl⟩⟩ h2
    ·cases h2
  ·cases h
theorem step_flt {P : Program} {E : Env} {w0 : World} {B : Old} {pv : Nat -> Value} {S : Nat -> Prop} {ρ : Nat -> Option Loc} {st : St} {a : Act} {w : World} {o : Oper} {id : Nat} {K : Act -> World -> Prop} {Q : Exit -> Act -> World -> Prop}
  (hE : EnvOk P E) {G : Cal -> List AV -> AV -> Prop} (hG : GOk P E pv G) (hs : Sim w0 B pv S ρ st a w) (hgl : GlOk E pv S w) (hd : dstOk o st.nt = true) (hid : ∀ c, c < 4 -> ρ (id + c) = none) {u : Upd} {v : AV}
  (h : AOp0 E G true o id (ev E st) st.row u) (hu : fltU o u = some v) (hK : Nx E w0 B pv S ρ st o.dst (quiet v) id K) : o.wp P a w K Q:= by
 unfold fltU at hu
 split at hu
 ·rename_i hb
  split at hu
  ·rename_i u' hu'
   cases hu
   have h0 : ρ id = none:= by simpa using hid 0 (by omega)
   obtain ⟨i, j, e, τ', xs', rfl, rfl⟩ := plainU_eq hu'
   obtain ⟨dst, op, type, pos, after, guard⟩ := o
   cases op <;> simp only [isBS] at hb <;> try cases hb
   unfold AOp0 at h
   obtain ⟨τ, fs, xs, hτ, hon, hn, hfs, hxs, hep, _, hu⟩ := h
   injection hu with h1 h2 h3 h4 h5
   have hids : idsL fs = [] := h3.symm
   injection h2 with h2 _
   injection h2 with _ h2
   injection h2 with _ hτ' hxs' _ _
   subst hτ'
   have hxs' := eq_of_heq hxs'
   subst hxs'
   exact step_buildSliceP hE hs hgl hd h0 rfl hτ hon hn hfs hxs hep hids hK
  ·cases hu
 ·obtain ⟨uv, news, frz, app, sto⟩ := u
  simp only at hu
  split at hu
  ·cases hu
   exact step_ok0 hE hG hs hgl hd hid h hK
  ·cases hu
theorem flatV_id {v : AV} (h : flatV v = true) (lo hi : Nat) : killA lo hi v = v:= by
 have : hasId lo hi v = false:= by
  unfold flatV at h
  split at h
  ·rfl
  ·split at h
   ·rfl
   ·cases h
  ·rfl
  ·split at h
   ·rfl
   ·cases h
  ·cases h
 unfold killA
 rw [this]; rfl
def kz (u : Upd) (a : AV) : AV := match u.app with
 | some (j, _)=> killA j (j + 1) a
 | none=> a
theorem kz_flat {ap : Bool} {u : Upd} {a : AV} (hf : flatW ap a = true) (ha : ap = true \/ u.app = none) : kz u a = a:= by
 unfold kz
 rcases ha with rfl | ha
 ·split
  ·exact flatV_id (by simpa [flatW] using hf) _ _
  ·rfl
 ·rw [ha]
theorem kz_any (u : Upd) : kz u .any = .any:= by
 unfold kz
 split <;> rfl
theorem apply_slot (s : St) (d : Option Nat) (u : Upd) (t : Nat) : (s.apply d u).slot t = if d = some t then u.v else kz u (s.slot t):= by
 unfold St.apply
 rw [putO_slot]
 by_cases e : d = some t
 ·rw [if_pos e, if_pos e]
 rw [if_neg e, if_neg e]
 have h1 : ((s.freeze u.frz).setRows u.news).slot = s.slot:= by rw [(setRows_nt _ _).2, (freeze_slot _ _).1]
 unfold kz
 cases u.sto with
 | none=>
  cases u.app with
  | none=> exact congrFun h1 t
  | some p=> obtain ⟨j, r⟩ := p; show killA j (j + 1) (((s.freeze u.frz).setRows u.news).slot t) = _; rw [h1]
 | some q=>
  obtain ⟨k', r'⟩ := q
  cases u.app with
  | none=> exact congrFun h1 t
  | some p=> obtain ⟨j, r⟩ := p; show killA j (j + 1) (((s.freeze u.frz).setRows u.news).slot t) = _; rw [h1]
theorem setRows_cong : ∀ (l : List (Nat × Row)) (s s' : St), s.row = s'.row -> (s.setRows l).row = (s'.setRows l).row
 | [], s, s', h=> h
 | p :: l, s, s', h=> setRows_cong l _ _ (by funext j; rw [setRow_row, setRow_row, h])
theorem apply_cong (s s' : St) (d : Option Nat) (u : Upd) (h : s.row = s'.row) : (s.apply d u).row = (s'.apply d u).row:= by
 have h0 : (s.freeze u.frz).row = (s'.freeze u.frz).row:= by funext j; rw [freeze_row, freeze_row, h]
 have h1 := setRows_cong u.news _ _ h0
 have hk : ∀ j, (((s.freeze u.frz).setRows u.news).kill j (j + 1)).row = (((s'.freeze u.frz).setRows u.news).kill j (j + 1)).row := fun j=> by
  funext id
  show killR j (j + 1) id (((s.freeze u.frz).setRows u.news).row id) = killR j (j + 1) id (((s'.freeze u.frz).setRows u.news).row id)
  rw [h1]
 unfold St.apply
 rw [(putO_row _ _ _).1, (putO_row _ _ _).1]
 cases u.sto with
 | none=>
  cases u.app with
  | none=> exact h1
  | some p=>
   obtain ⟨j, r⟩ := p
   show ((((s.freeze u.frz).setRows u.news).kill j (j + 1)).setRow j r).row = ((((s'.freeze u.frz).setRows u.news).kill j (j + 1)).setRow j r).row
   funext id
   rw [setRow_row, setRow_row, hk]
 | some q=>
  obtain ⟨k', r'⟩ := q
  cases u.app with
  | none=>
   show (((s.freeze u.frz).setRows u.news).setRow k' r').row = (((s'.freeze u.frz).setRows u.news).setRow k' r').row
   funext id
   rw [setRow_row, setRow_row, h1]
  | some p=>
   obtain ⟨j, r⟩ := p
   show (((((s.freeze u.frz).setRows u.news).kill j (j + 1)).setRow j r).setRow k' r').row = (((((s'.freeze u.frz).setRows u.news).kill j (j + 1)).setRow j r).setRow k' r').row
   funext id
   rw [setRow_row, setRow_row, setRow_row, setRow_row, hk]
structure Flt (ops : Array Oper) (st0 : St) (pre : Nat -> Nat -> Prop) : Prop where
 lt : ∀ i o, ops[i]? = some o -> ∀ e ∈ o.after, Region.binds .any e = true -> e.on < i
 step : ∀ i o j, ops[i]? = some o -> pre i j -> ∃ e ∈ o.after, Region.binds .any e = true /\ (e.on = j \/ pre e.on j)
 hard : ∀ (i j : Nat) (o p : Oper), ops[i]? = some o -> ops[j]? = some p -> hardO ops o = true -> hardO ops p = true -> j < i -> pre i j
 uniq : ∀ (i j : Nat) (o p : Oper) (d : Nat), ops[i]? = some o -> ops[j]? = some p -> hardO ops o = false -> o.dst = some d -> i ≠ j -> p.dst ≠ some d
 look : ∀ (i j : Nat) (o p : Oper) (d : Nat), ops[i]? = some o -> ops[j]? = some p -> hardO ops o = false -> o.dst = some d -> d ∈ p.looksAt ops -> i < j /\ pre j i
 flo : ∀ (i j : Nat) (o p : Oper) (d : Nat), ops[i]? = some o -> ops[j]? = some p -> hardO ops o = false -> hardO ops p = true -> p.dst = some d -> d ∈ o.looksAt ops -> i < j /\ pre j i
 outer : ∀ (i : Nat) (o : Oper) (t : Nat), ops[i]? = some o -> hardO ops o = false -> t ∈ o.looksAt ops -> (∃ j : Nat, ∃ p : Oper, ops[j]? = some p /\ hardO ops p = false /\ p.dst = some t) \/ flatW (apB ops) (st0.slot t) = true
theorem fltOk_flt {ops : Array Oper} {st0 : St} (h : fltOk ops st0 = true) : Flt ops st0 fun i j=> ((Region.before ops).toList.getD i 0).testBit j = true:= by
 unfold fltOk at h
 simp only [List.all_eq_true, List.mem_range] at h
 have row := fun (i : Nat) (o : Oper) (hi : ops[i]? = some o)=> by
  have h1 := h i (Array.getElem?_eq_some_iff.1 hi).1
  rw [hi] at h1
  simp only [Bool.and_eq_true, List.all_eq_true, List.mem_range] at h1
  exact h1
 have pair := fun (i j : Nat) (o p : Oper) (hi : ops[i]? = some o) (hj : ops[j]? = some p)=> by
  have h1 := (row i o hi).2.1.2 j (Array.getElem?_eq_some_iff.1 hj).1
  rw [hj] at h1
  exact h1
 have hO : ∀ i j, j < i -> inOrder (Region.before ops).toList i j = true -> ((Region.before ops).toList.getD i 0).testBit j = true := fun i j hlt h1=> by
  unfold inOrder at h1
  simp only [Bool.or_eq_true] at h1
  rcases h1 with h1 | h1
  ·have := Nat.eq_of_beq_eq_true h1; omega
  ·rwa [Nat.max_eq_left (by omega), Nat.min_eq_right (by omega)] at h1
 have hO' : ∀ i j, i < j -> inOrder (Region.before ops).toList i j = true -> ((Region.before ops).toList.getD j 0).testBit i = true := fun i j hlt h1=> by
  unfold inOrder at h1
  simp only [Bool.or_eq_true] at h1
  rcases h1 with h1 | h1
  ·have := Nat.eq_of_beq_eq_true h1; omega
  ·rwa [Nat.max_eq_right (by omega), Nat.min_eq_left (by omega)] at h1
 refine ⟨fun i o hi e he hb=> ?_, fun i o j hi hp=> ?_, fun i j o p hi hj h1 h2 hlt=> ?_, fun i j o p d hi hj h1 hd hne=> ?_, fun i j o p d hi hj h1 hd hl=> ?_, fun i j o p d hi hj h1 h2 hd hl=> ?_, fun i o t hi h1 ht=> ?_⟩
 ·have := (row i o hi).1 e (by simpa using he)
  rw [hb] at this
  simpa using this
 ·rw [Nat.eq_of_beq_eq_true (row i o hi).2.1.1] at hp
  rcases fold_bits _ _ hp with h1 | ⟨e, he, h1⟩
  ·simp at h1
  ·exact ⟨e, by simpa using he, h1⟩
 ·have h3 := pair i j o p hi hj
  rw [h1] at h3
  simp only [h2, Bool.not_true, Bool.false_or] at h3
  exact hO i j hlt h3
 ·have h3 := pair i j o p hi hj
  rw [h1] at h3
  simp only [hd, Bool.and_eq_true, Bool.or_eq_true, bne_iff_ne] at h3
  rcases h3.1.2 with h4 | h4
  ·exact absurd (Nat.eq_of_beq_eq_true h4) hne
  ·exact h4
 ·have h3 := pair i j o p hi hj
  rw [h1] at h3
  simp only [hd, Bool.and_eq_true, Bool.or_eq_true, Bool.not_eq_true', looks] at h3
  rcases h3.1.1 with h4 | ⟨h4, h5⟩
  ·rw [List.contains_eq_mem] at h4; simp [hl] at h4
  ·have h6 : i + 1 <= j:= by simpa [Nat.blt] using h4
   have : i < j := h6
   exact ⟨this, hO' i j this h5⟩
 ·have h3 := pair i j o p hi hj
  rw [h1] at h3
  simp only [hd, h2, Bool.and_eq_true, Bool.or_eq_true, Bool.not_eq_true', looks, Bool.true_eq_false, false_or] at h3
  rcases h3.2 with h4 | ⟨h4, h5⟩
  ·rw [List.contains_eq_mem] at h4; simp [hl] at h4
  ·have h6 : i + 1 <= j:= by simpa [Nat.blt] using h4
   have : i < j := h6
   exact ⟨this, hO' i j this h5⟩
 ·have h3 := (row i o hi).2.2
  rw [h1] at h3
  simp only [Bool.false_or, List.all_eq_true, Bool.or_eq_true, Bool.and_eq_true, Bool.not_eq_true', List.any_eq_true, beq_iff_eq, looks] at h3
  rcases h3 t ht with ⟨p, hp, h5, h4⟩ | h4
  ·obtain ⟨j, hj⟩ := List.getElem?_of_mem hp
   exact .inl ⟨j, p, by simpa using hj, h5, h4⟩
  ·exact .inr h4
theorem ordH_ord {ops : Array Oper} {i : Nat} (h : ordH ops i = true) {j : Nat} {p : Oper} (hj : ops[j]? = some p) (hp : hardO ops p = true) (hne : i ≠ j) : ((Region.before ops).toList.getD (max i j) 0).testBit (min i j) = true:= by
 unfold ordH at h
 simp only [List.all_eq_true, List.mem_range] at h
 have h1 := h j (Array.getElem?_eq_some_iff.1 hj).1
 rw [hj] at h1
 simp only [hp, Bool.not_true, Bool.false_or, inOrder, Bool.or_eq_true] at h1
 exact h1.resolve_left fun e=> hne (Nat.eq_of_beq_eq_true e)
theorem Flt.mem {ops : Array Oper} {st0 : St} {pre : Nat -> Nat -> Prop} (ho : Flt ops st0 pre) {X : Nat -> Prop} (hlt : ∀ i, X i -> i < ops.size) (hX : ∀ i o, ops[i]? = some o -> X i -> ∀ e ∈ o.after, Region.binds .any e = true -> X e.on) : ∀ (i : Nat) (o : Oper) (j : Nat), ops[i]? = some o -> pre i j ->
  (∀ e ∈ o.after, Region.binds .any e = true -> X e.on) -> X j:= by
 intro i
 induction i using Nat.strongRecOn with
 | _ i ih=>
  intro o j hi hp hall
  obtain ⟨e, he, hb, h1⟩ := ho.step i o j hi hp
  have hXe := hall e he hb
  rcases h1 with h1 | h1
  ·exact h1 ▸ hXe
  ·have hlt' := hlt _ hXe
   have hoe : ops[e.on]? = some ops[e.on] := Array.getElem?_eq_getElem hlt'
   exact ih e.on (ho.lt i o hi e he hb) _ j hoe h1 (hX _ _ hoe hXe)
end Go.Gx
end
section
/- A region whose order is open: its appends stand in order to each other, all else floats. Any order comes to the same. -/
namespace Go.Gx
open Go.RowKit
section
variable {P : Program} {E : Env} {w0 : World} {B : Old} {pv : Nat -> Value} {G : Cal -> List AV -> AV -> Prop} {Q : Exit -> Act -> World -> Prop} {ops : Array Oper} {rid : Nat} {S0 : Nat -> Prop} {sq : Nat -> St} {pre : Nat -> Nat -> Prop}
def FW (ops : Array Oper) (t p : Nat) : Prop := ∃ o : Oper, ops[p]? = some o /\ hardO ops o = false /\ o.dst = some t
open Classical in
noncomputable def flS (ops : Array Oper) (sq : Nat -> St) (X : Nat -> Bool) (b t : Nat) : AV :=
 if h : ∃ p, FW ops t p then (match X (Classical.choose h) with
  | true=> (sq (Classical.choose h + 1)).slot t
  | false=> .any) else (sq b).slot t
variable (hO : Flt ops (sq 0) pre) (hsq : ∀ i o, ops[i]? = some o -> StepF E G ops rid i o (sq i) (sq (i + 1)))
include hO in
theorem fw_uniq {t p q : Nat} (h : FW ops t p) (h' : FW ops t q) : p = q:= by
 obtain ⟨o, h1, h2, h3⟩ := h
 obtain ⟨o', h4, h5, h6⟩ := h'
 apply Classical.byContradiction
 intro hne
 exact hO.uniq p q o o' t h1 h4 h2 h3 hne h6
include hO in
theorem flS_yes {X : Nat -> Bool} {b t p : Nat} (h : FW ops t p) (hX : X p = true) : flS ops sq X b t = (sq (p + 1)).slot t:= by
 have h0 : ∃ p, FW ops t p := ⟨p, h⟩
 unfold flS
 rw [dif_pos h0, fw_uniq hO (Classical.choose_spec h0) h, hX]
include hO in
theorem flS_not {X : Nat -> Bool} {b t p : Nat} (h : FW ops t p) (hX : X p = false) : flS ops sq X b t = .any:= by
 have h0 : ∃ p, FW ops t p := ⟨p, h⟩
 unfold flS
 rw [dif_pos h0, fw_uniq hO (Classical.choose_spec h0) h, hX]
theorem flS_no {X : Nat -> Bool} {b t : Nat} (h : ¬ ∃ p, FW ops t p) : flS ops sq X b t = (sq b).slot t:= by
 unfold flS
 rw [dif_neg h]
include hsq
theorem nt_f : ∀ i, i <= ops.size -> (sq i).nt = (sq 0).nt
 | 0, _=> rfl
 | i + 1, hi=> by
  have ho : ops[i]? = some ops[i] := Array.getElem?_eq_getElem (by omega)
  obtain ⟨_, _, ⟨_, u, _, ha, e⟩ | ⟨_, u, v, _, _, _, e⟩⟩ := hsq i _ ho
  ·rw [e, apply_nt]; exact nt_f i (by omega)
  ·rw [e, (putO_row _ _ _).2]; exact nt_f i (by omega)
theorem flat_stay {t b : Nat} (hf : flatW (apB ops) ((sq b).slot t) = true) : ∀ d, b + d <= ops.size -> (∀ j o, b <= j -> j < b + d -> ops[j]? = some o -> o.dst ≠ some t) -> (sq (b + d)).slot t = (sq b).slot t
 | 0, _, _=> rfl
 | d + 1, h, hn=> by
  have ih := flat_stay hf d (by omega) fun j o a c=> hn j o a (by omega)
  have ho : ops[b + d]? = some ops[b + d] := Array.getElem?_eq_getElem (by omega)
  have hd := hn (b + d) _ (by omega) (by omega) ho
  obtain ⟨_, _, ⟨_, u, _, ha, e⟩ | ⟨_, u, v, _, _, _, e⟩⟩ := hsq (b + d) _ ho
  ·show (sq (b + d + 1)).slot t = _
   rw [e, apply_slot, if_neg hd, ih]
   exact kz_flat hf ha
  ·show (sq (b + d + 1)).slot t = _
   rw [e, putO_slot, if_neg hd, ih]
include hO
theorem fw_stay {t p : Nat} (h : FW ops t p) {j : Nat} (hj : p < j) (hj2 : j <= ops.size) : (sq j).slot t = (sq (p + 1)).slot t /\ flatW (apB ops) ((sq (p + 1)).slot t) = true:= by
 obtain ⟨o, h1, h2, h3⟩ := h
 have hp : p < ops.size := (Array.getElem?_eq_some_iff.1 h1).1
 have hf : flatW (apB ops) ((sq (p + 1)).slot t) = true:= by
  obtain ⟨_, _, ⟨h4, _⟩ | ⟨_, u, v, _, _, hv, e⟩⟩ := hsq p o h1
  ·rw [h2] at h4; cases h4
  ·rw [e, putO_slot, if_pos h3]; exact hv
 refine ⟨?_, hf⟩
 have := flat_stay hsq hf (j - (p + 1)) (by omega) (fun q o' hq _ ho'=> hO.uniq p q o o' t h1 ho' h2 h3 (by omega))
 rwa [show p + 1 + (j - (p + 1)) = j by omega] at this
omit hO in
theorem fl_same {i : Nat} : ∀ d, i + d <= ops.size -> (∀ j o, i <= j -> j < i + d -> ops[j]? = some o -> hardO ops o = false) -> (sq (i + d)).row = (sq i).row /\ ∀ t, (¬ ∃ p, FW ops t p) -> (sq (i + d)).slot t = (sq i).slot t
 | 0, _, _=> ⟨rfl, fun _ _=> rfl⟩
 | d + 1, h, hq=> by
  obtain ⟨ih1, ih2⟩ := fl_same d (by omega) fun j o a b=> hq j o a (by omega)
  have ho : ops[i + d]? = some ops[i + d] := Array.getElem?_eq_getElem (by omega)
  have hh := hq (i + d) _ (by omega) (by omega) ho
  obtain ⟨_, _, ⟨h4, _⟩ | ⟨_, u, v, _, _, hv, e⟩⟩ := hsq (i + d) _ ho
  ·rw [hh] at h4; cases h4
  ·refine ⟨?_, fun t ht=> ?_⟩
   ·show (sq (i + d + 1)).row = _
    rw [e, (putO_row _ _ _).1, ih1]
   ·show (sq (i + d + 1)).slot t = _
    rw [e, putO_slot, if_neg (fun hd=> ht ⟨i + d, _, ho, hh, hd⟩), ih2 t ht]
omit hsq hO in
theorem nextHard {ops : Array Oper} : ∀ (d b : Nat), b + d = ops.size -> ∃ e, b <= e /\ e <= ops.size /\ (∀ i o, b <= i -> i < e -> ops[i]? = some o -> hardO ops o = false) /\ (e = ops.size \/ ∃ o, ops[e]? = some o /\ hardO ops o = true)
 | 0, b, h=> ⟨b, Nat.le_refl _, by omega, fun i o h1 h2=> by omega, .inl (by omega)⟩
 | d + 1, b, h=> by
  have ho : ops[b]? = some ops[b] := Array.getElem?_eq_getElem (by omega)
  cases hb : hardO ops ops[b] with
  | true=> exact ⟨b, Nat.le_refl _, by omega, fun i o h1 h2=> by omega, .inr ⟨_, ho, hb⟩⟩
  | false=>
   obtain ⟨e1, h1, h2, h3, h4⟩ := nextHard (ops := ops) d (b + 1) (by omega)
   refine ⟨e1, by omega, h2, fun i o h5 h6 h7=> ?_, h4⟩
   by_cases e : i = b
   ·subst e; rw [ho] at h7; cases h7; exact hb
   ·exact h3 i o (by omega) h6 h7
omit hsq hO in
def InvF (E : Env) (w0 : World) (B : Old) (pv : Nat -> Value) (ops : Array Oper) (rid : Nat) (S0 : Nat -> Prop) (sq : Nat -> St) (X : Nat -> Bool) (S : Nat -> Prop) (ρ : Nat -> Option Loc) (a : Act) (w : World) : Prop :=
 ∃ b, b <= ops.size /\ (∀ i o, ops[i]? = some o -> hardO ops o = true -> i < b -> X i = true) /\ (∀ i o, ops[i]? = some o -> hardO ops o = true -> b <= i -> X i = false) /\ (b = ops.size \/ ∃ o, ops[b]? = some o /\ hardO ops o = true) /\ (∀ i, X i = true -> i < ops.size) /\
  Sim w0 B pv S ρ ⟨flS ops sq X b, (sq b).row, (sq 0).nt⟩ a w /\ GlOk E pv S w /\ (∀ i, i < ops.size -> X i = false -> ∀ id, Site rid i id -> ρ id = none) /\
  (∀ i o, ops[i]? = some o -> X i = true -> ∀ e ∈ o.after, Region.binds .any e = true -> X e.on = true) /\ Grew B S0 S
theorem invF_next {X : Nat -> Bool} {b : Nat} (hb : b <= ops.size) (h1 : ∀ i o, ops[i]? = some o -> hardO ops o = true -> i < b -> X i = true) (h2 : ∀ i o, ops[i]? = some o -> hardO ops o = true -> b <= i -> X i = false) (h3 : ∀ i, X i = true -> i < ops.size)
  {S : Nat -> Prop} {ρ : Nat -> Option Loc} {a : Act} {w : World} (hs : Sim w0 B pv S ρ ⟨flS ops sq X b, (sq b).row, (sq 0).nt⟩ a w) (hgl : GlOk E pv S w) (hρ : ∀ i, i < ops.size -> X i = false -> ∀ id, Site rid i id -> ρ id = none)
  (hX : ∀ i o, ops[i]? = some o -> X i = true -> ∀ e ∈ o.after, Region.binds .any e = true -> X e.on = true) (hS : Grew B S0 S) : InvF E w0 B pv ops rid S0 sq X S ρ a w:= by
 obtain ⟨e, h4, h5, h6, h7⟩ := nextHard (ops := ops) (ops.size - b) b (by omega)
 obtain ⟨k1, k2⟩ := fl_same hsq (i := b) (e - b) (by omega) fun j o a c=> h6 j o a (by omega)
 rw [show b + (e - b) = e by omega] at k1 k2
 refine ⟨e, h5, fun i o ho hh hi=> ?_, fun i o ho hh hi=> h2 i o ho hh (by omega), h7, h3, hs.slotsEq (fun t=> ?_) k1 rfl, hgl, hρ, hX, hS⟩
 ·by_cases hlt : i < b
  ·exact h1 i o ho hh hlt
  ·rw [h6 i o (by omega) hi ho] at hh; cases hh
 ·show flS ops sq X e t = flS ops sq X b t
  by_cases h : ∃ p, FW ops t p
  ·obtain ⟨p, hp⟩ := h
   cases hXp : X p with
   | true=> rw [flS_yes hO hp hXp, flS_yes hO hp hXp]
   | false=> rw [flS_not hO hp hXp, flS_not hO hp hXp]
  ·rw [flS_no h, flS_no h, k2 t h]
theorem invF_step (hB : pre = fun i j=> ((Region.before ops).toList.getD i 0).testBit j = true) (hE : EnvOk P E) (hG : GOk P E pv G) {X X' : Nat -> Bool} {i : Nat} {o : Oper} {S : Nat -> Prop} {ρ : Nat -> Option Loc} {a : Act} {w : World} (h : InvF E w0 B pv ops rid S0 sq X S ρ a w) (ho : ops[i]? = some o) (hi : X i = false) (hready : ∀ e ∈ o.after, Region.binds .any e = true -> X e.on = true)
  (hX' : ∀ j, X' j = if j = i then true else X j) {K : Act -> World -> Prop} (hK : ∀ S' ρ' a' w', InvF E w0 B pv ops rid S0 sq X' S' ρ' a' w' -> K a' w') : wpOp P ops Q i K a w:= by
 obtain ⟨b, hb, hX1, hX2, hbe, hXlt, hs, hgl, hρ, hcl, hS⟩ := h
 have hin : i < ops.size := (Array.getElem?_eq_some_iff.1 ho).1
 have hpre : ∀ j, pre i j -> X j = true := fun j hp=> hO.mem (X := fun j=> X j = true) hXlt hcl i o j ho hp hready
 have hcl' : ∀ j o', ops[j]? = some o' -> X' j = true -> ∀ e ∈ o'.after, Region.binds .any e = true -> X' e.on = true := fun j o' hj hXj e he hbn=> by
  rw [hX'] at hXj ⊢
  split
  ·rfl
  ·by_cases e' : j = i
   ·subst e'; rw [ho] at hj; cases hj; exact hready e he hbn
   ·rw [if_neg e'] at hXj; exact hcl j o' hj hXj e he hbn
 have hXlt' : ∀ j, X' j = true -> j < ops.size := fun j hj=> by
  rw [hX'] at hj
  split at hj
  ·omega
  ·exact hXlt j hj
 have hid : ∀ c, c < 4 -> ρ ((rid * 256 + i) * 4 + c) = none := fun c hc=> hρ i hin hi _ (by unfold Site; omega)
 have hρ' : ∀ ρ' : Nat -> Option Loc, (∀ j, ρ j = none -> ¬ ((rid * 256 + i) * 4 <= j /\ j < (rid * 256 + i) * 4 + 4) -> ρ' j = none) -> ∀ j, j < ops.size -> X' j = false -> ∀ id, Site rid j id -> ρ' id = none := fun ρ' hk j hj hXj id hsite=> by
  rw [hX'] at hXj
  split at hXj
  ·cases hXj
  ·rename_i e
   exact hk id (hρ j hj hXj id hsite) fun hsite'=> e (Site.ne hsite hsite')
 obtain ⟨hd, hg, hst⟩ := hsq i o ho
 have hnt : (sq i).nt = (sq 0).nt := nt_f hsq i (by omega)
 have hd' : dstOk o (⟨flS ops sq X b, (sq b).row, (sq 0).nt⟩ : St).nt = true:= by rw [hnt] at hd; exact hd
 have hev : (∀ t ∈ o.looksAt ops, flS ops sq X b t = (sq i).slot t) -> ∀ x ∈ o.op.operands, ev E (⟨flS ops sq X b, (sq b).row, (sq 0).nt⟩ : St) x = ev E (sq i) x := fun hl x hx=> by
  cases x with
  | tmp t=> exact hl t (List.mem_append_left _ (List.mem_filterMap.2 ⟨.tmp t, by simpa using hx, rfl⟩))
  | _=> rfl
 -- what a floating operation has written is there
 have hread : ∀ t ∈ o.looksAt ops, ∀ p, FW ops t p -> flS ops sq X b t = (sq i).slot t := fun t ht p hp=> by
  obtain ⟨o', h1, h2, h3⟩ := hp
  obtain ⟨hlt, hpr⟩ := hO.look p i o' o t h1 ho h2 h3 ht
  rw [flS_yes hO ⟨o', h1, h2, h3⟩ (hpre p hpr)]
  exact (fw_stay hO hsq ⟨o', h1, h2, h3⟩ hlt (by omega)).1.symm
 unfold wpOp
 rw [ho]
 simp only
 rw [if_pos (want_y hs (.inl hg))]
 refine .inl ?_
 rcases hst with ⟨hh, u, hop, ha, hsu⟩ | ⟨hh, u, v, hop, hu, hv, hsu⟩
 ·have hbi : b = i:= by
   have h1 : b <= i:= by
    apply Classical.byContradiction
    intro hlt
    rw [hX1 i o ho hh (by omega)] at hi
    cases hi
   apply Classical.byContradiction
   intro hne
   rcases hbe with h2 | ⟨ob, h2, h3⟩
   ·omega
   ·have := hpre b (hO.hard i b o ob ho h2 hh h3 (by omega))
    rw [hX2 b ob h2 h3 (Nat.le_refl _)] at this
    cases this
  subst hbi
  have hlooks : ∀ t ∈ o.looksAt ops, flS ops sq X b t = (sq b).slot t := fun t ht=> by
   by_cases h : ∃ p, FW ops t p
   ·obtain ⟨p, hp⟩ := h
    exact hread t ht p hp
   ·exact flS_no h
  have hopX : AOp E G false o ((rid * 256 + b) * 4) (ev E (⟨flS ops sq X b, (sq b).row, (sq 0).nt⟩ : St)) (⟨flS ops sq X b, (sq b).row, (sq 0).nt⟩ : St).row u := hop.mono (hev hlooks) fun _ _ h=> h
  refine step_ok hE hG hs hgl hd' hid hopX fun S' ρ' a' w' hs' hgl' hS' hk=> ?_
  refine hK S' ρ' a' w' (invF_next hO hsq (b := b + 1) (by omega) (fun j p hp hhp hj=> ?_) (fun j p hp hhp hj=> ?_) hXlt' (hs'.slotsEq (fun t=> ?_) ?_ ?_) hgl' (hρ' ρ' hk) hcl' (hS.trans hS'))
  ·rw [hX']
   split
   ·rfl
   ·exact hX1 j p hp hhp (by omega)
  ·rw [hX', if_neg (by omega)]
   exact hX2 j p hp hhp (by omega)
  ·rw [apply_slot]
   show flS ops sq X' (b + 1) t = if o.dst = some t then u.v else kz u (flS ops sq X b t)
   by_cases h : ∃ p, FW ops t p
   ·obtain ⟨p, hp⟩ := h
    have hpb : p ≠ b := fun e=> by
     obtain ⟨o', h1, h2, _⟩ := hp
     rw [e, ho] at h1; cases h1
     rw [hh] at h2; cases h2
    have hdn : o.dst ≠ some t:= by
     obtain ⟨o', h1, h2, h3⟩ := hp
     exact hO.uniq p b o' o t h1 ho h2 h3 hpb
    have hXp : X' p = X p:= by rw [hX', if_neg hpb]
    have hpn : p < ops.size:= by obtain ⟨o', h1, _⟩ := hp; exact (Array.getElem?_eq_some_iff.1 h1).1
    rw [if_neg hdn]
    cases hc : X p with
    | true=>
     rw [flS_yes hO hp (hXp.trans hc), flS_yes hO hp hc]
     exact (kz_flat (fw_stay hO hsq hp (Nat.lt_succ_self p) (by omega)).2 ha).symm
    | false=>
     rw [flS_not hO hp (hXp.trans hc), flS_not hO hp hc]
     exact (kz_any u).symm
   ·rw [flS_no h, flS_no h, hsu, apply_slot]
  ·rw [hsu]
   exact apply_cong _ _ _ _ rfl
  ·rw [apply_nt]
 ·have hlooks : ∀ t ∈ o.looksAt ops, flS ops sq X b t = (sq i).slot t := fun t ht=> by
   by_cases h : ∃ p, FW ops t p
   ·obtain ⟨p, hp⟩ := h
    exact hread t ht p hp
   ·have hno : ∀ (j : Nat) (p : Oper), ops[j]? = some p -> p.dst = some t -> hardO ops p = true /\ i < j /\ pre j i := fun j p hp hdp=> by
     cases hhp : hardO ops p with
     | false=> exact absurd ⟨j, p, hp, hhp, hdp⟩ h
     | true=> exact ⟨rfl, hO.flo i j o p t ho hp hh hhp hdp ht⟩
    rcases hO.outer i o t ho hh ht with ⟨j, p, hp, hhp, hdp⟩ | hf
    ·exact absurd ⟨j, p, hp, hhp, hdp⟩ h
    ·have k1 := flat_stay hsq hf b (by omega) fun j p _ hj hp hdp=> by
      obtain ⟨q1, _, q2⟩ := hno j p hp hdp
      have q3 := hX1 j p hp q1 (by omega)
      have := hO.mem (X := fun j=> X j = true) hXlt hcl j p i hp q2 (hcl j p hp q3)
      rw [hi] at this
      cases this
     have k2 := flat_stay hsq hf i (by omega) fun j p _ hj hp hdp=> by
      have := (hno j p hp hdp).2.1
      omega
     rw [Nat.zero_add] at k1 k2
     rw [flS_no h, k1, k2]
  have hrowF : SubRow (rowF ops i (sq i).row) (sq b).row := fun id r h=> by
   unfold rowF at h
   cases hoi : ordH ops i with
   | false=> rw [hoi] at h; cases h
   | true=>
    rw [hoi] at h
    have hne : ∀ j p, ops[j]? = some p -> hardO ops p = true -> i ≠ j := fun j p hp hhp e=> by
     rw [<- e, ho] at hp; cases hp; rw [hh] at hhp; cases hhp
    have hlt : ∀ j p, ops[j]? = some p -> hardO ops p = true -> j < i -> j < b := fun j p hp hhp hj=> by
     have := ordH_ord hoi hp hhp (hne j p hp hhp)
     rw [Nat.max_eq_left (by omega), Nat.min_eq_right (by omega)] at this
     have h1 := hpre j (hB ▸ this)
     apply Classical.byContradiction
     intro hn
     rw [hX2 j p hp hhp (by omega)] at h1
     cases h1
    have hgt : ∀ j p, ops[j]? = some p -> hardO ops p = true -> i < j -> b <= j := fun j p hp hhp hj=> by
     have := ordH_ord hoi hp hhp (hne j p hp hhp)
     rw [Nat.max_eq_right (by omega), Nat.min_eq_left (by omega)] at this
     apply Classical.byContradiction
     intro hn
     have q3 := hX1 j p hp hhp (by omega)
     have := hO.mem (X := fun j=> X j = true) hXlt hcl j p i hp (hB ▸ this) (hcl j p hp q3)
     rw [hi] at this
     cases this
    have e : (sq b).row = (sq i).row:= by
     by_cases hbi : b <= i
     ·have := (fl_same hsq (i := b) (i - b) (by omega) fun j p h1 h2 hp=> by
       cases hhp : hardO ops p with
       | false=> rfl
       | true=> have := hlt j p hp hhp (by omega); omega).1
      rw [show b + (i - b) = i by omega] at this
      exact this.symm
     ·have := (fl_same hsq (i := i) (b - i) (by omega) fun j p h1 h2 hp=> by
       cases hhp : hardO ops p with
       | false=> rfl
       | true=>
        have h3 := hne j p hp hhp
        have := hgt j p hp hhp (by omega); omega).1
      rwa [show i + (b - i) = b by omega] at this
    rw [e]
    exact h
  have hopX : AOp0 E G true o ((rid * 256 + i) * 4) (ev E (⟨flS ops sq X b, (sq b).row, (sq 0).nt⟩ : St)) (⟨flS ops sq X b, (sq b).row, (sq 0).nt⟩ : St).row u := hop.mono (hev hlooks) hrowF
  refine step_flt hE hG hs hgl hd' hid hopX hu fun S' ρ' a' w' hs' hgl' hS' hk=> ?_
  have hne : ∀ j p, ops[j]? = some p -> hardO ops p = true -> j ≠ i := fun j p hp hhp e=> by
   rw [e, ho] at hp; cases hp; rw [hh] at hhp; cases hhp
  refine hK S' ρ' a' w' ⟨b, hb, fun j p hp hhp hj=> ?_, fun j p hp hhp hj=> ?_, hbe, hXlt', hs'.slotsEq (fun t=> ?_) ?_ ?_, hgl', hρ' ρ' hk, hcl', hS.trans hS'⟩
  ·rw [hX', if_neg (hne j p hp hhp)]
   exact hX1 j p hp hhp hj
  ·rw [hX', if_neg (hne j p hp hhp)]
   exact hX2 j p hp hhp hj
  ·rw [apply_slot]
   show flS ops sq X' b t = if o.dst = some t then v else flS ops sq X b t
   by_cases hdt : o.dst = some t
   ·rw [if_pos hdt, flS_yes hO ⟨o, ho, hh, hdt⟩ (by rw [hX', if_pos rfl]), hsu, putO_slot, if_pos hdt]
   ·rw [if_neg hdt]
    by_cases h : ∃ p, FW ops t p
    ·obtain ⟨p, hp⟩ := h
     have hpi : p ≠ i := fun e=> by
      obtain ⟨o', h1, _, h3⟩ := hp
      rw [e, ho] at h1; cases h1
      exact hdt h3
     have hXp : X' p = X p:= by rw [hX', if_neg hpi]
     cases hc : X p with
     | true=> rw [flS_yes hO hp (hXp.trans hc), flS_yes hO hp hc]
     | false=> rw [flS_not hO hp (hXp.trans hc), flS_not hO hp hc]
    ·rw [flS_no h, flS_no h]
  ·exact ((putO_row (⟨flS ops sq X b, (sq b).row, (sq 0).nt⟩ : St) o.dst v).1).symm
  ·exact ((putO_row (⟨flS ops sq X b, (sq b).row, (sq 0).nt⟩ : St) o.dst v).2).symm
theorem any_okF (hB : pre = fun i j=> ((Region.before ops).toList.getD i 0).testBit j = true) (hE : EnvOk P E) (hG : GOk P E pv G)
  (hQ : ∀ S' ρ' a' w', Sim w0 B pv S' ρ' (sq ops.size) a' w' -> GlOk E pv S' w' -> Grew B S0 S' -> Q .normal a' w') :
  ∀ (fuel : Nat) (listed : Array Bool) (S : Nat -> Prop) (ρ : Nat -> Option Loc) (a : Act) (w : World), listed.size = ops.size -> listed.toList.count false <= fuel -> InvF E w0 B pv ops rid S0 sq (fun i=> listed.getD i false) S ρ a w -> wpAny P .any ops Q fuel listed a w:= by
 have done : ∀ (listed : Array Bool) (S : Nat -> Prop) (ρ : Nat -> Option Loc) (a : Act) (w : World), InvF E w0 B pv ops rid S0 sq (fun i=> listed.getD i false) S ρ a w -> (∀ i, i < ops.size -> listed.getD i false = true) -> Q .normal a w := fun listed S ρ a w h hall=> by
  obtain ⟨b, hb, hX1, hX2, hbe, hXlt, hs, hgl, hρ, hcl, hS⟩ := h
  have he : b = ops.size:= by
   rcases hbe with h1 | ⟨ob, h2, h3⟩
   ·exact h1
   ·have h4 : listed.getD b false = false := hX2 b ob h2 h3 (Nat.le_refl _)
    rw [hall b (Array.getElem?_eq_some_iff.1 h2).1] at h4
    cases h4
  subst he
  refine hQ S ρ a w (hs.slotsEq (fun t=> ?_) rfl (nt_f hsq _ (Nat.le_refl _))) hgl hS
  show (sq ops.size).slot t = flS ops sq (fun i=> listed.getD i false) ops.size t
  by_cases h : ∃ p, FW ops t p
  ·obtain ⟨p, hp⟩ := h
   have hpn : p < ops.size:= by obtain ⟨o', h1, _⟩ := hp; exact (Array.getElem?_eq_some_iff.1 h1).1
   rw [flS_yes hO hp (hall p hpn)]
   exact (fw_stay hO hsq hp hpn (Nat.le_refl _)).1
  ·rw [flS_no h]
 have stuck : ∀ (listed : Array Bool), listed.size = ops.size -> Region.ready .any ops listed = [] -> ∀ i, i < ops.size -> listed.getD i false = true := fun listed hsz hr i=> by
  induction i using Nat.strongRecOn with
  | _ i ih=>
   intro hi
   apply Classical.byContradiction
   intro hne
   have hoi : ops[i]? = some ops[i] := Array.getElem?_eq_getElem hi
   have hmem : i ∈ Region.ready .any ops listed:= by
    rw [mem_ready]
    refine ⟨?_, ops[i], hoi, fun e he hb=> ?_⟩
    ·have hlt : i < listed.size:= by omega
     rw [Array.getD_eq_getD_getElem?, Array.getElem?_eq_getElem hlt] at hne ⊢
     simpa using hne
    ·have := hO.lt i _ hoi e he hb
     exact ih e.on this (by omega)
   rw [hr] at hmem
   cases hmem
 intro fuel
 induction fuel with
 | zero=>
  intro listed S ρ a w hsz hc hI
  have hall : ∀ i, i < ops.size -> listed.getD i false = true := fun i hi=> by
   have hlt : i < listed.size:= by omega
   rw [Array.getD_eq_getD_getElem?, Array.getElem?_eq_getElem hlt]
   cases hb : listed[i] with
   | true=> rfl
   | false=>
    have hm : false ∈ listed.toList:= by rw [<- hb]; exact Array.getElem_mem_toList hlt
    have := List.count_pos_iff.2 hm
    omega
  refine ⟨?_, done listed S ρ a w hI hall⟩
  apply List.eq_nil_iff_forall_not_mem.2
  intro i hi
  rw [mem_ready] at hi
  obtain ⟨h1, o, ho, _⟩ := hi
  have hlt : i < listed.size:= by have := (Array.getElem?_eq_some_iff.1 ho).1; omega
  have := hall i (by omega)
  rw [Array.getD_eq_getD_getElem?, Array.getElem?_eq_getElem hlt] at this h1
  simp at this h1
  rw [this] at h1
  cases h1
 | succ fuel ih=>
  intro listed S ρ a w hsz hc hI
  refine ⟨fun hr=> done listed S ρ a w hI (stuck listed hsz hr), fun i hi=> ?_⟩
  rw [mem_ready] at hi
  obtain ⟨h1, o, ho, hall⟩ := hi
  have hlt : i < listed.size:= by have := (Array.getElem?_eq_some_iff.1 ho).1; omega
  have hli : listed[i] = false:= by
   rw [Array.getD_eq_getD_getElem?, Array.getElem?_eq_getElem hlt] at h1
   simpa using h1
  refine invF_step hO hsq hB hE hG hI ho ?_ hall (X' := fun j=> (listed.setIfInBounds i true).getD j false) (fun j=> ?_) fun S' ρ' a' w' hI'=> ih _ S' ρ' a' w' (by simpa using hsz) ?_ hI'
  ·rw [Array.getD_eq_getD_getElem?, Array.getElem?_eq_getElem hlt, hli]
   rfl
  ·rw [Array.getD_eq_getD_getElem?, Array.getD_eq_getD_getElem?, Array.getElem?_setIfInBounds]
   by_cases e : j = i
   ·subst e; simp [hlt]
   ·rw [if_neg (fun h=> e h.symm), if_neg e]
  ·have := count_set (l := listed.toList) (i := i) (by rw [Array.getElem?_toList, Array.getElem?_eq_getElem hlt, hli])
   rw [Array.toList_setIfInBounds]
   omega
omit hO hsq in
theorem regionF_ok (hE : EnvOk P E) (hG : GOk P E pv G) (hn : ops.size <= 256) (hm : rid * 1024 + 1024 <= mbase) {S : Nat -> Prop} {ρ : Nat -> Option Loc} {st st' : St} {a : Act} {w : World} (hok : fltOk ops (st.kill (rid * 1024) (rid * 1024 + 1024)) = true)
  (hr : ∃ sq : Nat -> St, sq 0 = st.kill (rid * 1024) (rid * 1024 + 1024) /\ (∀ i o, ops[i]? = some o -> StepF E G ops rid i o (sq i) (sq (i + 1))) /\ sq ops.size = st') (hs : Sim w0 B pv S ρ st a w) (hgl : GlOk E pv S w)
  (hQ : ∀ S' ρ' a' w', Sim w0 B pv S' ρ' st' a' w' -> GlOk E pv S' w' -> Grew B S S' -> Q .normal a' w') : (Code.region rid ops true).wp P Q a w:= by
 have hk := hs.kill (rid * 1024) (rid * 1024 + 1024) (by
  unfold inR
  rw [Bool.and_eq_false_iff]
  refine .inr ?_
  cases hb : Nat.blt mbase (rid * 1024 + 1024) with
  | false=> rfl
  | true=> have := Nat.le_of_ble_eq_true hb; omega)
 have hkn : ∀ k, k < 256 -> ∀ id, Site rid k id -> killL (rid * 1024) (rid * 1024 + 1024) ρ id = none := fun k hk id hsite=> by
  have : inR (rid * 1024) (rid * 1024 + 1024) id = true:= by
   unfold Site at hsite
   simp only [inR, Bool.and_eq_true, Nat.blt, Nat.ble_eq]
   omega
  unfold killL; rw [this]; rfl
 obtain ⟨sq, h1, hsq, h2⟩ := hr
 have hO := fltOk_flt hok
 rw [<- h1] at hO
 refine wp_region_any hE.mixed (any_okF (S0 := S) hO hsq rfl hE hG (by rw [h2]; exact hQ) ops.size _ S (killL (rid * 1024) (rid * 1024 + 1024) ρ) a _ (by simp) (by simp) ?_)
 have hdrew := hk.drew
 rw [<- h1] at hdrew
 have hX : ∀ i, (Array.replicate ops.size false).getD i false = false := fun i=> by
  rw [Array.getD_eq_getD_getElem?]
  by_cases hi : i < ops.size
  ·simp [hi]
  ·simp [hi]
 have hX0 : ∀ {p : Prop} i, (Array.replicate ops.size false).getD i false = true -> p := fun i h=> by rw [hX i] at h; cases h
 refine invF_next hO hsq (b := 0) (Nat.zero_le _) (fun i _ _ _ hi=> absurd hi (Nat.not_lt_zero i)) (fun i _ _ _ _=> hX i) (fun i h=> hX0 i h) ?_ (hgl.mono (fun _ h=> h) fun _ _=> rfl) (fun i hi _ id hsite=> hkn i (by omega) id hsite) (fun i o _ hx=> hX0 i hx) (Grew.refl _ _)
 refine ⟨hdrew.size, hdrew.defers, fun t=> ?_, hdrew.hs, hdrew.below, hdrew.hB⟩
 have hz := hdrew.slots t
 by_cases h : ∃ p, FW ops t p
 ·obtain ⟨p, hp⟩ := h
  exact .inl (flS_not hO (X := fun i=> (Array.replicate ops.size false).getD i false) (b := 0) hp (hX p))
 ·have e := flS_no (sq := sq) (X := fun i=> (Array.replicate ops.size false).getD i false) (b := 0) h
  rw [<- e] at hz
  exact hz
omit hO hsq in
theorem Sim.rdSlot {S : Nat -> Prop} {ρ : Nat -> Option Loc} {st : St} {a : Act} {w : World} (h : Sim w0 B pv S ρ st a w) (t : Nat) : Sim w0 B pv S ρ (rdSlot st t) a w:= by
 unfold Gx.rdSlot
 split
 ·rename_i j hj
  split
  ·rename_i e τ xs app hr
   refine ⟨h.size, h.defers, fun t'=> ?_, h.hs, h.below, h.hB⟩
   have h0 := h.slots t'
   show VR S w ρ st.row pv (cond (Nat.beq t' t) (.t (.sl τ) xs) (st.slot t')) _
   cases hb : Nat.beq t' t with
   | false=> exact h0
   | true=>
    obtain rfl := Nat.eq_of_beq_eq_true hb
    rw [hj] at h0
    rcases vr_own h0 hr with ⟨g, c, hl, h9⟩ | ⟨hl, h9, h8⟩
    ·rw [h9]
     exact .inr ⟨_, .t _ _ _ (row_cr h.hs (fun _ h=> h) hr hl ((h.hs.apart j _ g c hl hr).2.2 rfl)), rfl⟩
    ·subst h9
     rw [h8]
     exact .inr ⟨_, .t _ _ _ (cr_nil _ _ _), rfl⟩
  ·exact h
 ·exact h
omit hO hsq in
theorem Sim.rdSlots {S : Nat -> Prop} {ρ : Nat -> Option Loc} {a : Act} {w : World} : ∀ (l : List Nat) {st : St}, Sim w0 B pv S ρ st a w -> Sim w0 B pv S ρ (rdSlots st l) a w
 | [], st, h=> h
 | t :: l, st, h=> Sim.rdSlots l (h.rdSlot t)
end
end Go.Gx
end
section
/- Code: what the interpreter finds is what the machine does, loops being given. -/
namespace Go.Gx
open Go.RowKit
theorem TyOk.soft {P : Program} {E : Env} {T : Nat} : ∀ {τ : Ty}, TyOk P E T τ -> ∀ b pt pr, TyOk P (E.soft b pt pr) T τ := fun {τ} h b pt pr=> ⟨h.info, by have := h.und; cases τ <;> exact this⟩
theorem EnvOk.soft {P : Program} {E : Env} (h : EnvOk P E) (b : Bool) (pt pr : List Nat) : EnvOk P (E.soft b pt pr) := ⟨fun T τ e=> (h.ty T τ e).soft b pt pr, h.mixed, h.eqDate, h.eqAbbr⟩
theorem GlOk.soft {E : Env} {pv : Nat -> Value} {S : Nat -> Prop} {w : World} (h : GlOk E pv S w) (b : Bool) (pt pr : List Nat) : GlOk (E.soft b pt pr) pv S w := h
theorem GlOk.unsoft {E : Env} {pv : Nat -> Value} {S : Nat -> Prop} {w : World} {b : Bool} {pt pr : List Nat} (h : GlOk (E.soft b pt pr) pv S w) : GlOk E pv S w := h
theorem GOk.soft {P : Program} {E : Env} {pv : Nat -> Value} {G : Cal -> List AV -> AV -> Prop} (h : GOk P E pv G) (b : Bool) (pt pr : List Nat) : GOk P (E.soft b pt pr) pv G := h
inductive CodeR (E : Env) (G : Cal -> List AV -> AV -> Prop) (LG : Nat -> St -> Ex -> St -> Prop) : Nat -> Code -> St -> Ex -> St -> Prop
 | skip (b : Nat) (st : St) : CodeR E G LG b .skip st .normal st
 | region (b rid : Nat) (ops : Array Oper) (dr : Bool) (st st' : St) (hn : ops.size <= 256) (hm : rid * 1024 + 1024 <= mbase) (hd : dr = true -> drawOk (softE E dr ops (st.kill (rid * 1024) (rid * 1024 + 1024))) ops = true) (hso : dr = true -> anySoft (softE E dr ops (st.kill (rid * 1024) (rid * 1024 + 1024))) ops = true -> soOk (softE E dr ops (st.kill (rid * 1024) (rid * 1024 + 1024))) ops = true) (h : RunR (softE E dr ops (st.kill (rid * 1024) (rid * 1024 + 1024))) G dr ops rid ops.toList 0 (st.kill (rid * 1024) (rid * 1024 + 1024)) st') : CodeR E G LG b (.region rid ops dr) st .normal st'
 | frz (b : Nat) (c : Code) (st st' : St) (e : Ex) (ids : List Nat) (h : CodeR E G LG b c (st.freeze ids) e st') : CodeR E G LG b c st e st'
 | flt (b rid : Nat) (ops : Array Oper) (st st' : St) (l : List Nat) (hn : ops.size <= 256) (hm : rid * 1024 + 1024 <= mbase) (hok : fltOk ops ((rdSlots st l).kill (rid * 1024) (rid * 1024 + 1024)) = true) (h : ∃ sq : Nat -> St, sq 0 = (rdSlots st l).kill (rid * 1024) (rid * 1024 + 1024) /\ (∀ i o, ops[i]? = some o -> StepF E G ops rid i o (sq i) (sq (i + 1))) /\ sq ops.size = st') : CodeR E G LG b (.region rid ops true) st .normal st'
 | seq (b : Nat) (x y : Code) (st st1 st' : St) (e : Ex) (h1 : CodeR E G LG b x st .normal st1) (h2 : CodeR E G LG b y st1 e st') : CodeR E G LG b (.seq x y) st e st'
 | seqE (b : Nat) (x y : Code) (st st' : St) (e : Ex) (h1 : CodeR E G LG b x st e st') (he : e ≠ .normal) : CodeR E G LG b (.seq x y) st e st'
 | cond (b : Nat) (c : Operand) (x y : Code) (st st' : St) (e : Ex) (v : Bool) (hc : ev E st c = .t .bool v) (h : CodeR E G LG b (if v then x else y) st e st') : CodeR E G LG b (.cond c x y) st e st'
 | block (b id : Nat) (c : Code) (st st' : St) (e : Ex) (h : CodeR E G LG id c st e st') (he : e ≠ .exit id) : CodeR E G LG b (.block id c) st e st'
 | blockX (b id : Nat) (c : Code) (st st' : St) (h : CodeR E G LG id c st (.exit id) st') : CodeR E G LG b (.block id c) st .normal st'
 | loop (b : Nat) (c : Code) (st st' : St) (e : Ex) (h : LG b st e st') : CodeR E G LG b (.loop c) st e st'
 | exit (b id : Nat) (st : St) : CodeR E G LG b (.exit id) st (.exit id) st
 | ret (b : Nat) (st : St) : CodeR E G LG b .ret st .ret st
def LIs (L : LOrc) (LG : Nat -> St -> Ex -> St -> Prop) : Prop := ∀ (R : Type) b st (K : Ex -> St -> Option R) r, L b st K = some r -> ∃ e st', LG b st e st' /\ K e st' = some r
theorem runC_rel {E : Env} {C : Orc} {L : LOrc} {G : Cal -> List AV -> AV -> Prop} {LG : Nat -> St -> Ex -> St -> Prop} (hC : OrcIs C G) (hL : LIs L LG) {R : Type} {r : R} : ∀ (c : Code) (b : Nat) (st : St) {K : Ex -> St -> Option R}, runC E C L b c st K = some r ->
  ∃ e st', CodeR E G LG b c st e st' /\ K e st' = some r
 | .skip, b, st, K, h=> ⟨_, _, .skip b st, h⟩
 | .region rid ops dr, b, st, K, h=> by
  simp only [runC] at h
  split at h
  ·rename_i hdr
   simp only [Bool.and_eq_true] at hdr
   obtain ⟨rfl, _⟩ := hdr
   unfold runH at h
   split at h
   ·rename_i hg
    simp only [Bool.and_eq_true] at hg
    obtain ⟨hn, hm, hok⟩ := hg
    obtain ⟨sq, h1, h2, h3⟩ := runFl_rel hC _ _ _ h
    rw [Nat.zero_add, Array.length_toList] at h3
    exact ⟨_, _, .frz _ _ _ _ _ _ (.flt b rid ops _ _ _ (Nat.le_of_ble_eq_true hn) (Nat.le_of_ble_eq_true hm) hok ⟨sq, h1, fun i o ho=> by have := h2 i o (by simpa using ho); rwa [Nat.zero_add] at this, rfl⟩), h3⟩
   ·cases h
  unfold runG at h
  split at h
  ·cases h
  ·rename_i hg
   simp only [Bool.or_eq_false_iff, Bool.not_eq_false'] at hg
   obtain ⟨hn, hm, hd⟩ := hg
   obtain ⟨st', h1, h2⟩ := runOps_rel hC _ _ _ h
   refine ⟨_, st', .frz _ _ _ _ _ _ (.region b rid ops dr _ st' (Nat.le_of_ble_eq_true hn) (Nat.le_of_ble_eq_true hm) (fun e=> ?_) (fun e e2=> ?_) h1), h2⟩
   ·subst e
    simp only [Bool.true_and, Bool.or_eq_false_iff, Bool.not_eq_false'] at hd
    exact hd.1
   ·subst e
    rw [e2] at hd
    simp only [Bool.true_and, Bool.or_eq_false_iff, Bool.not_eq_false'] at hd
    exact hd.2
 | .seq x y, b, st, K, h=> by
  simp only [runC] at h
  obtain ⟨e, st1, h1, h2⟩ := runC_rel hC hL x b st h
  cases e with
  | normal=>
   obtain ⟨e, st', h3, h4⟩ := runC_rel hC hL y b st1 h2
   exact ⟨e, st', .seq b x y st st1 st' e h1 h3, h4⟩
  | exit id=> exact ⟨_, st1, .seqE b x y st st1 _ h1 (by simp), h2⟩
  | ret=> exact ⟨_, st1, .seqE b x y st st1 _ h1 (by simp), h2⟩
 | .cond c x y, b, st, K, h=> by
  simp only [runC] at h
  split at h
  ·rename_i v hv
   cases v with
   | true=>
    obtain ⟨e, st', h1, h2⟩ := runC_rel hC hL x b st h
    exact ⟨e, st', .cond b c x y st st' e true hv (by simpa using h1), h2⟩
   | false=>
    obtain ⟨e, st', h1, h2⟩ := runC_rel hC hL y b st h
    exact ⟨e, st', .cond b c x y st st' e false hv (by simpa using h1), h2⟩
  ·cases h
 | .block id c, b, st, K, h=> by
  simp only [runC] at h
  obtain ⟨e, st1, h1, h2⟩ := runC_rel hC hL c id st h
  cases e with
  | normal=> exact ⟨_, st1, .block b id c st st1 _ h1 (by simp), h2⟩
  | exit j=>
   simp only at h2
   split at h2
   ·rename_i hj
    have := Nat.eq_of_beq_eq_true hj
    subst this
    exact ⟨_, st1, .blockX b _ c st st1 h1, h2⟩
   ·rename_i hj
    refine ⟨_, st1, .block b id c st st1 _ h1 (fun e=> ?_), h2⟩
    cases e
    simp at hj
  | ret=> exact ⟨_, st1, .block b id c st st1 _ h1 (by simp), h2⟩
 | .loop c, b, st, K, h=> by
  simp only [runC] at h
  obtain ⟨e, st', h1, h2⟩ := hL _ _ _ _ _ h
  exact ⟨e, st', .loop b c st st' e h1, h2⟩
 | .exit id, b, st, K, h=> ⟨_, _, .exit b id st, h⟩
 | .ret, b, st, K, h=> ⟨_, _, .ret b st, h⟩
 | .rangeFunc .., b, st, K, h=> by simp [runC] at h
 | .scope _, b, st, K, h=> by simp [runC] at h
 | .label _, b, st, K, h=> by simp [runC] at h
 | .goto _, b, st, K, h=> by simp [runC] at h
 | .refuse _, b, st, K, h=> by simp [runC] at h
def exw : Ex -> Exit
 | .normal=> .normal
 | .exit id=> .exit id
 | .ret=> .ret
def LoopSound (P : Program) (E : Env) (w0 : World) (B : Old) (pv : Nat -> Value) (d : Code) (LGb : St -> Ex -> St -> Prop) : Prop :=
 ∀ (st : St) (e : Ex) (st' : St) (S : Nat -> Prop) (ρ : Nat -> Option Loc) (a : Act) (w : World) (Q : Exit -> Act -> World -> Prop), LGb st e st' -> Sim w0 B pv S ρ st a w -> GlOk E pv S w ->
  (∀ S' ρ' a' w', Sim w0 B pv S' ρ' st' a' w' -> GlOk E pv S' w' -> Grew B S S' -> Q (exw e) a' w') -> (Code.loop d).wp P Q a w
theorem code_ok {P : Program} {E : Env} {w0 : World} {B : Old} {pv : Nat -> Value} {G : Cal -> List AV -> AV -> Prop} {LG : Nat -> St -> Ex -> St -> Prop} (hE : EnvOk P E) (hG : GOk P E pv G) {b : Nat} {c : Code} {st : St} {e : Ex} {st' : St} (h : CodeR E G LG b c st e st') :
  (∀ p ∈ loopsOf b c, LoopSound P E w0 B pv p.2 (LG p.1)) -> ∀ {S : Nat -> Prop} {ρ : Nat -> Option Loc} {a : Act} {w : World} {Q : Exit -> Act -> World -> Prop}, Sim w0 B pv S ρ st a w -> GlOk E pv S w ->
  (∀ S' ρ' a' w', Sim w0 B pv S' ρ' st' a' w' -> GlOk E pv S' w' -> Grew B S S' -> Q (exw e) a' w') -> c.wp P Q a w:= by
 induction h with
 | skip b st=> exact fun _ S ρ a w Q hs hgl hQ=> wp_skip (hQ S ρ a w hs hgl (Grew.refl _ _))
 | region b rid ops dr st st' hn hm hd hso h=>
  refine fun _ S ρ a w Q hs hgl hQ=> region_ok (E := softE E dr ops (st.kill (rid * 1024) (rid * 1024 + 1024))) (hE.soft _ _ _) (hG.soft _ _ _) hn hm hd (fun e e2=> hso e ?_) h hs (GlOk.soft hgl _ _ _) fun S' ρ' a' w' h1 h2 h3=> hQ S' ρ' a' w' h1 (GlOk.unsoft h2) h3
  subst e
  have e3 := e2
  simp only [softE, Env.soft, Bool.true_and, Bool.and_eq_true] at e3
  simpa [softE, Env.soft, anySoft, softB] using e3.2
 | flt b rid ops st st' l hn hm hok h=>
  exact fun _ S ρ a w Q hs hgl hQ=> regionF_ok hE hG hn hm hok h (hs.rdSlots l) hgl fun S' ρ' a' w' h1 h2 h3=> hQ S' ρ' a' w' h1 h2 h3
 | frz b c st st' e ids h ih=>
  intro hl S ρ a w Q hs hgl hQ
  exact ih hl (hs.frzs ids) (hgl.mono (fun _ h=> .inl h) (fun _ _=> rfl)) fun S1 ρ1 a1 w1 h1 h2 h3=> hQ S1 ρ1 a1 w1 h1 h2 ((grew_frz hs _).trans h3)
 | seq b x y st st1 st' e h1 h2 ih1 ih2=>
  intro hl S ρ a w Q hs hgl hQ
  refine wp_seq (ih1 (fun p hp=> hl p (List.mem_append_left _ hp)) hs hgl fun S1 ρ1 a1 w1 hs1 hgl1 hS1=> ?_)
  exact ih2 (fun p hp=> hl p (List.mem_append_right _ hp)) hs1 hgl1 fun S2 ρ2 a2 w2 hs2 hgl2 hS2=> hQ S2 ρ2 a2 w2 hs2 hgl2 (hS1.trans hS2)
 | seqE b x y st st' e h1 he ih=>
  intro hl S ρ a w Q hs hgl hQ
  refine wp_seq (ih (fun p hp=> hl p (List.mem_append_left _ hp)) hs hgl fun S1 ρ1 a1 w1 hs1 hgl1 hS1=> ?_)
  have := hQ S1 ρ1 a1 w1 hs1 hgl1 hS1
  cases e with
  | normal=> exact absurd rfl he
  | exit id=> exact this
  | ret=> exact this
 | cond b c x y st st' e v hc h ih=>
  intro hl S ρ a w Q hs hgl hQ
  have hv := ev_ok hgl hs c
  rw [hc] at hv
  refine wp_cond (vr_bool hv) (ih (fun p hp=> hl p ?_) hs hgl hQ)
  cases v with
  | true=> exact List.mem_append_left _ (by simpa using hp)
  | false=> exact List.mem_append_right _ (by simpa using hp)
 | block b id c st st' e h he ih=>
  intro hl S ρ a w Q hs hgl hQ
  refine wp_block (ih hl hs hgl fun S1 ρ1 a1 w1 hs1 hgl1 hS1=> ?_)
  have := hQ S1 ρ1 a1 w1 hs1 hgl1 hS1
  cases e with
  | normal=> exact this
  | exit j=>
   have hj : j ≠ id := fun e=> he (by rw [e])
   simp only [Exit.inBlock, exw] at this ⊢
   rw [if_neg (by simpa using hj)]
   exact this
  | ret=> exact this
 | blockX b id c st st' h ih=>
  intro hl S ρ a w Q hs hgl hQ
  refine wp_block (ih hl hs hgl fun S1 ρ1 a1 w1 hs1 hgl1 hS1=> ?_)
  have := hQ S1 ρ1 a1 w1 hs1 hgl1 hS1
  simp only [Exit.inBlock, exw] at this ⊢
  rw [if_pos (by simp)]
  exact this
 | loop b c st st' e h=>
  intro hl S ρ a w Q hs hgl hQ
  exact hl (b, c) List.mem_cons_self st e st' S ρ a w Q h hs hgl hQ
 | exit b id st=> exact fun _ S ρ a w Q hs hgl hQ=> wp_exit (hQ S ρ a w hs hgl (Grew.refl _ _))
 | ret b st=> exact fun _ S ρ a w Q hs hgl hQ=> wp_ret (hQ S ρ a w hs hgl (Grew.refl _ _))
end Go.Gx
end
