/- '==' of dates and abbreviations. -/
import Derived.Test.YtnffgabfibafjaaDoorGxMem
import Derived.Laws.StructEq
namespace Go.Gx
set_option linter.unusedVariables false
set_option linter.unusedSimpArgs false

theorem eqF_nil {P : Program} {w : World} {d : Nat} {xs ys : Array Value} : (Op.eqFields d xs ys []).run P w = .ok true w := by simp [Op.eqFields]
theorem eqF_cons {P : Program} {w : World} {d : Nat} {xs ys : Array Value} {f : Field} {fs : List Field} {a b : Value} {r s : Bool} (hn : f.name ≠ "_") (h1 : (part f.type xs f.offset).run P w = .ok a w) (h2 : (part f.type ys f.offset).run P w = .ok b w)
    (h3 : (Op.equalIn d f.type a b).run P w = .ok r w) (h4 : (Op.eqFields d xs ys fs).run P w = .ok s w) : (Op.eqFields d xs ys (f :: fs)).run P w = .ok (r && s) w := by
  cases r <;> simp [Op.eqFields, hn, h1, h2, h3, h4]
theorem part_one {P : Program} {E : Env} {w : World} {T : Nat} {τ : Ty} (ht : TyOk P E T τ) (hg : agT τ = false) {cs : Array Value} {o : Nat} {v : Value} (hv : cs[o]? = some v) : (part T cs o).run P w = .ok v w := by
  simp [part, run_isAgg ht, hg, hv]
theorem date_eq {P : Program} {E : Env} (ht : ∀ T τ, E.ty T = some τ → TyOk P E T τ) {T : Nat} (hT : E.ty T = some .date) (hg : P.eqGuardType P.depth T = false) (hs : P.stoodInHeld T = false) (hn : (P.fieldsOf T).all (fun f => f.name != "_") = true) :
    P.eqGuardType P.depth T = false ∧ ∀ (x y : Date) (w : World), (Op.equalIn 10000 T (.agg #[.int .i64 x.y, .int .i64 x.m, .int .i64 x.d, .bool x.c]) (.agg #[.int .i64 y.y, .int .i64 y.m, .int .i64 y.d, .bool y.c])).run P w = .ok (x.y == y.y && (x.m == y.m && (x.d == y.d && x.c == y.c))) w := by
  refine ⟨hg, fun x y w => ?_⟩
  obtain ⟨fs, hu, hsz, hf⟩ := (ht T _ hT).und
  have hfo : P.fieldsOf T = fs := by simp [Program.fieldsOf, hu]
  rw [run_equalIn_agg (P := P) w 9999 T _ _ (by rw [hfo]; exact hu) hs, hfo]
  rw [hfo, Array.all_eq_true'] at hn
  have hname : ∀ f ∈ fs.toList, f.name ≠ "_" := fun f hm => by simpa using hn f (by simpa using hm)
  have hget : ∀ i f, fs.toList[i]? = some f → ∃ σ, (fty .date)[i]? = some σ ∧ f.offset = offL (fty .date) i ∧ E.ty f.type = some σ := fun i f h => hf i f (by simpa using h)
  have hlen : fs.toList.length = 4 := by simpa [fty] using hsz
  match hl : fs.toList, hlen with
  | [f0, f1, f2, f3], _ =>
    rw [hl] at hname hget
    obtain ⟨s0, a0, b0, c0⟩ := hget 0 f0 rfl
    obtain ⟨s1, a1, b1, c1⟩ := hget 1 f1 rfl
    obtain ⟨s2, a2, b2, c2⟩ := hget 2 f2 rfl
    obtain ⟨s3, a3, b3, c3⟩ := hget 3 f3 rfl
    cases a0; cases a1; cases a2; cases a3
    have e3 := eqF_cons (P := P) (w := w) (d := 9999) (xs := #[.int .i64 x.y, .int .i64 x.m, .int .i64 x.d, .bool x.c]) (ys := #[.int .i64 y.y, .int .i64 y.m, .int .i64 y.d, .bool y.c]) (hname f3 (by simp)) (part_one (v := .bool x.c) (ht _ _ c3) rfl (by rw [b3]; rfl)) (part_one (v := .bool y.c) (ht _ _ c3) rfl (by rw [b3]; rfl)) (run_equalIn_bool' w 9998 f3.type _ _ (ht _ _ c3).und) eqF_nil
    have e2 := eqF_cons (hname f2 (by simp)) (part_one (v := .int .i64 x.d) (ht _ _ c2) rfl (by rw [b2]; rfl)) (part_one (v := .int .i64 y.d) (ht _ _ c2) rfl (by rw [b2]; rfl)) (run_equalIn_int w 9998 f2.type _ _ _ _ (ht _ _ c2).und) e3
    have e1 := eqF_cons (hname f1 (by simp)) (part_one (v := .int .i64 x.m) (ht _ _ c1) rfl (by rw [b1]; rfl)) (part_one (v := .int .i64 y.m) (ht _ _ c1) rfl (by rw [b1]; rfl)) (run_equalIn_int w 9998 f1.type _ _ _ _ (ht _ _ c1).und) e2
    have e0 := eqF_cons (hname f0 (by simp)) (part_one (v := .int .i64 x.y) (ht _ _ c0) rfl (by rw [b0]; rfl)) (part_one (v := .int .i64 y.y) (ht _ _ c0) rfl (by rw [b0]; rfl)) (run_equalIn_int w 9998 f0.type _ _ _ _ (ht _ _ c0).und) e1
    rw [e0]
    simp
theorem abbr_eq {P : Program} {E : Env} (ht : ∀ T τ, E.ty T = some τ → TyOk P E T τ) {T : Nat} (hT : E.ty T = some .abbr) (hg : P.eqGuardType P.depth T = false) (hs : P.stoodInHeld T = false) (hn : (P.fieldsOf T).all (fun f => f.name != "_") = true) :
    P.eqGuardType P.depth T = false ∧ ∀ (x y : Abbr) (w : World), (Op.equalIn 10000 T (.agg #[.string x.word, .string x.short]) (.agg #[.string y.word, .string y.short])).run P w = .ok (beqS x.word y.word && beqS x.short y.short) w := by
  refine ⟨hg, fun x y w => ?_⟩
  obtain ⟨fs, hu, hsz, hf⟩ := (ht T _ hT).und
  have hfo : P.fieldsOf T = fs := by simp [Program.fieldsOf, hu]
  rw [run_equalIn_agg (P := P) w 9999 T _ _ (by rw [hfo]; exact hu) hs, hfo]
  rw [hfo, Array.all_eq_true'] at hn
  have hname : ∀ f ∈ fs.toList, f.name ≠ "_" := fun f hm => by simpa using hn f (by simpa using hm)
  have hget : ∀ i f, fs.toList[i]? = some f → ∃ σ, (fty .abbr)[i]? = some σ ∧ f.offset = offL (fty .abbr) i ∧ E.ty f.type = some σ := fun i f h => hf i f (by simpa using h)
  have hlen : fs.toList.length = 2 := by simpa [fty] using hsz
  match hl : fs.toList, hlen with
  | [f0, f1], _ =>
    rw [hl] at hname hget
    obtain ⟨s0, a0, b0, c0⟩ := hget 0 f0 rfl
    obtain ⟨s1, a1, b1, c1⟩ := hget 1 f1 rfl
    cases a0; cases a1
    have e1 := eqF_cons (P := P) (w := w) (d := 9999) (xs := #[.string x.word, .string x.short]) (ys := #[.string y.word, .string y.short]) (hname f1 (by simp)) (part_one (v := .string x.short) (ht _ _ c1) rfl (by rw [b1]; rfl)) (part_one (v := .string y.short) (ht _ _ c1) rfl (by rw [b1]; rfl)) (run_equalIn_string w 9998 f1.type _ _ (ht _ _ c1).und) eqF_nil
    have e0 := eqF_cons (hname f0 (by simp)) (part_one (v := .string x.word) (ht _ _ c0) rfl (by rw [b0]; rfl)) (part_one (v := .string y.word) (ht _ _ c0) rfl (by rw [b0]; rfl)) (run_equalIn_string w 9998 f0.type _ _ (ht _ _ c0).und) e1
    rw [e0]
    simp [beqS]
end Go.Gx
