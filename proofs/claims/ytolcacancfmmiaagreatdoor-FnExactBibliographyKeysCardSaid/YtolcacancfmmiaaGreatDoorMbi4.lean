/- Rows: data that was trodden is plain data in memory; a law's contract out of its call's answer. -/
import Derived.Test.YtolcacancfmmiaaGreatDoorMbi3
import Derived.ChangeSame
import Derived.Carry
import Derived.WideKeyArgs
import Derived.Deep.Slices
import Derived.ProofKit
import Derived.Lib.LaidTab
import Derived.Test.YtolcacancfmmiaaGreatDoorMbi1
import Derived.Laws.StructEq
import Derived.Lib.Strings
section
namespace Go.Gx
open Go.RowKit Go.ChangeShapes Go.WideShapes
set_option linter.unusedVariables false
set_option linter.unusedSimpArgs false
inductive WF : (τ : Ty) → den τ → Prop
  | int (k : IntKind) (n : Int) (h : (Lit.int k n).wf = true) : WF (.int k) n
  | bool (b : Bool) : WF .bool b
  | str (s : ByteArray) (h : s.size ≤ maxLen) : WF .str s
  | sl (e : Ty) (xs : List (den e)) (hm : xs.length ≤ maxLen) (h : ∀ i (hi : i < xs.length), WF e xs[i]) : WF (.sl e) xs
  | date (d : Date) (hy : WF (.int .i64) d.y) (hm : WF (.int .i64) d.m) (hd : WF (.int .i64) d.d) : WF .date d
  | abbr (a : Abbr) (h1 : WF .str a.word) (h2 : WF .str a.short) : WF .abbr a
  | name (n : Name) (h1 : WF (.sl .str) n.given) (h2 : WF .str n.particle) (h3 : WF .str n.family) (h4 : WF .str n.suffix) : WF .name n
  | entry (e : Entry) (h1 : WF .str e.key) (h2 : WF (.int .i64) e.kind) (h3 : WF (.sl .name) e.authors) (h4 : WF (.sl .name) e.editors) (h5 : WF .str e.title) (h6 : WF .str e.container) (h7 : WF .str e.publisher)
      (h8 : WF .date e.date) (h9 : WF (.int .i64) e.volume) (h10 : WF .str e.pages) (h11 : WF .str e.cross) : WF .entry e
  | lib (l : Library) (h : WF (.sl .entry) l.entries) : WF .lib l
  | cur (q : Cur) (h1 : WF (.sl (.int .u8)) q.code) (h2 : WF (.int .i64) q.at_) (h3 : WF (.int .u64) q.seed) : WF .cur q
  | query (q : Query) (h1 : WF (.int .i64) q.op) (h2 : WF .str q.field) (h3 : WF .str q.word) (h4 : WF (.sl .query) q.parts) : WF .query q
def noA : Ty → Bool
  | .arr _ _ => false
  | .sl e => noA e
  | _ => true
section
variable {H : Type} {enc : TypeId × Value → H} {P : Program} {E : Env} {w : World} {spare : Nat → Bool} {held : Bool} {S : Nat → Prop}
abbrev Lt (w : World) : Nat → Prop := fun b => b < w.heap.size
theorem cell_lt {a : Addr} {v : Value} (h : w.cell? a = some v) : a.block < w.heap.size := by
  unfold World.cell? at h
  split at h
  · rename_i c e f hb; exact (Array.getElem?_eq_some_iff.1 hb).1
  · cases h
theorem trod_cr (hty : ∀ T τ, E.ty T = some τ → TyOk P E T τ) : ∀ (fuel : Nat) (T : Nat) (τ : Ty) (cs : List Value) (y : DataW H × List MemPlace), noA τ = true → E.ty T = some τ → DataW.trod enc P w 0 spare held fuel T cs = some y → ∃ x : den τ, WF τ x ∧ CR (Lt w) w τ x cs
  | 0, T, τ, cs, y, _, _, h => by simp [DataW.trod] at h
  | fuel + 1, T, τ, cs, y, hn, hT, h => by
    have ih := trod_cr hty fuel
    have hu := hty T τ hT
    obtain ⟨i, hi, hsz, -, -⟩ := hu.info
    have hcells : P.cellsOf T = nc τ := by simp [Program.cellsOf, hi, hsz]
    have cellsOf : ∀ {t σ}, E.ty t = some σ → P.cellsOf t = nc σ := fun {t σ} ht => by
      obtain ⟨i, hi, hsz, -, -⟩ := (hty t σ ht).info
      simp [Program.cellsOf, hi, hsz]
    have hund := hu.und
    -- a struct's fields
    have fields : ∀ fs, P.underlying T = some (.struct fs) → fs.size = (fty τ).length → (∀ (f : Nat) (d : Field), fs[f]? = some d → ∃ σ, (fty τ)[f]? = some σ ∧ d.offset = offL (fty τ) f ∧ E.ty d.type = some σ) →
        cs.length = nc τ ∧ ∀ (f : Nat) σ, (fty τ)[f]? = some σ → noA σ = true → ∃ x : den σ, WF σ x ∧ CR (Lt w) w σ x ((cs.drop (offL (fty τ) f)).take (nc σ)) := fun fs hfs hl hf => by
      obtain ⟨xs, n, hn, _, hlen, hxl, hx⟩ := DataW.trod_struct hfs h
      cases hn
      refine ⟨hlen.trans hcells, fun f σ hσ hno => ?_⟩
      have hfl : f < fs.size := by have := (List.getElem?_eq_some_iff.1 hσ).1; omega
      obtain ⟨σ', h1, h2, h3⟩ := hf f fs[f] (Array.getElem?_eq_getElem hfl)
      rw [hσ] at h1
      cases h1
      have h4 := hx f fs[f] (Array.getElem?_eq_getElem hfl)
      rw [List.getElem?_eq_getElem (show f < xs.length by omega), h2, cellsOf h3] at h4
      exact ih _ σ _ _ hno h3 h4
    cases τ with
    | int k => obtain ⟨n, rfl, _, hw⟩ := DataW.trod_int hund h; exact ⟨n, .int k n hw, .int k n⟩
    | bool => obtain ⟨b, rfl, _⟩ := DataW.trod_bool hund h; exact ⟨b, .bool b, .bool b⟩
    | str => obtain ⟨s, rfl, _, hs⟩ := DataW.trod_string hund h; exact ⟨s, .str s hs, .str s⟩
    | arr n e => cases hn
    | sl e =>
      obtain ⟨t, h1, h2, h3, h4, h5⟩ := hund
      rcases DataW.trod_slice h1 h with ⟨rfl, _⟩ | ⟨a, len, cap, elems, rest, n, hfn, rfl, _, hb, hl, hm, hlen, hel, _⟩
      · exact ⟨[], .sl e [] (Nat.zero_le _) (fun i hi => absurd hi (Nat.not_lt_zero i)), cr_nil _ _ e⟩
      · cases hfn
        have key : ∀ i, ∃ x : den e, ∃ c : List Value, i < len → WF e x ∧ CR (Lt w) w e x c ∧ a.spot = none ∧ a.block < w.heap.size ∧ ∀ j v, c[j]? = some v → w.cell? ⟨a.block, a.off + (i * nc e + j), none⟩ = some v := fun i => by
          by_cases hi : i < len
          · have h6 := hel i hi
            rw [List.getElem?_eq_getElem (show i < elems.length by omega)] at h6
            obtain ⟨c, h7, h8⟩ := Option.bind_eq_some_iff.1 h6
            rw [cellsOf h3] at h7
            obtain ⟨x, h9, h10⟩ := ih t e c _ hn h3 h8
            obtain ⟨_, hcl, hcc⟩ := World.cells?_some h7
            have hcell : ∀ j v, c[j]? = some v → w.cell? ((a.add (i * nc e)).add j) = some v := fun j v hj => by
              have : j < c.length := (List.getElem?_eq_some_iff.1 hj).1
              rw [hcc j (by omega), hj]
            have h0 : ∃ v, c[0]? = some v := ⟨c[0], List.getElem?_eq_getElem (by omega)⟩
            obtain ⟨v0, hv0⟩ := h0
            have hlt : a.block < w.heap.size := by
              have := cell_lt (hcell 0 v0 hv0)
              simpa [Addr.add] using (show (a.add (i * nc e)).block < w.heap.size by simpa [Addr.add] using this) |> fun h => by unfold Addr.add at h; split at h <;> exact h
            have hsp : a.spot = none := by
              have h11 := hel 0 (by omega)
              rw [List.getElem?_eq_getElem (show 0 < elems.length by omega)] at h11
              obtain ⟨c', h12, _⟩ := Option.bind_eq_some_iff.1 h11
              rw [cellsOf h3] at h12
              obtain ⟨_, hcl', hcc'⟩ := World.cells?_some h12
              have h13 := hcc' 0 (by omega)
              rw [List.getElem?_eq_getElem (show 0 < c'.length by omega)] at h13
              have := World.cell?_spot h13
              simpa [Addr.add] using this
            refine ⟨x, c, fun _ => ⟨h9, h10, hsp, hlt, fun j v hj => ?_⟩⟩
            have := hcell j v hj
            rw [Go.Deep.add_add] at this
            obtain ⟨ab, ao, asp⟩ := a
            cases hsp
            simp only [Addr.add] at this
            split at this
            · rename_i hz
              have h14 : i * nc e + j = 0 := hz
              rw [h14]; exact this
            · exact this
          · exact ⟨dflt e, [], fun h => absurd h hi⟩
        let xf := fun i => Classical.choose (key i)
        have hxf : ∀ i, ∃ c : List Value, i < len → WF e (xf i) ∧ CR (Lt w) w e (xf i) c ∧ a.spot = none ∧ a.block < w.heap.size ∧ ∀ j v, c[j]? = some v → w.cell? ⟨a.block, a.off + (i * nc e + j), none⟩ = some v := fun i => Classical.choose_spec (key i)
        let cf := fun i => Classical.choose (hxf i)
        have hcf := fun i => Classical.choose_spec (hxf i)
        have hxl : ((List.range len).map xf).length = len := by simp
        refine ⟨(List.range len).map xf, .sl e _ (by rw [hxl]; omega) (fun i hi => ?_), ?_⟩
        · rw [hxl] at hi
          simp only [List.getElem_map, List.getElem_range]
          exact (hcf i hi).1
        · have := CR.sl (S := Lt w) (w := w) e ((List.range len).map xf) (some a) cap cf (by rw [hxl]; exact hl) hm (fun i hi => by
            rw [hxl] at hi
            simp only [List.getElem_map, List.getElem_range]
            exact (hcf i hi).2.1) (fun i hi => by
            rw [hxl] at hi
            obtain ⟨_, _, h6, h7, h8⟩ := hcf i hi
            obtain ⟨ab, ao, asp⟩ := a
            cases h6
            exact ⟨ab, ao, rfl, h7, h8⟩)
          rw [hxl] at this
          exact this
    | date =>
      obtain ⟨fs, h1, h2, h3⟩ := hund
      obtain ⟨hl, hf⟩ := fields fs h1 h2 h3
      match cs, hl with
      | [c0, c1, c2, c3], _ =>
        obtain ⟨x0, g0, k0⟩ := hf 0 _ rfl rfl
        obtain ⟨x1, g1, k1⟩ := hf 1 _ rfl rfl
        obtain ⟨x2, g2, k2⟩ := hf 2 _ rfl rfl
        obtain ⟨x3, g3, k3⟩ := hf 3 _ rfl rfl
        simp [offL, nc] at k0 k1 k2 k3
        cases k0; cases k1; cases k2; cases k3
        exact ⟨⟨x0, x1, x2, x3⟩, .date _ g0 g1 g2, .date ⟨x0, x1, x2, x3⟩⟩
    | abbr =>
      obtain ⟨fs, h1, h2, h3⟩ := hund
      obtain ⟨hl, hf⟩ := fields fs h1 h2 h3
      match cs, hl with
      | [c0, c1], _ =>
        obtain ⟨x0, g0, k0⟩ := hf 0 _ rfl rfl
        obtain ⟨x1, g1, k1⟩ := hf 1 _ rfl rfl
        simp [offL, nc] at k0 k1
        cases k0; cases k1
        exact ⟨⟨x0, x1⟩, .abbr _ g0 g1, .abbr ⟨x0, x1⟩⟩
    | cur =>
      obtain ⟨fs, h1, h2, h3⟩ := hund
      obtain ⟨hl, hf⟩ := fields fs h1 h2 h3
      match cs, hl with
      | [c0, c1, c2], _ =>
        obtain ⟨x0, g0, k0⟩ := hf 0 _ rfl rfl
        obtain ⟨x1, g1, k1⟩ := hf 1 _ rfl rfl
        obtain ⟨x2, g2, k2⟩ := hf 2 _ rfl rfl
        simp [offL, nc] at k0 k1 k2
        obtain ⟨v, rfl⟩ : ∃ v, c0 = v := ⟨_, rfl⟩
        cases k1; cases k2
        exact ⟨⟨x0, x1, x2⟩, .cur _ g0 g1 g2, .cur ⟨x0, x1, x2⟩ _ k0⟩
    | name =>
      obtain ⟨fs, h1, h2, h3⟩ := hund
      obtain ⟨hl, hf⟩ := fields fs h1 h2 h3
      match cs, hl with
      | [c0, c1, c2, c3], _ =>
        obtain ⟨x0, g0, k0⟩ := hf 0 _ rfl rfl
        obtain ⟨x1, g1, k1⟩ := hf 1 _ rfl rfl
        obtain ⟨x2, g2, k2⟩ := hf 2 _ rfl rfl
        obtain ⟨x3, g3, k3⟩ := hf 3 _ rfl rfl
        simp [offL, nc] at k0 k1 k2 k3
        cases k1; cases k2; cases k3
        exact ⟨⟨x0, x1, x2, x3⟩, .name _ g0 g1 g2 g3, .name ⟨x0, x1, x2, x3⟩ _ k0⟩
    | query =>
      obtain ⟨fs, h1, h2, h3⟩ := hund
      obtain ⟨hl, hf⟩ := fields fs h1 h2 h3
      match cs, hl with
      | [c0, c1, c2, c3], _ =>
        obtain ⟨x0, g0, k0⟩ := hf 0 _ rfl rfl
        obtain ⟨x1, g1, k1⟩ := hf 1 _ rfl rfl
        obtain ⟨x2, g2, k2⟩ := hf 2 _ rfl rfl
        obtain ⟨x3, g3, k3⟩ := hf 3 _ rfl rfl
        simp [offL, nc] at k0 k1 k2 k3
        cases k0; cases k1; cases k2
        exact ⟨.mk x0 x1 x2 x3, .query _ g0 g1 g2 g3, .query (.mk x0 x1 x2 x3) _ k3⟩
    | lib =>
      obtain ⟨fs, h1, h2, h3⟩ := hund
      obtain ⟨hl, hf⟩ := fields fs h1 h2 h3
      match cs, hl with
      | [c0], _ =>
        obtain ⟨x0, g0, k0⟩ := hf 0 _ rfl rfl
        simp [offL, nc] at k0
        exact ⟨⟨x0⟩, .lib _ g0, .lib ⟨x0⟩ _ k0⟩
    | entry =>
      obtain ⟨fs, h1, h2, h3⟩ := hund
      obtain ⟨hl, hf⟩ := fields fs h1 h2 h3
      match cs, hl with
      | [c0, c1, c2, c3, c4, c5, c6, c7, c8, c9, c10, c11, c12, c13], _ =>
        obtain ⟨x0, g0, k0⟩ := hf 0 _ rfl rfl
        obtain ⟨x1, g1, k1⟩ := hf 1 _ rfl rfl
        obtain ⟨x2, g2, k2⟩ := hf 2 _ rfl rfl
        obtain ⟨x3, g3, k3⟩ := hf 3 _ rfl rfl
        obtain ⟨x4, g4, k4⟩ := hf 4 _ rfl rfl
        obtain ⟨x5, g5, k5⟩ := hf 5 _ rfl rfl
        obtain ⟨x6, g6, k6⟩ := hf 6 _ rfl rfl
        obtain ⟨x7, g7, k7⟩ := hf 7 _ rfl rfl
        obtain ⟨x8, g8, k8⟩ := hf 8 _ rfl rfl
        obtain ⟨x9, g9, k9⟩ := hf 9 _ rfl rfl
        obtain ⟨x10, g10, k10⟩ := hf 10 _ rfl rfl
        simp [offL, nc] at k0 k1 k2 k3 k4 k5 k6 k7 k8 k9 k10
        cases k0; cases k1; cases k4; cases k5; cases k6; cases k7; cases k8; cases k9; cases k10
        exact ⟨⟨x0, x1, x2, x3, x4, x5, x6, x7, x8, x9, x10⟩, .entry _ g0 g1 g2 g3 g4 g5 g6 g7 g8 g9 g10, .entry ⟨x0, x1, x2, x3, x4, x5, x6, x7, x8, x9, x10⟩ _ _ k2 k3⟩
def WFs : (l : List Ty) → TX l → Prop
  | [], _ => True
  | τ :: l, x => WF τ x.1 ∧ WFs l x.2
def parsOk (E : Env) : List Nat → List Ty → Bool
  | [], [] => true
  | T :: l, τ :: m => (match E.ty T with
    | some σ => sameTy σ τ
    | none => false) && (noA τ && parsOk E l m)
  | _, _ => false
theorem val_of (hty : ∀ T τ, E.ty T = some τ → TyOk P E T τ) {T : Nat} {τ : Ty} (hn : noA τ = true) (hT : E.ty T = some τ) {base : Nat} {v : Value} (hv : Value.okWide P w .any base T v) {x : den τ} {S : Nat → Prop} : v = valOf (.t τ x) v.cells.toList := by
  have hund := (hty T τ hT).und
  cases τ with
  | int k => obtain ⟨n, rfl⟩ := okWide_int hund hv; rfl
  | bool => obtain ⟨n, rfl⟩ := okWide_bool hund hv; rfl
  | str => obtain ⟨n, rfl⟩ := okWide_string hund hv; rfl
  | sl e => obtain ⟨t, h1, _⟩ := hund; obtain ⟨a, l, c, rfl⟩ := okWide_slice h1 hv; rfl
  | arr n e => cases hn
  | date | name | entry | lib | abbr | query | cur => obtain ⟨fs, h1, _⟩ := hund; obtain ⟨cs, rfl, _⟩ := okWide_struct h1 hv; rfl
theorem args_open (hty : ∀ T τ, E.ty T = some τ → TyOk P E T τ) {base : Nat} {pv : Nat → Value} : ∀ {Ts : List Nat} {τs : List Ty} {vs : List Value} {ds : List (DataW H)} {ps : List MemPlace}, parsOk E Ts τs = true → DataW.TrodAll enc P w 0 spare held Ts vs ds ps →
    (∀ (j : Nat) t v, Ts[j]? = some t → vs[j]? = some v → Value.okWide P w .any base t v) → ∃ x : TX τs, WFs τs x ∧ ArgsOk (Lt w) w pv (tvals τs x) vs
  | [], [], [], [], ps, _, _, _ => ⟨(), trivial, rfl, fun i a v h => by simp [tvals] at h⟩
  | T :: Ts, τ :: τs, vs, ds, ps, hp, h, hv => by
    obtain ⟨v, vs', d, ds', p, q, rfl, rfl, rfl, hd, hr⟩ := trodAll_cons h
    simp only [parsOk, Bool.and_eq_true] at hp
    obtain ⟨hT, hn, hp⟩ := hp
    cases hE : E.ty T with
    | none => rw [hE] at hT; cases hT
    | some σ =>
      rw [hE] at hT
      have := sameTy_eq hT
      subst this
      obtain ⟨x, hx, hlen, hargs⟩ := args_open hty (pv := pv) hp hr fun j t v h1 h2 => hv (j + 1) t v (by simpa using h1) (by simpa using h2)
      obtain ⟨fuel, hf⟩ := hd
      obtain ⟨x0, hw0, hc0⟩ := trod_cr hty fuel T σ _ _ hn hE hf
      refine ⟨(x0, x), ⟨hw0, hx⟩, by simp [tvals, hlen], fun i a u h1 h2 => ?_⟩
      cases i with
      | zero =>
        cases h1; cases h2
        exact ⟨_, .t σ x0 _ hc0, val_of hty hn hE (hv 0 T v rfl rfl) (S := Lt w)⟩
      | succ i => exact hargs i a u (by simpa [tvals] using h1) (by simpa using h2)
  | [], _ :: _, _, _, _, hp, _, _ => by cases hp
  | _ :: _, [], _, _, _, hp, _, _ => by cases hp
  | [], [], _ :: _, _, _, _, h, _ => by cases h
  | [], [], [], _ :: _, _, _, h, _ => by cases h
theorem law_contract (hE : EnvOk P E) {f : FuncId} {fn : Func} {c : Code} (hfn : P.funcs[f]? = some fn) (hbody : fn.body = some c) (hname : (fn.name == "runtime.NumGoroutine") = false) {τs : List Ty} (hps : parsOk E fn.params.toList τs = true) {tb : Nat} (hres : fn.resultTypes = #[tb]) (hb : P.underlying tb = some .bool)
    (hl : laidOutB P = true) (hr : ∀ t ∈ fn.params.toList, P.readableRec t = true ∧ t < P.types.size) {s : ChangeSpec}
    {W : World} {base : Nat} {args : Array Value} {ds gs : List (DataW H)} {before : List MemPlace} {r : AV} (hrt : r = .t .bool true)
    (hlaw : ∀ x : TX τs, WFs τs x → Meets P E (fun _ => undef) (.f f) (tvals τs x) r)
    (hspec : s.fn H (ds ++ gs) = { results := [.lit (.bool true)], args := ds, vars := gs })
    (hval : ∀ (j : Nat) t v, fn.params[j]? = some t → args[j]? = some v → Value.okWide P W .any base t v)
    (hW : DataW.Whole enc P fn.params.toList s.vars false W args.toList ds gs before) (hgl : GlOk E (fun _ => undef) (Lt W) W)
    (hv : ∀ q, DataW.TrodVars enc P W (fun _ => true) s.vars gs q → ∀ W', Below W.heap.size W W' → DataW.TrodVars enc P W' (fun b => decide (b < W.heap.size)) s.vars gs q) :
    Calls P f args W fun e W' => ∃ v, e = .returned v ∧ s.post enc P fn false true false false W args v W' := by
  have hW' := hW
  obtain ⟨p, q, hA, hV, rfl, hfz, hnd⟩ := hW
  obtain ⟨x, hx, hargs⟩ := args_open (spare := fun _ => true) (held := true) hE.ty (pv := fun _ => undef) hps hA fun j t v h1 h2 => hval j t v (by simpa using h1) (by simpa using h2)
  subst hrt
  have hgo := hlaw x hx (Lt W) W args.toList (fun b hb => hb) hgl hargs
  have hcall : (callFunc f args).run P W = .ok (.enter f args) W := by
    have hn' : fn.name ≠ "runtime.NumGoroutine" := by simpa using hname
    simp [callFunc, hfn, hn', hbody]
  have hgo2 : Calls P f args W fun e w'' => ∃ v, e = .returned v ∧ (Below W.heap.size W w'' ∧ ∃ S' : Nat → Prop, (∀ b, Lt W b → S' b) ∧ (∀ b, S' b → Lt W b ∨ (W.heap.size ≤ b ∧ b < w''.heap.size)) ∧ RR S' w'' W.heap.size (fun _ => undef) (.t .bool true) v) := by
    have h := hgo
    simp only [Goes] at h
    rw [hcall] at h
    exact h
  refine hgo2.mono fun e W' ⟨v, he, hbl, S', _, _, hrr⟩ => ?_
  subst he
  obtain ⟨g, hr1⟩ := hrr
  have hvb : v = .bool true := by
    cases hr1 with
    | plain _ cs ha => cases ha with | t _ _ _ hc => cases hc; rfl
  subst hvb
  have hlt : ∀ y ∈ p ++ q, y.block < W.heap.size := fun y hy => hW'.lt y hy
  refine ⟨_, rfl, ds, gs, p ++ q, [], p, q, hW', ?_, ?_, ?_, hbl.frame _, fun h => by cases h⟩
  · rw [hspec, hres]
    exact trodAll_mk1 (shut_bool hb true)
  · rw [hspec]
    have all : ∀ {Ts : List Nat} {vs : List Value} {ds : List (DataW H)} {p : List MemPlace}, DataW.TrodAll enc P W 0 (fun _ => true) true Ts vs ds p → (∀ t ∈ Ts, P.readableRec t = true ∧ t < P.types.size) → (∀ y ∈ p, y.block < W.heap.size) → DataW.TrodAll enc P W' 0 (fun b => decide (b < W.heap.size)) true Ts vs ds p := by
      intro Ts
      induction Ts with
      | nil =>
        intro vs ds p h _ _
        obtain ⟨rfl, rfl, rfl⟩ := trodAll_nil h
        exact trodAll_mk0
      | cons t Ts ih =>
        intro vs ds p h h1 h2
        obtain ⟨v, vs', d, ds', p1, q1, rfl, rfl, rfl, hd, hr'⟩ := trodAll_cons h
        exact ⟨p1, q1, Go.WideElems.Trod_stays hl (h1 t List.mem_cons_self).1 (h1 t List.mem_cons_self).2 hd (fun y hy => hbl.same (h2 y (List.mem_append_left _ hy))) (fun y hy => by simpa using h2 y (List.mem_append_left _ hy)), ih hr' (fun t ht => h1 t (List.mem_cons_of_mem _ ht)) (fun y hy => h2 y (List.mem_append_right _ hy)), rfl⟩
    exact all hA hr (fun y hy => hlt y (List.mem_append_left _ hy))
  · rw [hspec]
    exact hv q hV W' hbl
end
end Go.Gx
end
section
/- A package-level array of texts that a row lists. -/
namespace Go.Gx
open Go.RowKit Go.ChangeShapes Go.WideShapes
set_option linter.unusedVariables false
set_option linter.unusedSimpArgs false
end Go.Gx
end
section
/- '==' of dates and abbreviations. -/
namespace Go.Gx
set_option linter.unusedVariables false
set_option linter.unusedSimpArgs false
theorem eqF_nil {P : Program} {w : World} {d : Nat} {xs ys : Array Value} : (Op.eqFields d xs ys []).run P w = .ok true w := by simp [Op.eqFields]
theorem eqF_cons {P : Program} {w : World} {d : Nat} {xs ys : Array Value} {f : Field} {fs : List Field} {a b : Value} {r s : Bool} (hn : f.name ≠ "_") (h1 : (part f.type xs f.offset).run P w = .ok a w) (h2 : (part f.type ys f.offset).run P w = .ok b w)
    (h3 : (Op.equalIn d f.type a b).run P w = .ok r w) (h4 : (Op.eqFields d xs ys fs).run P w = .ok s w) : (Op.eqFields d xs ys (f :: fs)).run P w = .ok (r && s) w := by
  cases r <;> simp [Op.eqFields, hn, h1, h2, h3, h4]
theorem part_one {P : Program} {E : Env} {w : World} {T : Nat} {τ : Ty} (ht : TyOk P E T τ) (hg : agT τ = false) {cs : Array Value} {o : Nat} {v : Value} (hv : cs[o]? = some v) : (part T cs o).run P w = .ok v w := by
  simp [part, run_isAgg ht, hg, hv]
theorem date_eq {P : Program} {E : Env} (ht : ∀ T τ, E.ty T = some τ → TyOk P E T τ) {T : Nat} (hT : E.ty T = some .date) (hg : P.eqGuardType P.depth T = false) (hs : P.stoodInHeld T = false) (hn : (P.fieldsOf T).all (fun f => f.name != "_") = true) :
    P.eqGuardType P.depth T = false ∧ ∀ (x y : Date) (w : World), (Op.equalIn 10000 T (.agg #[.int .i64 x.y, .int .i64 x.m, .int .i64 x.d, .bool x.c]) (.agg #[.int .i64 y.y, .int .i64 y.m, .int .i64 y.d, .bool y.c])).run P w = .ok (x.y == y.y && (x.m == y.m && (x.d == y.d && x.c == y.c))) w := by
  refine ⟨hg, fun x y w => ?_⟩
  obtain ⟨fs, hu, hsz, hf⟩ := (ht T _ hT).und
  have hfo : P.fieldsOf T = fs := by simp [Program.fieldsOf, hu]
  rw [run_equalIn_agg (P := P) w 9999 T _ _ (by rw [hfo]; exact hu) hs, hfo]
  rw [hfo, Array.all_eq_true'] at hn
  have hname : ∀ f ∈ fs.toList, f.name ≠ "_" := fun f hm => by simpa using hn f (by simpa using hm)
  have hget : ∀ i f, fs.toList[i]? = some f → ∃ σ, (fty .date)[i]? = some σ ∧ f.offset = offL (fty .date) i ∧ E.ty f.type = some σ := fun i f h => hf i f (by simpa using h)
  have hlen : fs.toList.length = 4 := by simpa [fty] using hsz
  match hl : fs.toList, hlen with
  | [f0, f1, f2, f3], _ =>
    rw [hl] at hname hget
    obtain ⟨s0, a0, b0, c0⟩ := hget 0 f0 rfl
    obtain ⟨s1, a1, b1, c1⟩ := hget 1 f1 rfl
    obtain ⟨s2, a2, b2, c2⟩ := hget 2 f2 rfl
    obtain ⟨s3, a3, b3, c3⟩ := hget 3 f3 rfl
    cases a0; cases a1; cases a2; cases a3
    have e3 := eqF_cons (P := P) (w := w) (d := 9999) (xs := #[.int .i64 x.y, .int .i64 x.m, .int .i64 x.d, .bool x.c]) (ys := #[.int .i64 y.y, .int .i64 y.m, .int .i64 y.d, .bool y.c]) (hname f3 (by simp)) (part_one (v := .bool x.c) (ht _ _ c3) rfl (by rw [b3]; rfl)) (part_one (v := .bool y.c) (ht _ _ c3) rfl (by rw [b3]; rfl)) (run_equalIn_bool' w 9998 f3.type _ _ (ht _ _ c3).und) eqF_nil
    have e2 := eqF_cons (hname f2 (by simp)) (part_one (v := .int .i64 x.d) (ht _ _ c2) rfl (by rw [b2]; rfl)) (part_one (v := .int .i64 y.d) (ht _ _ c2) rfl (by rw [b2]; rfl)) (run_equalIn_int w 9998 f2.type _ _ _ _ (ht _ _ c2).und) e3
    have e1 := eqF_cons (hname f1 (by simp)) (part_one (v := .int .i64 x.m) (ht _ _ c1) rfl (by rw [b1]; rfl)) (part_one (v := .int .i64 y.m) (ht _ _ c1) rfl (by rw [b1]; rfl)) (run_equalIn_int w 9998 f1.type _ _ _ _ (ht _ _ c1).und) e2
    have e0 := eqF_cons (hname f0 (by simp)) (part_one (v := .int .i64 x.y) (ht _ _ c0) rfl (by rw [b0]; rfl)) (part_one (v := .int .i64 y.y) (ht _ _ c0) rfl (by rw [b0]; rfl)) (run_equalIn_int w 9998 f0.type _ _ _ _ (ht _ _ c0).und) e1
    rw [e0]
    simp
theorem abbr_eq {P : Program} {E : Env} (ht : ∀ T τ, E.ty T = some τ → TyOk P E T τ) {T : Nat} (hT : E.ty T = some .abbr) (hg : P.eqGuardType P.depth T = false) (hs : P.stoodInHeld T = false) (hn : (P.fieldsOf T).all (fun f => f.name != "_") = true) :
    P.eqGuardType P.depth T = false ∧ ∀ (x y : Abbr) (w : World), (Op.equalIn 10000 T (.agg #[.string x.word, .string x.short]) (.agg #[.string y.word, .string y.short])).run P w = .ok (beqS x.word y.word && beqS x.short y.short) w := by
  refine ⟨hg, fun x y w => ?_⟩
  obtain ⟨fs, hu, hsz, hf⟩ := (ht T _ hT).und
  have hfo : P.fieldsOf T = fs := by simp [Program.fieldsOf, hu]
  rw [run_equalIn_agg (P := P) w 9999 T _ _ (by rw [hfo]; exact hu) hs, hfo]
  rw [hfo, Array.all_eq_true'] at hn
  have hname : ∀ f ∈ fs.toList, f.name ≠ "_" := fun f hm => by simpa using hn f (by simpa using hm)
  have hget : ∀ i f, fs.toList[i]? = some f → ∃ σ, (fty .abbr)[i]? = some σ ∧ f.offset = offL (fty .abbr) i ∧ E.ty f.type = some σ := fun i f h => hf i f (by simpa using h)
  have hlen : fs.toList.length = 2 := by simpa [fty] using hsz
  match hl : fs.toList, hlen with
  | [f0, f1], _ =>
    rw [hl] at hname hget
    obtain ⟨s0, a0, b0, c0⟩ := hget 0 f0 rfl
    obtain ⟨s1, a1, b1, c1⟩ := hget 1 f1 rfl
    cases a0; cases a1
    have e1 := eqF_cons (P := P) (w := w) (d := 9999) (xs := #[.string x.word, .string x.short]) (ys := #[.string y.word, .string y.short]) (hname f1 (by simp)) (part_one (v := .string x.short) (ht _ _ c1) rfl (by rw [b1]; rfl)) (part_one (v := .string y.short) (ht _ _ c1) rfl (by rw [b1]; rfl)) (run_equalIn_string w 9998 f1.type _ _ (ht _ _ c1).und) eqF_nil
    have e0 := eqF_cons (hname f0 (by simp)) (part_one (v := .string x.word) (ht _ _ c0) rfl (by rw [b0]; rfl)) (part_one (v := .string y.word) (ht _ _ c0) rfl (by rw [b0]; rfl)) (run_equalIn_string w 9998 f0.type _ _ (ht _ _ c0).und) e1
    rw [e0]
    simp [beqS]
end Go.Gx
end
section
/- What a printed function answers with rounds enough; plain lemmas. -/
namespace Go.Gx
set_option linter.unusedVariables false
set_option linter.unusedSimpArgs false
def Ev {α : Type} (f : Nat → Option α) (r : α) : Prop := ∃ K, ∀ k, K ≤ k → f k = some r
theorem Ev.pure {α : Type} (r : α) : Ev (fun _ => some r) r := ⟨0, fun _ _ => rfl⟩
theorem Ev.const {α : Type} {f : Option α} {r : α} (h : f = some r) : Ev (fun _ => f) r := ⟨0, fun _ _ => h⟩
theorem Ev.bind {α β : Type} {f : Nat → Option α} {g : Nat → α → Option β} {a : α} {b : β} (hf : Ev f a) (hg : Ev (fun k => g k a) b) : Ev (fun k => (f k).bind (g k)) b := by
  obtain ⟨K, hK⟩ := hf
  obtain ⟨L, hL⟩ := hg
  exact ⟨max K L, fun k hk => by show (f k).bind (g k) = some b; rw [hK k (by omega), Option.bind_some]; exact hL k (by omega)⟩
theorem Ev.bind0 {α β : Type} {f : Option α} {g : Nat → α → Option β} {a : α} {b : β} (hf : f = some a) (hg : Ev (fun k => g k a) b) : Ev (fun k => f.bind (g k)) b := by
  subst hf; exact hg
theorem Ev.step {α : Type} {f g : Nat → Option α} {r : α} (h : ∀ k, f (k + 1) = g k) (hg : Ev g r) : Ev f r := by
  obtain ⟨K, hK⟩ := hg
  exact ⟨K + 1, fun k hk => by obtain ⟨m, rfl⟩ : ∃ m, k = m + 1 := ⟨k - 1, by omega⟩; rw [h]; exact hK m (by omega)⟩
theorem Ev.congr {α : Type} {f g : Nat → Option α} {r : α} (hg : Ev g r) (h : ∀ k, f k = g k) : Ev f r := by
  obtain ⟨K, hK⟩ := hg
  exact ⟨K, fun k hk => by rw [h]; exact hK k hk⟩
theorem Ev.eq {α : Type} {f : Nat → Option α} {r s : α} (h : Ev f r) (e : r = s) : Ev f s := e ▸ h
theorem Ev.get {α : Type} {f : Nat → Option α} {r : α} (h : Ev f r) : ∃ k, f k = some r := by
  obtain ⟨K, hK⟩ := h; exact ⟨K, hK K (Nat.le_refl K)⟩
theorem Ev.uniq {α : Type} {f : Nat → Option α} {r s : α} (h : Ev f r) (h' : Ev f s) : r = s := by
  obtain ⟨K, hK⟩ := h
  obtain ⟨L, hL⟩ := h'
  have := (hK (max K L) (by omega)).symm.trans (hL (max K L) (by omega))
  exact Option.some.inj this
theorem Ev.cond {α : Type} {b : Bool} {f g : Nat → Option α} {r : α} (h1 : b = true → Ev f r) (h2 : b = false → Ev g r) : Ev (fun k => cond b (f k) (g k)) r := by
  cases b with
  | true => exact h1 rfl
  | false => exact h2 rfl
theorem Ev.inl {α β γ : Type} {f : Nat → Option (Sum α β)} {g : Nat → α → Option γ} {h : Nat → β → Option γ} {a : α} {r : γ} (hf : Ev f (.inl a)) (hg : Ev (fun k => g k a) r) : Ev (fun k => (f k).bind fun y => match y with | .inl z => g k z | .inr z => h k z) r := Ev.bind hf hg
theorem Ev.inr {α β γ : Type} {f : Nat → Option (Sum α β)} {g : Nat → α → Option γ} {h : Nat → β → Option γ} {a : β} {r : γ} (hf : Ev f (.inr a)) (hg : Ev (fun k => h k a) r) : Ev (fun k => (f k).bind fun y => match y with | .inl z => g k z | .inr z => h k z) r := Ev.bind hf hg
def EvP {α : Type} (f : Nat → Option α) (P : α → Prop) : Prop := ∃ r, Ev f r ∧ P r
theorem EvP.pure {α : Type} {P : α → Prop} (r : α) (h : P r) : EvP (fun _ => some r) P := ⟨r, Ev.pure r, h⟩
theorem EvP.bind {α β : Type} {f : Nat → Option α} {g : Nat → α → Option β} {P : α → Prop} {Q : β → Prop} (hf : EvP f P) (hg : ∀ a, P a → EvP (fun k => g k a) Q) : EvP (fun k => (f k).bind (g k)) Q := by
  obtain ⟨a, h1, h2⟩ := hf
  obtain ⟨r, h3, h4⟩ := hg a h2
  exact ⟨r, Ev.bind h1 h3, h4⟩
theorem EvP.of {α β : Type} {f : Nat → Option α} {g : Nat → α → Option β} {a : α} {Q : β → Prop} (hf : Ev f a) (hg : EvP (fun k => g k a) Q) : EvP (fun k => (f k).bind (g k)) Q := by
  obtain ⟨r, h3, h4⟩ := hg
  exact ⟨r, Ev.bind hf h3, h4⟩
theorem EvP.step {α : Type} {f g : Nat → Option α} {P : α → Prop} (h : ∀ k, f (k + 1) = g k) (hg : EvP g P) : EvP f P := by
  obtain ⟨r, h1, h2⟩ := hg
  exact ⟨r, Ev.step h h1, h2⟩
theorem EvP.mono {α : Type} {f : Nat → Option α} {P Q : α → Prop} (h : EvP f P) (hq : ∀ r, P r → Q r) : EvP f Q := by
  obtain ⟨r, h1, h2⟩ := h
  exact ⟨r, h1, hq r h2⟩
theorem EvP.ev {α : Type} {f : Nat → Option α} {s : α} (h : EvP f fun r => r = s) : Ev f s := by
  obtain ⟨r, h1, rfl⟩ := h; exact h1
def EvQ {α : Type} (f g : Nat → Option α) : Prop := ∃ r, Ev f r ∧ Ev g r
theorem EvQ.pure {α : Type} (r : α) : EvQ (fun _ => some r) (fun _ => some r) := ⟨r, Ev.pure r, Ev.pure r⟩
theorem EvQ.bind {α β : Type} {f f' : Nat → Option α} {g g' : Nat → α → Option β} (hf : EvQ f f') (hg : ∀ a, EvQ (fun k => g k a) (fun k => g' k a)) : EvQ (fun k => (f k).bind (g k)) (fun k => (f' k).bind (g' k)) := by
  obtain ⟨a, h1, h2⟩ := hf
  obtain ⟨r, h3, h4⟩ := hg a
  exact ⟨r, Ev.bind h1 h3, Ev.bind h2 h4⟩
theorem cpos {α : Type} {p : Prop} [Decidable p] {a b : α} (h : p) : cond (decide p) a b = a := by rw [decide_eq_true h]; rfl
theorem cneg {α : Type} {p : Prop} [Decidable p] {a b : α} (h : ¬ p) : cond (decide p) a b = b := by rw [decide_eq_false h]; rfl
theorem ceq {α : Type} {x y : Int} {a b : α} (h : x = y) : cond (x == y) a b = a := by rw [show (x == y) = true by simpa using h]; rfl
theorem cne {α : Type} {x y : Int} {a b : α} (h : x ≠ y) : cond (x == y) a b = b := by rw [show (x == y) = false by simpa using h]; rfl
theorem cbeq {α : Type} {x y : Int} {a b : α} (h : x = y) : cond (x != y) a b = b := by rw [show (x != y) = false by simpa using h]; rfl
theorem cbne {α : Type} {x y : Int} {a b : α} (h : x ≠ y) : cond (x != y) a b = a := by rw [show (x != y) = true by simpa using h]; rfl
theorem cble {α : Type} {n m : Nat} {a b : α} (h : n ≤ m) : cond (Nat.ble n m) a b = a := by rw [Nat.ble_eq_true_of_le h]; rfl
theorem dpos {p : Prop} [Decidable p] (h : p) : decide p = true := decide_eq_true h
theorem dneg {p : Prop} [Decidable p] (h : ¬ p) : decide p = false := decide_eq_false h
theorem wrap_in {x : Int} (h1 : -9223372036854775808 ≤ x) (h2 : x ≤ 9223372036854775807) : IntKind.wrap .i64 x = x := by
  rw [IntKind.wrap_i64]; omega
theorem maxLen_eq : maxLen = 9223372036854775807 := by decide
theorem wf_str {s : ByteArray} (h : WF .str s) : s.size ≤ 9223372036854775807 := by
  cases h with | str _ h => exact maxLen_eq ▸ h
def L (s : ByteArray) : List UInt8 := s.data.toList
theorem L_inj {s t : ByteArray} (h : L s = L t) : s = t := by
  cases s; cases t
  simp only [L] at h
  rw [Array.toList_inj.1 h]
theorem L_size (s : ByteArray) : (L s).length = s.size := rfl
theorem toList_eq (s : ByteArray) : s.toList = s.data.toList := ByteArray.toList_eq s
theorem beqS_iff {s t : ByteArray} : beqS s t = true ↔ s = t := by
  unfold beqS
  rw [beq_iff_eq, toList_eq, toList_eq]
  exact ⟨fun h => L_inj h, fun h => by rw [h]⟩
theorem beqS_self (s : ByteArray) : beqS s s = true := beqS_iff.2 rfl
theorem beqS_eq (s t : ByteArray) : beqS s t = (L s == L t) := by
  unfold beqS; rw [toList_eq, toList_eq]; rfl
theorem L_bt (s : ByteArray) (i : Nat) : bt s i = (((L s).getD i 0).toNat : Int) := by
  simp [bt, L, Array.getD_eq_getD_getElem?, List.getD_eq_getElem?_getD]
theorem bt_range (s : ByteArray) (i : Nat) : 0 ≤ bt s i ∧ bt s i ≤ 255 := by
  unfold bt
  have := (s.data.getD i 0).toNat_lt
  omega
theorem L_extract (s : ByteArray) (a b : Nat) : L (s.extract a b) = ((L s).take b).drop a := by
  simp [L, ByteArray.data_extract, List.drop_take]
theorem L_append (s t : ByteArray) : L (s ++ t) = L s ++ L t := by simp [L, ByteArray.data_append]
theorem L_mk (l : List UInt8) : L ⟨l.toArray⟩ = l := by simp [L]
theorem loop_all {R : Type} {f : Nat → Int → Option R} {n : Nat} {p : Nat → Bool} {no yes : R} (hno : ∀ i : Nat, i < n → p i = false → Ev (fun k => f k i) no)
    (hyes : ∀ (i : Nat) r, i < n → p i = true → Ev (fun k => f k ((i : Int) + 1)) r → Ev (fun k => f k i) r) (hend : Ev (fun k => f k n) yes) :
    ∀ m i : Nat, i + m = n → Ev (fun k => f k i) (if (List.range' i m).all p = true then yes else no)
  | 0, i, h => by
    rw [show i = n by omega]
    exact hend
  | m + 1, i, h => by
    rw [List.range'_succ, List.all_cons]
    cases hp : p i with
    | false => exact hno i (by omega) hp
    | true =>
      rw [Bool.true_and]
      exact hyes i _ (by omega) hp (loop_all hno hyes hend m (i + 1) (by omega))
theorem range_all {α : Type} (xs : List α) (d : α) (q : α → Bool) : (List.range' 0 xs.length).all (fun i => q (xs.getD i d)) = xs.all q := by
  rw [Bool.eq_iff_iff]
  simp only [List.all_eq_true, List.mem_range'_1, Nat.zero_add, Nat.zero_le, true_and]
  constructor
  · intro h x hx
    obtain ⟨i, hi, rfl⟩ := List.getElem_of_mem hx
    have := h i hi
    simpa [List.getD, hi] using this
  · intro h i hi
    simpa [List.getD, hi] using h _ (List.getElem_mem hi)
end Go.Gx
end
