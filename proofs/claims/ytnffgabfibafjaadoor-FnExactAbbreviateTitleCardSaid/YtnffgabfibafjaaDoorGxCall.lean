/- Calls: what a callee's answer is in memory, and how the caller takes it. -/
import Derived.Test.YtnffgabfibafjaaDoorGxStep8
namespace Go.Gx
open Go.RowKit
set_option linter.unusedVariables false
set_option linter.unusedSimpArgs false

def RunsTo (P : Program) (R : Value → World → Prop) : Result Next → Prop
  | .ok (.value v) w' => R v w'
  | .ok (.enter f args) w' => Calls P f args w' fun e w'' => ∃ v, e = .returned v ∧ R v w''
  | .ok (.row row args) w' => Rows P row args w' R
  | _ => False
def Goes (P : Program) (f : FuncId) (args : Array Value) (w : World) (R : Value → World → Prop) : Prop := RunsTo P R ((callFunc f args).run P w)
def GoesV (P : Program) (fv : Value) (args : Array Value) (w : World) (R : Value → World → Prop) : Prop :=
  RunsTo P R ((do let d ← Deferred.ofValue fv args; invoke d.target d.args : Sem Next).run P w)
theorem wp_runsTo {P : Program} {o : Oper} {a : Act} {w : World} {K : Act → World → Prop} {Q : Exit → Act → World → Prop} (h : RunsTo P (fun v w' => K (a.put o.dst v) w') ((execOp a.eval o).run P w)) : o.wp P a w K Q := by
  unfold Oper.wp
  generalize (execOp a.eval o).run P w = r at *
  cases r with
  | halt x w' => exact h.elim
  | ok n w' =>
    cases n <;> first
      | exact h
      | exact h.elim
      | exact Calls.mono h fun e w'' ⟨v, he, hv⟩ => by subst he; exact hv
theorem RunsTo.mono {P : Program} {R R' : Value → World → Prop} {r : Result Next} (h : RunsTo P R r) (hr : ∀ v w, R v w → R' v w) : RunsTo P R' r := by
  cases r with
  | halt x w' => exact h.elim
  | ok n w' =>
    cases n <;> first
      | exact hr _ _ h
      | exact h.elim
      | exact Calls.mono h fun e w'' ⟨v, he, hv⟩ => ⟨v, he, hr _ _ hv⟩
      | exact Rows.mono h fun v w'' hv => hr _ _ hv

/-- An answer's component: plain data, or a slice in a block of its own. -/
inductive R1 (S : Nat → Prop) (w : World) (n0 : Nat) (pv : Nat → Value) : AV → Value → Option Nat → Prop
  | plain (a : AV) (cs : List Value) (h : AR S w (fun _ => none) (fun _ => none) pv a cs) : R1 S w n0 pv a (valOf a cs) none
  | fr (e : Nat) (τ : Ty) (xs : List (den τ)) (g cap : Nat) (hg : n0 ≤ g) (hS : ¬ S g) (h : RowOk S w (fun _ => none) (fun _ => none) pv (.flat e τ xs false true) (.at g cap)) : R1 S w n0 pv (.fr e τ xs) (.slice (some ⟨g, 0, none⟩) xs.length cap) (some g)
  | frNil (e : Nat) (τ : Ty) (h : 0 < nc τ) : R1 S w n0 pv (.fr e τ []) (.slice none 0 0) none
def RR (S : Nat → Prop) (w : World) (n0 : Nat) (pv : Nat → Value) (r : AV) (v : Value) : Prop :=
  match r with
  | .tup rs => ∃ (vs : List Value) (gs : List (Option Nat)), v = .tuple vs.toArray ∧ vs.length = rs.length ∧ gs.length = rs.length ∧
      (∀ (i : Nat) r v g, rs[i]? = some r → vs[i]? = some v → gs[i]? = some g → R1 S w n0 pv r v g) ∧ (∀ (i j g : Nat), i ≠ j → gs[i]? = some (some g) → gs[j]? ≠ some (some g))
  | r => ∃ g, R1 S w n0 pv r v g
def ArgsOk (S : Nat → Prop) (w : World) (pv : Nat → Value) (args : List AV) (vs : List Value) : Prop :=
  vs.length = args.length ∧ ∀ (i : Nat) a v, args[i]? = some a → vs[i]? = some v → ∃ cs, AR S w (fun _ => none) (fun _ => none) pv a cs ∧ v = valOf a cs
/-- What a callee keeps to: its answer, and nothing that was there is changed. -/
def Meets (P : Program) (E : Env) (pv : Nat → Value) (cal : Cal) (args : List AV) (r : AV) : Prop :=
  ∀ (S : Nat → Prop) (w : World) (vs : List Value), (∀ b, S b → b < w.heap.size) → GlOk E S w → ArgsOk S w pv args vs →
    (match cal with
      | .f n => Goes P n vs.toArray w
      | .par i => GoesV P (pv i) vs.toArray w) fun v w' => Below w.heap.size w w' ∧ ∃ S' : Nat → Prop, (∀ b, S b → S' b) ∧ (∀ b, S' b → S b ∨ (w.heap.size ≤ b ∧ b < w'.heap.size)) ∧ RR S' w' w.heap.size pv r v
/-- The value of what is handed over. -/
def hval : AV → Loc → Value
  | .fr _ _ xs, .at g cap => .slice (some ⟨g, 0, none⟩) xs.length cap
  | .fr _ _ _, .nilrow => .slice none 0 0
  | .bx _ _, .at g _ => .pointer (some ⟨g, 0, none⟩)
  | _, _ => undef
abbrev Row0 (S : Nat → Prop) (w : World) (pv : Nat → Value) (r : Row) (l : Loc) : Prop := RowOk S w (fun _ => none) (fun _ => none) pv r l
/-- An answer of a callee that was handed something. -/
def AnsM (S : Nat → Prop) (w : World) (n0 : Nat) (pv : Nat → Value) (a0 : AV) (l : Loc) (r : AV) (v : Value) : Prop :=
  match r with
  | .kep o r' => RR S w n0 pv r' v ∧ ∃ r0 ro, rowOf a0 = some r0 ∧ rowOf o = some ro ∧ Row0 S w pv ro l ∧ Same r0 ro ∧ ∀ g c, l = .at g c → ¬ S g
  | .mov e τ ys => ∃ l', Row0 S w pv (.flat e τ ys false true) l' ∧ v = hval (.fr e τ ys) l' ∧ ∀ g c, l' = .at g c → ¬ S g ∧ ((∃ c0, l = .at g c0) ∨ n0 ≤ g)
  | _ => False
def MeetsM (P : Program) (E : Env) (pv : Nat → Value) (f : Nat) (a0 : AV) (args : List AV) (r : AV) : Prop :=
  ∀ (S : Nat → Prop) (w : World) (v0 : Value) (vs : List Value) (l : Loc) (r0 : Row), (∀ b, S b → b < w.heap.size) → GlOk E S w → ArgsOk S w pv args vs → rowOf a0 = some r0 → Row0 S w pv r0 l → (∀ g c, l = .at g c → ¬ S g) → v0 = hval a0 l →
    Goes P f (v0 :: vs).toArray w fun v w' => Blw ⟨fun b => b < w.heap.size ∧ ∀ g c, l = .at g c → b ≠ g, none⟩ w w' ∧ ∃ S' : Nat → Prop, (∀ b, S b → S' b) ∧ (∀ b, S' b → S b ∨ (∃ c, l = .at b c) ∨ (w.heap.size ≤ b ∧ b < w'.heap.size)) ∧ AnsM S' w' w.heap.size pv a0 l r v
/-- Both. -/
def Keeps (P : Program) (E : Env) (pv : Nat → Value) (cal : Cal) (args : List AV) (r : AV) : Prop :=
  Meets P E pv cal args r ∧ ∀ f a0 rest, cal = .f f → args = a0 :: rest → rowOf a0 ≠ none → MeetsM P E pv f a0 rest r
def GOk (P : Program) (E : Env) (pv : Nat → Value) (G : Cal → List AV → AV → Prop) : Prop := ∀ cal args r, G cal args r → Keeps P E pv cal args r

/-! ### Answers that lead nowhere -/
theorem cr_flat {S S' : Nat → Prop} {w w' : World} : ∀ {τ : Ty} {x : den τ} {cs : List Value}, slT τ = false → CR S w τ x cs → CR S' w' τ x cs := by
  intro τ x cs h hc
  induction hc with
  | int k n => exact .int k n
  | bool b => exact .bool b
  | str s => exact .str s
  | sl => cases h
  | arr n e xs cv hl _ ih => exact .arr n e xs cv hl fun i hi => ih i hi h
  | date d => exact .date d
  | name => cases h
  | entry => cases h
  | lib => cases h
  | abbr a => exact .abbr a
  | query => cases h
theorem ar_flat {S S' : Nat → Prop} {w w' : World} {ρ ρ' : Nat → Option Loc} {row row' : Nat → Option Row} {pv : Nat → Value} : ∀ {n : Nat} {a : AV} {cs : List Value}, leads n a = false → AR S w ρ row pv a cs → AR S' w' ρ' row' pv a cs
  | 0, _, _, h, _ => by cases h
  | n + 1, a, cs, h, ha => by
    cases ha with
    | t τ x _ hx => exact .t τ x _ (cr_flat h hx)
    | nil => exact .nil
    | tup vs css hl hh =>
      refine .tup vs css hl fun i b c hb hc => ar_flat (n := n) (anyL_false (f := leads n) h hb) (hh i b c hb hc)
    | _ => cases h
theorem r1_flat {S S' : Nat → Prop} {w : World} {n0 : Nat} {pv : Nat → Value} {n : Nat} {a : AV} {v : Value} {g : Option Nat} (h : leads n a = false) (hS : ∀ b, S' b → b < n0) (hr : R1 S w n0 pv a v g) : R1 S' w n0 pv a v g := by
  cases hr with
  | plain a cs ha => exact .plain a cs (ar_flat h ha)
  | fr e τ xs g cap hg hS' hrow =>
    have hsl : slT τ = false := by cases n with
      | zero => simp [leads] at h
      | succ n => simpa [leads] using h
    refine .fr e τ xs g cap hg (fun hb => by have := hS g hb; omega) ?_
    obtain ⟨cur, f, h1, h2, h3, h4, h5, h6, h7, h8⟩ := hrow
    refine ⟨cur, f, h1, h2, h3, h4, h5, h6, h7, fun i hi => ?_⟩
    obtain ⟨cs, h9, h10⟩ := h8 i hi
    exact ⟨cs, cr_flat hsl h9, h10⟩
  | frNil e τ h' => exact .frNil e τ h'
theorem rr_flat {S S' : Nat → Prop} {w : World} {n0 : Nat} {pv : Nat → Value} {r : AV} {v : Value} (h : leads 4 r = false) (hS : ∀ b, S' b → b < n0) (hr : RR S w n0 pv r v) : RR S' w n0 pv r v := by
  cases r with
  | tup rs =>
    obtain ⟨vs, gs, h1, h2, h3, h4, h5⟩ := hr
    exact ⟨vs, gs, h1, h2, h3, fun i r v g hi hv hg => r1_flat (n := 3) (anyL_false (f := leads 3) h hi) hS (h4 i r v g hi hv hg), h5⟩
  | _ => obtain ⟨g, hg⟩ := hr; exact ⟨g, r1_flat h hS hg⟩

/-! ### The caller takes it -/
section
variable {w0 : World} {B : Old} {pv : Nat → Value} {S S' : Nat → Prop} {ρ ρ' : Nat → Option Loc} {st : St} {a : Act} {w w' : World}
/-- A row that is there already comes to be known. -/
theorem Sim.adopt (h : Sim w0 B pv S ρ st a w) {id : Nat} (hid : ρ id = none) {r : Row} {l : Loc} (hf : frz r = false) (hl : ∀ g c, l = .at g c → ¬ B g ∧ ¬ S g ∧ ∀ j c', ρ j = some (.at g c') → st.row j = none)
    (hflat : ∀ ρ' row', RowOk S w ρ' row' pv r l) : Sim w0 B pv S (upd ρ id l) (st.setRow id r) a w := by
  have hne : ∀ i l0, ρ i = some l0 → i ≠ id := fun i l0 h1 e => by subst e; rw [hid] at h1; cases h1
  have hk : ∀ i l0 r0, True → ρ i = some l0 → st.row i = some r0 → upd ρ id l i = some l0 ∧ ∃ r', (st.setRow id r).row i = some r' ∧ Same r0 r' := fun i l0 r0 _ h1 h2 => by
    have := hne i l0 h1
    refine ⟨by simp [upd, this, h1], r0, ?_, .refl r0⟩
    rw [setRow_row, if_neg this]; exact h2
  refine ⟨h.size, h.defers, fun t => VR.ext (P := fun _ => True) (fun _ h => h) (fun _ _ => rfl) hk (h.slots t) (fun _ _ => trivial), ⟨h.hs.stab, fun i r0 l0 h1 h2 => ?_, fun i i' g c c' h1 h2 h3 h4 => ?_, fun i r0 g c h1 h2 => ?_, fun l0 hl0 => (by
    have := h.hs.pin l0 hl0
    have hne' : mbase ≠ id := hne _ _ this
    simp only [upd, if_neg hne']
    exact this)⟩, h.below, h.hB⟩
  · by_cases e : i = id
    · subst e
      rw [setRow_row, if_pos rfl] at h1
      rw [upd_self] at h2
      cases h1; cases h2
      exact hflat _ _
    · rw [setRow_row, if_neg e] at h1
      simp only [upd, if_neg e] at h2
      exact (h.hs.rows i r0 l0 h1 h2).ext (P := fun _ => True) (fun _ h => h) (fun _ _ => rfl) hk (fun _ _ _ => rfl) (fun _ _ _ _ _ => trivial)
  · rw [setRow_row] at h3 h4
    by_cases e : i = id <;> by_cases e' : i' = id
    · exact e.trans e'.symm
    · subst e
      rw [upd_self] at h1
      simp only [upd, if_neg e'] at h2
      rw [if_neg e'] at h4
      exact absurd ((hl g c (by simpa using h1)).2.2 i' c' h2) h4
    · subst e'
      rw [upd_self] at h2
      simp only [upd, if_neg e] at h1
      rw [if_neg e] at h3
      exact absurd ((hl g c' (by simpa using h2)).2.2 i c h1) h3
    · simp only [upd, if_neg e] at h1
      simp only [upd, if_neg e'] at h2
      rw [if_neg e] at h3
      rw [if_neg e'] at h4
      exact h.hs.inj i i' g c c' h1 h2 h3 h4
  · by_cases e : i = id
    · subst e
      rw [setRow_row, if_pos rfl] at h2
      rw [upd_self] at h1
      cases h2
      obtain ⟨h3, h4, _⟩ := hl g c (by simpa using h1)
      exact ⟨h3, fun _ => h4, fun h5 => by rw [hf] at h5; cases h5⟩
    · rw [setRow_row, if_neg e] at h2
      simp only [upd, if_neg e] at h1
      exact h.hs.apart i r0 g c h1 h2
theorem adopt1 (h : Sim w0 B pv S ρ st a w) {n0 : Nat} (hB : ∀ k, B k → k < n0) {r : AV} {v : Value} {g : Option Nat} (hr : R1 S w n0 pv r v g) {id : Nat} (hid : ρ id = none) {b : AV} {l : List (Nat × Row)} (hi : inst1 id r (fun b l => some (b, l)) = some (b, l))
    (hg : ∀ g0, g = some g0 → ∀ j c, ρ j = some (.at g0 c) → st.row j = none) :
    ∃ ρ', Sim w0 B pv S ρ' (st.setRows l) a w ∧ (∃ cs, AR S w ρ' (st.setRows l).row pv b cs ∧ v = valOf b cs) ∧ (∀ j, j ≠ id → ρ' j = ρ j ∧ (st.setRows l).row j = st.row j) ∧ ∀ j g0 c, ρ' j = some (.at g0 c) → (j ≠ id ∧ ρ j = some (.at g0 c)) ∨ g = some g0 := by
  cases hr with
  | plain _ cs ha =>
    have hn : inst1 id r (fun b l => some (b, l)) = some (r, []) := by cases ha <;> rfl
    rw [hn] at hi
    cases hi
    refine ⟨ρ, h, ⟨cs, ?_, rfl⟩, fun j _ => ⟨rfl, rfl⟩, fun j g0 c hj => .inl ⟨?_, hj⟩⟩
    · exact ha.ext (P := fun _ => True) (fun _ h => h) (fun _ _ => rfl) (fun i l r _ h1 _ => by cases h1) (fun _ _ => trivial)
    · rintro rfl; rw [hid] at hj; cases hj
  | fr e τ xs g cap hg0 hS hrow =>
    cases hi
    refine ⟨upd ρ id (.at g cap), h.adopt hid rfl (fun g' c e => by cases e; exact ⟨fun hb => absurd (hB _ hb) (by omega), hS, hg g rfl⟩) (fun _ _ => hrow), ⟨_, .own id e τ xs false true g cap (by simp only [St.setRows]; rw [setRow_row, if_pos rfl]) (upd_self _ _ _), rfl⟩, fun j hj => ⟨by simp [upd, hj], by simp only [St.setRows]; rw [setRow_row, if_neg hj]⟩, fun j g0 c hj => ?_⟩
    by_cases e : j = id
    · subst e
      rw [upd_self] at hj
      cases hj
      exact .inr rfl
    · simp only [upd, if_neg e] at hj
      exact .inl ⟨e, hj⟩
  | frNil e τ hpos =>
    cases hi
    refine ⟨upd ρ id .nilrow, h.adopt hid rfl (fun g' c e => by cases e) (fun _ _ => ⟨rfl, rfl, hpos⟩), ⟨_, .ownNil id e τ false true (by simp only [St.setRows]; rw [setRow_row, if_pos rfl]) (upd_self _ _ _), rfl⟩, fun j hj => ⟨by simp [upd, hj], by simp only [St.setRows]; rw [setRow_row, if_neg hj]⟩, fun j g0 c hj => ?_⟩
    by_cases e : j = id
    · subst e
      rw [upd_self] at hj
      cases hj
    · simp only [upd, if_neg e] at hj
      exact .inl ⟨e, hj⟩
theorem setRows_append : ∀ (l m : List (Nat × Row)) (st : St), st.setRows (l ++ m) = (st.setRows l).setRows m
  | [], m, st => rfl
  | p :: l, m, st => setRows_append l m (st.setRow p.1 p.2)
end
/-! ### What an operation does to the rows -/
def NewsOk (id : Nat) (l : List (Nat × Row)) : Prop := ∀ st : St, (∀ p ∈ l, (st.setRows l).row p.1 = some p.2 ∧ id ≤ p.1 ∧ p.1 < id + 4) ∧ (∀ j, (st.setRows l).row j = st.row j ∨ ∃ p ∈ l, p.1 = j) ∧ (st.setRows l).slot = st.slot ∧ (st.setRows l).nt = st.nt
theorem news_nil (id : Nat) : NewsOk id [] := fun st => ⟨fun p hp => (by cases hp), fun j => .inl rfl, rfl, rfl⟩
theorem news_one (id : Nat) (r : Row) : NewsOk id [(id, r)] := fun st => ⟨fun p hp => by
  simp only [List.mem_singleton] at hp
  subst hp
  exact ⟨by simp [St.setRows, setRow_row], Nat.le_refl _, by omega⟩, fun j => by
  by_cases e : id = j
  · exact .inr ⟨_, List.mem_singleton.2 rfl, e⟩
  · refine .inl ?_
    simp only [St.setRows, setRow_row, if_neg (Ne.symm e)], rfl, rfl⟩
theorem news_inst1 {id0 id : Nat} (h : id0 ≤ id ∧ id < id0 + 4) {r : AV} {b : AV} {l : List (Nat × Row)} (hi : inst1 id r (fun b l => some (b, l)) = some (b, l)) : l = [] ∨ ∃ row, l = [(id, row)] := by
  cases r <;> simp only [inst1, Option.some.injEq, Prod.mk.injEq] at hi <;> (obtain ⟨_, rfl⟩ := hi) <;> first
    | exact .inl rfl
    | exact .inr ⟨_, rfl⟩
theorem news_gen {id : Nat} {l : List (Nat × Row)} (h1 : ∀ p ∈ l, id ≤ p.1 ∧ p.1 < id + 4) (h2 : l.Pairwise fun p q => p.1 ≠ q.1) : NewsOk id l := by
  have key : ∀ (l : List (Nat × Row)) (st : St), l.Pairwise (fun p q => p.1 ≠ q.1) → (∀ p ∈ l, (st.setRows l).row p.1 = some p.2) ∧ (∀ j, (st.setRows l).row j = st.row j ∨ ∃ p ∈ l, p.1 = j) ∧ (∀ j, (∀ p ∈ l, p.1 ≠ j) → (st.setRows l).row j = st.row j) ∧ (st.setRows l).slot = st.slot ∧ (st.setRows l).nt = st.nt := by
    intro l
    induction l with
    | nil => exact fun st _ => ⟨fun p hp => (by cases hp), fun j => .inl rfl, fun j _ => rfl, rfl, rfl⟩
    | cons p l ih =>
      intro st h2
      obtain ⟨h3, h4⟩ := List.pairwise_cons.1 h2
      obtain ⟨h5, h6, h7, h8, h9⟩ := ih (st.setRow p.1 p.2) h4
      refine ⟨fun q hq => ?_, fun j => ?_, fun j hj => ?_, h8, h9⟩
      · rcases List.mem_cons.1 hq with rfl | hq
        · show ((st.setRow q.1 q.2).setRows l).row q.1 = _
          rw [h7 q.1 fun p hp e => h3 p hp e.symm, setRow_row, if_pos rfl]
        · exact h5 q hq
      · rcases h6 j with h | ⟨q, hq, e⟩
        · by_cases e : p.1 = j
          · exact .inr ⟨p, List.mem_cons_self, e⟩
          · refine .inl ?_
            show ((st.setRow p.1 p.2).setRows l).row j = _
            rw [h, setRow_row, if_neg (Ne.symm e)]
        · exact .inr ⟨q, List.mem_cons_of_mem _ hq, e⟩
      · show ((st.setRow p.1 p.2).setRows l).row j = _
        rw [h7 j fun q hq => hj q (List.mem_cons_of_mem _ hq), setRow_row, if_neg (Ne.symm (hj p List.mem_cons_self))]
  intro st
  obtain ⟨h3, h4, _, h5, h6⟩ := key l st h2
  exact ⟨fun p hp => ⟨h3 p hp, h1 p hp⟩, h4, h5, h6⟩
theorem news_instR {id : Nat} {r : AV} {b : AV} {l : List (Nat × Row)} (hi : instR id r (fun b l => some (b, l)) = some (b, l)) : NewsOk id l := by
  have one : inst1 id r (fun b l => some (b, l)) = some (b, l) → NewsOk id l := fun hi => by
    rcases news_inst1 (id0 := id) ⟨Nat.le_refl _, by omega⟩ hi with rfl | ⟨row, rfl⟩
    · exact news_nil id
    · exact news_one id row
  cases r with
  | tup rs =>
    match rs, hi with
    | [], hi => cases hi; exact news_nil id
    | [_], hi => simp [instR] at hi
    | [x, y], hi =>
      simp only [instR] at hi
      obtain ⟨b1, l1, e1, hi⟩ := inst1_nat hi
      obtain ⟨b2, l2, e2, hi⟩ := inst1_nat hi
      cases hi
      rcases news_inst1 (id0 := id) ⟨Nat.le_refl _, by omega⟩ e1 with rfl | ⟨r1, rfl⟩ <;> rcases news_inst1 (id0 := id) ⟨by omega, by omega⟩ e2 with rfl | ⟨r2, rfl⟩ <;>
        exact news_gen (by simp <;> omega) (by simp)
    | [x, y, z], hi =>
      simp only [instR] at hi
      obtain ⟨b1, l1, e1, hi⟩ := inst1_nat hi
      obtain ⟨b2, l2, e2, hi⟩ := inst1_nat hi
      obtain ⟨b3, l3, e3, hi⟩ := inst1_nat hi
      cases hi
      rcases news_inst1 (id0 := id) ⟨Nat.le_refl _, by omega⟩ e1 with rfl | ⟨r1, rfl⟩ <;> rcases news_inst1 (id0 := id) ⟨by omega, by omega⟩ e2 with rfl | ⟨r2, rfl⟩ <;> rcases news_inst1 (id0 := id) ⟨by omega, by omega⟩ e3 with rfl | ⟨r3, rfl⟩ <;>
        exact news_gen (by simp <;> omega) (by simp)
    | _ :: _ :: _ :: _ :: _, hi => simp [instR] at hi
  | _ => exact one (by simpa only [instR] using hi)

end Go.Gx
