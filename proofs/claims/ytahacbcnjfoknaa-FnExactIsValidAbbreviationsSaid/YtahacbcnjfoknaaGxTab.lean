/- Tables of callees and of loops, and what they are tied by. -/
import Derived.Test.YtahacbcnjfoknaaGxGood
namespace Go.Gx
open Go.RowKit
set_option linter.unusedVariables false
set_option linter.unusedSimpArgs false

/-! ### Callees -/
/-- A callee: its arguments' types, its Lean function, its answer's value. -/
structure CArm where
  ps : List Ty
  Y : Type
  F : TX ps → Option Y
  out : Y → AV
def CArm.run {R : Type} (A : CArm) (av : List AV) (K : AV → Option R) : Option R := (viewT A.ps av).bind fun x => (A.F x).bind fun r => K (A.out r)
def tabC (t : Cal → Option CArm) : Orc := fun cal av K => match t cal with
  | some A => A.run av K
  | none => none
theorem tabC_is (t : Cal → Option CArm) : OrcIs (tabC t) (CG (tabC t)) := by
  intro R cal av K r h
  unfold CG
  unfold tabC at h ⊢
  dsimp only at h ⊢
  split at h
  · rename_i A hA
    unfold CArm.run at h ⊢
    obtain ⟨x, hx, h⟩ := Option.bind_eq_some_iff.1 h
    obtain ⟨y, hy, h⟩ := Option.bind_eq_some_iff.1 h
    exact ⟨A.out y, by simp only [hx, hy, Option.bind_some], h⟩
  · cases h
def ArmOk (P : Program) (E : Env) (pv : Nat → Value) (cal : Cal) (A : CArm) : Prop := ∀ x y, A.F x = some y → Meets P E pv cal (tvals A.ps x) (A.out y)
theorem tabC_ok {P : Program} {E : Env} {pv : Nat → Value} {t : Cal → Option CArm} (h : ∀ cal A, t cal = some A → ArmOk P E pv cal A) : GOk P E pv (CG (tabC t)) := by
  intro cal av r hr
  unfold CG tabC at hr
  dsimp only at hr
  split at hr
  · rename_i A hA
    unfold CArm.run at hr
    obtain ⟨x, hx, hr⟩ := Option.bind_eq_some_iff.1 hr
    obtain ⟨y, hy, hr⟩ := Option.bind_eq_some_iff.1 hr
    cases hr
    exact meets_args hx (h cal A hA x y hy)
  · cases hr

/-! ### Loops -/
/-- A loop: its states' shape at the head, its Lean function, how it ends: by one exit, or by one of two. -/
inductive LArm : Type 1
  | one (sp so : List Sp) (Y : Type) (l : Nat → SX sp → Option Y) (e : Ex) (g : Y → SX so) (h : SX so → Y)
  | two (sp so1 so2 : List Sp) (Y Z : Type) (l : Nat → SX sp → Option (Sum Y Z)) (e1 e2 : Ex) (g1 : Y → SX so1) (h1 : SX so1 → Y) (g2 : Z → SX so2) (h2 : SX so2 → Z)
def LArm.run {R : Type} (nt k : Nat) (A : LArm) (st : St) (K : Ex → St → Option R) : Option R := match A with
  | .one sp so Y l e g _ => (viewN nt st sp).bind fun x => (l k x).bind fun y => K e (stOf nt so (g y))
  | .two sp so1 so2 Y Z l e1 e2 g1 _ g2 _ => (viewN nt st sp).bind fun x => (l k x).bind fun y => match y with
    | .inl z => K e1 (stOf nt so1 (g1 z))
    | .inr z => K e2 (stOf nt so2 (g2 z))
def exEq : Ex → Ex → Bool
  | .exit a, .exit b => Nat.beq a b
  | .ret, .ret => true
  | _, _ => false
theorem exEq_eq {a b : Ex} (h : exEq a b = true) : a = b ∧ a ≠ .normal := by
  cases a <;> cases b <;> first
    | exact Bool.noConfusion h
    | (have := Nat.eq_of_beq_eq_true h; subst this; exact ⟨rfl, by simp⟩)
    | exact ⟨rfl, by simp⟩
@[reducible] def LArm.sp : LArm → List Sp
  | .one sp .. => sp
  | .two sp .. => sp
@[reducible] def LArm.Y : LArm → Type
  | .one _ _ Y .. => Y
  | .two _ _ _ Y Z .. => Sum Y Z
def LArm.l : (A : LArm) → Nat → SX A.sp → Option A.Y
  | .one _ _ _ l _ _ _ => l
  | .two _ _ _ _ _ l _ _ _ _ _ _ => l
/-- What follows a round. -/
def LArm.cont (nt k : Nat) : (A : LArm) → Ex → St → Option A.Y
  | .one sp so Y l e g h, e', st => match e' with
    | .normal => (viewN nt st sp).bind fun x => l k x
    | e' => match exEq e' e with
      | true => (viewN nt st so).bind fun x => some (h x)
      | false => none
  | .two sp so1 so2 Y Z l e1 e2 g1 h1 g2 h2, e', st => match e' with
    | .normal => (viewN nt st sp).bind fun x => l k x
    | e' => match exEq e' e1 with
      | true => (viewN nt st so1).bind fun x => some (.inl (h1 x))
      | false => match exEq e' e2 with
        | true => (viewN nt st so2).bind fun x => some (.inr (h2 x))
        | false => none
def LArm.Ok : LArm → Prop
  | .one sp so Y l e g h => spOk sp = true ∧ spOk so = true ∧ (∀ x, l 0 x = none) ∧ ∀ x, g (h x) = x
  | .two sp so1 so2 Y Z l e1 e2 g1 h1 g2 h2 => spOk sp = true ∧ spOk so1 = true ∧ spOk so2 = true ∧ (∀ x, l 0 x = none) ∧ (∀ x, g1 (h1 x) = x) ∧ ∀ x, g2 (h2 x) = x
def tabL (nt k : Nat) (t : Nat → Option LArm) : LOrc := fun b st K => match t b with
  | some A => A.run nt k st K
  | none => none
theorem tabL_is (nt k : Nat) (t : Nat → Option LArm) : LIs (tabL nt k t) (LG (tabL nt k t)) := by
  intro R b st K r h
  unfold LG
  unfold tabL at h ⊢
  dsimp only at h ⊢
  split at h
  · rename_i A hA
    cases A with
    | one sp so Y l e g h' =>
      unfold LArm.run at h ⊢
      obtain ⟨x, hx, h⟩ := Option.bind_eq_some_iff.1 h
      obtain ⟨y, hy, h⟩ := Option.bind_eq_some_iff.1 h
      exact ⟨_, _, by simp only [hx, hy, Option.bind_some], h⟩
    | two sp so1 so2 Y Z l e1 e2 g1 h1 g2 h2 =>
      unfold LArm.run at h ⊢
      obtain ⟨x, hx, h⟩ := Option.bind_eq_some_iff.1 h
      obtain ⟨y, hy, h⟩ := Option.bind_eq_some_iff.1 h
      cases y with
      | inl z => exact ⟨_, _, by simp only [hx, hy, Option.bind_some], h⟩
      | inr z => exact ⟨_, _, by simp only [hx, hy, Option.bind_some], h⟩
  · cases h
theorem tabL_zero {nt : Nat} {t : Nat → Option LArm} (hok : ∀ b A, t b = some A → A.Ok) : ∀ b st e st', ¬ LG (tabL nt 0 t) b st e st' := by
  intro b st e st' h
  unfold LG tabL at h
  dsimp only at h
  split at h
  · rename_i A hA
    have := hok b A hA
    cases A with
    | one sp so Y l e g h' =>
      unfold LArm.run at h
      obtain ⟨x, hx, h⟩ := Option.bind_eq_some_iff.1 h
      rw [this.2.2.1] at h; cases h
    | two sp so1 so2 Y Z l e1 e2 g1 h1 g2 h2 =>
      unfold LArm.run at h
      obtain ⟨x, hx, h⟩ := Option.bind_eq_some_iff.1 h
      rw [this.2.2.2.1] at h; cases h
  · cases h
theorem tabL_step {E : Env} {C : Nat → Orc} {nt : Nat} {t : Nat → Option LArm} {fn : Func} (hok : ∀ b A, t b = some A → A.Ok)
    (hS : ∀ b A, t b = some A → ∀ k x, runC E (C k) (tabL nt k t) b (loopAt fn b) (stOf nt A.sp x) (A.cont nt k) = A.l (k + 1) x) :
    ∀ k b e st st', LG (tabL nt (k + 1) t) b st e st' → StepOk E (C k) (tabL nt k t) nt (loopAt fn b) b e st st' := by
  intro k b e st st' h
  unfold LG at h
  unfold tabL at h
  dsimp only at h
  split at h
  · rename_i A hA
    have ho := hok b A hA
    have hs := hS b A hA k
    cases A with
    | one sp so Y l e1 g h' =>
      unfold LArm.run at h
      obtain ⟨x, hx, h⟩ := Option.bind_eq_some_iff.1 h
      obtain ⟨y, hy, h⟩ := Option.bind_eq_some_iff.1 h
      simp only [Option.some.injEq, Prod.mk.injEq] at h
      obtain ⟨rfl, rfl⟩ := h
      refine ⟨sp, x, ho.1, hx, Y, y, _, (hs x).trans hy, fun e' st1 hc => ?_⟩
      unfold LArm.cont at hc
      dsimp only at hc
      split at hc
      · obtain ⟨x1, hx1, hl⟩ := Option.bind_eq_some_iff.1 hc
        refine .inl ⟨rfl, ?_⟩
        unfold LG tabL
        simp only [hA, LArm.run, hx1, hl, Option.bind_some]
      · split at hc
        · rename_i hne he
          obtain ⟨rfl, hn⟩ := exEq_eq he
          obtain ⟨x1, hx1, hl⟩ := Option.bind_eq_some_iff.1 hc
          cases hl
          exact .inr ⟨rfl, hn, so, x1, ho.2.1, hx1, by rw [ho.2.2.2]⟩
        · cases hc
    | two sp so1 so2 Y Z l e1 e2 g1 h1 g2 h2 =>
      unfold LArm.run at h
      obtain ⟨x, hx, h⟩ := Option.bind_eq_some_iff.1 h
      obtain ⟨y, hy, h⟩ := Option.bind_eq_some_iff.1 h
      refine ⟨sp, x, ho.1, hx, Sum Y Z, y, _, (hs x).trans hy, fun e' st1 hc => ?_⟩
      unfold LArm.cont at hc
      dsimp only at hc
      split at hc
      · obtain ⟨x1, hx1, hl⟩ := Option.bind_eq_some_iff.1 hc
        refine .inl ⟨rfl, ?_⟩
        unfold LG tabL
        simp only [hA, LArm.run, hx1, hl, Option.bind_some]
        exact h
      · split at hc
        · rename_i hne he
          obtain ⟨rfl, hn⟩ := exEq_eq he
          obtain ⟨x1, hx1, hl⟩ := Option.bind_eq_some_iff.1 hc
          cases hl
          simp only [Option.some.injEq, Prod.mk.injEq] at h
          obtain ⟨rfl, rfl⟩ := h
          exact .inr ⟨rfl, hn, so1, x1, ho.2.1, hx1, by rw [ho.2.2.2.2.1]⟩
        · split at hc
          · rename_i hne he' he
            obtain ⟨rfl, hn⟩ := exEq_eq he
            obtain ⟨x1, hx1, hl⟩ := Option.bind_eq_some_iff.1 hc
            cases hl
            simp only [Option.some.injEq, Prod.mk.injEq] at h
            obtain ⟨rfl, rfl⟩ := h
            exact .inr ⟨rfl, hn, so2, x1, ho.2.2.1, hx1, by rw [ho.2.2.2.2.2]⟩
          · cases hc
  · cases h

/-- A function without loops. -/
theorem fun_plain {P : Program} {E : Env} {pv : Nat → Value} (hE : EnvOk P E) {t : Cal → Option CArm} (hG : ∀ cal A, t cal = some A → ArmOk P E pv cal A) {f : FuncId} {fn : Func} {c : Code} (hf : P.funcs[f]? = some fn) (hb : fn.body = some c)
    (hname : (fn.name == "runtime.NumGoroutine") = false) {args : List AV} (hn : Nat.ble args.length fn.ntmps = true) {R : Type} {K : AV → Option R} {y : R} (hrun : runF E (tabC t) (tabL fn.ntmps 0 fun _ => none) fn args K = some y) {r' : AV} (hw : ∀ r, K r = some y → Wk r r') :
    Meets P E pv (.f f) args r' :=
  fun_good hE (tabC_is t) (tabL_is _ _ _) (tabC_ok hG) hf hb hname (no_loops (fun b st e st' h => by unfold LG tabL at h; cases h) _) (Nat.le_of_ble_eq_true hn) hrun hw
/-- A function with loops. -/
theorem fun_loops {P : Program} {E : Env} {pv : Nat → Value} (hE : EnvOk P E) {t : Nat → Cal → Option CArm} (hG : ∀ k cal A, t k cal = some A → ArmOk P E pv cal A) {f : FuncId} {fn : Func} {c : Code} (hf : P.funcs[f]? = some fn) (hb : fn.body = some c)
    (hname : (fn.name == "runtime.NumGoroutine") = false) {args : List AV} (hn : Nat.ble args.length fn.ntmps = true) {lt : Nat → Option LArm} (hok : loopsOk fn = true) (hlt : ∀ b A, lt b = some A → A.Ok)
    (hS : ∀ b A, lt b = some A → ∀ k x, runC E (tabC (t k)) (tabL fn.ntmps k lt) b (loopAt fn b) (stOf fn.ntmps A.sp x) (A.cont fn.ntmps k) = A.l (k + 1) x)
    {R : Type} {K : AV → Option R} {y : R} (k : Nat) (hrun : runF E (tabC (t k)) (tabL fn.ntmps k lt) fn args K = some y) {r' : AV} (hw : ∀ r, K r = some y → Wk r r') : Meets P E pv (.f f) args r' :=
  fun_good hE (tabC_is _) (tabL_is _ _ _) (tabC_ok (hG k)) hf hb hname (fun w0 B p hp st e st' S ρ a w Q h hs hgl hQ =>
    wp_loop_rounds k (rounds_ok hE (C := fun k => tabC (t k)) (L := fun k => tabL fn.ntmps k lt) (fun k => tabC_is _) (fun k => tabL_is _ _ _) hb hok (fun k => tabC_ok (hG k)) (tabL_zero hlt) (fun k b e st st' _ h => tabL_step (C := fun k => tabC (t k)) hlt hS k b e st st' h) k w0 B p hp st e st' S ρ a w Q h hs hgl hQ)) (Nat.le_of_ble_eq_true hn) hrun hw
end Go.Gx
