/- Tables of callees and of loops, and what they are tied by. -/
import Derived.Test.YtnffgabfibafjaaDoorGxGood
namespace Go.Gx
open Go.RowKit
set_option linter.unusedVariables false
set_option linter.unusedSimpArgs false

/-! ### Callees -/
/-- What is handed over: a row, a variable. -/
inductive MK where
  | fr (e : Nat) (τ : Ty)
  | bx (τ : Ty)
@[reducible] def MK.X : MK → Type
  | .fr _ τ => List (den τ)
  | .bx τ => den τ
def MK.val : (k : MK) → k.X → AV
  | .fr e τ, x => .fr e τ x
  | .bx τ, x => .bx τ x
def MK.view : (k : MK) → AV → Option k.X
  | .fr e τ, a => match a with
    | .fr e' σ xs => match decEq σ τ, Nat.beq e' e with
      | .isTrue h, true => some (h ▸ xs)
      | _, _ => none
    | _ => none
  | .bx τ, a => match a with
    | .bx σ x => match decEq σ τ with
      | .isTrue h => some (h ▸ x)
      | .isFalse _ => none
    | _ => none
theorem MK.view_eq {k : MK} {a : AV} {x : k.X} (h : k.view a = some x) : a = k.val x := by
  cases k with
  | fr e τ =>
    cases a <;> simp only [MK.view] at h <;> try cases h
    split at h
    · rename_i e' _ he
      subst e'
      cases h
      rw [Nat.eq_of_beq_eq_true he]; rfl
    · cases h
  | bx τ =>
    cases a <;> simp only [MK.view] at h <;> try cases h
    split at h
    · rename_i e' _
      subst e'
      cases h
      rfl
    · cases h
/-- An answer of a function that was handed something: what that is then, and the answer proper. -/
def viewK0 (k : MK) : AV → Option k.X
  | .kep o (.tup []) => k.view o
  | _ => none
def viewK {Y : Type} (k : MK) (V : AV → Option Y) : AV → Option (k.X × Y)
  | .kep o r => match k.view o, V r with
    | some a, some b => some (a, b)
    | _, _ => none
  | _ => none
def viewMov (e : Nat) (τ : Ty) : AV → Option (List (den τ))
  | .mov e' σ xs => match decEq σ τ, Nat.beq e' e with
    | .isTrue h, true => some (h ▸ xs)
    | _, _ => none
  | _ => none
inductive WkM : AV → AV → Prop
  | kep (o r r' : AV) (h : Wk r r') : WkM (.kep o r) (.kep o r')
  | mov (e : Nat) (τ : Ty) (ys : List (den τ)) : WkM (.mov e τ ys) (.mov e τ ys)
theorem wk_refl (r : AV) : Wk r r := by
  cases r with
  | tup rs => exact .inr ⟨rs, rs, rfl, rfl, rfl, fun i a a' e1 e2 => by rw [e1] at e2; cases e2; exact .refl a⟩
  | _ => exact .inl ⟨fun l h => (by cases h), fun l h => (by cases h), .refl _⟩
theorem wk_viewK0 {k : MK} {r : AV} {y : k.X} (h : viewK0 k r = some y) : WkM r (.kep (k.val y) (.tup [])) := by
  unfold viewK0 at h
  split at h
  · rw [MK.view_eq h]; exact .kep _ _ _ (wk_refl _)
  · cases h
theorem wk_viewK {Y : Type} {k : MK} {V : AV → Option Y} {out : Y → AV} (hV : ∀ r y, V r = some y → Wk r (out y)) {r : AV} {y : k.X × Y} (h : viewK k V r = some y) : WkM r (.kep (k.val y.1) (out y.2)) := by
  unfold viewK at h
  split at h
  · split at h
    · rename_i a b ha hb
      cases h
      rw [MK.view_eq ha]
      exact .kep _ _ _ (hV _ _ hb)
    · cases h
  · cases h
theorem wk_viewMov {e : Nat} {τ : Ty} {r : AV} {y : List (den τ)} (h : viewMov e τ r = some y) : WkM r (.mov e τ y) := by
  unfold viewMov at h
  split at h
  · split at h
    · rename_i e' _ he
      subst e'
      cases h
      rw [Nat.eq_of_beq_eq_true he]
      exact .mov _ _ _
    · cases h
  · cases h
theorem MeetsM.mono {P : Program} {E : Env} {pv : Nat → Value} {f : Nat} {a0 : AV} {args : List AV} {r r' : AV} (h : MeetsM P E pv f a0 args r) (hw : WkM r r') : MeetsM P E pv f a0 args r' := by
  intro S w v0 vs l r0 hst hgl hargs hr0 hrow hSl hv0
  have := h S w v0 vs l r0 hst hgl hargs hr0 hrow hSl hv0
  refine RunsTo.mono this fun v w' ⟨hb, S', h1, h2, h3⟩ => ?_
  cases hw with
  | mov e τ ys => exact ⟨hb, S', h1, h2, h3⟩
  | kep o r r' hw =>
    obtain ⟨h4, r1, ro, h5, h6, h7, h8, h9⟩ := h3
    obtain ⟨S2, k1, k2, k3⟩ := rr_wk hw h4
    have hlt : ∀ g c, l = .at g c → g < w.heap.size := fun g c e => by subst e; exact hrow.lt
    refine ⟨hb, S2, fun b hb => k1 b (h1 b hb), fun b hb => ?_, k3, r1, ro, h5, h6, ?_, h8, fun g c e hS => ?_⟩
    · rcases k2 b hb with h | h
      · exact h2 b h
      · exact .inr (.inr h)
    · exact RowOk.ext (P := fun _ => True) k1 (fun _ _ => rfl) (fun id l r _ h1 => by cases h1) h7 (fun _ _ _ => rfl) (fun _ _ _ _ _ => trivial)
    · rcases k2 g hS with h | h
      · exact h9 g c e h
      · have := hlt g c e; omega
/-! ### Arguments of more kinds: plain data, a variable that is read, a function value -/
inductive PK where
  | t (τ : Ty)
  | tp (τ : Ty)
  | clo (g : Nat) (cs : List CK)
@[reducible] def PK.X : PK → Type
  | .t τ => den τ
  | .tp τ => den τ
  | .clo _ cs => CX cs
def PK.val : (k : PK) → k.X → AV
  | .t τ, x => .t τ x
  | .tp τ, x => .tp (.t τ x)
  | .clo g cs, x => .clo g (cvals cs x)
def PK.view : (k : PK) → AV → Option k.X
  | .t τ, a => asT τ a
  | .tp τ, a => match a with
    | .tp b => asT τ b
    | _ => none
  | .clo g cs, a => match a with
    | .clo f caps => match Nat.beq f g with
      | true => viewC cs caps
      | false => none
    | _ => none
@[reducible] def PX : List PK → Type
  | [] => Unit
  | k :: l => k.X × PX l
def pvals : (l : List PK) → PX l → List AV
  | [], _ => []
  | k :: l, x => k.val x.1 :: pvals l x.2
def viewP : (l : List PK) → List AV → Option (PX l)
  | [], [] => some ()
  | k :: l, a :: al => match k.view a with
    | some x => match viewP l al with
      | some y => some (x, y)
      | none => none
    | none => none
  | _, _ => none
section
variable {S : Nat → Prop} {w : World} {ρ : Nat → Option Loc} {row : Nat → Option Row} {pv : Nat → Value}
theorem PK.ok {k : PK} {a : AV} {x : k.X} {cs : List Value} (hx : k.view a = some x) (h : AR S w ρ row pv a cs) : AR S w ρ row pv (k.val x) cs ∧ isAg a = isAg (k.val x) := by
  cases k with
  | t τ => exact ⟨.t _ _ _ (asT_ar hx h), (asT_ag hx).symm⟩
  | tp τ =>
    simp only [PK.view] at hx
    split at hx
    · exact ⟨tp_ar hx h, rfl⟩
    · cases hx
  | clo g ks =>
    simp only [PK.view] at hx
    split at hx
    · rename_i f caps
      split at hx
      · rename_i hf
        obtain rfl := Nat.eq_of_beq_eq_true hf
        exact ⟨clo_view hx h, rfl⟩
      · cases hx
    · cases hx
theorem viewP_get : ∀ {ks : List PK} {av : List AV} {x : PX ks}, viewP ks av = some x → av.length = (pvals ks x).length ∧ ∀ (i : Nat) a b, av[i]? = some a → (pvals ks x)[i]? = some b → ∃ k : PK, ∃ y : k.X, b = k.val y ∧ k.view a = some y
  | [], [], x, _ => ⟨rfl, fun i a b h => by simp at h⟩
  | [], _ :: _, x, h => by simp [viewP] at h
  | k :: l, [], x, h => by simp [viewP] at h
  | k :: l, a :: al, x, h => by
    simp only [viewP] at h
    split at h
    · rename_i x0 hx
      split at h
      · rename_i y hy
        cases h
        obtain ⟨h1, h2⟩ := viewP_get hy
        refine ⟨by simp [pvals, h1], fun i b c hb hc => ?_⟩
        cases i with
        | zero => cases hb; cases hc; exact ⟨k, x0, rfl, hx⟩
        | succ i => exact h2 i b c (by simpa using hb) (by simpa [pvals] using hc)
      · cases h
    · cases h
theorem args_viewP {ks : List PK} {av : List AV} {x : PX ks} {vs : List Value} (hx : viewP ks av = some x) (h : ArgsOk S w pv av vs) : ArgsOk S w pv (pvals ks x) vs := by
  obtain ⟨h1, h2⟩ := viewP_get hx
  obtain ⟨h3, h4⟩ := h
  refine ⟨h3.trans h1, fun i b v hb hv => ?_⟩
  have hi := (List.getElem?_eq_some_iff.1 hb).1
  have ha : av[i]? = some av[i] := List.getElem?_eq_getElem (by omega)
  obtain ⟨k, y, rfl, hy⟩ := h2 i _ b ha hb
  obtain ⟨cs, h5, h6⟩ := h4 i _ v ha hv
  obtain ⟨h7, h8⟩ := PK.ok hy h5
  exact ⟨cs, h7, by rw [h6, valOf, valOf, h8]⟩
end
/-- A callee: its arguments' types, its Lean function, its answer's value. -/
inductive CArm : Type 1
  | p (ps : List Ty) (Y : Type) (F : TX ps → Option Y) (out : Y → AV)
  | m (k : MK) (ps : List Ty) (Y : Type) (F : k.X → TX ps → Option Y) (out : Y → AV)
  | q (ps : List PK) (Y : Type) (F : PX ps → Option Y) (out : Y → AV)
  | mq (k : MK) (ps : List PK) (Y : Type) (F : k.X → PX ps → Option Y) (out : Y → AV)
def CArm.run {R : Type} (A : CArm) (av : List AV) (K : AV → Option R) : Option R := match A with
  | .p ps Y F out => (viewT ps av).bind fun x => (F x).bind fun r => K (out r)
  | .m k ps Y F out => match av with
    | [] => none
    | a0 :: rest => (k.view a0).bind fun x0 => (viewT ps rest).bind fun x => (F x0 x).bind fun r => K (out r)
  | .q ps Y F out => (viewP ps av).bind fun x => (F x).bind fun r => K (out r)
  | .mq k ps Y F out => match av with
    | [] => none
    | a0 :: rest => (k.view a0).bind fun x0 => (viewP ps rest).bind fun x => (F x0 x).bind fun r => K (out r)
def tabC (t : Cal → Option CArm) : Orc := fun cal av K => match t cal with
  | some A => A.run av K
  | none => none
theorem tabC_is (t : Cal → Option CArm) : OrcIs (tabC t) (CG (tabC t)) := by
  intro R cal av K r h
  unfold CG
  unfold tabC at h ⊢
  dsimp only at h ⊢
  split at h
  · rename_i A hA
    cases A with
    | p ps Y F out =>
      simp only [CArm.run] at h ⊢
      obtain ⟨x, hx, h⟩ := Option.bind_eq_some_iff.1 h
      obtain ⟨y, hy, h⟩ := Option.bind_eq_some_iff.1 h
      exact ⟨out y, by simp only [hx, hy, Option.bind_some], h⟩
    | m k ps Y F out =>
      cases av with
      | nil => simp only [CArm.run] at h; cases h
      | cons a0 rest =>
        simp only [CArm.run] at h ⊢
        obtain ⟨x0, hx0, h⟩ := Option.bind_eq_some_iff.1 h
        obtain ⟨x, hx, h⟩ := Option.bind_eq_some_iff.1 h
        obtain ⟨y, hy, h⟩ := Option.bind_eq_some_iff.1 h
        exact ⟨out y, by simp only [hx0, hx, hy, Option.bind_some], h⟩
    | q ps Y F out =>
      simp only [CArm.run] at h ⊢
      obtain ⟨x, hx, h⟩ := Option.bind_eq_some_iff.1 h
      obtain ⟨y, hy, h⟩ := Option.bind_eq_some_iff.1 h
      exact ⟨out y, by simp only [hx, hy, Option.bind_some], h⟩
    | mq k ps Y F out =>
      cases av with
      | nil => simp only [CArm.run] at h; cases h
      | cons a0 rest =>
        simp only [CArm.run] at h ⊢
        obtain ⟨x0, hx0, h⟩ := Option.bind_eq_some_iff.1 h
        obtain ⟨x, hx, h⟩ := Option.bind_eq_some_iff.1 h
        obtain ⟨y, hy, h⟩ := Option.bind_eq_some_iff.1 h
        exact ⟨out y, by simp only [hx0, hx, hy, Option.bind_some], h⟩
  · cases h
def ArmOk (P : Program) (E : Env) (pv : Nat → Value) (cal : Cal) (A : CArm) : Prop := match A with
  | .p ps Y F out => ∀ x y, F x = some y → Meets P E pv cal (tvals ps x) (out y)
  | .m k ps Y F out => ∃ f, cal = .f f ∧ ∀ x0 x y, F x0 x = some y → MeetsM P E pv f (k.val x0) (tvals ps x) (out y)
  | .q ps Y F out => ∀ x y, F x = some y → Meets P E pv cal (pvals ps x) (out y)
  | .mq k ps Y F out => ∃ f, cal = .f f ∧ ∀ x0 x y, F x0 x = some y → MeetsM P E pv f (k.val x0) (pvals ps x) (out y)
theorem args_view {S : Nat → Prop} {w : World} {pv : Nat → Value} {tys : List Ty} {av : List AV} {x : TX tys} {vs : List Value} (hx : viewT tys av = some x) (h : ArgsOk S w pv av vs) : ArgsOk S w pv (tvals tys x) vs := by
  obtain ⟨h1, h2⟩ := viewT_get hx
  obtain ⟨h3, h4⟩ := h
  refine ⟨h3.trans h1, fun i b v hb hv => ?_⟩
  have hi := (List.getElem?_eq_some_iff.1 hb).1
  have ha : av[i]? = some av[i] := List.getElem?_eq_getElem (by omega)
  obtain ⟨τ, y, rfl, hy⟩ := h2 i _ b ha hb
  obtain ⟨cs, h5, h6⟩ := h4 i _ v ha hv
  exact ⟨cs, .t τ y cs (asT_ar hy h5), by rw [h6, valOf, valOf, asT_ag hy]⟩
theorem tabC_ok {P : Program} {E : Env} {pv : Nat → Value} {t : Cal → Option CArm} (h : ∀ cal A, t cal = some A → ArmOk P E pv cal A) : GOk P E pv (CG (tabC t)) := by
  intro cal av r hr
  unfold CG tabC at hr
  dsimp only at hr
  split at hr
  · rename_i A hA
    have hok := h cal A hA
    cases A with
    | p ps Y F out =>
      simp only [CArm.run] at hr
      obtain ⟨x, hx, hr⟩ := Option.bind_eq_some_iff.1 hr
      obtain ⟨y, hy, hr⟩ := Option.bind_eq_some_iff.1 hr
      cases hr
      refine ⟨meets_args hx (hok x y hy), fun f a0 rest e1 e2 hn => ?_⟩
      subst e2
      exfalso
      cases ps with
      | nil => simp [viewT] at hx
      | cons τ ps =>
        simp only [viewT] at hx
        split at hx
        · rename_i y0 hy0
          rcases asT_form hy0 with rfl | rfl <;> exact hn rfl
        · cases hx
    | m k ps Y F out =>
      obtain ⟨f, rfl, hok⟩ := hok
      cases av with
      | nil => simp only [CArm.run] at hr; cases hr
      | cons a0 rest =>
        simp only [CArm.run] at hr
        obtain ⟨x0, hx0, hr⟩ := Option.bind_eq_some_iff.1 hr
        obtain ⟨x, hx, hr⟩ := Option.bind_eq_some_iff.1 hr
        obtain ⟨y, hy, hr⟩ := Option.bind_eq_some_iff.1 hr
        cases hr
        have ha0 := MK.view_eq hx0
        subst ha0
        refine ⟨fun S w vs _ _ ha => ?_, fun f' a0 rest' e1 e2 hn => ?_⟩
        · exfalso
          obtain ⟨hl, ha⟩ := ha
          match vs, hl with
          | v :: vs, _ =>
            obtain ⟨cs, h5, _⟩ := ha 0 _ v rfl rfl
            cases k <;> cases h5
        · cases e1; cases e2
          have hm := hok x0 x y hy
          intro S w v0 vs l r0 hst hgl hargs hr0 hrow hSl hv0
          exact hm S w v0 vs l r0 hst hgl (args_view hx hargs) hr0 hrow hSl hv0
    | q ps Y F out =>
      simp only [CArm.run] at hr
      obtain ⟨x, hx, hr⟩ := Option.bind_eq_some_iff.1 hr
      obtain ⟨y, hy, hr⟩ := Option.bind_eq_some_iff.1 hr
      cases hr
      refine ⟨Goes.mono (hok x y hy) (wk_refl _) fun S w vs ha => args_viewP hx ha, fun f a0 rest e1 e2 hn => ?_⟩
      subst e2
      exfalso
      cases ps with
      | nil => simp [viewP] at hx
      | cons k ps =>
        simp only [viewP] at hx
        split at hx
        · rename_i y0 hy0
          cases k with
          | t τ => rcases asT_form hy0 with rfl | rfl <;> exact hn rfl
          | tp τ =>
            simp only [PK.view] at hy0
            split at hy0
            · exact hn rfl
            · cases hy0
          | clo g cs =>
            simp only [PK.view] at hy0
            split at hy0
            · exact hn rfl
            · cases hy0
        · cases hx
    | mq k ps Y F out =>
      obtain ⟨f, rfl, hok⟩ := hok
      cases av with
      | nil => simp only [CArm.run] at hr; cases hr
      | cons a0 rest =>
        simp only [CArm.run] at hr
        obtain ⟨x0, hx0, hr⟩ := Option.bind_eq_some_iff.1 hr
        obtain ⟨x, hx, hr⟩ := Option.bind_eq_some_iff.1 hr
        obtain ⟨y, hy, hr⟩ := Option.bind_eq_some_iff.1 hr
        cases hr
        have ha0 := MK.view_eq hx0
        subst ha0
        refine ⟨fun S w vs _ _ ha => ?_, fun f' a0 rest' e1 e2 hn => ?_⟩
        · exfalso
          obtain ⟨hl, ha⟩ := ha
          match vs, hl with
          | v :: vs, _ =>
            obtain ⟨cs, h5, _⟩ := ha 0 _ v rfl rfl
            cases k <;> cases h5
        · cases e1; cases e2
          have hm := hok x0 x y hy
          intro S w v0 vs l r0 hst hgl hargs hr0 hrow hSl hv0
          exact hm S w v0 vs l r0 hst hgl (args_viewP hx hargs) hr0 hrow hSl hv0
  · cases hr

/-! ### Loops -/
/-- A loop: its states' shape at the head, its Lean function, how it ends: by one exit, or by one of two. -/
inductive LArm : Type 1
  | one (sp so : List Sp) (Y : Type) (l : Nat → SX sp → Option Y) (e : Ex) (g : Y → SX so) (h : SX so → Y)
  | two (sp so1 so2 : List Sp) (Y Z : Type) (l : Nat → SX sp → Option (Sum Y Z)) (e1 e2 : Ex) (g1 : Y → SX so1) (h1 : SX so1 → Y) (g2 : Z → SX so2) (h2 : SX so2 → Z)
def LArm.run {R : Type} (nt k : Nat) (A : LArm) (st : St) (K : Ex → St → Option R) : Option R := match A with
  | .one sp so Y l e g _ => (viewN nt st sp).bind fun x => (l k x).bind fun y => K e (stOf nt so (g y))
  | .two sp so1 so2 Y Z l e1 e2 g1 _ g2 _ => (viewN nt st sp).bind fun x => (l k x).bind fun y => match y with
    | .inl z => K e1 (stOf nt so1 (g1 z))
    | .inr z => K e2 (stOf nt so2 (g2 z))
def exEq : Ex → Ex → Bool
  | .exit a, .exit b => Nat.beq a b
  | .ret, .ret => true
  | _, _ => false
theorem exEq_eq {a b : Ex} (h : exEq a b = true) : a = b ∧ a ≠ .normal := by
  cases a <;> cases b <;> first
    | exact Bool.noConfusion h
    | (have := Nat.eq_of_beq_eq_true h; subst this; exact ⟨rfl, by simp⟩)
    | exact ⟨rfl, by simp⟩
@[reducible] def LArm.sp : LArm → List Sp
  | .one sp .. => sp
  | .two sp .. => sp
@[reducible] def LArm.Y : LArm → Type
  | .one _ _ Y .. => Y
  | .two _ _ _ Y Z .. => Sum Y Z
def LArm.l : (A : LArm) → Nat → SX A.sp → Option A.Y
  | .one _ _ _ l _ _ _ => l
  | .two _ _ _ _ _ l _ _ _ _ _ _ => l
/-- What follows a round. -/
def LArm.cont (nt k : Nat) : (A : LArm) → Ex → St → Option A.Y
  | .one sp so Y l e g h, e', st => match e' with
    | .normal => (viewN nt st sp).bind fun x => l k x
    | e' => match exEq e' e with
      | true => (viewN nt st so).bind fun x => some (h x)
      | false => none
  | .two sp so1 so2 Y Z l e1 e2 g1 h1 g2 h2, e', st => match e' with
    | .normal => (viewN nt st sp).bind fun x => l k x
    | e' => match exEq e' e1 with
      | true => (viewN nt st so1).bind fun x => some (.inl (h1 x))
      | false => match exEq e' e2 with
        | true => (viewN nt st so2).bind fun x => some (.inr (h2 x))
        | false => none
def LArm.Ok : LArm → Prop
  | .one sp so Y l e g h => spOk sp = true ∧ spOk so = true ∧ (∀ x, l 0 x = none) ∧ ∀ x, g (h x) = x
  | .two sp so1 so2 Y Z l e1 e2 g1 h1 g2 h2 => spOk sp = true ∧ spOk so1 = true ∧ spOk so2 = true ∧ (∀ x, l 0 x = none) ∧ (∀ x, g1 (h1 x) = x) ∧ ∀ x, g2 (h2 x) = x
def tabL (nt k : Nat) (t : Nat → Option LArm) : LOrc := fun b st K => match t b with
  | some A => A.run nt k st K
  | none => none
theorem tabL_is (nt k : Nat) (t : Nat → Option LArm) : LIs (tabL nt k t) (LG (tabL nt k t)) := by
  intro R b st K r h
  unfold LG
  unfold tabL at h ⊢
  dsimp only at h ⊢
  split at h
  · rename_i A hA
    cases A with
    | one sp so Y l e g h' =>
      unfold LArm.run at h ⊢
      obtain ⟨x, hx, h⟩ := Option.bind_eq_some_iff.1 h
      obtain ⟨y, hy, h⟩ := Option.bind_eq_some_iff.1 h
      exact ⟨_, _, by simp only [hx, hy, Option.bind_some], h⟩
    | two sp so1 so2 Y Z l e1 e2 g1 h1 g2 h2 =>
      unfold LArm.run at h ⊢
      obtain ⟨x, hx, h⟩ := Option.bind_eq_some_iff.1 h
      obtain ⟨y, hy, h⟩ := Option.bind_eq_some_iff.1 h
      cases y with
      | inl z => exact ⟨_, _, by simp only [hx, hy, Option.bind_some], h⟩
      | inr z => exact ⟨_, _, by simp only [hx, hy, Option.bind_some], h⟩
  · cases h
theorem tabL_zero {nt : Nat} {t : Nat → Option LArm} (hok : ∀ b A, t b = some A → A.Ok) : ∀ b st e st', ¬ LG (tabL nt 0 t) b st e st' := by
  intro b st e st' h
  unfold LG tabL at h
  dsimp only at h
  split at h
  · rename_i A hA
    have := hok b A hA
    cases A with
    | one sp so Y l e g h' =>
      unfold LArm.run at h
      obtain ⟨x, hx, h⟩ := Option.bind_eq_some_iff.1 h
      rw [this.2.2.1] at h; cases h
    | two sp so1 so2 Y Z l e1 e2 g1 h1 g2 h2 =>
      unfold LArm.run at h
      obtain ⟨x, hx, h⟩ := Option.bind_eq_some_iff.1 h
      rw [this.2.2.2.1] at h; cases h
  · cases h
theorem tabL_step {E : Env} {C : Nat → Orc} {nt : Nat} {t : Nat → Option LArm} {fn : Func} (hok : ∀ b A, t b = some A → A.Ok)
    (hS : ∀ b A, t b = some A → ∀ k x, runC E (C k) (tabL nt k t) b (loopAt fn b) (stOf nt A.sp x) (A.cont nt k) = A.l (k + 1) x) :
    ∀ k b e st st', LG (tabL nt (k + 1) t) b st e st' → StepOk E (C k) (tabL nt k t) nt (loopAt fn b) b e st st' := by
  intro k b e st st' h
  unfold LG at h
  unfold tabL at h
  dsimp only at h
  split at h
  · rename_i A hA
    have ho := hok b A hA
    have hs := hS b A hA k
    cases A with
    | one sp so Y l e1 g h' =>
      unfold LArm.run at h
      obtain ⟨x, hx, h⟩ := Option.bind_eq_some_iff.1 h
      obtain ⟨y, hy, h⟩ := Option.bind_eq_some_iff.1 h
      simp only [Option.some.injEq, Prod.mk.injEq] at h
      obtain ⟨rfl, rfl⟩ := h
      refine ⟨sp, x, ho.1, hx, Y, y, _, (hs x).trans hy, fun e' st1 hc => ?_⟩
      unfold LArm.cont at hc
      dsimp only at hc
      split at hc
      · obtain ⟨x1, hx1, hl⟩ := Option.bind_eq_some_iff.1 hc
        refine .inl ⟨rfl, ?_⟩
        unfold LG tabL
        simp only [hA, LArm.run, hx1, hl, Option.bind_some]
      · split at hc
        · rename_i hne he
          obtain ⟨rfl, hn⟩ := exEq_eq he
          obtain ⟨x1, hx1, hl⟩ := Option.bind_eq_some_iff.1 hc
          cases hl
          exact .inr ⟨rfl, hn, so, x1, ho.2.1, hx1, by rw [ho.2.2.2]⟩
        · cases hc
    | two sp so1 so2 Y Z l e1 e2 g1 h1 g2 h2 =>
      unfold LArm.run at h
      obtain ⟨x, hx, h⟩ := Option.bind_eq_some_iff.1 h
      obtain ⟨y, hy, h⟩ := Option.bind_eq_some_iff.1 h
      refine ⟨sp, x, ho.1, hx, Sum Y Z, y, _, (hs x).trans hy, fun e' st1 hc => ?_⟩
      unfold LArm.cont at hc
      dsimp only at hc
      split at hc
      · obtain ⟨x1, hx1, hl⟩ := Option.bind_eq_some_iff.1 hc
        refine .inl ⟨rfl, ?_⟩
        unfold LG tabL
        simp only [hA, LArm.run, hx1, hl, Option.bind_some]
        exact h
      · split at hc
        · rename_i hne he
          obtain ⟨rfl, hn⟩ := exEq_eq he
          obtain ⟨x1, hx1, hl⟩ := Option.bind_eq_some_iff.1 hc
          cases hl
          simp only [Option.some.injEq, Prod.mk.injEq] at h
          obtain ⟨rfl, rfl⟩ := h
          exact .inr ⟨rfl, hn, so1, x1, ho.2.1, hx1, by rw [ho.2.2.2.2.1]⟩
        · split at hc
          · rename_i hne he' he
            obtain ⟨rfl, hn⟩ := exEq_eq he
            obtain ⟨x1, hx1, hl⟩ := Option.bind_eq_some_iff.1 hc
            cases hl
            simp only [Option.some.injEq, Prod.mk.injEq] at h
            obtain ⟨rfl, rfl⟩ := h
            exact .inr ⟨rfl, hn, so2, x1, ho.2.2.1, hx1, by rw [ho.2.2.2.2.2]⟩
          · cases hc
  · cases h

/-- A function without loops. -/
theorem fun_plain {P : Program} {E : Env} {pv : Nat → Value} (hE : EnvOk P E) {t : Cal → Option CArm} (hG : ∀ cal A, t cal = some A → ArmOk P E pv cal A) {f : FuncId} {fn : Func} {c : Code} (hf : P.funcs[f]? = some fn) (hb : fn.body = some c)
    (hname : (fn.name == "runtime.NumGoroutine") = false) {args : List AV} (hn : Nat.ble args.length fn.ntmps = true) {R : Type} {K : AV → Option R} {y : R} (hrun : runF E (tabC t) (tabL fn.ntmps 0 fun _ => none) fn args K = some y) {r' : AV} (hw : ∀ r, K r = some y → Wk r r') :
    Meets P E pv (.f f) args r' :=
  fun_good hE (tabC_is t) (tabL_is _ _ _) (tabC_ok hG) hf hb hname (no_loops (fun b st e st' h => by unfold LG tabL at h; cases h) _) (Nat.le_of_ble_eq_true hn) hrun hw
/-- A function with loops. -/
theorem fun_loops {P : Program} {E : Env} {pv : Nat → Value} (hE : EnvOk P E) {t : Nat → Cal → Option CArm} (k : Nat) (hG : ∀ k', k' ≤ k → ∀ cal A, t k' cal = some A → ArmOk P E pv cal A) {f : FuncId} {fn : Func} {c : Code} (hf : P.funcs[f]? = some fn) (hb : fn.body = some c)
    (hname : (fn.name == "runtime.NumGoroutine") = false) {args : List AV} (hn : Nat.ble args.length fn.ntmps = true) {lt : Nat → Option LArm} (hok : loopsOk fn = true) (hlt : ∀ b A, lt b = some A → A.Ok)
    (hS : ∀ b A, lt b = some A → ∀ k x, runC E (tabC (t k)) (tabL fn.ntmps k lt) b (loopAt fn b) (stOf fn.ntmps A.sp x) (A.cont fn.ntmps k) = A.l (k + 1) x)
    {R : Type} {K : AV → Option R} {y : R} (hrun : runF E (tabC (t k)) (tabL fn.ntmps k lt) fn args K = some y) {r' : AV} (hw : ∀ r, K r = some y → Wk r r') : Meets P E pv (.f f) args r' :=
  fun_good hE (tabC_is _) (tabL_is _ _ _) (tabC_ok (hG k (Nat.le_refl k))) hf hb hname (fun w0 B p hp st e st' S ρ a w Q h hs hgl hQ =>
    wp_loop_rounds k (rounds_ok hE (C := fun k => tabC (t k)) (L := fun k => tabL fn.ntmps k lt) (fun k => tabC_is _) (fun k => tabL_is _ _ _) hb hok (n := k) (fun k' hk' => tabC_ok (hG k' (Nat.le_of_lt hk'))) (tabL_zero hlt) (fun k b e st st' _ h => tabL_step (C := fun k => tabC (t k)) hlt hS k b e st st' h) k (Nat.le_refl k) w0 B p hp st e st' S ρ a w Q h hs hgl hQ)) (Nat.le_of_ble_eq_true hn) hrun hw
/-! ### Functions that are handed something -/
theorem funM_good {P : Program} {E : Env} {pv : Nat → Value} (hE : EnvOk P E) {C : Orc} {L : LOrc} (hC : OrcIs C (CG C)) (hL : LIs L (LG L)) (hG : GOk P E pv (CG C)) {f : FuncId} {fn : Func} {c : Code} (hf : P.funcs[f]? = some fn) (hb : fn.body = some c) (hname : (fn.name == "runtime.NumGoroutine") = false)
    (hl : ∀ w0 B, ∀ p ∈ loopsOf 0 c, LoopSound P E w0 B pv p.2 (LG L p.1)) {mb : Nat} (hmb : mb = mbase ∨ mb = mmove) {a0 : AV} {args : List AV} (hn : args.length + 1 ≤ fn.ntmps) {R : Type} {K : AV → Option R} {y : R} (hrun : runM E C L fn mb a0 args K = some y) {r' : AV} (hw : ∀ r, K r = some y → WkM r r') : MeetsM P E pv f a0 args r' := by
  obtain ⟨c', res, e, st, rs, hfr, hk⟩ := runM_rel hC hL hrun
  have hcc : c' = c := by have := hfr.body; rw [hb] at this; cases this; rfl
  subst hcc
  exact MeetsM.mono (funM_meets hE hG hf hname hfr hmb hn hl) (hw res hk)
theorem funM_plain {P : Program} {E : Env} {pv : Nat → Value} (hE : EnvOk P E) {t : Cal → Option CArm} (hG : ∀ cal A, t cal = some A → ArmOk P E pv cal A) {f : FuncId} {fn : Func} {c : Code} (hf : P.funcs[f]? = some fn) (hb : fn.body = some c)
    (hname : (fn.name == "runtime.NumGoroutine") = false) {mb : Nat} (hmb : mb = mbase ∨ mb = mmove) {a0 : AV} {args : List AV} (hn : Nat.ble (args.length + 1) fn.ntmps = true) {R : Type} {K : AV → Option R} {y : R} (hrun : runM E (tabC t) (tabL fn.ntmps 0 fun _ => none) fn mb a0 args K = some y) {r' : AV} (hw : ∀ r, K r = some y → WkM r r') :
    MeetsM P E pv f a0 args r' :=
  funM_good hE (tabC_is t) (tabL_is _ _ _) (tabC_ok hG) hf hb hname (no_loops (fun b st e st' h => by unfold LG tabL at h; cases h) _) hmb (Nat.le_of_ble_eq_true hn) hrun hw
theorem funM_loops {P : Program} {E : Env} {pv : Nat → Value} (hE : EnvOk P E) {t : Nat → Cal → Option CArm} (k : Nat) (hG : ∀ k', k' ≤ k → ∀ cal A, t k' cal = some A → ArmOk P E pv cal A) {f : FuncId} {fn : Func} {c : Code} (hf : P.funcs[f]? = some fn) (hb : fn.body = some c)
    (hname : (fn.name == "runtime.NumGoroutine") = false) {mb : Nat} (hmb : mb = mbase ∨ mb = mmove) {a0 : AV} {args : List AV} (hn : Nat.ble (args.length + 1) fn.ntmps = true) {lt : Nat → Option LArm} (hok : loopsOk fn = true) (hlt : ∀ b A, lt b = some A → A.Ok)
    (hS : ∀ b A, lt b = some A → ∀ k x, runC E (tabC (t k)) (tabL fn.ntmps k lt) b (loopAt fn b) (stOf fn.ntmps A.sp x) (A.cont fn.ntmps k) = A.l (k + 1) x)
    {R : Type} {K : AV → Option R} {y : R} (hrun : runM E (tabC (t k)) (tabL fn.ntmps k lt) fn mb a0 args K = some y) {r' : AV} (hw : ∀ r, K r = some y → WkM r r') : MeetsM P E pv f a0 args r' :=
  funM_good hE (tabC_is _) (tabL_is _ _ _) (tabC_ok (hG k (Nat.le_refl k))) hf hb hname (fun w0 B p hp st e st' S ρ a w Q h hs hgl hQ =>
    wp_loop_rounds k (rounds_ok hE (C := fun k => tabC (t k)) (L := fun k => tabL fn.ntmps k lt) (fun k => tabC_is _) (fun k => tabL_is _ _ _) hb hok (n := k) (fun k' hk' => tabC_ok (hG k' (Nat.le_of_lt hk'))) (tabL_zero hlt) (fun k b e st st' _ h => tabL_step (C := fun k => tabC (t k)) hlt hS k b e st st' h) k (Nat.le_refl k) w0 B p hp st e st' S ρ a w Q h hs hgl hQ)) hmb (Nat.le_of_ble_eq_true hn) hrun hw
end Go.Gx
