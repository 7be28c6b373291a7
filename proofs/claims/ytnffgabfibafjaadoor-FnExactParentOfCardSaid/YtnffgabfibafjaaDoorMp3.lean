/- Tables of callees and of loops, and what they are tied by. -/
import Derived.Test.YtnffgabfibafjaaDoorMp2
import Derived.ChangeSame
import Derived.Carry
import Derived.WideKeyArgs
import Derived.Deep.Slices
import Derived.ProofKit
import Derived.Shelf.Strings.Builder1
import Derived.Shelf.Strings.Builder2
import Derived.Shelf.Strings.OnBuilder
import Derived.Shelf.Strings.Trim
import Derived.Shelf.Small.Utf8
import Derived.Shelf.Small.Bits
import Derived.Shelf.Small.Strs
import Derived.Shelf.Small.Wraps
import Derived.Shelf.Strconv.Itoa0
import Derived.Shelf.Strings.Search1
import Derived.Shelf.Strings.Search2
import Derived.Shelf.Strings.Search3
import Derived.Shelf.Strings.Count
import Derived.Shelf.LaysM
import Derived.Shelf.Strings.Shaped
import Derived.Shelf.Sort.Plain
import Derived.Shelf.Strings.Prefix
import Derived.Shelf.Strings.Split
import Derived.Shelf.Strings.SplitShaped
import Derived.Shelf.Strings.Runes
import Derived.Shelf.Strings.AsciiSet
import Derived.Shelf.Unicode.DecodeSlow
import Derived.Shelf.Slices.Turned
import Derived.Ground.Names2Prog
import Derived.Shelf.Slices.Clone
import Derived.Shelf.Slices.CompactS
import Derived.Shelf.Slices.Cells
import Derived.Shelf.Slices.In.SortNone
import Derived.Test.YtnffgabfibafjaaDoorProg
import Derived.Shelf.Vars
import Derived.Below
import Derived.Lib.IndexMore
import Derived.Lib.Split
import Derived.Lib.SplitLaws
import Derived.Lib.Repeat
import Derived.Deep.Draws
import Derived.Lib.Join
import Derived.Lib.SlTrimSet
import Derived.Lib.IndexAny
import Derived.Lib.TrimByte
import Derived.Laws.AppendOwn
import Derived.Test.YtnffgabfibafjaaDoorMp1
import Derived.Laws.StructEq
section
namespace Go.Gx
open Go.RowKit
set_option linter.unusedVariables false
set_option linter.unusedSimpArgs false

/-! ### Callees -/
/-- What is handed over: a row, a variable. -/
inductive MK where
  | fr (e : Nat) (τ : Ty)
  | bx (τ : Ty)
@[reducible] def MK.X : MK → Type
  | .fr _ τ => List (den τ)
  | .bx τ => den τ
def MK.val : (k : MK) → k.X → AV
  | .fr e τ, x => .fr e τ x
  | .bx τ, x => .bx τ x
def MK.view : (k : MK) → AV → Option k.X
  | .fr e τ, a => match a with
    | .fr e' σ xs => match decEq σ τ, Nat.beq e' e with
      | .isTrue h, true => some (h ▸ xs)
      | _, _ => none
    | _ => none
  | .bx τ, a => match a with
    | .bx σ x => match decEq σ τ with
      | .isTrue h => some (h ▸ x)
      | .isFalse _ => none
    | _ => none
theorem MK.view_eq {k : MK} {a : AV} {x : k.X} (h : k.view a = some x) : a = k.val x := by
  cases k with
  | fr e τ =>
    cases a <;> simp only [MK.view] at h <;> try cases h
    split at h
    · rename_i e' _ he
      subst e'
      cases h
      rw [Nat.eq_of_beq_eq_true he]; rfl
    · cases h
  | bx τ =>
    cases a <;> simp only [MK.view] at h <;> try cases h
    split at h
    · rename_i e' _
      subst e'
      cases h
      rfl
    · cases h
/-- An answer of a function that was handed something: what that is then, and the answer proper. -/
def viewK0 (k : MK) : AV → Option k.X
  | .kep o (.tup []) => k.view o
  | _ => none
def viewK {Y : Type} (k : MK) (V : AV → Option Y) : AV → Option (k.X × Y)
  | .kep o r => match k.view o, V r with
    | some a, some b => some (a, b)
    | _, _ => none
  | _ => none
def viewMov (e : Nat) (τ : Ty) : AV → Option (List (den τ))
  | .mov e' σ xs => match decEq σ τ, Nat.beq e' e with
    | .isTrue h, true => some (h ▸ xs)
    | _, _ => none
  | _ => none
inductive WkM : AV → AV → Prop
  | kep (o r r' : AV) (h : Wk r r') : WkM (.kep o r) (.kep o r')
  | mov (e : Nat) (τ : Ty) (ys : List (den τ)) : WkM (.mov e τ ys) (.mov e τ ys)
theorem wk_refl (r : AV) : Wk r r := by
  cases r with
  | tup rs => exact .inr ⟨rs, rs, rfl, rfl, rfl, fun i a a' e1 e2 => by rw [e1] at e2; cases e2; exact .refl a⟩
  | _ => exact .inl ⟨fun l h => (by cases h), fun l h => (by cases h), .refl _⟩
theorem wk_viewK0 {k : MK} {r : AV} {y : k.X} (h : viewK0 k r = some y) : WkM r (.kep (k.val y) (.tup [])) := by
  unfold viewK0 at h
  split at h
  · rw [MK.view_eq h]; exact .kep _ _ _ (wk_refl _)
  · cases h
theorem wk_viewK {Y : Type} {k : MK} {V : AV → Option Y} {out : Y → AV} (hV : ∀ r y, V r = some y → Wk r (out y)) {r : AV} {y : k.X × Y} (h : viewK k V r = some y) : WkM r (.kep (k.val y.1) (out y.2)) := by
  unfold viewK at h
  split at h
  · split at h
    · rename_i a b ha hb
      cases h
      rw [MK.view_eq ha]
      exact .kep _ _ _ (hV _ _ hb)
    · cases h
  · cases h
theorem wk_viewMov {e : Nat} {τ : Ty} {r : AV} {y : List (den τ)} (h : viewMov e τ r = some y) : WkM r (.mov e τ y) := by
  unfold viewMov at h
  split at h
  · split at h
    · rename_i e' _ he
      subst e'
      cases h
      rw [Nat.eq_of_beq_eq_true he]
      exact .mov _ _ _
    · cases h
  · cases h
theorem MeetsM.mono {P : Program} {E : Env} {pv : Nat → Value} {f : Nat} {a0 : AV} {args : List AV} {r r' : AV} (h : MeetsM P E pv f a0 args r) (hw : WkM r r') : MeetsM P E pv f a0 args r' := by
  intro S w v0 vs l r0 hst hgl hargs hr0 hrow hSl hv0
  have := h S w v0 vs l r0 hst hgl hargs hr0 hrow hSl hv0
  refine RunsTo.mono this fun v w' ⟨hb, S', h1, h2, h3⟩ => ?_
  cases hw with
  | mov e τ ys => exact ⟨hb, S', h1, h2, h3⟩
  | kep o r r' hw =>
    obtain ⟨h4, r1, ro, h5, h6, h7, h8, h9⟩ := h3
    obtain ⟨S2, k1, k2, k3⟩ := rr_wk hw h4
    have hlt : ∀ g c, l = .at g c → g < w.heap.size := fun g c e => by subst e; exact hrow.lt
    refine ⟨hb, S2, fun b hb => k1 b (h1 b hb), fun b hb => ?_, k3, r1, ro, h5, h6, ?_, h8, fun g c e hS => ?_⟩
    · rcases k2 b hb with h | h
      · exact h2 b h
      · exact .inr (.inr h)
    · exact RowOk.ext (P := fun _ => True) k1 (fun _ _ => rfl) (fun id l r _ h1 => by cases h1) h7 (fun _ _ _ => rfl) (fun _ _ _ _ _ => trivial)
    · rcases k2 g hS with h | h
      · exact h9 g c e h
      · have := hlt g c e; omega
/-! ### Arguments of more kinds: plain data, a variable that is read, a function value -/
inductive PK where
  | t (τ : Ty)
  | tp (τ : Ty)
  | clo (g : Nat) (cs : List CK)
@[reducible] def PK.X : PK → Type
  | .t τ => den τ
  | .tp τ => den τ
  | .clo _ cs => CX cs
def PK.val : (k : PK) → k.X → AV
  | .t τ, x => .t τ x
  | .tp τ, x => .tp (.t τ x)
  | .clo g cs, x => .clo g (cvals cs x)
def PK.view : (k : PK) → AV → Option k.X
  | .t τ, a => asT τ a
  | .tp τ, a => match a with
    | .tp b => asT τ b
    | _ => none
  | .clo g cs, a => match a with
    | .clo f caps => match Nat.beq f g with
      | true => viewC cs caps
      | false => none
    | _ => none
@[reducible] def PX : List PK → Type
  | [] => Unit
  | k :: l => k.X × PX l
def pvals : (l : List PK) → PX l → List AV
  | [], _ => []
  | k :: l, x => k.val x.1 :: pvals l x.2
def viewP : (l : List PK) → List AV → Option (PX l)
  | [], [] => some ()
  | k :: l, a :: al => match k.view a with
    | some x => match viewP l al with
      | some y => some (x, y)
      | none => none
    | none => none
  | _, _ => none
section
variable {S : Nat → Prop} {w : World} {ρ : Nat → Option Loc} {row : Nat → Option Row} {pv : Nat → Value}
theorem PK.ok {k : PK} {a : AV} {x : k.X} {cs : List Value} (hx : k.view a = some x) (h : AR S w ρ row pv a cs) : AR S w ρ row pv (k.val x) cs ∧ isAg a = isAg (k.val x) := by
  cases k with
  | t τ => exact ⟨.t _ _ _ (asT_ar hx h), (asT_ag hx).symm⟩
  | tp τ =>
    simp only [PK.view] at hx
    split at hx
    · exact ⟨tp_ar hx h, rfl⟩
    · cases hx
  | clo g ks =>
    simp only [PK.view] at hx
    split at hx
    · rename_i f caps
      split at hx
      · rename_i hf
        obtain rfl := Nat.eq_of_beq_eq_true hf
        exact ⟨clo_view hx h, rfl⟩
      · cases hx
    · cases hx
theorem viewP_get : ∀ {ks : List PK} {av : List AV} {x : PX ks}, viewP ks av = some x → av.length = (pvals ks x).length ∧ ∀ (i : Nat) a b, av[i]? = some a → (pvals ks x)[i]? = some b → ∃ k : PK, ∃ y : k.X, b = k.val y ∧ k.view a = some y
  | [], [], x, _ => ⟨rfl, fun i a b h => by simp at h⟩
  | [], _ :: _, x, h => by simp [viewP] at h
  | k :: l, [], x, h => by simp [viewP] at h
  | k :: l, a :: al, x, h => by
    simp only [viewP] at h
    split at h
    · rename_i x0 hx
      split at h
      · rename_i y hy
        cases h
        obtain ⟨h1, h2⟩ := viewP_get hy
        refine ⟨by simp [pvals, h1], fun i b c hb hc => ?_⟩
        cases i with
        | zero => cases hb; cases hc; exact ⟨k, x0, rfl, hx⟩
        | succ i => exact h2 i b c (by simpa using hb) (by simpa [pvals] using hc)
      · cases h
    · cases h
theorem args_viewP {ks : List PK} {av : List AV} {x : PX ks} {vs : List Value} (hx : viewP ks av = some x) (h : ArgsOk S w pv av vs) : ArgsOk S w pv (pvals ks x) vs := by
  obtain ⟨h1, h2⟩ := viewP_get hx
  obtain ⟨h3, h4⟩ := h
  refine ⟨h3.trans h1, fun i b v hb hv => ?_⟩
  have hi := (List.getElem?_eq_some_iff.1 hb).1
  have ha : av[i]? = some av[i] := List.getElem?_eq_getElem (by omega)
  obtain ⟨k, y, rfl, hy⟩ := h2 i _ b ha hb
  obtain ⟨cs, h5, h6⟩ := h4 i _ v ha hv
  obtain ⟨h7, h8⟩ := PK.ok hy h5
  exact ⟨cs, h7, by rw [h6, valOf, valOf, h8]⟩
end
/-- A callee: its arguments' types, its Lean function, its answer's value. -/
inductive CArm : Type 1
  | p (ps : List Ty) (Y : Type) (F : TX ps → Option Y) (out : Y → AV)
  | m (k : MK) (ps : List Ty) (Y : Type) (F : k.X → TX ps → Option Y) (out : Y → AV)
  | q (ps : List PK) (Y : Type) (F : PX ps → Option Y) (out : Y → AV)
  | mq (k : MK) (ps : List PK) (Y : Type) (F : k.X → PX ps → Option Y) (out : Y → AV)
def CArm.run {R : Type} (A : CArm) (av : List AV) (K : AV → Option R) : Option R := match A with
  | .p ps Y F out => (viewT ps av).bind fun x => (F x).bind fun r => K (out r)
  | .m k ps Y F out => match av with
    | [] => none
    | a0 :: rest => (k.view a0).bind fun x0 => (viewT ps rest).bind fun x => (F x0 x).bind fun r => K (out r)
  | .q ps Y F out => (viewP ps av).bind fun x => (F x).bind fun r => K (out r)
  | .mq k ps Y F out => match av with
    | [] => none
    | a0 :: rest => (k.view a0).bind fun x0 => (viewP ps rest).bind fun x => (F x0 x).bind fun r => K (out r)
def tabC (t : Cal → Option CArm) : Orc := fun cal av K => match t cal with
  | some A => A.run av K
  | none => none
theorem tabC_is (t : Cal → Option CArm) : OrcIs (tabC t) (CG (tabC t)) := by
  intro R cal av K r h
  unfold CG
  unfold tabC at h ⊢
  dsimp only at h ⊢
  split at h
  · rename_i A hA
    cases A with
    | p ps Y F out =>
      simp only [CArm.run] at h ⊢
      obtain ⟨x, hx, h⟩ := Option.bind_eq_some_iff.1 h
      obtain ⟨y, hy, h⟩ := Option.bind_eq_some_iff.1 h
      exact ⟨out y, by simp only [hx, hy, Option.bind_some], h⟩
    | m k ps Y F out =>
      cases av with
      | nil => simp only [CArm.run] at h; cases h
      | cons a0 rest =>
        simp only [CArm.run] at h ⊢
        obtain ⟨x0, hx0, h⟩ := Option.bind_eq_some_iff.1 h
        obtain ⟨x, hx, h⟩ := Option.bind_eq_some_iff.1 h
        obtain ⟨y, hy, h⟩ := Option.bind_eq_some_iff.1 h
        exact ⟨out y, by simp only [hx0, hx, hy, Option.bind_some], h⟩
    | q ps Y F out =>
      simp only [CArm.run] at h ⊢
      obtain ⟨x, hx, h⟩ := Option.bind_eq_some_iff.1 h
      obtain ⟨y, hy, h⟩ := Option.bind_eq_some_iff.1 h
      exact ⟨out y, by simp only [hx, hy, Option.bind_some], h⟩
    | mq k ps Y F out =>
      cases av with
      | nil => simp only [CArm.run] at h; cases h
      | cons a0 rest =>
        simp only [CArm.run] at h ⊢
        obtain ⟨x0, hx0, h⟩ := Option.bind_eq_some_iff.1 h
        obtain ⟨x, hx, h⟩ := Option.bind_eq_some_iff.1 h
        obtain ⟨y, hy, h⟩ := Option.bind_eq_some_iff.1 h
        exact ⟨out y, by simp only [hx0, hx, hy, Option.bind_some], h⟩
  · cases h
def ArmOk (P : Program) (E : Env) (pv : Nat → Value) (cal : Cal) (A : CArm) : Prop := match A with
  | .p ps Y F out => ∀ x y, F x = some y → Meets P E pv cal (tvals ps x) (out y)
  | .m k ps Y F out => ∃ f, cal = .f f ∧ ∀ x0 x y, F x0 x = some y → MeetsM P E pv f (k.val x0) (tvals ps x) (out y)
  | .q ps Y F out => ∀ x y, F x = some y → Meets P E pv cal (pvals ps x) (out y)
  | .mq k ps Y F out => ∃ f, cal = .f f ∧ ∀ x0 x y, F x0 x = some y → MeetsM P E pv f (k.val x0) (pvals ps x) (out y)
theorem args_view {S : Nat → Prop} {w : World} {pv : Nat → Value} {tys : List Ty} {av : List AV} {x : TX tys} {vs : List Value} (hx : viewT tys av = some x) (h : ArgsOk S w pv av vs) : ArgsOk S w pv (tvals tys x) vs := by
  obtain ⟨h1, h2⟩ := viewT_get hx
  obtain ⟨h3, h4⟩ := h
  refine ⟨h3.trans h1, fun i b v hb hv => ?_⟩
  have hi := (List.getElem?_eq_some_iff.1 hb).1
  have ha : av[i]? = some av[i] := List.getElem?_eq_getElem (by omega)
  obtain ⟨τ, y, rfl, hy⟩ := h2 i _ b ha hb
  obtain ⟨cs, h5, h6⟩ := h4 i _ v ha hv
  exact ⟨cs, .t τ y cs (asT_ar hy h5), by rw [h6, valOf, valOf, asT_ag hy]⟩
theorem tabC_ok {P : Program} {E : Env} {pv : Nat → Value} {t : Cal → Option CArm} (h : ∀ cal A, t cal = some A → ArmOk P E pv cal A) : GOk P E pv (CG (tabC t)) := by
  intro cal av r hr
  unfold CG tabC at hr
  dsimp only at hr
  split at hr
  · rename_i A hA
    have hok := h cal A hA
    cases A with
    | p ps Y F out =>
      simp only [CArm.run] at hr
      obtain ⟨x, hx, hr⟩ := Option.bind_eq_some_iff.1 hr
      obtain ⟨y, hy, hr⟩ := Option.bind_eq_some_iff.1 hr
      cases hr
      refine ⟨meets_args hx (hok x y hy), fun f a0 rest e1 e2 hn => ?_⟩
      subst e2
      exfalso
      cases ps with
      | nil => simp [viewT] at hx
      | cons τ ps =>
        simp only [viewT] at hx
        split at hx
        · rename_i y0 hy0
          rcases asT_form hy0 with rfl | rfl <;> exact hn rfl
        · cases hx
    | m k ps Y F out =>
      obtain ⟨f, rfl, hok⟩ := hok
      cases av with
      | nil => simp only [CArm.run] at hr; cases hr
      | cons a0 rest =>
        simp only [CArm.run] at hr
        obtain ⟨x0, hx0, hr⟩ := Option.bind_eq_some_iff.1 hr
        obtain ⟨x, hx, hr⟩ := Option.bind_eq_some_iff.1 hr
        obtain ⟨y, hy, hr⟩ := Option.bind_eq_some_iff.1 hr
        cases hr
        have ha0 := MK.view_eq hx0
        subst ha0
        refine ⟨fun S w vs _ _ ha => ?_, fun f' a0 rest' e1 e2 hn => ?_⟩
        · exfalso
          obtain ⟨hl, ha⟩ := ha
          match vs, hl with
          | v :: vs, _ =>
            obtain ⟨cs, h5, _⟩ := ha 0 _ v rfl rfl
            cases k <;> cases h5
        · cases e1; cases e2
          have hm := hok x0 x y hy
          intro S w v0 vs l r0 hst hgl hargs hr0 hrow hSl hv0
          exact hm S w v0 vs l r0 hst hgl (args_view hx hargs) hr0 hrow hSl hv0
    | q ps Y F out =>
      simp only [CArm.run] at hr
      obtain ⟨x, hx, hr⟩ := Option.bind_eq_some_iff.1 hr
      obtain ⟨y, hy, hr⟩ := Option.bind_eq_some_iff.1 hr
      cases hr
      refine ⟨Goes.mono (hok x y hy) (wk_refl _) fun S w vs ha => args_viewP hx ha, fun f a0 rest e1 e2 hn => ?_⟩
      subst e2
      exfalso
      cases ps with
      | nil => simp [viewP] at hx
      | cons k ps =>
        simp only [viewP] at hx
        split at hx
        · rename_i y0 hy0
          cases k with
          | t τ => rcases asT_form hy0 with rfl | rfl <;> exact hn rfl
          | tp τ =>
            simp only [PK.view] at hy0
            split at hy0
            · exact hn rfl
            · cases hy0
          | clo g cs =>
            simp only [PK.view] at hy0
            split at hy0
            · exact hn rfl
            · cases hy0
        · cases hx
    | mq k ps Y F out =>
      obtain ⟨f, rfl, hok⟩ := hok
      cases av with
      | nil => simp only [CArm.run] at hr; cases hr
      | cons a0 rest =>
        simp only [CArm.run] at hr
        obtain ⟨x0, hx0, hr⟩ := Option.bind_eq_some_iff.1 hr
        obtain ⟨x, hx, hr⟩ := Option.bind_eq_some_iff.1 hr
        obtain ⟨y, hy, hr⟩ := Option.bind_eq_some_iff.1 hr
        cases hr
        have ha0 := MK.view_eq hx0
        subst ha0
        refine ⟨fun S w vs _ _ ha => ?_, fun f' a0 rest' e1 e2 hn => ?_⟩
        · exfalso
          obtain ⟨hl, ha⟩ := ha
          match vs, hl with
          | v :: vs, _ =>
            obtain ⟨cs, h5, _⟩ := ha 0 _ v rfl rfl
            cases k <;> cases h5
        · cases e1; cases e2
          have hm := hok x0 x y hy
          intro S w v0 vs l r0 hst hgl hargs hr0 hrow hSl hv0
          exact hm S w v0 vs l r0 hst hgl (args_viewP hx hargs) hr0 hrow hSl hv0
  · cases hr

/-! ### Loops -/
/-- A loop: its states' shape at the head, its Lean function, how it ends: by one exit, or by one of two. -/
inductive LArm : Type 1
  | one (sp so : List Sp) (Y : Type) (l : Nat → SX sp → Option Y) (e : Ex) (g : Y → SX so) (h : SX so → Y)
  | two (sp so1 so2 : List Sp) (Y Z : Type) (l : Nat → SX sp → Option (Sum Y Z)) (e1 e2 : Ex) (g1 : Y → SX so1) (h1 : SX so1 → Y) (g2 : Z → SX so2) (h2 : SX so2 → Z)
def LArm.run {R : Type} (nt k : Nat) (A : LArm) (st : St) (K : Ex → St → Option R) : Option R := match A with
  | .one sp so Y l e g _ => (viewN nt st sp).bind fun x => (l k x).bind fun y => K e (stOf nt so (g y))
  | .two sp so1 so2 Y Z l e1 e2 g1 _ g2 _ => (viewN nt st sp).bind fun x => (l k x).bind fun y => match y with
    | .inl z => K e1 (stOf nt so1 (g1 z))
    | .inr z => K e2 (stOf nt so2 (g2 z))
def exEq : Ex → Ex → Bool
  | .exit a, .exit b => Nat.beq a b
  | .ret, .ret => true
  | _, _ => false
theorem exEq_eq {a b : Ex} (h : exEq a b = true) : a = b ∧ a ≠ .normal := by
  cases a <;> cases b <;> first
    | exact Bool.noConfusion h
    | (have := Nat.eq_of_beq_eq_true h; subst this; exact ⟨rfl, by simp⟩)
    | exact ⟨rfl, by simp⟩
@[reducible] def LArm.sp : LArm → List Sp
  | .one sp .. => sp
  | .two sp .. => sp
@[reducible] def LArm.Y : LArm → Type
  | .one _ _ Y .. => Y
  | .two _ _ _ Y Z .. => Sum Y Z
def LArm.l : (A : LArm) → Nat → SX A.sp → Option A.Y
  | .one _ _ _ l _ _ _ => l
  | .two _ _ _ _ _ l _ _ _ _ _ _ => l
/-- What follows a round. -/
def LArm.cont (nt k : Nat) : (A : LArm) → Ex → St → Option A.Y
  | .one sp so Y l e g h, e', st => match e' with
    | .normal => (viewN nt st sp).bind fun x => l k x
    | e' => match exEq e' e with
      | true => (viewN nt st so).bind fun x => some (h x)
      | false => none
  | .two sp so1 so2 Y Z l e1 e2 g1 h1 g2 h2, e', st => match e' with
    | .normal => (viewN nt st sp).bind fun x => l k x
    | e' => match exEq e' e1 with
      | true => (viewN nt st so1).bind fun x => some (.inl (h1 x))
      | false => match exEq e' e2 with
        | true => (viewN nt st so2).bind fun x => some (.inr (h2 x))
        | false => none
def LArm.Ok : LArm → Prop
  | .one sp so Y l e g h => spOk sp = true ∧ spOk so = true ∧ (∀ x, l 0 x = none) ∧ ∀ x, g (h x) = x
  | .two sp so1 so2 Y Z l e1 e2 g1 h1 g2 h2 => spOk sp = true ∧ spOk so1 = true ∧ spOk so2 = true ∧ (∀ x, l 0 x = none) ∧ (∀ x, g1 (h1 x) = x) ∧ ∀ x, g2 (h2 x) = x
def tabL (nt k : Nat) (t : Nat → Option LArm) : LOrc := fun b st K => match t b with
  | some A => A.run nt k st K
  | none => none
theorem tabL_is (nt k : Nat) (t : Nat → Option LArm) : LIs (tabL nt k t) (LG (tabL nt k t)) := by
  intro R b st K r h
  unfold LG
  unfold tabL at h ⊢
  dsimp only at h ⊢
  split at h
  · rename_i A hA
    cases A with
    | one sp so Y l e g h' =>
      unfold LArm.run at h ⊢
      obtain ⟨x, hx, h⟩ := Option.bind_eq_some_iff.1 h
      obtain ⟨y, hy, h⟩ := Option.bind_eq_some_iff.1 h
      exact ⟨_, _, by simp only [hx, hy, Option.bind_some], h⟩
    | two sp so1 so2 Y Z l e1 e2 g1 h1 g2 h2 =>
      unfold LArm.run at h ⊢
      obtain ⟨x, hx, h⟩ := Option.bind_eq_some_iff.1 h
      obtain ⟨y, hy, h⟩ := Option.bind_eq_some_iff.1 h
      cases y with
      | inl z => exact ⟨_, _, by simp only [hx, hy, Option.bind_some], h⟩
      | inr z => exact ⟨_, _, by simp only [hx, hy, Option.bind_some], h⟩
  · cases h
theorem tabL_zero {nt : Nat} {t : Nat → Option LArm} (hok : ∀ b A, t b = some A → A.Ok) : ∀ b st e st', ¬ LG (tabL nt 0 t) b st e st' := by
  intro b st e st' h
  unfold LG tabL at h
  dsimp only at h
  split at h
  · rename_i A hA
    have := hok b A hA
    cases A with
    | one sp so Y l e g h' =>
      unfold LArm.run at h
      obtain ⟨x, hx, h⟩ := Option.bind_eq_some_iff.1 h
      rw [this.2.2.1] at h; cases h
    | two sp so1 so2 Y Z l e1 e2 g1 h1 g2 h2 =>
      unfold LArm.run at h
      obtain ⟨x, hx, h⟩ := Option.bind_eq_some_iff.1 h
      rw [this.2.2.2.1] at h; cases h
  · cases h
theorem tabL_step {E : Env} {C : Nat → Orc} {nt : Nat} {t : Nat → Option LArm} {fn : Func} (hok : ∀ b A, t b = some A → A.Ok)
    (hS : ∀ b A, t b = some A → ∀ k x, runC E (C k) (tabL nt k t) b (loopAt fn b) (stOf nt A.sp x) (A.cont nt k) = A.l (k + 1) x) :
    ∀ k b e st st', LG (tabL nt (k + 1) t) b st e st' → StepOk E (C k) (tabL nt k t) nt (loopAt fn b) b e st st' := by
  intro k b e st st' h
  unfold LG at h
  unfold tabL at h
  dsimp only at h
  split at h
  · rename_i A hA
    have ho := hok b A hA
    have hs := hS b A hA k
    cases A with
    | one sp so Y l e1 g h' =>
      unfold LArm.run at h
      obtain ⟨x, hx, h⟩ := Option.bind_eq_some_iff.1 h
      obtain ⟨y, hy, h⟩ := Option.bind_eq_some_iff.1 h
      simp only [Option.some.injEq, Prod.mk.injEq] at h
      obtain ⟨rfl, rfl⟩ := h
      refine ⟨sp, x, ho.1, hx, Y, y, _, (hs x).trans hy, fun e' st1 hc => ?_⟩
      unfold LArm.cont at hc
      dsimp only at hc
      split at hc
      · obtain ⟨x1, hx1, hl⟩ := Option.bind_eq_some_iff.1 hc
        refine .inl ⟨rfl, ?_⟩
        unfold LG tabL
        simp only [hA, LArm.run, hx1, hl, Option.bind_some]
      · split at hc
        · rename_i hne he
          obtain ⟨rfl, hn⟩ := exEq_eq he
          obtain ⟨x1, hx1, hl⟩ := Option.bind_eq_some_iff.1 hc
          cases hl
          exact .inr ⟨rfl, hn, so, x1, ho.2.1, hx1, by rw [ho.2.2.2]⟩
        · cases hc
    | two sp so1 so2 Y Z l e1 e2 g1 h1 g2 h2 =>
      unfold LArm.run at h
      obtain ⟨x, hx, h⟩ := Option.bind_eq_some_iff.1 h
      obtain ⟨y, hy, h⟩ := Option.bind_eq_some_iff.1 h
      refine ⟨sp, x, ho.1, hx, Sum Y Z, y, _, (hs x).trans hy, fun e' st1 hc => ?_⟩
      unfold LArm.cont at hc
      dsimp only at hc
      split at hc
      · obtain ⟨x1, hx1, hl⟩ := Option.bind_eq_some_iff.1 hc
        refine .inl ⟨rfl, ?_⟩
        unfold LG tabL
        simp only [hA, LArm.run, hx1, hl, Option.bind_some]
        exact h
      · split at hc
        · rename_i hne he
          obtain ⟨rfl, hn⟩ := exEq_eq he
          obtain ⟨x1, hx1, hl⟩ := Option.bind_eq_some_iff.1 hc
          cases hl
          simp only [Option.some.injEq, Prod.mk.injEq] at h
          obtain ⟨rfl, rfl⟩ := h
          exact .inr ⟨rfl, hn, so1, x1, ho.2.1, hx1, by rw [ho.2.2.2.2.1]⟩
        · split at hc
          · rename_i hne he' he
            obtain ⟨rfl, hn⟩ := exEq_eq he
            obtain ⟨x1, hx1, hl⟩ := Option.bind_eq_some_iff.1 hc
            cases hl
            simp only [Option.some.injEq, Prod.mk.injEq] at h
            obtain ⟨rfl, rfl⟩ := h
            exact .inr ⟨rfl, hn, so2, x1, ho.2.2.1, hx1, by rw [ho.2.2.2.2.2]⟩
          · cases hc
  · cases h

/-- A function without loops. -/
theorem fun_plain {P : Program} {E : Env} {pv : Nat → Value} (hE : EnvOk P E) {t : Cal → Option CArm} (hG : ∀ cal A, t cal = some A → ArmOk P E pv cal A) {f : FuncId} {fn : Func} {c : Code} (hf : P.funcs[f]? = some fn) (hb : fn.body = some c)
    (hname : (fn.name == "runtime.NumGoroutine") = false) {args : List AV} (hn : Nat.ble args.length fn.ntmps = true) {R : Type} {K : AV → Option R} {y : R} (hrun : runF E (tabC t) (tabL fn.ntmps 0 fun _ => none) fn args K = some y) {r' : AV} (hw : ∀ r, K r = some y → Wk r r') :
    Meets P E pv (.f f) args r' :=
  fun_good hE (tabC_is t) (tabL_is _ _ _) (tabC_ok hG) hf hb hname (no_loops (fun b st e st' h => by unfold LG tabL at h; cases h) _) (Nat.le_of_ble_eq_true hn) hrun hw
/-- A function with loops. -/
theorem fun_loops {P : Program} {E : Env} {pv : Nat → Value} (hE : EnvOk P E) {t : Nat → Cal → Option CArm} (k : Nat) (hG : ∀ k', k' ≤ k → ∀ cal A, t k' cal = some A → ArmOk P E pv cal A) {f : FuncId} {fn : Func} {c : Code} (hf : P.funcs[f]? = some fn) (hb : fn.body = some c)
    (hname : (fn.name == "runtime.NumGoroutine") = false) {args : List AV} (hn : Nat.ble args.length fn.ntmps = true) {lt : Nat → Option LArm} (hok : loopsOk fn = true) (hlt : ∀ b A, lt b = some A → A.Ok)
    (hS : ∀ b A, lt b = some A → ∀ k x, runC E (tabC (t k)) (tabL fn.ntmps k lt) b (loopAt fn b) (stOf fn.ntmps A.sp x) (A.cont fn.ntmps k) = A.l (k + 1) x)
    {R : Type} {K : AV → Option R} {y : R} (hrun : runF E (tabC (t k)) (tabL fn.ntmps k lt) fn args K = some y) {r' : AV} (hw : ∀ r, K r = some y → Wk r r') : Meets P E pv (.f f) args r' :=
  fun_good hE (tabC_is _) (tabL_is _ _ _) (tabC_ok (hG k (Nat.le_refl k))) hf hb hname (fun w0 B p hp st e st' S ρ a w Q h hs hgl hQ =>
    wp_loop_rounds k (rounds_ok hE (C := fun k => tabC (t k)) (L := fun k => tabL fn.ntmps k lt) (fun k => tabC_is _) (fun k => tabL_is _ _ _) hb hok (n := k) (fun k' hk' => tabC_ok (hG k' (Nat.le_of_lt hk'))) (tabL_zero hlt) (fun k b e st st' _ h => tabL_step (C := fun k => tabC (t k)) hlt hS k b e st st' h) k (Nat.le_refl k) w0 B p hp st e st' S ρ a w Q h hs hgl hQ)) (Nat.le_of_ble_eq_true hn) hrun hw
/-! ### Functions that are handed something -/
theorem funM_good {P : Program} {E : Env} {pv : Nat → Value} (hE : EnvOk P E) {C : Orc} {L : LOrc} (hC : OrcIs C (CG C)) (hL : LIs L (LG L)) (hG : GOk P E pv (CG C)) {f : FuncId} {fn : Func} {c : Code} (hf : P.funcs[f]? = some fn) (hb : fn.body = some c) (hname : (fn.name == "runtime.NumGoroutine") = false)
    (hl : ∀ w0 B, ∀ p ∈ loopsOf 0 c, LoopSound P E w0 B pv p.2 (LG L p.1)) {mb : Nat} (hmb : mb = mbase ∨ mb = mmove) {a0 : AV} {args : List AV} (hn : args.length + 1 ≤ fn.ntmps) {R : Type} {K : AV → Option R} {y : R} (hrun : runM E C L fn mb a0 args K = some y) {r' : AV} (hw : ∀ r, K r = some y → WkM r r') : MeetsM P E pv f a0 args r' := by
  obtain ⟨c', res, e, st, rs, hfr, hk⟩ := runM_rel hC hL hrun
  have hcc : c' = c := by have := hfr.body; rw [hb] at this; cases this; rfl
  subst hcc
  exact MeetsM.mono (funM_meets hE hG hf hname hfr hmb hn hl) (hw res hk)
theorem funM_plain {P : Program} {E : Env} {pv : Nat → Value} (hE : EnvOk P E) {t : Cal → Option CArm} (hG : ∀ cal A, t cal = some A → ArmOk P E pv cal A) {f : FuncId} {fn : Func} {c : Code} (hf : P.funcs[f]? = some fn) (hb : fn.body = some c)
    (hname : (fn.name == "runtime.NumGoroutine") = false) {mb : Nat} (hmb : mb = mbase ∨ mb = mmove) {a0 : AV} {args : List AV} (hn : Nat.ble (args.length + 1) fn.ntmps = true) {R : Type} {K : AV → Option R} {y : R} (hrun : runM E (tabC t) (tabL fn.ntmps 0 fun _ => none) fn mb a0 args K = some y) {r' : AV} (hw : ∀ r, K r = some y → WkM r r') :
    MeetsM P E pv f a0 args r' :=
  funM_good hE (tabC_is t) (tabL_is _ _ _) (tabC_ok hG) hf hb hname (no_loops (fun b st e st' h => by unfold LG tabL at h; cases h) _) hmb (Nat.le_of_ble_eq_true hn) hrun hw
theorem funM_loops {P : Program} {E : Env} {pv : Nat → Value} (hE : EnvOk P E) {t : Nat → Cal → Option CArm} (k : Nat) (hG : ∀ k', k' ≤ k → ∀ cal A, t k' cal = some A → ArmOk P E pv cal A) {f : FuncId} {fn : Func} {c : Code} (hf : P.funcs[f]? = some fn) (hb : fn.body = some c)
    (hname : (fn.name == "runtime.NumGoroutine") = false) {mb : Nat} (hmb : mb = mbase ∨ mb = mmove) {a0 : AV} {args : List AV} (hn : Nat.ble (args.length + 1) fn.ntmps = true) {lt : Nat → Option LArm} (hok : loopsOk fn = true) (hlt : ∀ b A, lt b = some A → A.Ok)
    (hS : ∀ b A, lt b = some A → ∀ k x, runC E (tabC (t k)) (tabL fn.ntmps k lt) b (loopAt fn b) (stOf fn.ntmps A.sp x) (A.cont fn.ntmps k) = A.l (k + 1) x)
    {R : Type} {K : AV → Option R} {y : R} (hrun : runM E (tabC (t k)) (tabL fn.ntmps k lt) fn mb a0 args K = some y) {r' : AV} (hw : ∀ r, K r = some y → WkM r r') : MeetsM P E pv f a0 args r' :=
  funM_good hE (tabC_is _) (tabL_is _ _ _) (tabC_ok (hG k (Nat.le_refl k))) hf hb hname (fun w0 B p hp st e st' S ρ a w Q h hs hgl hQ =>
    wp_loop_rounds k (rounds_ok hE (C := fun k => tabC (t k)) (L := fun k => tabL fn.ntmps k lt) (fun k => tabC_is _) (fun k => tabL_is _ _ _) hb hok (n := k) (fun k' hk' => tabC_ok (hG k' (Nat.le_of_lt hk'))) (tabL_zero hlt) (fun k b e st st' _ h => tabL_step (C := fun k => tabC (t k)) hlt hS k b e st st' h) k (Nat.le_refl k) w0 B p hp st e st' S ρ a w Q h hs hgl hQ)) hmb (Nat.le_of_ble_eq_true hn) hrun hw
end Go.Gx
end
section
/- Rows: data that was trodden is plain data in memory; a law's contract out of its call's answer. -/
namespace Go.Gx
open Go.RowKit Go.ChangeShapes Go.WideShapes
set_option linter.unusedVariables false
set_option linter.unusedSimpArgs false

/-- Data as the model lets it come in. -/
inductive WF : (τ : Ty) → den τ → Prop
  | int (k : IntKind) (n : Int) (h : (Lit.int k n).wf = true) : WF (.int k) n
  | bool (b : Bool) : WF .bool b
  | str (s : ByteArray) (h : s.size ≤ maxLen) : WF .str s
  | sl (e : Ty) (xs : List (den e)) (hm : xs.length ≤ maxLen) (h : ∀ i (hi : i < xs.length), WF e xs[i]) : WF (.sl e) xs
  | date (d : Date) (hy : WF (.int .i64) d.y) (hm : WF (.int .i64) d.m) (hd : WF (.int .i64) d.d) : WF .date d
  | abbr (a : Abbr) (h1 : WF .str a.word) (h2 : WF .str a.short) : WF .abbr a
  | name (n : Name) (h1 : WF (.sl .str) n.given) (h2 : WF .str n.particle) (h3 : WF .str n.family) (h4 : WF .str n.suffix) : WF .name n
  | entry (e : Entry) (h1 : WF .str e.key) (h2 : WF (.int .i64) e.kind) (h3 : WF (.sl .name) e.authors) (h4 : WF (.sl .name) e.editors) (h5 : WF .str e.title) (h6 : WF .str e.container) (h7 : WF .str e.publisher)
      (h8 : WF .date e.date) (h9 : WF (.int .i64) e.volume) (h10 : WF .str e.pages) (h11 : WF .str e.cross) : WF .entry e
  | lib (l : Library) (h : WF (.sl .entry) l.entries) : WF .lib l
  | query (q : Query) (h1 : WF (.int .i64) q.op) (h2 : WF .str q.field) (h3 : WF .str q.word) (h4 : WF (.sl .query) q.parts) : WF .query q
def noA : Ty → Bool
  | .arr _ _ => false
  | .sl e => noA e
  | _ => true

section
variable {H : Type} {enc : TypeId × Value → H} {P : Program} {E : Env} {w : World} {spare : Nat → Bool} {held : Bool} {S : Nat → Prop}
abbrev Lt (w : World) : Nat → Prop := fun b => b < w.heap.size
theorem cell_lt {a : Addr} {v : Value} (h : w.cell? a = some v) : a.block < w.heap.size := by
  unfold World.cell? at h
  split at h
  · rename_i c e f hb; exact (Array.getElem?_eq_some_iff.1 hb).1
  · cases h
theorem one_of {c : Value} {l : List Value} (h : l = [c]) : l = [c] := h
theorem list_len {n : Nat} {cs : List Value} (h : cs.length = n) : cs = (List.range n).map fun i => cs.getD i undef := by
  apply List.ext_getElem?
  intro i
  by_cases hi : i < n
  · rw [List.getElem?_map, List.getElem?_range hi, List.getElem?_eq_getElem (by omega)]
    simp [List.getD, List.getElem?_eq_getElem (show i < cs.length by omega)]
  · rw [List.getElem?_eq_none (by omega), List.getElem?_eq_none (by simp; omega)]
theorem trod_cr (hty : ∀ T τ, E.ty T = some τ → TyOk P E T τ) : ∀ (fuel : Nat) (T : Nat) (τ : Ty) (cs : List Value) (y : DataW H × List MemPlace), noA τ = true → E.ty T = some τ → DataW.trod enc P w 0 spare held fuel T cs = some y → ∃ x : den τ, WF τ x ∧ CR (Lt w) w τ x cs
  | 0, T, τ, cs, y, _, _, h => by simp [DataW.trod] at h
  | fuel + 1, T, τ, cs, y, hn, hT, h => by
    have ih := trod_cr hty fuel
    have hu := hty T τ hT
    obtain ⟨i, hi, hsz, -, -⟩ := hu.info
    have hcells : P.cellsOf T = nc τ := by simp [Program.cellsOf, hi, hsz]
    have cellsOf : ∀ {t σ}, E.ty t = some σ → P.cellsOf t = nc σ := fun {t σ} ht => by
      obtain ⟨i, hi, hsz, -, -⟩ := (hty t σ ht).info
      simp [Program.cellsOf, hi, hsz]
    have hund := hu.und
    -- a struct's fields
    have fields : ∀ fs, P.underlying T = some (.struct fs) → fs.size = (fty τ).length → (∀ (f : Nat) (d : Field), fs[f]? = some d → ∃ σ, (fty τ)[f]? = some σ ∧ d.offset = offL (fty τ) f ∧ E.ty d.type = some σ) →
        cs.length = nc τ ∧ ∀ (f : Nat) σ, (fty τ)[f]? = some σ → noA σ = true → ∃ x : den σ, WF σ x ∧ CR (Lt w) w σ x ((cs.drop (offL (fty τ) f)).take (nc σ)) := fun fs hfs hl hf => by
      obtain ⟨xs, n, hn, _, hlen, hxl, hx⟩ := DataW.trod_struct hfs h
      cases hn
      refine ⟨hlen.trans hcells, fun f σ hσ hno => ?_⟩
      have hfl : f < fs.size := by have := (List.getElem?_eq_some_iff.1 hσ).1; omega
      obtain ⟨σ', h1, h2, h3⟩ := hf f fs[f] (Array.getElem?_eq_getElem hfl)
      rw [hσ] at h1
      cases h1
      have h4 := hx f fs[f] (Array.getElem?_eq_getElem hfl)
      rw [List.getElem?_eq_getElem (show f < xs.length by omega), h2, cellsOf h3] at h4
      exact ih _ σ _ _ hno h3 h4
    cases τ with
    | int k => obtain ⟨n, rfl, _, hw⟩ := DataW.trod_int hund h; exact ⟨n, .int k n hw, .int k n⟩
    | bool => obtain ⟨b, rfl, _⟩ := DataW.trod_bool hund h; exact ⟨b, .bool b, .bool b⟩
    | str => obtain ⟨s, rfl, _, hs⟩ := DataW.trod_string hund h; exact ⟨s, .str s hs, .str s⟩
    | arr n e => cases hn
    | sl e =>
      obtain ⟨t, h1, h2, h3, h4, h5⟩ := hund
      rcases DataW.trod_slice h1 h with ⟨rfl, _⟩ | ⟨a, len, cap, elems, rest, n, hfn, rfl, _, hb, hl, hm, hlen, hel, _⟩
      · exact ⟨[], .sl e [] (Nat.zero_le _) (fun i hi => absurd hi (Nat.not_lt_zero i)), cr_nil _ _ e⟩
      · cases hfn
        have key : ∀ i, ∃ x : den e, ∃ c : List Value, i < len → WF e x ∧ CR (Lt w) w e x c ∧ a.spot = none ∧ a.block < w.heap.size ∧ ∀ j v, c[j]? = some v → w.cell? ⟨a.block, a.off + (i * nc e + j), none⟩ = some v := fun i => by
          by_cases hi : i < len
          · have h6 := hel i hi
            rw [List.getElem?_eq_getElem (show i < elems.length by omega)] at h6
            obtain ⟨c, h7, h8⟩ := Option.bind_eq_some_iff.1 h6
            rw [cellsOf h3] at h7
            obtain ⟨x, h9, h10⟩ := ih t e c _ hn h3 h8
            obtain ⟨_, hcl, hcc⟩ := World.cells?_some h7
            have hcell : ∀ j v, c[j]? = some v → w.cell? ((a.add (i * nc e)).add j) = some v := fun j v hj => by
              have : j < c.length := (List.getElem?_eq_some_iff.1 hj).1
              rw [hcc j (by omega), hj]
            have h0 : ∃ v, c[0]? = some v := ⟨c[0], List.getElem?_eq_getElem (by omega)⟩
            obtain ⟨v0, hv0⟩ := h0
            have hlt : a.block < w.heap.size := by
              have := cell_lt (hcell 0 v0 hv0)
              simpa [Addr.add] using (show (a.add (i * nc e)).block < w.heap.size by simpa [Addr.add] using this) |> fun h => by unfold Addr.add at h; split at h <;> exact h
            have hsp : a.spot = none := by
              have h11 := hel 0 (by omega)
              rw [List.getElem?_eq_getElem (show 0 < elems.length by omega)] at h11
              obtain ⟨c', h12, _⟩ := Option.bind_eq_some_iff.1 h11
              rw [cellsOf h3] at h12
              obtain ⟨_, hcl', hcc'⟩ := World.cells?_some h12
              have h13 := hcc' 0 (by omega)
              rw [List.getElem?_eq_getElem (show 0 < c'.length by omega)] at h13
              have := World.cell?_spot h13
              simpa [Addr.add] using this
            refine ⟨x, c, fun _ => ⟨h9, h10, hsp, hlt, fun j v hj => ?_⟩⟩
            have := hcell j v hj
            rw [Go.Deep.add_add] at this
            obtain ⟨ab, ao, asp⟩ := a
            cases hsp
            simp only [Addr.add] at this
            split at this
            · rename_i hz
              have h14 : i * nc e + j = 0 := hz
              rw [h14]; exact this
            · exact this
          · exact ⟨dflt e, [], fun h => absurd h hi⟩
        let xf := fun i => Classical.choose (key i)
        have hxf : ∀ i, ∃ c : List Value, i < len → WF e (xf i) ∧ CR (Lt w) w e (xf i) c ∧ a.spot = none ∧ a.block < w.heap.size ∧ ∀ j v, c[j]? = some v → w.cell? ⟨a.block, a.off + (i * nc e + j), none⟩ = some v := fun i => Classical.choose_spec (key i)
        let cf := fun i => Classical.choose (hxf i)
        have hcf := fun i => Classical.choose_spec (hxf i)
        have hxl : ((List.range len).map xf).length = len := by simp
        refine ⟨(List.range len).map xf, .sl e _ (by rw [hxl]; omega) (fun i hi => ?_), ?_⟩
        · rw [hxl] at hi
          simp only [List.getElem_map, List.getElem_range]
          exact (hcf i hi).1
        · have := CR.sl (S := Lt w) (w := w) e ((List.range len).map xf) (some a) cap cf (by rw [hxl]; exact hl) hm (fun i hi => by
            rw [hxl] at hi
            simp only [List.getElem_map, List.getElem_range]
            exact (hcf i hi).2.1) (fun i hi => by
            rw [hxl] at hi
            obtain ⟨_, _, h6, h7, h8⟩ := hcf i hi
            obtain ⟨ab, ao, asp⟩ := a
            cases h6
            exact ⟨ab, ao, rfl, h7, h8⟩)
          rw [hxl] at this
          exact this
    | date =>
      obtain ⟨fs, h1, h2, h3⟩ := hund
      obtain ⟨hl, hf⟩ := fields fs h1 h2 h3
      match cs, hl with
      | [c0, c1, c2, c3], _ =>
        obtain ⟨x0, g0, k0⟩ := hf 0 _ rfl rfl
        obtain ⟨x1, g1, k1⟩ := hf 1 _ rfl rfl
        obtain ⟨x2, g2, k2⟩ := hf 2 _ rfl rfl
        obtain ⟨x3, g3, k3⟩ := hf 3 _ rfl rfl
        simp [offL, nc] at k0 k1 k2 k3
        cases k0; cases k1; cases k2; cases k3
        exact ⟨⟨x0, x1, x2, x3⟩, .date _ g0 g1 g2, .date ⟨x0, x1, x2, x3⟩⟩
    | abbr =>
      obtain ⟨fs, h1, h2, h3⟩ := hund
      obtain ⟨hl, hf⟩ := fields fs h1 h2 h3
      match cs, hl with
      | [c0, c1], _ =>
        obtain ⟨x0, g0, k0⟩ := hf 0 _ rfl rfl
        obtain ⟨x1, g1, k1⟩ := hf 1 _ rfl rfl
        simp [offL, nc] at k0 k1
        cases k0; cases k1
        exact ⟨⟨x0, x1⟩, .abbr _ g0 g1, .abbr ⟨x0, x1⟩⟩
    | name =>
      obtain ⟨fs, h1, h2, h3⟩ := hund
      obtain ⟨hl, hf⟩ := fields fs h1 h2 h3
      match cs, hl with
      | [c0, c1, c2, c3], _ =>
        obtain ⟨x0, g0, k0⟩ := hf 0 _ rfl rfl
        obtain ⟨x1, g1, k1⟩ := hf 1 _ rfl rfl
        obtain ⟨x2, g2, k2⟩ := hf 2 _ rfl rfl
        obtain ⟨x3, g3, k3⟩ := hf 3 _ rfl rfl
        simp [offL, nc] at k0 k1 k2 k3
        cases k1; cases k2; cases k3
        exact ⟨⟨x0, x1, x2, x3⟩, .name _ g0 g1 g2 g3, .name ⟨x0, x1, x2, x3⟩ _ k0⟩
    | query =>
      obtain ⟨fs, h1, h2, h3⟩ := hund
      obtain ⟨hl, hf⟩ := fields fs h1 h2 h3
      match cs, hl with
      | [c0, c1, c2, c3], _ =>
        obtain ⟨x0, g0, k0⟩ := hf 0 _ rfl rfl
        obtain ⟨x1, g1, k1⟩ := hf 1 _ rfl rfl
        obtain ⟨x2, g2, k2⟩ := hf 2 _ rfl rfl
        obtain ⟨x3, g3, k3⟩ := hf 3 _ rfl rfl
        simp [offL, nc] at k0 k1 k2 k3
        cases k0; cases k1; cases k2
        exact ⟨.mk x0 x1 x2 x3, .query _ g0 g1 g2 g3, .query (.mk x0 x1 x2 x3) _ k3⟩
    | lib =>
      obtain ⟨fs, h1, h2, h3⟩ := hund
      obtain ⟨hl, hf⟩ := fields fs h1 h2 h3
      match cs, hl with
      | [c0], _ =>
        obtain ⟨x0, g0, k0⟩ := hf 0 _ rfl rfl
        simp [offL, nc] at k0
        exact ⟨⟨x0⟩, .lib _ g0, .lib ⟨x0⟩ _ k0⟩
    | entry =>
      obtain ⟨fs, h1, h2, h3⟩ := hund
      obtain ⟨hl, hf⟩ := fields fs h1 h2 h3
      match cs, hl with
      | [c0, c1, c2, c3, c4, c5, c6, c7, c8, c9, c10, c11, c12, c13], _ =>
        obtain ⟨x0, g0, k0⟩ := hf 0 _ rfl rfl
        obtain ⟨x1, g1, k1⟩ := hf 1 _ rfl rfl
        obtain ⟨x2, g2, k2⟩ := hf 2 _ rfl rfl
        obtain ⟨x3, g3, k3⟩ := hf 3 _ rfl rfl
        obtain ⟨x4, g4, k4⟩ := hf 4 _ rfl rfl
        obtain ⟨x5, g5, k5⟩ := hf 5 _ rfl rfl
        obtain ⟨x6, g6, k6⟩ := hf 6 _ rfl rfl
        obtain ⟨x7, g7, k7⟩ := hf 7 _ rfl rfl
        obtain ⟨x8, g8, k8⟩ := hf 8 _ rfl rfl
        obtain ⟨x9, g9, k9⟩ := hf 9 _ rfl rfl
        obtain ⟨x10, g10, k10⟩ := hf 10 _ rfl rfl
        simp [offL, nc] at k0 k1 k2 k3 k4 k5 k6 k7 k8 k9 k10
        cases k0; cases k1; cases k4; cases k5; cases k6; cases k7; cases k8; cases k9; cases k10
        exact ⟨⟨x0, x1, x2, x3, x4, x5, x6, x7, x8, x9, x10⟩, .entry _ g0 g1 g2 g3 g4 g5 g6 g7 g8 g9 g10, .entry ⟨x0, x1, x2, x3, x4, x5, x6, x7, x8, x9, x10⟩ _ _ k2 k3⟩

/-! ### Arguments -/
def WFs : (l : List Ty) → TX l → Prop
  | [], _ => True
  | τ :: l, x => WF τ x.1 ∧ WFs l x.2
/-- Parameters of these types. -/
def parsOk (E : Env) : List Nat → List Ty → Bool
  | [], [] => true
  | T :: l, τ :: m => (match E.ty T with
    | some σ => sameTy σ τ
    | none => false) && (noA τ && parsOk E l m)
  | _, _ => false
theorem val_of (hty : ∀ T τ, E.ty T = some τ → TyOk P E T τ) {T : Nat} {τ : Ty} (hn : noA τ = true) (hT : E.ty T = some τ) {base : Nat} {v : Value} (hv : Value.okWide P w .any base T v) {x : den τ} {S : Nat → Prop} : v = valOf (.t τ x) v.cells.toList := by
  have hund := (hty T τ hT).und
  cases τ with
  | int k => obtain ⟨n, rfl⟩ := okWide_int hund hv; rfl
  | bool => obtain ⟨n, rfl⟩ := okWide_bool hund hv; rfl
  | str => obtain ⟨n, rfl⟩ := okWide_string hund hv; rfl
  | sl e => obtain ⟨t, h1, _⟩ := hund; obtain ⟨a, l, c, rfl⟩ := okWide_slice h1 hv; rfl
  | arr n e => cases hn
  | date | name | entry | lib | abbr | query => obtain ⟨fs, h1, _⟩ := hund; obtain ⟨cs, rfl, _⟩ := okWide_struct h1 hv; rfl
theorem args_open (hty : ∀ T τ, E.ty T = some τ → TyOk P E T τ) {base : Nat} {pv : Nat → Value} : ∀ {Ts : List Nat} {τs : List Ty} {vs : List Value} {ds : List (DataW H)} {ps : List MemPlace}, parsOk E Ts τs = true → DataW.TrodAll enc P w 0 spare held Ts vs ds ps →
    (∀ (j : Nat) t v, Ts[j]? = some t → vs[j]? = some v → Value.okWide P w .any base t v) → ∃ x : TX τs, WFs τs x ∧ ArgsOk (Lt w) w pv (tvals τs x) vs
  | [], [], [], [], ps, _, _, _ => ⟨(), trivial, rfl, fun i a v h => by simp [tvals] at h⟩
  | T :: Ts, τ :: τs, vs, ds, ps, hp, h, hv => by
    obtain ⟨v, vs', d, ds', p, q, rfl, rfl, rfl, hd, hr⟩ := trodAll_cons h
    simp only [parsOk, Bool.and_eq_true] at hp
    obtain ⟨hT, hn, hp⟩ := hp
    cases hE : E.ty T with
    | none => rw [hE] at hT; cases hT
    | some σ =>
      rw [hE] at hT
      have := sameTy_eq hT
      subst this
      obtain ⟨x, hx, hlen, hargs⟩ := args_open hty (pv := pv) hp hr fun j t v h1 h2 => hv (j + 1) t v (by simpa using h1) (by simpa using h2)
      obtain ⟨fuel, hf⟩ := hd
      obtain ⟨x0, hw0, hc0⟩ := trod_cr hty fuel T σ _ _ hn hE hf
      refine ⟨(x0, x), ⟨hw0, hx⟩, by simp [tvals, hlen], fun i a u h1 h2 => ?_⟩
      cases i with
      | zero =>
        cases h1; cases h2
        exact ⟨_, .t σ x0 _ hc0, val_of hty hn hE (hv 0 T v rfl rfl) (S := Lt w)⟩
      | succ i => exact hargs i a u (by simpa [tvals] using h1) (by simpa using h2)
  | [], _ :: _, _, _, _, hp, _, _ => by cases hp
  | _ :: _, [], _, _, _, hp, _, _ => by cases hp
  | [], [], _ :: _, _, _, _, h, _ => by cases h
  | [], [], [], _ :: _, _, _, h, _ => by cases h

/-- A law's contract: its call answers true. -/
theorem law_contract (hE : EnvOk P E) {f : FuncId} {fn : Func} {c : Code} (hfn : P.funcs[f]? = some fn) (hbody : fn.body = some c) (hname : (fn.name == "runtime.NumGoroutine") = false) {τs : List Ty} (hps : parsOk E fn.params.toList τs = true) {tb : Nat} (hres : fn.resultTypes = #[tb]) (hb : P.underlying tb = some .bool)
    (hl : laidOutB P = true) (hr : ∀ t ∈ fn.params.toList, P.readableRec t = true ∧ t < P.types.size) {s : ChangeSpec}
    {W : World} {base : Nat} {args : Array Value} {ds gs : List (DataW H)} {before : List MemPlace} {r : AV} (hrt : r = .t .bool true)
    (hlaw : ∀ x : TX τs, WFs τs x → Meets P E (fun _ => undef) (.f f) (tvals τs x) r)
    (hspec : s.fn H (ds ++ gs) = { results := [.lit (.bool true)], args := ds, vars := gs })
    (hval : ∀ (j : Nat) t v, fn.params[j]? = some t → args[j]? = some v → Value.okWide P W .any base t v)
    (hW : DataW.Whole enc P fn.params.toList s.vars false W args.toList ds gs before) (hgl : GlOk E (Lt W) W)
    (hv : ∀ q, DataW.TrodVars enc P W (fun _ => true) s.vars gs q → ∀ W', Below W.heap.size W W' → DataW.TrodVars enc P W' (fun b => decide (b < W.heap.size)) s.vars gs q) :
    Calls P f args W fun e W' => ∃ v, e = .returned v ∧ s.post enc P fn false true false false W args v W' := by
  have hW' := hW
  obtain ⟨p, q, hA, hV, rfl, hfz, hnd⟩ := hW
  obtain ⟨x, hx, hargs⟩ := args_open (spare := fun _ => true) (held := true) hE.ty (pv := fun _ => undef) hps hA fun j t v h1 h2 => hval j t v (by simpa using h1) (by simpa using h2)
  subst hrt
  have hgo := hlaw x hx (Lt W) W args.toList (fun b hb => hb) hgl hargs
  have hcall : (callFunc f args).run P W = .ok (.enter f args) W := by
    have hn' : fn.name ≠ "runtime.NumGoroutine" := by simpa using hname
    simp [callFunc, hfn, hn', hbody]
  have hgo2 : Calls P f args W fun e w'' => ∃ v, e = .returned v ∧ (Below W.heap.size W w'' ∧ ∃ S' : Nat → Prop, (∀ b, Lt W b → S' b) ∧ (∀ b, S' b → Lt W b ∨ (W.heap.size ≤ b ∧ b < w''.heap.size)) ∧ RR S' w'' W.heap.size (fun _ => undef) (.t .bool true) v) := by
    have h := hgo
    simp only [Goes] at h
    rw [hcall] at h
    exact h
  refine hgo2.mono fun e W' ⟨v, he, hbl, S', _, _, hrr⟩ => ?_
  subst he
  obtain ⟨g, hr1⟩ := hrr
  have hvb : v = .bool true := by
    cases hr1 with
    | plain _ cs ha => cases ha with | t _ _ _ hc => cases hc; rfl
  subst hvb
  have hlt : ∀ y ∈ p ++ q, y.block < W.heap.size := fun y hy => hW'.lt y hy
  refine ⟨_, rfl, ds, gs, p ++ q, [], p, q, hW', ?_, ?_, ?_, hbl.frame _, fun h => by cases h⟩
  · rw [hspec, hres]
    exact trodAll_mk1 (shut_bool hb true)
  · rw [hspec]
    have all : ∀ {Ts : List Nat} {vs : List Value} {ds : List (DataW H)} {p : List MemPlace}, DataW.TrodAll enc P W 0 (fun _ => true) true Ts vs ds p → (∀ t ∈ Ts, P.readableRec t = true ∧ t < P.types.size) → (∀ y ∈ p, y.block < W.heap.size) → DataW.TrodAll enc P W' 0 (fun b => decide (b < W.heap.size)) true Ts vs ds p := by
      intro Ts
      induction Ts with
      | nil =>
        intro vs ds p h _ _
        obtain ⟨rfl, rfl, rfl⟩ := trodAll_nil h
        exact trodAll_mk0
      | cons t Ts ih =>
        intro vs ds p h h1 h2
        obtain ⟨v, vs', d, ds', p1, q1, rfl, rfl, rfl, hd, hr'⟩ := trodAll_cons h
        exact ⟨p1, q1, Go.WideElems.Trod_stays hl (h1 t List.mem_cons_self).1 (h1 t List.mem_cons_self).2 hd (fun y hy => hbl.same (h2 y (List.mem_append_left _ hy))) (fun y hy => by simpa using h2 y (List.mem_append_left _ hy)), ih hr' (fun t ht => h1 t (List.mem_cons_of_mem _ ht)) (fun y hy => h2 y (List.mem_append_right _ hy)), rfl⟩
    exact all hA hr (fun y hy => hlt y (List.mem_append_left _ hy))
  · rw [hspec]
    exact hv q hV W' hbl
end
end Go.Gx
end
section
/-
  DERIVED: THE SHELF's CONTRACTS AT THIS DUMP, IN PLAIN WORDS (tools/lay-plain.mjs out of 'TrydShelf.lean', which tools/lay-shelf.mjs wrote): THE SAME DECLARATIONS UNDER THE SAME NAMES: 'import', 'namespace', 'open', 'def', 'theorem' AND NOTHING ELSE: no command of the shelf's: FOR A HAND-IN. Each laying: the table of numbers ('.._ren') and one theorem, a field a fact of the dump's own or the kernel's comparison; each contract: ONE APPLICATION.
-/
namespace Go.Proofs
open Go.Shelf
def Tryd.lays169_ren : Go.Shelf.Ren := ⟨fun | 169 => 140 | n => n, fun | 70 => 147 | 9 => 9 | 0 => 0 | 72 => 149 | 37 => 109 | 127 => 179 | 3 => 3 | 5 => 5 | n => n, fun | n => n⟩
theorem Tryd.lays169 : Go.Proofs.Lays.n169 Tryd.prog Tryd.lays169_ren := {
  mixed := by kernel_rfl
  f169 := Tryd.func140.trans (congrArg some (by kernel_rfl))
  t0 := Tryd.underlying0
  a0 := Tryd.isAgg0
  z0 := Tryd.sizeOf0
  v0 := Tryd.zeroValue0
  t3 := Tryd.underlying3
  a3 := Tryd.isAgg3
  z3 := Tryd.sizeOf3
  v3 := Tryd.zeroValue3
  t9 := Tryd.underlying9
  a9 := Tryd.isAgg9
  z9 := Tryd.sizeOf9
  v9 := Tryd.zeroValue9
  t37 := Tryd.underlying109
  a37 := Tryd.isAgg109
  z37 := Tryd.sizeOf109
  v37 := Tryd.zeroValue109
  t70 := Tryd.underlying147
  a70 := Tryd.isAgg147
  z70 := Tryd.sizeOf147
  v70 := Tryd.zeroValue147
  t72 := Tryd.underlying149
  a72 := Tryd.isAgg149
  z72 := Tryd.sizeOf149
  v72 := Tryd.zeroValue149
  t127 := Tryd.underlying179
  a127 := Tryd.isAgg179
  z127 := Tryd.sizeOf179
  v127 := Tryd.zeroValue179 }
theorem Tryd.Builder_Extra_169 : Builder.Extra Tryd.prog Tryd.lays169_ren := {
  sizeBuilder := by kernel_rfl
  liesBuilder := by kernel_rfl
  t5 := Tryd.underlying5
  a5 := Tryd.isAgg5
  z5 := Tryd.sizeOf5
  v5 := Tryd.zeroValue5
  infoByte := by kernel_rfl
  cellsByte := by kernel_rfl
  sizeByte := by kernel_rfl
  neB5 := by decide }
open Go.RowKit in
/-- (*strings.Builder).String: "String returns the accumulated string.": OF A BUILDER THAT HOLDS AT LEAST ONE BYTE. ✋ THE MODEL FREEZES THOSE BYTES IN THE BUFFER (unsafe.String): a later write INTO them ends the model's run without an answer; a later append BEHIND them goes on. The statement's order of evaluation is drawn: one draw. (LAID: no walk: one application.) -/
theorem Tryd.Builder_String (B b : Nat) (l : List UInt8) (w : World) (h : Lib.IsBuilder 149 5 B b (Lib.byteCells l) w) (h0 : l ≠ []) :
    Calls Tryd.prog 140 #[.pointer (some ⟨b, 0, none⟩)] w fun e w' => e = .returned (.string ⟨l.toArray⟩) ∧ Below B w w' := Any.Builder_String Tryd.lays169 Tryd.Builder_Extra_169 B b l w h h0
open Go.RowKit in
/-- (*strings.Builder).String OF A BUILDER THAT HOLDS NO BYTE: the empty string. (Its buffer is nil, or a row of which it has taken nothing yet; where that row has NO capacity the model lays one new block for unsafe.SliceData's 'some address'.) One draw. (LAID: no walk: one application.) -/
theorem Tryd.Builder_String_empty (B b : Nat) (w : World) (h : Lib.IsBuilder 149 5 B b [] w) (hBw : B ≤ w.heap.size) :
    Calls Tryd.prog 140 #[.pointer (some ⟨b, 0, none⟩)] w fun e w' => e = .returned (.string ⟨#[]⟩) ∧ Below B w w' := Any.Builder_String_empty Tryd.lays169 Tryd.Builder_Extra_169 B b w h hBw
open Go.RowKit in
/-- (*strings.Builder).String: "String returns the accumulated string.": WHATEVER THE BUILDER HOLDS. (LAID: no walk: one application.) -/
theorem Tryd.Builder_String_any (B b : Nat) (l : List UInt8) (w : World) (h : Lib.IsBuilder 149 5 B b (Lib.byteCells l) w) (hBw : B ≤ w.heap.size) :
    Calls Tryd.prog 140 #[.pointer (some ⟨b, 0, none⟩)] w fun e w' => e = .returned (.string ⟨l.toArray⟩) ∧ Below B w w' := Any.Builder_String_any Tryd.lays169 Tryd.Builder_Extra_169 B b l w h hBw
def Tryd.lays241_ren : Go.Shelf.Ren := ⟨fun | 241 => 173 | 277 => 196 | n => n, fun | 70 => 147 | 3 => 3 | 0 => 0 | 72 => 149 | 37 => 109 | 5 => 5 | n => n, fun | n => n⟩
theorem Tryd.lays241 : Go.Proofs.Lays.n241 Tryd.prog Tryd.lays241_ren := {
  mixed := by kernel_rfl
  f241 := Tryd.func173.trans (congrArg some (by kernel_rfl))
  f277 := Tryd.func196.trans (congrArg some (by kernel_rfl))
  t0 := Tryd.underlying0
  a0 := Tryd.isAgg0
  z0 := Tryd.sizeOf0
  v0 := Tryd.zeroValue0
  t3 := Tryd.underlying3
  a3 := Tryd.isAgg3
  z3 := Tryd.sizeOf3
  v3 := Tryd.zeroValue3
  t37 := Tryd.underlying109
  a37 := Tryd.isAgg109
  z37 := Tryd.sizeOf109
  v37 := Tryd.zeroValue109
  t70 := Tryd.underlying147
  a70 := Tryd.isAgg147
  z70 := Tryd.sizeOf147
  v70 := Tryd.zeroValue147
  t72 := Tryd.underlying149
  a72 := Tryd.isAgg149
  z72 := Tryd.sizeOf149
  v72 := Tryd.zeroValue149 }
theorem Tryd.Builder_Extra_241 : Builder.Extra Tryd.prog Tryd.lays241_ren := {
  sizeBuilder := by kernel_rfl
  liesBuilder := by kernel_rfl
  t5 := Tryd.underlying5
  a5 := Tryd.isAgg5
  z5 := Tryd.sizeOf5
  v5 := Tryd.zeroValue5
  infoByte := by kernel_rfl
  cellsByte := by kernel_rfl
  sizeByte := by kernel_rfl
  neB5 := by decide }
open Go.RowKit in
/-- (*strings.Builder).grow (no doc but "grow copies the buffer to a new, larger buffer so that there are at least n bytes of capacity beyond len(b.buf)."): AT A BUILDER WITHOUT A BUFFER: a new row of whatever bytes for its buffer, none of them its own yet. Three draws. (LAID: no walk: one application.) -/
theorem Tryd.Builder_grow_fresh (B b n : Nat) (w : World) (hB : B ≤ b) (hbk : w.heap[b]? = some (.cells #[.pointer (some ⟨b, 0, none⟩), .slice none 0 0] 149 (0, 0))) (hBw : B ≤ w.heap.size) (hn : n ≤ 281474976710656) :
    Calls Tryd.prog 173 #[.pointer (some ⟨b, 0, none⟩), .int .i64 n] w fun e w' => e = .returned (.tuple #[]) ∧ (Lib.BuilderAt 149 5 B b (.pointer (some ⟨b, 0, none⟩)) [] w' ∧ Below B w w') := Any.Builder_grow_fresh Tryd.lays241 Tryd.Builder_Extra_241 B b n w hB hbk hBw hn
def Tryd.lays165_ren : Go.Shelf.Ren := ⟨fun | 165 => 138 | 240 => 172 | 241 => 173 | 276 => 195 | 277 => 196 | n => n, fun | 70 => 147 | 3 => 3 | 0 => 0 | 4 => 4 | 9 => 9 | 20 => 20 | 72 => 149 | 37 => 109 | 164 => 199 | 5 => 5 | n => n, fun | n => n⟩
theorem Tryd.lays165 : Go.Proofs.Lays.n165 Tryd.prog Tryd.lays165_ren := {
  mixed := by kernel_rfl
  f165 := Tryd.func138.trans (congrArg some (by kernel_rfl))
  f240 := Tryd.func172.trans (congrArg some (by kernel_rfl))
  f241 := Tryd.func173.trans (congrArg some (by kernel_rfl))
  f276 := Tryd.func195.trans (congrArg some (by kernel_rfl))
  f277 := Tryd.func196.trans (congrArg some (by kernel_rfl))
  t0 := Tryd.underlying0
  a0 := Tryd.isAgg0
  z0 := Tryd.sizeOf0
  v0 := Tryd.zeroValue0
  t3 := Tryd.underlying3
  a3 := Tryd.isAgg3
  z3 := Tryd.sizeOf3
  v3 := Tryd.zeroValue3
  t4 := Tryd.underlying4
  a4 := Tryd.isAgg4
  z4 := Tryd.sizeOf4
  v4 := Tryd.zeroValue4
  t9 := Tryd.underlying9
  a9 := Tryd.isAgg9
  z9 := Tryd.sizeOf9
  v9 := Tryd.zeroValue9
  t20 := Tryd.underlying20
  a20 := Tryd.isAgg20
  z20 := Tryd.sizeOf20
  v20 := Tryd.zeroValue20
  t37 := Tryd.underlying109
  a37 := Tryd.isAgg109
  z37 := Tryd.sizeOf109
  v37 := Tryd.zeroValue109
  t70 := Tryd.underlying147
  a70 := Tryd.isAgg147
  z70 := Tryd.sizeOf147
  v70 := Tryd.zeroValue147
  t72 := Tryd.underlying149
  a72 := Tryd.isAgg149
  z72 := Tryd.sizeOf149
  v72 := Tryd.zeroValue149
  t164 := Tryd.underlying199
  a164 := Tryd.isAgg199
  z164 := Tryd.sizeOf199
  v164 := Tryd.zeroValue199 }
theorem Tryd.Builder_Extra_165 : Builder.Extra Tryd.prog Tryd.lays165_ren := {
  sizeBuilder := by kernel_rfl
  liesBuilder := by kernel_rfl
  t5 := Tryd.underlying5
  a5 := Tryd.isAgg5
  z5 := Tryd.sizeOf5
  v5 := Tryd.zeroValue5
  infoByte := by kernel_rfl
  cellsByte := by kernel_rfl
  sizeByte := by kernel_rfl
  neB5 := by decide }
open Go.RowKit in
/-- (*strings.Builder).Grow AT A BUILDER THAT HAS NOT BEEN WRITTEN ('var b strings.Builder; b.Grow(n)'): "Grow grows b's capacity, if necessary, to guarantee space for another n bytes.": it holds no byte behind it as before it. (LAID: no walk: one application.) -/
theorem Tryd.Builder_Grow_fresh (B b n : Nat) (w : World) (hB : B ≤ b) (hbk : w.heap[b]? = some (.cells #[.pointer none, .slice none 0 0] 149 (0, 0))) (hBw : B ≤ w.heap.size) (hn : n ≤ 281474976710656) :
    Calls Tryd.prog 138 #[.pointer (some ⟨b, 0, none⟩), .int .i64 n] w fun e w' => e = .returned (.tuple #[]) ∧ (Lib.BuilderAt 149 5 B b (.pointer (some ⟨b, 0, none⟩)) [] w' ∧ Below B w w') := Any.Builder_Grow_fresh Tryd.lays165 Tryd.Builder_Extra_165 B b n w hB hbk hBw hn
def Tryd.lays156_ren : Go.Shelf.Ren := ⟨fun | 156 => 103 | 165 => 138 | 166 => 139 | 169 => 140 | 240 => 172 | 241 => 173 | 276 => 195 | 277 => 196 | n => n, fun | 31 => 26 | 9 => 9 | 3 => 3 | 4 => 4 | 0 => 0 | 20 => 20 | 72 => 149 | 76 => 153 | 70 => 147 | 37 => 109 | 75 => 152 | 127 => 179 | 164 => 199 | 5 => 5 | 80 => 155 | n => n, fun | n => n⟩
theorem Tryd.lays156 : Go.Proofs.Lays.n156 Tryd.prog Tryd.lays156_ren := {
  mixed := by kernel_rfl
  f156 := Tryd.func103.trans (congrArg some (by kernel_rfl))
  f165 := Tryd.func138.trans (congrArg some (by kernel_rfl))
  f166 := Tryd.func139.trans (congrArg some (by kernel_rfl))
  f169 := Tryd.func140.trans (congrArg some (by kernel_rfl))
  f240 := Tryd.func172.trans (congrArg some (by kernel_rfl))
  f241 := Tryd.func173.trans (congrArg some (by kernel_rfl))
  f276 := Tryd.func195.trans (congrArg some (by kernel_rfl))
  f277 := Tryd.func196.trans (congrArg some (by kernel_rfl))
  t0 := Tryd.underlying0
  a0 := Tryd.isAgg0
  z0 := Tryd.sizeOf0
  v0 := Tryd.zeroValue0
  t3 := Tryd.underlying3
  a3 := Tryd.isAgg3
  z3 := Tryd.sizeOf3
  v3 := Tryd.zeroValue3
  t4 := Tryd.underlying4
  a4 := Tryd.isAgg4
  z4 := Tryd.sizeOf4
  v4 := Tryd.zeroValue4
  t9 := Tryd.underlying9
  a9 := Tryd.isAgg9
  z9 := Tryd.sizeOf9
  v9 := Tryd.zeroValue9
  t20 := Tryd.underlying20
  a20 := Tryd.isAgg20
  z20 := Tryd.sizeOf20
  v20 := Tryd.zeroValue20
  t31 := Tryd.underlying26
  a31 := Tryd.isAgg26
  z31 := Tryd.sizeOf26
  v31 := Tryd.zeroValue26
  t37 := Tryd.underlying109
  a37 := Tryd.isAgg109
  z37 := Tryd.sizeOf109
  v37 := Tryd.zeroValue109
  t70 := Tryd.underlying147
  a70 := Tryd.isAgg147
  z70 := Tryd.sizeOf147
  v70 := Tryd.zeroValue147
  t72 := Tryd.underlying149
  a72 := Tryd.isAgg149
  z72 := Tryd.sizeOf149
  v72 := Tryd.zeroValue149
  t75 := Tryd.underlying152
  a75 := Tryd.isAgg152
  z75 := Tryd.sizeOf152
  v75 := Tryd.zeroValue152
  t76 := Tryd.underlying153
  a76 := Tryd.isAgg153
  z76 := Tryd.sizeOf153
  v76 := Tryd.zeroValue153
  t127 := Tryd.underlying179
  a127 := Tryd.isAgg179
  z127 := Tryd.sizeOf179
  v127 := Tryd.zeroValue179
  t164 := Tryd.underlying199
  a164 := Tryd.isAgg199
  z164 := Tryd.sizeOf199
  v164 := Tryd.zeroValue199 }
theorem Tryd.Builder_Extra_156 : Builder.Extra Tryd.prog Tryd.lays156_ren := {
  sizeBuilder := by kernel_rfl
  liesBuilder := by kernel_rfl
  t5 := Tryd.underlying5
  a5 := Tryd.isAgg5
  z5 := Tryd.sizeOf5
  v5 := Tryd.zeroValue5
  infoByte := by kernel_rfl
  cellsByte := by kernel_rfl
  sizeByte := by kernel_rfl
  neB5 := by decide }
open Go.RowKit in
/-- No element: the empty string; the world is as it was. (Whatever the slice's address and capacity: a nil slice too.) (LAID: no walk: one application.) -/
theorem Tryd.strings_Join_none (a : Option Addr) (c : Nat) (sep : ByteArray) (w : World) :
    Calls Tryd.prog 103 #[.slice a 0 c, .string sep] w fun e w' => e = .returned (.string ⟨#[]⟩) ∧ w' = w := Any.strings_Join_none Tryd.lays156 Tryd.Builder_Extra_156 a c sep w
open Go.RowKit in
/-- strings.Join: "Join concatenates the elements of its first argument to create a single string. The separator string sep is placed between elements in the resulting string.": HOWEVER MANY ELEMENTS. Below the heap's end the world is as it was. (LAID: no walk: one application.) -/
theorem Tryd.strings_Join (bk o c : Nat) (xs : List ByteArray) (sep : ByteArray) (w : World) (hcells : ∀ (j : Nat) x, xs[j]? = some x → w.cell? ⟨bk, o + j, none⟩ = some (.string x)) (hbk : bk < w.heap.size) (hN : xs.length ≤ 140737488355328) (hcap : xs.length ≤ c) (hlen : (Lib.join (xs.map (·.data.toList)) sep.data.toList).length ≤ 140737488355328) :
    Calls Tryd.prog 103 #[.slice (some ⟨bk, o, none⟩) xs.length c, .string sep] w fun e w' => e = .returned (.string ⟨(Lib.join (xs.map (·.data.toList)) sep.data.toList).toArray⟩) ∧ Below w.heap.size w w' := Any.strings_Join Tryd.lays156 Tryd.Builder_Extra_156 bk o c xs sep w hcells hbk hN hcap hlen
def Tryd.lays231_ren : Go.Shelf.Ren := ⟨fun | 231 => 163 | n => n, fun | 9 => 9 | 5 => 5 | 3 => 3 | 4 => 4 | n => n, fun | n => n⟩
theorem Tryd.lays231 : Go.Proofs.Lays.n231 Tryd.prog Tryd.lays231_ren := {
  mixed := by kernel_rfl
  f231 := Tryd.func163.trans (congrArg some (by kernel_rfl))
  t3 := Tryd.underlying3
  a3 := Tryd.isAgg3
  z3 := Tryd.sizeOf3
  v3 := Tryd.zeroValue3
  t4 := Tryd.underlying4
  a4 := Tryd.isAgg4
  z4 := Tryd.sizeOf4
  v4 := Tryd.zeroValue4
  t5 := Tryd.underlying5
  a5 := Tryd.isAgg5
  z5 := Tryd.sizeOf5
  v5 := Tryd.zeroValue5
  t9 := Tryd.underlying9
  a9 := Tryd.isAgg9
  z9 := Tryd.sizeOf9
  v9 := Tryd.zeroValue9 }
open Go.RowKit in
/-- strings.trimLeftByte (no doc; what TrimLeft and Trim call at a cutset of one ASCII byte): the leading bytes that are c are cut off. The world is as it was. (LAID: no walk: one application.) -/
theorem Tryd.strings_trimLeftByte (s : ByteArray) (c : UInt8) (w : World) :
    Calls Tryd.prog 163 #[.string s, .int .u8 c.toNat] w fun e w' => e = .returned (.string ⟨(Lib.trimLeftB s.data.toList c).toArray⟩) ∧ w' = w := Any.strings_trimLeftByte Tryd.lays231 s c w
def Tryd.lays232_ren : Go.Shelf.Ren := ⟨fun | 232 => 164 | n => n, fun | 9 => 9 | 5 => 5 | 3 => 3 | 4 => 4 | n => n, fun | n => n⟩
theorem Tryd.lays232 : Go.Proofs.Lays.n232 Tryd.prog Tryd.lays232_ren := {
  mixed := by kernel_rfl
  f232 := Tryd.func164.trans (congrArg some (by kernel_rfl))
  t3 := Tryd.underlying3
  a3 := Tryd.isAgg3
  z3 := Tryd.sizeOf3
  v3 := Tryd.zeroValue3
  t4 := Tryd.underlying4
  a4 := Tryd.isAgg4
  z4 := Tryd.sizeOf4
  v4 := Tryd.zeroValue4
  t5 := Tryd.underlying5
  a5 := Tryd.isAgg5
  z5 := Tryd.sizeOf5
  v5 := Tryd.zeroValue5
  t9 := Tryd.underlying9
  a9 := Tryd.isAgg9
  z9 := Tryd.sizeOf9
  v9 := Tryd.zeroValue9 }
open Go.RowKit in
/-- strings.trimRightByte (no doc; what TrimRight and Trim call at a cutset of one ASCII byte): the trailing bytes that are c are cut off. The world is as it was. ('hs': a string's length is a number that an int holds.) (LAID: no walk: one application.) -/
theorem Tryd.strings_trimRightByte (s : ByteArray) (c : UInt8) (w : World) (hs : s.size ≤ 9223372036854775807) :
    Calls Tryd.prog 164 #[.string s, .int .u8 c.toNat] w fun e w' => e = .returned (.string ⟨(Lib.trimRightB s.data.toList c).toArray⟩) ∧ w' = w := Any.strings_trimRightByte Tryd.lays232 s c w hs
def Tryd.lays160_ren : Go.Shelf.Ren := ⟨fun | 160 => 130 | 232 => 164 | 231 => 163 | 227 => 165 | 234 => 167 | 233 => 166 | 236 => 169 | 235 => 168 | 228 => 188 | 271 => 191 | 151 => 190 | 197 => 189 | 120 => 208 | 152 => 207 | 260 => 206 | 137 => 215 | 119 => 216 | 224 => 217 | 225 => 218 | 217 => 219 | 266 => 223 | n => n, fun | 9 => 9 | 4 => 4 | 3 => 3 | 5 => 5 | 117 => 174 | 116 => 173 | 0 => 0 | 124 => 177 | 21 => 21 | 105 => 194 | 46 => 108 | 119 => 206 | 139 => 209 | 138 => 208 | n => n, fun | 3 => 2 | 4 => 3 | n => n⟩
theorem Tryd.lays160 : Go.Proofs.Lays.n160 Tryd.prog Tryd.lays160_ren := {
  mixed := by kernel_rfl
  f119 := Tryd.func216.trans (congrArg some (by kernel_rfl))
  f120 := Tryd.func208.trans (congrArg some (by kernel_rfl))
  f137 := Tryd.func215.trans (congrArg some (by kernel_rfl))
  f151 := Tryd.func190.trans (congrArg some (by kernel_rfl))
  f152 := Tryd.func207.trans (congrArg some (by kernel_rfl))
  f160 := Tryd.func130.trans (congrArg some (by kernel_rfl))
  f197 := Tryd.func189.trans (congrArg some (by kernel_rfl))
  f217 := Tryd.func219.trans (congrArg some (by kernel_rfl))
  f224 := Tryd.func217.trans (congrArg some (by kernel_rfl))
  f225 := Tryd.func218.trans (congrArg some (by kernel_rfl))
  f227 := Tryd.func165.trans (congrArg some (by kernel_rfl))
  f228 := Tryd.func188.trans (congrArg some (by kernel_rfl))
  f231 := Tryd.func163.trans (congrArg some (by kernel_rfl))
  f232 := Tryd.func164.trans (congrArg some (by kernel_rfl))
  f233 := Tryd.func166.trans (congrArg some (by kernel_rfl))
  f234 := Tryd.func167.trans (congrArg some (by kernel_rfl))
  f235 := Tryd.func168.trans (congrArg some (by kernel_rfl))
  f236 := Tryd.func169.trans (congrArg some (by kernel_rfl))
  f260 := Tryd.func206.trans (congrArg some (by kernel_rfl))
  f266 := Tryd.func223.trans (congrArg some (by kernel_rfl))
  f271 := Tryd.func191.trans (congrArg some (by kernel_rfl))
  t0 := Tryd.underlying0
  a0 := Tryd.isAgg0
  z0 := Tryd.sizeOf0
  v0 := Tryd.zeroValue0
  t3 := Tryd.underlying3
  a3 := Tryd.isAgg3
  z3 := Tryd.sizeOf3
  v3 := Tryd.zeroValue3
  t4 := Tryd.underlying4
  a4 := Tryd.isAgg4
  z4 := Tryd.sizeOf4
  v4 := Tryd.zeroValue4
  t5 := Tryd.underlying5
  a5 := Tryd.isAgg5
  z5 := Tryd.sizeOf5
  v5 := Tryd.zeroValue5
  t9 := Tryd.underlying9
  a9 := Tryd.isAgg9
  z9 := Tryd.sizeOf9
  v9 := Tryd.zeroValue9
  t21 := Tryd.underlying21
  a21 := Tryd.isAgg21
  z21 := Tryd.sizeOf21
  v21 := Tryd.zeroValue21
  t46 := Tryd.underlying108
  a46 := Tryd.isAgg108
  z46 := Tryd.sizeOf108
  v46 := Tryd.zeroValue108
  t105 := Tryd.underlying194
  a105 := Tryd.isAgg194
  z105 := Tryd.sizeOf194
  v105 := Tryd.zeroValue194
  t116 := Tryd.underlying173
  a116 := Tryd.isAgg173
  z116 := Tryd.sizeOf173
  t117 := Tryd.underlying174
  a117 := Tryd.isAgg174
  z117 := Tryd.sizeOf174
  v117 := Tryd.zeroValue174
  t119 := Tryd.underlying206
  a119 := Tryd.isAgg206
  z119 := Tryd.sizeOf206
  t124 := Tryd.underlying177
  a124 := Tryd.isAgg177
  z124 := Tryd.sizeOf177
  v124 := Tryd.zeroValue177
  t138 := Tryd.underlying208
  a138 := Tryd.isAgg208
  z138 := Tryd.sizeOf208
  v138 := Tryd.zeroValue208
  t139 := Tryd.underlying209
  a139 := Tryd.isAgg209
  z139 := Tryd.sizeOf209
  v139 := Tryd.zeroValue209
  g3 := by kernel_rfl
  g4 := by kernel_rfl }
open Go.RowKit in
/-- strings.Trim: "Trim returns a slice of the string s with all leading and trailing Unicode code points contained in cutset removed.": AT A cutset OF ONE ASCII BYTE. THE WORLD BEHIND IT: as it was, or (where s is not empty) with ONE DRAW MORE off the tape: the statement 'return trimLeftByte(trimRightByte(s, c), c)' draws its order of evaluation. (LAID: no walk: one application.) -/
theorem Tryd.strings_Trim_one (s : ByteArray) (c : UInt8) (hc : c.toNat < 128) (w : World) (hs : s.size ≤ 9223372036854775807) :
    Calls Tryd.prog 130 #[.string s, .string ⟨#[c]⟩] w fun e w' => e = .returned (.string ⟨(Lib.trimB s.data.toList c).toArray⟩) ∧ (w' = w ∨ w' = w.drew) := Any.strings_Trim_one Tryd.lays160 s c hc w hs
def Tryd.lays119_ren : Go.Shelf.Ren := ⟨fun | 119 => 216 | n => n, fun | 21 => 21 | 4 => 4 | n => n, fun | n => n⟩
theorem Tryd.lays119 : Go.Proofs.Lays.n119 Tryd.prog Tryd.lays119_ren := {
  mixed := by kernel_rfl
  f119 := Tryd.func216.trans (congrArg some (by kernel_rfl))
  t4 := Tryd.underlying4
  a4 := Tryd.isAgg4
  z4 := Tryd.sizeOf4
  v4 := Tryd.zeroValue4
  t21 := Tryd.underlying21
  a21 := Tryd.isAgg21
  z21 := Tryd.sizeOf21
  v21 := Tryd.zeroValue21 }
/-- utf8.ValidRune: "ValidRune reports whether r can be legally encoded as UTF-8. Code points that are out of range or a surrogate half are illegal.": IT RETURNS 'Lib.validRune r'; the world is as it was. (LAID: no walk: one application.) -/
theorem Tryd.utf8_ValidRune (r : Int) (w : World) :
    Calls Tryd.prog 216 #[.int .i32 r] w fun e w' => e = .returned (.bool (Lib.validRune r)) ∧ w' = w := Any.utf8_ValidRune Tryd.lays119 r w
def Tryd.lays120_ren : Go.Shelf.Ren := ⟨fun | 120 => 208 | n => n, fun | 5 => 5 | 4 => 4 | n => n, fun | n => n⟩
theorem Tryd.lays120 : Go.Proofs.Lays.n120 Tryd.prog Tryd.lays120_ren := {
  mixed := by kernel_rfl
  f120 := Tryd.func208.trans (congrArg some (by kernel_rfl))
  t4 := Tryd.underlying4
  a4 := Tryd.isAgg4
  z4 := Tryd.sizeOf4
  v4 := Tryd.zeroValue4
  t5 := Tryd.underlying5
  a5 := Tryd.isAgg5
  z5 := Tryd.sizeOf5
  v5 := Tryd.zeroValue5 }
/-- utf8.RuneStart: "RuneStart reports whether the byte could be the first byte of an encoded, possibly invalid rune. Second and subsequent bytes always have the top two bits set to 10.": IT RETURNS 'Lib.runeStart b'; the world is as it was. ('h0', 'h1': b is a byte: a caller has it of every byte that it was handed.) (LAID: no walk: one application.) -/
theorem Tryd.utf8_RuneStart (b : Int) (w : World) (h0 : 0 ≤ b) (h1 : b < 256) :
    Calls Tryd.prog 208 #[.int .u8 b] w fun e w' => e = .returned (.bool (Lib.runeStart b)) ∧ w' = w := Any.utf8_RuneStart Tryd.lays120 b w h0 h1
def Tryd.lays128_ren : Go.Shelf.Ren := ⟨fun | 128 => 123 | n => n, fun | 51 => 139 | 3 => 3 | 4 => 4 | 46 => 108 | 5 => 5 | 9 => 9 | n => n, fun | n => n⟩
theorem Tryd.lays128 : Go.Proofs.Lays.n128 Tryd.prog Tryd.lays128_ren := {
  mixed := by kernel_rfl
  f128 := Tryd.func123.trans (congrArg some (by kernel_rfl))
  t3 := Tryd.underlying3
  a3 := Tryd.isAgg3
  z3 := Tryd.sizeOf3
  v3 := Tryd.zeroValue3
  t4 := Tryd.underlying4
  a4 := Tryd.isAgg4
  z4 := Tryd.sizeOf4
  v4 := Tryd.zeroValue4
  t5 := Tryd.underlying5
  a5 := Tryd.isAgg5
  z5 := Tryd.sizeOf5
  v5 := Tryd.zeroValue5
  t9 := Tryd.underlying9
  a9 := Tryd.isAgg9
  z9 := Tryd.sizeOf9
  v9 := Tryd.zeroValue9
  t46 := Tryd.underlying108
  a46 := Tryd.isAgg108
  z46 := Tryd.sizeOf108
  v46 := Tryd.zeroValue108
  t51 := Tryd.underlying139
  a51 := Tryd.isAgg139
  z51 := Tryd.sizeOf139
  v51 := Tryd.zeroValue139 }
/-- bits.Len32: "Len32 returns the minimum number of bits required to represent x; the result is 0 for x == 0.": IT RETURNS 'Lib.bitLen x'; the world is as it was. ('h0', 'h1': x is a uint32.) (LAID: no walk: one application.) -/
theorem Tryd.bits_Len32 (x : Int) (w : World) (h0 : 0 ≤ x) (h1 : x ≤ 4294967295) :
    Calls Tryd.prog 123 #[.int .u32 x] w fun e w' => e = .returned (.int .i64 (Lib.bitLen x.toNat)) ∧ w' = w := Any.bits_Len32 Tryd.lays128 x w h0 h1
def Tryd.lays125_ren : Go.Shelf.Ren := ⟨fun | 125 => 80 | 128 => 123 | 129 => 124 | n => n, fun | 46 => 108 | 3 => 3 | 51 => 139 | 53 => 141 | 4 => 4 | 5 => 5 | 9 => 9 | n => n, fun | n => n⟩
theorem Tryd.lays125 : Go.Proofs.Lays.n125 Tryd.prog Tryd.lays125_ren := {
  mixed := by kernel_rfl
  f125 := Tryd.func80.trans (congrArg some (by kernel_rfl))
  f128 := Tryd.func123.trans (congrArg some (by kernel_rfl))
  f129 := Tryd.func124.trans (congrArg some (by kernel_rfl))
  t3 := Tryd.underlying3
  a3 := Tryd.isAgg3
  z3 := Tryd.sizeOf3
  v3 := Tryd.zeroValue3
  t4 := Tryd.underlying4
  a4 := Tryd.isAgg4
  z4 := Tryd.sizeOf4
  v4 := Tryd.zeroValue4
  t5 := Tryd.underlying5
  a5 := Tryd.isAgg5
  z5 := Tryd.sizeOf5
  v5 := Tryd.zeroValue5
  t9 := Tryd.underlying9
  a9 := Tryd.isAgg9
  z9 := Tryd.sizeOf9
  v9 := Tryd.zeroValue9
  t46 := Tryd.underlying108
  a46 := Tryd.isAgg108
  z46 := Tryd.sizeOf108
  v46 := Tryd.zeroValue108
  t51 := Tryd.underlying139
  a51 := Tryd.isAgg139
  z51 := Tryd.sizeOf139
  v51 := Tryd.zeroValue139
  t53 := Tryd.underlying141
  a53 := Tryd.isAgg141
  z53 := Tryd.sizeOf141
  v53 := Tryd.zeroValue141 }
/-- bits.Len: "Len returns the minimum number of bits required to represent x; the result is 0 for x == 0.": IT RETURNS 'Lib.bitLen x'; the world is as it was. (A uint has 64 bits in the model.) ITS CALLEE bits.Len64 IS MET BY ITS OWN CONTRACT OFF THE SHELF (lay that first). (LAID: no walk: one application.) -/
theorem Tryd.bits_Len (x : Int) (w : World) (h0 : 0 ≤ x) (h1 : x ≤ 18446744073709551615) :
    Calls Tryd.prog 80 #[.int .u64 x] w fun e w' => e = .returned (.int .i64 (Lib.bitLen x.toNat)) ∧ w' = w := Any.bits_Len Tryd.lays125 x w h0 h1
def Tryd.lays137_ren : Go.Shelf.Ren := ⟨fun | 137 => 215 | 217 => 219 | 266 => 223 | n => n, fun | 9 => 9 | 5 => 5 | 3 => 3 | n => n, fun | n => n⟩
theorem Tryd.lays137 : Go.Proofs.Lays.n137 Tryd.prog Tryd.lays137_ren := {
  mixed := by kernel_rfl
  f137 := Tryd.func215.trans (congrArg some (by kernel_rfl))
  f217 := Tryd.func219.trans (congrArg some (by kernel_rfl))
  f266 := Tryd.func223.trans (congrArg some (by kernel_rfl))
  t3 := Tryd.underlying3
  a3 := Tryd.isAgg3
  z3 := Tryd.sizeOf3
  v3 := Tryd.zeroValue3
  t5 := Tryd.underlying5
  a5 := Tryd.isAgg5
  z5 := Tryd.sizeOf5
  v5 := Tryd.zeroValue5
  t9 := Tryd.underlying9
  a9 := Tryd.isAgg9
  z9 := Tryd.sizeOf9
  v9 := Tryd.zeroValue9 }
open Go.RowKit in
/-- strings.IndexByte: "IndexByte returns the index of the first instance of c in s, or -1 if c is not present in s.": IT RETURNS 'Lib.indexByte s c'; the world is as it was. (LAID: no walk: one application.) -/
theorem Tryd.strings_IndexByte (s : ByteArray) (c : Int) (w : World) :
    Calls Tryd.prog 215 #[.string s, .int .u8 c] w fun e w' => e = .returned (.int .i64 (Lib.indexByte s.data.toList c.toNat.toUInt8)) ∧ w' = w := Any.strings_IndexByte Tryd.lays137 s c w
def Tryd.lays211_ren : Go.Shelf.Ren := ⟨fun | 211 => 136 | 207 => 171 | n => n, fun | 9 => 9 | 4 => 4 | 3 => 3 | n => n, fun | n => n⟩
theorem Tryd.lays211 : Go.Proofs.Lays.n211 Tryd.prog Tryd.lays211_ren := {
  mixed := by kernel_rfl
  f207 := Tryd.func171.trans (congrArg some (by kernel_rfl))
  f211 := Tryd.func136.trans (congrArg some (by kernel_rfl))
  t3 := Tryd.underlying3
  a3 := Tryd.isAgg3
  z3 := Tryd.sizeOf3
  v3 := Tryd.zeroValue3
  t4 := Tryd.underlying4
  a4 := Tryd.isAgg4
  z4 := Tryd.sizeOf4
  v4 := Tryd.zeroValue4
  t9 := Tryd.underlying9
  a9 := Tryd.isAgg9
  z9 := Tryd.sizeOf9
  v9 := Tryd.zeroValue9 }
open Go.RowKit in
/-- internal/stringslite.CutSuffix (what strings.CutSuffix calls). (LAID: no walk: one application.) -/
theorem Tryd.stringslite_CutSuffix (s p : ByteArray) (w : World) (hs : s.size ≤ 9223372036854775807) :
    Calls Tryd.prog 136 #[.string s, .string p] w fun e w' => e = .returned (.tuple #[.string ⟨(Lib.trimSuffix s.data.toList p.data.toList).toArray⟩, .bool (Lib.hasSuffix s.data.toList p.data.toList)]) ∧ w' = w := Any.stringslite_CutSuffix Tryd.lays211 s p w hs
def Tryd.lays104_ren : Go.Shelf.Ren := ⟨fun | 104 => 100 | 211 => 136 | 207 => 171 | n => n, fun | 9 => 9 | 4 => 4 | 24 => 49 | 3 => 3 | n => n, fun | n => n⟩
theorem Tryd.lays104 : Go.Proofs.Lays.n104 Tryd.prog Tryd.lays104_ren := {
  mixed := by kernel_rfl
  f104 := Tryd.func100.trans (congrArg some (by kernel_rfl))
  f207 := Tryd.func171.trans (congrArg some (by kernel_rfl))
  f211 := Tryd.func136.trans (congrArg some (by kernel_rfl))
  t3 := Tryd.underlying3
  a3 := Tryd.isAgg3
  z3 := Tryd.sizeOf3
  v3 := Tryd.zeroValue3
  t4 := Tryd.underlying4
  a4 := Tryd.isAgg4
  z4 := Tryd.sizeOf4
  v4 := Tryd.zeroValue4
  t9 := Tryd.underlying9
  a9 := Tryd.isAgg9
  z9 := Tryd.sizeOf9
  v9 := Tryd.zeroValue9
  t24 := Tryd.underlying49
  a24 := Tryd.isAgg49
  z24 := Tryd.sizeOf49
  v24 := Tryd.zeroValue49 }
open Go.RowKit in
/-- strings.CutSuffix: "CutSuffix returns s without the provided ending suffix string and reports whether it found the suffix. If s doesn't end with suffix, CutSuffix returns s, false. If suffix is the empty string, CutSuffix returns s, true.": IT RETURNS '(Lib.trimSuffix s p, Lib.hasSuffix s p)'; the world is as it was. (LAID: no walk: one application.) -/
theorem Tryd.strings_CutSuffix (s p : ByteArray) (w : World) (hs : s.size ≤ 9223372036854775807) :
    Calls Tryd.prog 100 #[.string s, .string p] w fun e w' => e = .returned (.tuple #[.string ⟨(Lib.trimSuffix s.data.toList p.data.toList).toArray⟩, .bool (Lib.hasSuffix s.data.toList p.data.toList)]) ∧ w' = w := Any.strings_CutSuffix Tryd.lays104 s p w hs
def Tryd.lays129_ren : Go.Shelf.Ren := ⟨fun | 129 => 124 | n => n, fun | 53 => 141 | 3 => 3 | 4 => 4 | 46 => 108 | 5 => 5 | 9 => 9 | n => n, fun | n => n⟩
theorem Tryd.lays129 : Go.Proofs.Lays.n129 Tryd.prog Tryd.lays129_ren := {
  mixed := by kernel_rfl
  f129 := Tryd.func124.trans (congrArg some (by kernel_rfl))
  t3 := Tryd.underlying3
  a3 := Tryd.isAgg3
  z3 := Tryd.sizeOf3
  v3 := Tryd.zeroValue3
  t4 := Tryd.underlying4
  a4 := Tryd.isAgg4
  z4 := Tryd.sizeOf4
  v4 := Tryd.zeroValue4
  t5 := Tryd.underlying5
  a5 := Tryd.isAgg5
  z5 := Tryd.sizeOf5
  v5 := Tryd.zeroValue5
  t9 := Tryd.underlying9
  a9 := Tryd.isAgg9
  z9 := Tryd.sizeOf9
  v9 := Tryd.zeroValue9
  t46 := Tryd.underlying108
  a46 := Tryd.isAgg108
  z46 := Tryd.sizeOf108
  v46 := Tryd.zeroValue108
  t53 := Tryd.underlying141
  a53 := Tryd.isAgg141
  z53 := Tryd.sizeOf141
  v53 := Tryd.zeroValue141 }
/-- bits.Len64: "Len64 returns the minimum number of bits required to represent x; the result is 0 for x == 0.": IT RETURNS 'Lib.bitLen x'; the world is as it was. ('h0', 'h1': x is a uint64.) (LAID: no walk: one application.) -/
theorem Tryd.bits_Len64 (x : Int) (w : World) (h0 : 0 ≤ x) (h1 : x ≤ 18446744073709551615) :
    Calls Tryd.prog 124 #[.int .u64 x] w fun e w' => e = .returned (.int .i64 (Lib.bitLen x.toNat)) ∧ w' = w := Any.bits_Len64 Tryd.lays129 x w h0 h1
def Tryd.lays217_ren : Go.Shelf.Ren := ⟨fun | 217 => 219 | 266 => 223 | n => n, fun | 9 => 9 | 5 => 5 | 3 => 3 | n => n, fun | n => n⟩
theorem Tryd.lays217 : Go.Proofs.Lays.n217 Tryd.prog Tryd.lays217_ren := {
  mixed := by kernel_rfl
  f217 := Tryd.func219.trans (congrArg some (by kernel_rfl))
  f266 := Tryd.func223.trans (congrArg some (by kernel_rfl))
  t3 := Tryd.underlying3
  a3 := Tryd.isAgg3
  z3 := Tryd.sizeOf3
  v3 := Tryd.zeroValue3
  t5 := Tryd.underlying5
  a5 := Tryd.isAgg5
  z5 := Tryd.sizeOf5
  v5 := Tryd.zeroValue5
  t9 := Tryd.underlying9
  a9 := Tryd.isAgg9
  z9 := Tryd.sizeOf9
  v9 := Tryd.zeroValue9 }
open Go.RowKit Go.Lib in
/-- internal/stringslite.IndexByte (what strings.IndexByte calls): IT RETURNS 'Lib.indexByte s c'; the world is as it was. (LAID: no walk: one application.) -/
theorem Tryd.stringslite_IndexByte (s : ByteArray) (c : Int) (w : World) :
    Calls Tryd.prog 219 #[.string s, .int .u8 c] w fun e w' => e = .returned (.int .i64 (Lib.indexByte s.data.toList c.toNat.toUInt8)) ∧ w' = w := Any.stringslite_IndexByte Tryd.lays217 s c w
def Tryd.lays224_ren : Go.Shelf.Ren := ⟨fun | 224 => 217 | n => n, fun | 3 => 3 | n => n, fun | n => n⟩
theorem Tryd.lays224 : Go.Proofs.Lays.n224 Tryd.prog Tryd.lays224_ren := {
  mixed := by kernel_rfl
  f224 := Tryd.func217.trans (congrArg some (by kernel_rfl))
  t3 := Tryd.underlying3
  a3 := Tryd.isAgg3
  z3 := Tryd.sizeOf3
  v3 := Tryd.zeroValue3 }
open Go.RowKit Go.Lib in
/-- internal/bytealg.Cutover: "Cutover reports the number of failures of IndexByte we should tolerate before switching over to Index. n is the number of bytes processed so far.": on amd64: (n + 16) / 8. (LAID: no walk: one application.) -/
theorem Tryd.bytealg_Cutover (n : Int) (h0 : 0 ≤ n) (h1 : n < 4611686018427387904) (w : World) :
    Calls Tryd.prog 217 #[.int .i64 n] w fun e w' => e = .returned (.int .i64 ((n + 16) / 8)) ∧ w' = w := Any.bytealg_Cutover Tryd.lays224 n h0 h1 w
def Tryd.lays314_ren : Go.Shelf.Ren := ⟨fun | 314 => 224 | n => n, fun | 9 => 9 | 51 => 139 | 3 => 3 | 4 => 4 | 5 => 5 | 46 => 108 | n => n, fun | n => n⟩
theorem Tryd.lays314 : Go.Proofs.Lays.n314 Tryd.prog Tryd.lays314_ren := {
  mixed := by kernel_rfl
  f314 := Tryd.func224.trans (congrArg some (by kernel_rfl))
  t3 := Tryd.underlying3
  a3 := Tryd.isAgg3
  z3 := Tryd.sizeOf3
  v3 := Tryd.zeroValue3
  t4 := Tryd.underlying4
  a4 := Tryd.isAgg4
  z4 := Tryd.sizeOf4
  v4 := Tryd.zeroValue4
  t5 := Tryd.underlying5
  a5 := Tryd.isAgg5
  z5 := Tryd.sizeOf5
  v5 := Tryd.zeroValue5
  t9 := Tryd.underlying9
  a9 := Tryd.isAgg9
  z9 := Tryd.sizeOf9
  v9 := Tryd.zeroValue9
  t46 := Tryd.underlying108
  a46 := Tryd.isAgg108
  z46 := Tryd.sizeOf108
  v46 := Tryd.zeroValue108
  t51 := Tryd.underlying139
  a51 := Tryd.isAgg139
  z51 := Tryd.sizeOf139
  v51 := Tryd.zeroValue139 }
open Go.RowKit Go.Lib in
/-- hashStr: "returns the hash and the appropriate multiplicative factor for use in Rabin-Karp algorithm": THE HASH OF ALL OF sep, AND 16777619 ^ len(sep), both in uint32. (LAID: no walk: one application.) -/
theorem Tryd.bytealg_hashStr (sep : ByteArray) (hs : sep.size < 4294967281) (w : World) :
    Calls Tryd.prog 224 #[.string sep] w fun e w' => e = .returned (.tuple #[.int .u32 (RK.H sep.data.toList % 4294967296), .int .u32 (16777619 ^ sep.size % 4294967296)]) ∧ w' = w := Any.bytealg_hashStr Tryd.lays314 sep hs w
def Tryd.lays267_ren : Go.Shelf.Ren := ⟨fun | 267 => 220 | 314 => 224 | n => n, fun | 9 => 9 | 3 => 3 | 146 => 213 | 51 => 139 | 4 => 4 | 5 => 5 | 46 => 108 | n => n, fun | n => n⟩
theorem Tryd.lays267 : Go.Proofs.Lays.n267 Tryd.prog Tryd.lays267_ren := {
  mixed := by kernel_rfl
  f267 := Tryd.func220.trans (congrArg some (by kernel_rfl))
  f314 := Tryd.func224.trans (congrArg some (by kernel_rfl))
  t3 := Tryd.underlying3
  a3 := Tryd.isAgg3
  z3 := Tryd.sizeOf3
  v3 := Tryd.zeroValue3
  t4 := Tryd.underlying4
  a4 := Tryd.isAgg4
  z4 := Tryd.sizeOf4
  v4 := Tryd.zeroValue4
  t5 := Tryd.underlying5
  a5 := Tryd.isAgg5
  z5 := Tryd.sizeOf5
  v5 := Tryd.zeroValue5
  t9 := Tryd.underlying9
  a9 := Tryd.isAgg9
  z9 := Tryd.sizeOf9
  v9 := Tryd.zeroValue9
  t46 := Tryd.underlying108
  a46 := Tryd.isAgg108
  z46 := Tryd.sizeOf108
  v46 := Tryd.zeroValue108
  t51 := Tryd.underlying139
  a51 := Tryd.isAgg139
  z51 := Tryd.sizeOf139
  v51 := Tryd.zeroValue139
  t146 := Tryd.underlying213
  a146 := Tryd.isAgg213
  z146 := Tryd.sizeOf213
  v146 := Tryd.zeroValue213 }
open Go.RowKit Go.Lib in
theorem Tryd.bytealg_IndexRabinKarp (s sep : ByteArray) (h1 : 1 ≤ sep.size) (h2 : sep.size ≤ s.size) (hs : s.size < 4294967281) (w : World) :
    Calls Tryd.prog 220 #[.string s, .string sep] w fun e w' => e = .returned (.int .i64 (Lib.index s.data.toList sep.data.toList)) ∧ w' = w := Any.bytealg_IndexRabinKarp Tryd.lays267 s sep h1 h2 hs w
def Tryd.lays219_ren : Go.Shelf.Ren := ⟨fun | 219 => 211 | 217 => 219 | 225 => 218 | 224 => 217 | 267 => 220 | 266 => 223 | 314 => 224 | n => n, fun | 9 => 9 | 3 => 3 | 4 => 4 | 5 => 5 | 46 => 108 | 146 => 213 | 51 => 139 | n => n, fun | 1 => 1 | n => n⟩
theorem Tryd.lays219 : Go.Proofs.Lays.n219 Tryd.prog Tryd.lays219_ren := {
  mixed := by kernel_rfl
  f217 := Tryd.func219.trans (congrArg some (by kernel_rfl))
  f219 := Tryd.func211.trans (congrArg some (by kernel_rfl))
  f224 := Tryd.func217.trans (congrArg some (by kernel_rfl))
  f225 := Tryd.func218.trans (congrArg some (by kernel_rfl))
  f266 := Tryd.func223.trans (congrArg some (by kernel_rfl))
  f267 := Tryd.func220.trans (congrArg some (by kernel_rfl))
  f314 := Tryd.func224.trans (congrArg some (by kernel_rfl))
  t3 := Tryd.underlying3
  a3 := Tryd.isAgg3
  z3 := Tryd.sizeOf3
  v3 := Tryd.zeroValue3
  t4 := Tryd.underlying4
  a4 := Tryd.isAgg4
  z4 := Tryd.sizeOf4
  v4 := Tryd.zeroValue4
  t5 := Tryd.underlying5
  a5 := Tryd.isAgg5
  z5 := Tryd.sizeOf5
  v5 := Tryd.zeroValue5
  t9 := Tryd.underlying9
  a9 := Tryd.isAgg9
  z9 := Tryd.sizeOf9
  v9 := Tryd.zeroValue9
  t46 := Tryd.underlying108
  a46 := Tryd.isAgg108
  z46 := Tryd.sizeOf108
  v46 := Tryd.zeroValue108
  t51 := Tryd.underlying139
  a51 := Tryd.isAgg139
  z51 := Tryd.sizeOf139
  v51 := Tryd.zeroValue139
  t146 := Tryd.underlying213
  a146 := Tryd.isAgg213
  z146 := Tryd.sizeOf213
  v146 := Tryd.zeroValue213
  g1 := by kernel_rfl }
open Go.RowKit Go.Lib in
/-- internal/stringslite.Index (what strings.Index calls) AT A substr OF ONE BYTE c: IT RETURNS 'Lib.indexByte s c'; the world is as it was. (LAID: no walk: one application.) -/
theorem Tryd.stringslite_Index_one (s : ByteArray) (c : UInt8) (w : World) :
    Calls Tryd.prog 211 #[.string s, .string ⟨#[c]⟩] w fun e w' => e = .returned (.int .i64 (Lib.indexByte s.data.toList c)) ∧ w' = w := Any.stringslite_Index_one Tryd.lays219 s c w
open Go.RowKit Go.Lib in
/-- internal/stringslite.Index (what strings.Index calls) AT A substr OF WHATEVER LENGTH: IT RETURNS 'Lib.index s substr'; the world is as it was. 'm': what internal/bytealg.MaxLen holds: whatever. (LAID: no walk: one application.) -/
theorem Tryd.stringslite_Index (s sub : ByteArray) (m : Int) (w : World) (hs : s.size < 4294967281) (hm : w.cell? ⟨1, 0, none⟩ = some (.int .i64 m)) :
    Calls Tryd.prog 211 #[.string s, .string sub] w fun e w' => e = .returned (.int .i64 (Lib.index s.data.toList sub.data.toList)) ∧ w' = w := Any.stringslite_Index Tryd.lays219 s sub m w hs hm
def Tryd.lays143_ren : Go.Shelf.Ren := ⟨fun | 143 => 194 | 219 => 211 | 217 => 219 | 225 => 218 | 224 => 217 | 267 => 220 | 266 => 223 | 314 => 224 | n => n, fun | 9 => 9 | 3 => 3 | 4 => 4 | 5 => 5 | 46 => 108 | 146 => 213 | 51 => 139 | n => n, fun | 1 => 1 | n => n⟩
theorem Tryd.lays143 : Go.Proofs.Lays.n143 Tryd.prog Tryd.lays143_ren := {
  mixed := by kernel_rfl
  f143 := Tryd.func194.trans (congrArg some (by kernel_rfl))
  f217 := Tryd.func219.trans (congrArg some (by kernel_rfl))
  f219 := Tryd.func211.trans (congrArg some (by kernel_rfl))
  f224 := Tryd.func217.trans (congrArg some (by kernel_rfl))
  f225 := Tryd.func218.trans (congrArg some (by kernel_rfl))
  f266 := Tryd.func223.trans (congrArg some (by kernel_rfl))
  f267 := Tryd.func220.trans (congrArg some (by kernel_rfl))
  f314 := Tryd.func224.trans (congrArg some (by kernel_rfl))
  t3 := Tryd.underlying3
  a3 := Tryd.isAgg3
  z3 := Tryd.sizeOf3
  v3 := Tryd.zeroValue3
  t4 := Tryd.underlying4
  a4 := Tryd.isAgg4
  z4 := Tryd.sizeOf4
  v4 := Tryd.zeroValue4
  t5 := Tryd.underlying5
  a5 := Tryd.isAgg5
  z5 := Tryd.sizeOf5
  v5 := Tryd.zeroValue5
  t9 := Tryd.underlying9
  a9 := Tryd.isAgg9
  z9 := Tryd.sizeOf9
  v9 := Tryd.zeroValue9
  t46 := Tryd.underlying108
  a46 := Tryd.isAgg108
  z46 := Tryd.sizeOf108
  v46 := Tryd.zeroValue108
  t51 := Tryd.underlying139
  a51 := Tryd.isAgg139
  z51 := Tryd.sizeOf139
  v51 := Tryd.zeroValue139
  t146 := Tryd.underlying213
  a146 := Tryd.isAgg213
  z146 := Tryd.sizeOf213
  v146 := Tryd.zeroValue213
  g1 := by kernel_rfl }
open Go.RowKit Go.Lib in
/-- strings.Index: "Index returns the index of the first instance of substr in s, or -1 if substr is not present in s.": AT A substr OF ONE BYTE c: IT RETURNS 'Lib.indexByte s c'; the world is as it was. (LAID: no walk: one application.) -/
theorem Tryd.strings_Index_one (s : ByteArray) (c : UInt8) (w : World) :
    Calls Tryd.prog 194 #[.string s, .string ⟨#[c]⟩] w fun e w' => e = .returned (.int .i64 (Lib.indexByte s.data.toList c)) ∧ w' = w := Any.strings_Index_one Tryd.lays143 s c w
open Go.RowKit Go.Lib in
/-- strings.Index: "Index returns the index of the first instance of substr in s, or -1 if substr is not present in s.": IT RETURNS 'Lib.index s substr'; the world is as it was. (LAID: no walk: one application.) -/
theorem Tryd.strings_Index (s sub : ByteArray) (m : Int) (w : World) (hs : s.size < 4294967281) (hm : w.cell? ⟨1, 0, none⟩ = some (.int .i64 m)) :
    Calls Tryd.prog 194 #[.string s, .string sub] w fun e w' => e = .returned (.int .i64 (Lib.index s.data.toList sub.data.toList)) ∧ w' = w := Any.strings_Index Tryd.lays143 s sub m w hs hm
def Tryd.lays138_ren : Go.Shelf.Ren := ⟨fun | 138 => 193 | 195 => 209 | 218 => 210 | 143 => 194 | 219 => 211 | 217 => 219 | 225 => 218 | 224 => 217 | 267 => 220 | 266 => 223 | 314 => 224 | n => n, fun | 9 => 9 | 3 => 3 | 4 => 4 | 5 => 5 | 0 => 0 | 46 => 108 | 146 => 213 | 51 => 139 | n => n, fun | 1 => 1 | n => n⟩
theorem Tryd.lays138 : Go.Proofs.Lays.n138 Tryd.prog Tryd.lays138_ren := {
  mixed := by kernel_rfl
  f138 := Tryd.func193.trans (congrArg some (by kernel_rfl))
  f143 := Tryd.func194.trans (congrArg some (by kernel_rfl))
  f195 := Tryd.func209.trans (congrArg some (by kernel_rfl))
  f217 := Tryd.func219.trans (congrArg some (by kernel_rfl))
  f218 := Tryd.func210.trans (congrArg some (by kernel_rfl))
  f219 := Tryd.func211.trans (congrArg some (by kernel_rfl))
  f224 := Tryd.func217.trans (congrArg some (by kernel_rfl))
  f225 := Tryd.func218.trans (congrArg some (by kernel_rfl))
  f266 := Tryd.func223.trans (congrArg some (by kernel_rfl))
  f267 := Tryd.func220.trans (congrArg some (by kernel_rfl))
  f314 := Tryd.func224.trans (congrArg some (by kernel_rfl))
  t0 := Tryd.underlying0
  a0 := Tryd.isAgg0
  z0 := Tryd.sizeOf0
  v0 := Tryd.zeroValue0
  t3 := Tryd.underlying3
  a3 := Tryd.isAgg3
  z3 := Tryd.sizeOf3
  v3 := Tryd.zeroValue3
  t4 := Tryd.underlying4
  a4 := Tryd.isAgg4
  z4 := Tryd.sizeOf4
  v4 := Tryd.zeroValue4
  t5 := Tryd.underlying5
  a5 := Tryd.isAgg5
  z5 := Tryd.sizeOf5
  v5 := Tryd.zeroValue5
  t9 := Tryd.underlying9
  a9 := Tryd.isAgg9
  z9 := Tryd.sizeOf9
  v9 := Tryd.zeroValue9
  t46 := Tryd.underlying108
  a46 := Tryd.isAgg108
  z46 := Tryd.sizeOf108
  v46 := Tryd.zeroValue108
  t51 := Tryd.underlying139
  a51 := Tryd.isAgg139
  z51 := Tryd.sizeOf139
  v51 := Tryd.zeroValue139
  t146 := Tryd.underlying213
  a146 := Tryd.isAgg213
  z146 := Tryd.sizeOf213
  v146 := Tryd.zeroValue213
  g1 := by kernel_rfl }
open Go.RowKit Go.Lib in
/-- strings.Count AT A substr OF ONE BYTE ('hp'): "Count counts the number of non-overlapping instances of substr in s.": IT RETURNS 'Lib.countByte s (that byte)'; the world is as it was. ✋ NO CONTRACT HERE YET at an empty substr (utf8.RuneCountInString) or at a longer one (a loop over strings.Index). (LAID: no walk: one application.) -/
theorem Tryd.strings_Count_one (s : ByteArray) (c : UInt8) (w : World) :
    Calls Tryd.prog 193 #[.string s, .string ⟨#[c]⟩] w fun e w' => e = .returned (.int .i64 (Lib.countByte s.data.toList c)) ∧ w' = w := Any.strings_Count_one Tryd.lays138 s c w
open Go.RowKit Go.Lib in
/-- strings.Count AT A substr OF TWO BYTES OR MORE: "Count counts the number of non-overlapping instances of substr in s.": IT RETURNS 'Lib.count s substr'; the world is as it was. (LAID: no walk: one application.) -/
theorem Tryd.strings_Count (s sub : ByteArray) (m : Int) (w : World) (hs : s.size < 4294967281) (hm : w.cell? ⟨1, 0, none⟩ = some (.int .i64 m)) (h2 : 2 ≤ sub.size) :
    Calls Tryd.prog 193 #[.string s, .string sub] w fun e w' => e = .returned (.int .i64 (Lib.countB s sub)) ∧ w' = w := Any.strings_Count Tryd.lays138 s sub m w hs hm h2
def Tryd.laysM219_ren : Go.Shelf.Ren := ⟨fun | 219 => 211 | 217 => 219 | 225 => 218 | 224 => 217 | 267 => 220 | 266 => 223 | 314 => 224 | n => n, fun | 9 => 9 | 3 => 3 | 4 => 4 | 5 => 5 | 46 => 108 | 146 => 213 | 51 => 139 | n => n, fun | 1 => 1 | n => n⟩
theorem Tryd.laysM219 : Go.Proofs.LaysM.n219 Tryd.prog Tryd.laysM219_ren := {
  mixed := by kernel_rfl
  f217 := Tryd.func219.trans (congrArg some (by kernel_rfl))
  f219 := Tryd.func211.trans (congrArg some (by kernel_rfl))
  f224 := Tryd.func217.trans (congrArg some (by kernel_rfl))
  f225 := Tryd.func218.trans (congrArg some (by kernel_rfl))
  f266 := Tryd.func223.trans (congrArg some (by kernel_rfl))
  f267 := Tryd.func220.trans (congrArg some (by kernel_rfl))
  f314 := Tryd.func224.trans (congrArg some (by kernel_rfl))
  t3 := Tryd.underlying3
  a3 := Tryd.isAgg3
  z3 := Tryd.sizeOf3
  v3 := Tryd.zeroValue3
  t4 := Tryd.underlying4
  a4 := Tryd.isAgg4
  z4 := Tryd.sizeOf4
  v4 := Tryd.zeroValue4
  t5 := Tryd.underlying5
  a5 := Tryd.isAgg5
  z5 := Tryd.sizeOf5
  v5 := Tryd.zeroValue5
  t9 := Tryd.underlying9
  a9 := Tryd.isAgg9
  z9 := Tryd.sizeOf9
  v9 := Tryd.zeroValue9
  t46 := Tryd.underlying108
  a46 := Tryd.isAgg108
  z46 := Tryd.sizeOf108
  v46 := Tryd.zeroValue108
  t51 := Tryd.underlying139
  a51 := Tryd.isAgg139
  z51 := Tryd.sizeOf139
  v51 := Tryd.zeroValue139
  t146 := Tryd.underlying213
  a146 := Tryd.isAgg213
  z146 := Tryd.sizeOf213
  v146 := Tryd.zeroValue213
  g1 := by kernel_rfl
  i3 := by kernel_rfl
  i4 := by kernel_rfl
  i5 := by kernel_rfl
  i9 := by kernel_rfl
  i46 := by kernel_rfl
  i51 := by kernel_rfl
  i146 := by kernel_rfl
  m1 := by kernel_rfl
  s1_3 := fun w h => Go.Proofs.cell_of_shapedOpen_int (zero := #[.int .i64 0]) (t := 3) h (of_decide_eq_true (by kernel_rfl)) (by kernel_rfl) rfl (by kernel_rfl) (by kernel_rfl) Tryd.underlying3 }
open Go.RowKit Go.Lib in
theorem Tryd.stringslite_Index_shaped (s sub : ByteArray) (w : World) (h : w.ShapedOpen Tryd.prog) (hs : s.size < 4294967281) :
    Calls Tryd.prog 211 #[.string s, .string sub] w fun e w' => e = .returned (.int .i64 (Lib.index s.data.toList sub.data.toList)) ∧ w' = w := Any.stringslite_Index_shaped Tryd.laysM219 s sub w h hs
def Tryd.laysM143_ren : Go.Shelf.Ren := ⟨fun | 143 => 194 | 219 => 211 | 217 => 219 | 225 => 218 | 224 => 217 | 267 => 220 | 266 => 223 | 314 => 224 | n => n, fun | 9 => 9 | 3 => 3 | 4 => 4 | 5 => 5 | 46 => 108 | 146 => 213 | 51 => 139 | n => n, fun | 1 => 1 | n => n⟩
theorem Tryd.laysM143 : Go.Proofs.LaysM.n143 Tryd.prog Tryd.laysM143_ren := {
  mixed := by kernel_rfl
  f143 := Tryd.func194.trans (congrArg some (by kernel_rfl))
  f217 := Tryd.func219.trans (congrArg some (by kernel_rfl))
  f219 := Tryd.func211.trans (congrArg some (by kernel_rfl))
  f224 := Tryd.func217.trans (congrArg some (by kernel_rfl))
  f225 := Tryd.func218.trans (congrArg some (by kernel_rfl))
  f266 := Tryd.func223.trans (congrArg some (by kernel_rfl))
  f267 := Tryd.func220.trans (congrArg some (by kernel_rfl))
  f314 := Tryd.func224.trans (congrArg some (by kernel_rfl))
  t3 := Tryd.underlying3
  a3 := Tryd.isAgg3
  z3 := Tryd.sizeOf3
  v3 := Tryd.zeroValue3
  t4 := Tryd.underlying4
  a4 := Tryd.isAgg4
  z4 := Tryd.sizeOf4
  v4 := Tryd.zeroValue4
  t5 := Tryd.underlying5
  a5 := Tryd.isAgg5
  z5 := Tryd.sizeOf5
  v5 := Tryd.zeroValue5
  t9 := Tryd.underlying9
  a9 := Tryd.isAgg9
  z9 := Tryd.sizeOf9
  v9 := Tryd.zeroValue9
  t46 := Tryd.underlying108
  a46 := Tryd.isAgg108
  z46 := Tryd.sizeOf108
  v46 := Tryd.zeroValue108
  t51 := Tryd.underlying139
  a51 := Tryd.isAgg139
  z51 := Tryd.sizeOf139
  v51 := Tryd.zeroValue139
  t146 := Tryd.underlying213
  a146 := Tryd.isAgg213
  z146 := Tryd.sizeOf213
  v146 := Tryd.zeroValue213
  g1 := by kernel_rfl
  i3 := by kernel_rfl
  i4 := by kernel_rfl
  i5 := by kernel_rfl
  i9 := by kernel_rfl
  i46 := by kernel_rfl
  i51 := by kernel_rfl
  i146 := by kernel_rfl
  m1 := by kernel_rfl
  s1_3 := fun w h => Go.Proofs.cell_of_shapedOpen_int (zero := #[.int .i64 0]) (t := 3) h (of_decide_eq_true (by kernel_rfl)) (by kernel_rfl) rfl (by kernel_rfl) (by kernel_rfl) Tryd.underlying3 }
open Go.RowKit Go.Lib in
theorem Tryd.strings_Index_shaped (s sub : ByteArray) (w : World) (h : w.ShapedOpen Tryd.prog) (hs : s.size < 4294967281) :
    Calls Tryd.prog 194 #[.string s, .string sub] w fun e w' => e = .returned (.int .i64 (Lib.index s.data.toList sub.data.toList)) ∧ w' = w := Any.strings_Index_shaped Tryd.laysM143 s sub w h hs
def Tryd.laysM138_ren : Go.Shelf.Ren := ⟨fun | 138 => 193 | 195 => 209 | 218 => 210 | 143 => 194 | 219 => 211 | 217 => 219 | 225 => 218 | 224 => 217 | 267 => 220 | 266 => 223 | 314 => 224 | n => n, fun | 9 => 9 | 3 => 3 | 4 => 4 | 5 => 5 | 0 => 0 | 46 => 108 | 146 => 213 | 51 => 139 | n => n, fun | 1 => 1 | n => n⟩
theorem Tryd.laysM138 : Go.Proofs.LaysM.n138 Tryd.prog Tryd.laysM138_ren := {
  mixed := by kernel_rfl
  f138 := Tryd.func193.trans (congrArg some (by kernel_rfl))
  f143 := Tryd.func194.trans (congrArg some (by kernel_rfl))
  f195 := Tryd.func209.trans (congrArg some (by kernel_rfl))
  f217 := Tryd.func219.trans (congrArg some (by kernel_rfl))
  f218 := Tryd.func210.trans (congrArg some (by kernel_rfl))
  f219 := Tryd.func211.trans (congrArg some (by kernel_rfl))
  f224 := Tryd.func217.trans (congrArg some (by kernel_rfl))
  f225 := Tryd.func218.trans (congrArg some (by kernel_rfl))
  f266 := Tryd.func223.trans (congrArg some (by kernel_rfl))
  f267 := Tryd.func220.trans (congrArg some (by kernel_rfl))
  f314 := Tryd.func224.trans (congrArg some (by kernel_rfl))
  t0 := Tryd.underlying0
  a0 := Tryd.isAgg0
  z0 := Tryd.sizeOf0
  v0 := Tryd.zeroValue0
  t3 := Tryd.underlying3
  a3 := Tryd.isAgg3
  z3 := Tryd.sizeOf3
  v3 := Tryd.zeroValue3
  t4 := Tryd.underlying4
  a4 := Tryd.isAgg4
  z4 := Tryd.sizeOf4
  v4 := Tryd.zeroValue4
  t5 := Tryd.underlying5
  a5 := Tryd.isAgg5
  z5 := Tryd.sizeOf5
  v5 := Tryd.zeroValue5
  t9 := Tryd.underlying9
  a9 := Tryd.isAgg9
  z9 := Tryd.sizeOf9
  v9 := Tryd.zeroValue9
  t46 := Tryd.underlying108
  a46 := Tryd.isAgg108
  z46 := Tryd.sizeOf108
  v46 := Tryd.zeroValue108
  t51 := Tryd.underlying139
  a51 := Tryd.isAgg139
  z51 := Tryd.sizeOf139
  v51 := Tryd.zeroValue139
  t146 := Tryd.underlying213
  a146 := Tryd.isAgg213
  z146 := Tryd.sizeOf213
  v146 := Tryd.zeroValue213
  g1 := by kernel_rfl
  i0 := by kernel_rfl
  i3 := by kernel_rfl
  i4 := by kernel_rfl
  i5 := by kernel_rfl
  i9 := by kernel_rfl
  i46 := by kernel_rfl
  i51 := by kernel_rfl
  i146 := by kernel_rfl
  m1 := by kernel_rfl
  s1_3 := fun w h => Go.Proofs.cell_of_shapedOpen_int (zero := #[.int .i64 0]) (t := 3) h (of_decide_eq_true (by kernel_rfl)) (by kernel_rfl) rfl (by kernel_rfl) (by kernel_rfl) Tryd.underlying3 }
open Go.RowKit Go.Lib in
theorem Tryd.strings_Count_shaped (s sub : ByteArray) (w : World) (h : w.ShapedOpen Tryd.prog) (hs : s.size < 4294967281) (h2 : 2 ≤ sub.size) :
    Calls Tryd.prog 193 #[.string s, .string sub] w fun e w' => e = .returned (.int .i64 (Lib.countB s sub)) ∧ w' = w := Any.strings_Count_shaped Tryd.laysM138 s sub w h hs h2
def Tryd.lays190_ren : Go.Shelf.Ren := ⟨fun | 190 => 40 | 125 => 80 | 258 => 79 | 128 => 123 | 129 => 124 | 302 => 114 | 303 => 115 | 304 => 116 | 305 => 117 | 306 => 118 | 307 => 119 | 308 => 120 | 309 => 121 | 310 => 122 | 333 => 155 | 329 => 156 | 330 => 157 | 334 => 158 | 335 => 159 | 336 => 160 | 344 => 187 | n => n, fun | 31 => 26 | 9 => 9 | 3 => 3 | 46 => 108 | 0 => 0 | 51 => 139 | 53 => 141 | 4 => 4 | 183 => 133 | 182 => 132 | 131 => 104 | 5 => 5 | 218 => 166 | 222 => 170 | 228 => 191 | 229 => 192 | n => n, fun | n => n⟩
theorem Tryd.lays190 : Go.Proofs.Lays.n190 Tryd.prog Tryd.lays190_ren := {
  mixed := by kernel_rfl
  f125 := Tryd.func80.trans (congrArg some (by kernel_rfl))
  f128 := Tryd.func123.trans (congrArg some (by kernel_rfl))
  f129 := Tryd.func124.trans (congrArg some (by kernel_rfl))
  f190 := Tryd.func40.trans (congrArg some (by kernel_rfl))
  f258 := Tryd.func79.trans (congrArg some (by kernel_rfl))
  f302 := Tryd.func114.trans (congrArg some (by kernel_rfl))
  f303 := Tryd.func115.trans (congrArg some (by kernel_rfl))
  f304 := Tryd.func116.trans (congrArg some (by kernel_rfl))
  f305 := Tryd.func117.trans (congrArg some (by kernel_rfl))
  f306 := Tryd.func118.trans (congrArg some (by kernel_rfl))
  f307 := Tryd.func119.trans (congrArg some (by kernel_rfl))
  f308 := Tryd.func120.trans (congrArg some (by kernel_rfl))
  f309 := Tryd.func121.trans (congrArg some (by kernel_rfl))
  f310 := Tryd.func122.trans (congrArg some (by kernel_rfl))
  f329 := Tryd.func156.trans (congrArg some (by kernel_rfl))
  f330 := Tryd.func157.trans (congrArg some (by kernel_rfl))
  f333 := Tryd.func155.trans (congrArg some (by kernel_rfl))
  f334 := Tryd.func158.trans (congrArg some (by kernel_rfl))
  f335 := Tryd.func159.trans (congrArg some (by kernel_rfl))
  f336 := Tryd.func160.trans (congrArg some (by kernel_rfl))
  f344 := Tryd.func187.trans (congrArg some (by kernel_rfl))
  t0 := Tryd.underlying0
  a0 := Tryd.isAgg0
  z0 := Tryd.sizeOf0
  v0 := Tryd.zeroValue0
  t3 := Tryd.underlying3
  a3 := Tryd.isAgg3
  z3 := Tryd.sizeOf3
  v3 := Tryd.zeroValue3
  t4 := Tryd.underlying4
  a4 := Tryd.isAgg4
  z4 := Tryd.sizeOf4
  v4 := Tryd.zeroValue4
  t5 := Tryd.underlying5
  a5 := Tryd.isAgg5
  z5 := Tryd.sizeOf5
  v5 := Tryd.zeroValue5
  t9 := Tryd.underlying9
  a9 := Tryd.isAgg9
  z9 := Tryd.sizeOf9
  v9 := Tryd.zeroValue9
  t31 := Tryd.underlying26
  a31 := Tryd.isAgg26
  z31 := Tryd.sizeOf26
  v31 := Tryd.zeroValue26
  t46 := Tryd.underlying108
  a46 := Tryd.isAgg108
  z46 := Tryd.sizeOf108
  v46 := Tryd.zeroValue108
  t51 := Tryd.underlying139
  a51 := Tryd.isAgg139
  z51 := Tryd.sizeOf139
  v51 := Tryd.zeroValue139
  t53 := Tryd.underlying141
  a53 := Tryd.isAgg141
  z53 := Tryd.sizeOf141
  v53 := Tryd.zeroValue141
  t131 := Tryd.underlying104
  a131 := Tryd.isAgg104
  z131 := Tryd.sizeOf104
  v131 := Tryd.zeroValue104
  t182 := Tryd.underlying132
  a182 := Tryd.isAgg132
  z182 := Tryd.sizeOf132
  v182 := Tryd.zeroValue132
  t183 := Tryd.underlying133
  a183 := Tryd.isAgg133
  z183 := Tryd.sizeOf133
  v183 := Tryd.zeroValue133
  t218 := Tryd.underlying166
  a218 := Tryd.isAgg166
  z218 := Tryd.sizeOf166
  v218 := Tryd.zeroValue166
  t222 := Tryd.underlying170
  a222 := Tryd.isAgg170
  z222 := Tryd.sizeOf170
  v222 := Tryd.zeroValue170
  t228 := Tryd.underlying191
  a228 := Tryd.isAgg191
  z228 := Tryd.sizeOf191
  v228 := Tryd.zeroValue191
  t229 := Tryd.underlying192
  a229 := Tryd.isAgg192
  z229 := Tryd.sizeOf192
  v229 := Tryd.zeroValue192 }
open Go.Sort Go.RowKit in
theorem Tryd.slices_Sort_string (blk off cap : Nat) (ss : List (List UInt8)) (w : World) (hH : Holds encStr w blk off ss.toArray) (hblk : blk < w.heap.size) (hsz : ss.length < 4611686018427387904) :
    Calls Tryd.prog 40 #[.slice (some ⟨blk, off, none⟩) ss.length cap] w fun e w' =>
      e = .returned (.tuple #[]) ∧ ∃ n os, w' = grow (putRow encStr (Sort.ahead w n) blk off (ss.mergeSort fun x y => decide (x ≤ y)).toArray) os := Any.slices_Sort_string Tryd.lays190 blk off cap ss w hH hblk hsz
def Tryd.lays206_ren : Go.Shelf.Ren := ⟨fun | 206 => 137 | n => n, fun | 9 => 9 | 4 => 4 | 3 => 3 | n => n, fun | n => n⟩
theorem Tryd.lays206 : Go.Proofs.Lays.n206 Tryd.prog Tryd.lays206_ren := {
  mixed := by kernel_rfl
  f206 := Tryd.func137.trans (congrArg some (by kernel_rfl))
  t3 := Tryd.underlying3
  a3 := Tryd.isAgg3
  z3 := Tryd.sizeOf3
  v3 := Tryd.zeroValue3
  t4 := Tryd.underlying4
  a4 := Tryd.isAgg4
  z4 := Tryd.sizeOf4
  v4 := Tryd.zeroValue4
  t9 := Tryd.underlying9
  a9 := Tryd.isAgg9
  z9 := Tryd.sizeOf9
  v9 := Tryd.zeroValue9 }
open Go.RowKit Go.Lib in
/-- internal/stringslite.HasPrefix (what strings.HasPrefix calls). (LAID: no walk: one application.) -/
theorem Tryd.stringslite_HasPrefix (s p : ByteArray) (w : World) :
    Calls Tryd.prog 137 #[.string s, .string p] w fun e w' => e = .returned (.bool (Lib.hasPrefix s.data.toList p.data.toList)) ∧ w' = w := Any.stringslite_HasPrefix Tryd.lays206 s p w
def Tryd.lays99_ren : Go.Shelf.Ren := ⟨fun | 99 => 101 | 206 => 137 | n => n, fun | 9 => 9 | 4 => 4 | 3 => 3 | n => n, fun | n => n⟩
theorem Tryd.lays99 : Go.Proofs.Lays.n99 Tryd.prog Tryd.lays99_ren := {
  mixed := by kernel_rfl
  f99 := Tryd.func101.trans (congrArg some (by kernel_rfl))
  f206 := Tryd.func137.trans (congrArg some (by kernel_rfl))
  t3 := Tryd.underlying3
  a3 := Tryd.isAgg3
  z3 := Tryd.sizeOf3
  v3 := Tryd.zeroValue3
  t4 := Tryd.underlying4
  a4 := Tryd.isAgg4
  z4 := Tryd.sizeOf4
  v4 := Tryd.zeroValue4
  t9 := Tryd.underlying9
  a9 := Tryd.isAgg9
  z9 := Tryd.sizeOf9
  v9 := Tryd.zeroValue9 }
open Go.RowKit Go.Lib in
/-- strings.HasPrefix: "HasPrefix reports whether the string s begins with prefix.": IT RETURNS 'Lib.hasPrefix s prefix'; the world is as it was. (LAID: no walk: one application.) -/
theorem Tryd.strings_HasPrefix (s p : ByteArray) (w : World) :
    Calls Tryd.prog 101 #[.string s, .string p] w fun e w' => e = .returned (.bool (Lib.hasPrefix s.data.toList p.data.toList)) ∧ w' = w := Any.strings_HasPrefix Tryd.lays99 s p w
def Tryd.lays207_ren : Go.Shelf.Ren := ⟨fun | 207 => 171 | n => n, fun | 9 => 9 | 4 => 4 | 3 => 3 | n => n, fun | n => n⟩
theorem Tryd.lays207 : Go.Proofs.Lays.n207 Tryd.prog Tryd.lays207_ren := {
  mixed := by kernel_rfl
  f207 := Tryd.func171.trans (congrArg some (by kernel_rfl))
  t3 := Tryd.underlying3
  a3 := Tryd.isAgg3
  z3 := Tryd.sizeOf3
  v3 := Tryd.zeroValue3
  t4 := Tryd.underlying4
  a4 := Tryd.isAgg4
  z4 := Tryd.sizeOf4
  v4 := Tryd.zeroValue4
  t9 := Tryd.underlying9
  a9 := Tryd.isAgg9
  z9 := Tryd.sizeOf9
  v9 := Tryd.zeroValue9 }
open Go.RowKit Go.Lib in
/-- internal/stringslite.HasSuffix (what strings.HasSuffix calls). (LAID: no walk: one application.) -/
theorem Tryd.stringslite_HasSuffix (s p : ByteArray) (w : World) (hs : s.size ≤ 9223372036854775807) :
    Calls Tryd.prog 171 #[.string s, .string p] w fun e w' => e = .returned (.bool (Lib.hasSuffix s.data.toList p.data.toList)) ∧ w' = w := Any.stringslite_HasSuffix Tryd.lays207 s p w hs
def Tryd.lays209_ren : Go.Shelf.Ren := ⟨fun | 209 => 162 | 207 => 171 | n => n, fun | 9 => 9 | 4 => 4 | 3 => 3 | n => n, fun | n => n⟩
theorem Tryd.lays209 : Go.Proofs.Lays.n209 Tryd.prog Tryd.lays209_ren := {
  mixed := by kernel_rfl
  f207 := Tryd.func171.trans (congrArg some (by kernel_rfl))
  f209 := Tryd.func162.trans (congrArg some (by kernel_rfl))
  t3 := Tryd.underlying3
  a3 := Tryd.isAgg3
  z3 := Tryd.sizeOf3
  v3 := Tryd.zeroValue3
  t4 := Tryd.underlying4
  a4 := Tryd.isAgg4
  z4 := Tryd.sizeOf4
  v4 := Tryd.zeroValue4
  t9 := Tryd.underlying9
  a9 := Tryd.isAgg9
  z9 := Tryd.sizeOf9
  v9 := Tryd.zeroValue9 }
open Go.RowKit Go.Lib in
/-- internal/stringslite.TrimSuffix (what strings.TrimSuffix calls). (LAID: no walk: one application.) -/
theorem Tryd.stringslite_TrimSuffix (s p : ByteArray) (w : World) (hs : s.size ≤ 9223372036854775807) :
    Calls Tryd.prog 162 #[.string s, .string p] w fun e w' => e = .returned (.string ⟨(Lib.trimSuffix s.data.toList p.data.toList).toArray⟩) ∧ w' = w := Any.stringslite_TrimSuffix Tryd.lays209 s p w hs
def Tryd.lays102_ren : Go.Shelf.Ren := ⟨fun | 102 => 127 | 209 => 162 | 207 => 171 | n => n, fun | 9 => 9 | 4 => 4 | 3 => 3 | n => n, fun | n => n⟩
theorem Tryd.lays102 : Go.Proofs.Lays.n102 Tryd.prog Tryd.lays102_ren := {
  mixed := by kernel_rfl
  f102 := Tryd.func127.trans (congrArg some (by kernel_rfl))
  f207 := Tryd.func171.trans (congrArg some (by kernel_rfl))
  f209 := Tryd.func162.trans (congrArg some (by kernel_rfl))
  t3 := Tryd.underlying3
  a3 := Tryd.isAgg3
  z3 := Tryd.sizeOf3
  v3 := Tryd.zeroValue3
  t4 := Tryd.underlying4
  a4 := Tryd.isAgg4
  z4 := Tryd.sizeOf4
  v4 := Tryd.zeroValue4
  t9 := Tryd.underlying9
  a9 := Tryd.isAgg9
  z9 := Tryd.sizeOf9
  v9 := Tryd.zeroValue9 }
open Go.RowKit Go.Lib in
/-- strings.TrimSuffix: "TrimSuffix returns s without the provided trailing suffix string. If s doesn't end with suffix, s is returned unchanged.": IT RETURNS 'Lib.trimSuffix s suffix'; the world is as it was. (LAID: no walk: one application.) -/
theorem Tryd.strings_TrimSuffix (s p : ByteArray) (w : World) (hs : s.size ≤ 9223372036854775807) :
    Calls Tryd.prog 127 #[.string s, .string p] w fun e w' => e = .returned (.string ⟨(Lib.trimSuffix s.data.toList p.data.toList).toArray⟩) ∧ w' = w := Any.strings_TrimSuffix Tryd.lays102 s p w hs
open Go.RowKit Go.Lib in
/-- strings.Count at whatever sep that is not empty: the two roads under one statement. (LAID: no walk: one application.) -/
theorem Tryd.strings_Count_any (s sep : ByteArray) (m : Int) (w : World) (hs : s.size < 4294967281) (hm : w.cell? ⟨1, 0, none⟩ = some (.int .i64 m)) (h1 : 1 ≤ sep.size) :
    Calls Tryd.prog 193 #[.string s, .string sep] w fun e w' => e = .returned (.int .i64 (Lib.countB s sep)) ∧ w' = w := Any.strings_Count_any Tryd.lays138 s sep m w hs hm h1
def Tryd.lays221_ren : Go.Shelf.Ren := ⟨fun | 221 => 170 | 268 => 192 | 138 => 193 | 143 => 194 | 195 => 209 | 197 => 189 | 218 => 210 | 219 => 211 | 260 => 206 | 217 => 219 | 225 => 218 | 224 => 217 | 267 => 220 | 266 => 223 | 314 => 224 | n => n, fun | 9 => 9 | 3 => 3 | 31 => 26 | 4 => 4 | 0 => 0 | 105 => 194 | 21 => 21 | 5 => 5 | 46 => 108 | 119 => 206 | 139 => 209 | 138 => 208 | 146 => 213 | 51 => 139 | n => n, fun | 1 => 1 | 3 => 2 | 4 => 3 | n => n⟩
theorem Tryd.lays221 : Go.Proofs.Lays.n221 Tryd.prog Tryd.lays221_ren := {
  mixed := by kernel_rfl
  f138 := Tryd.func193.trans (congrArg some (by kernel_rfl))
  f143 := Tryd.func194.trans (congrArg some (by kernel_rfl))
  f195 := Tryd.func209.trans (congrArg some (by kernel_rfl))
  f197 := Tryd.func189.trans (congrArg some (by kernel_rfl))
  f217 := Tryd.func219.trans (congrArg some (by kernel_rfl))
  f218 := Tryd.func210.trans (congrArg some (by kernel_rfl))
  f219 := Tryd.func211.trans (congrArg some (by kernel_rfl))
  f221 := Tryd.func170.trans (congrArg some (by kernel_rfl))
  f224 := Tryd.func217.trans (congrArg some (by kernel_rfl))
  f225 := Tryd.func218.trans (congrArg some (by kernel_rfl))
  f260 := Tryd.func206.trans (congrArg some (by kernel_rfl))
  f266 := Tryd.func223.trans (congrArg some (by kernel_rfl))
  f267 := Tryd.func220.trans (congrArg some (by kernel_rfl))
  f268 := Tryd.func192.trans (congrArg some (by kernel_rfl))
  f314 := Tryd.func224.trans (congrArg some (by kernel_rfl))
  t0 := Tryd.underlying0
  a0 := Tryd.isAgg0
  z0 := Tryd.sizeOf0
  v0 := Tryd.zeroValue0
  t3 := Tryd.underlying3
  a3 := Tryd.isAgg3
  z3 := Tryd.sizeOf3
  v3 := Tryd.zeroValue3
  t4 := Tryd.underlying4
  a4 := Tryd.isAgg4
  z4 := Tryd.sizeOf4
  v4 := Tryd.zeroValue4
  t5 := Tryd.underlying5
  a5 := Tryd.isAgg5
  z5 := Tryd.sizeOf5
  v5 := Tryd.zeroValue5
  t9 := Tryd.underlying9
  a9 := Tryd.isAgg9
  z9 := Tryd.sizeOf9
  v9 := Tryd.zeroValue9
  t21 := Tryd.underlying21
  a21 := Tryd.isAgg21
  z21 := Tryd.sizeOf21
  v21 := Tryd.zeroValue21
  t31 := Tryd.underlying26
  a31 := Tryd.isAgg26
  z31 := Tryd.sizeOf26
  v31 := Tryd.zeroValue26
  t46 := Tryd.underlying108
  a46 := Tryd.isAgg108
  z46 := Tryd.sizeOf108
  v46 := Tryd.zeroValue108
  t51 := Tryd.underlying139
  a51 := Tryd.isAgg139
  z51 := Tryd.sizeOf139
  v51 := Tryd.zeroValue139
  t105 := Tryd.underlying194
  a105 := Tryd.isAgg194
  z105 := Tryd.sizeOf194
  v105 := Tryd.zeroValue194
  t119 := Tryd.underlying206
  a119 := Tryd.isAgg206
  z119 := Tryd.sizeOf206
  t138 := Tryd.underlying208
  a138 := Tryd.isAgg208
  z138 := Tryd.sizeOf208
  v138 := Tryd.zeroValue208
  t139 := Tryd.underlying209
  a139 := Tryd.isAgg209
  z139 := Tryd.sizeOf209
  v139 := Tryd.zeroValue209
  t146 := Tryd.underlying213
  a146 := Tryd.isAgg213
  z146 := Tryd.sizeOf213
  v146 := Tryd.zeroValue213
  g1 := by kernel_rfl
  g3 := by kernel_rfl
  g4 := by kernel_rfl }
open Go.RowKit Go.Lib in
theorem Tryd.strings_genSplit (s sep : ByteArray) (sv : Nat) (n : Int) (N : Nat) (m : Int) (w : World) (hs : s.size < 4294967281) (hm : w.cell? ⟨1, 0, none⟩ = some (.int .i64 m)) (h1 : 1 ≤ sep.size) (hsv : sv ≤ sep.size) (hn0 : n ≠ 0) (hn63 : n ≤ 9223372036854775807) (hN : (N : Int) = min (if n < 0 then (Lib.countB s sep : Int) + 1 else n) ((s.size : Int) + 1)) :
    Calls Tryd.prog 170 #[.string s, .string sep, .int .i64 sv, .int .i64 n] w fun e w' =>
      e = .returned (.slice (some ⟨w.heap.size, 0, none⟩) (Lib.splitB sep sv (N - 1) s).length N) ∧ w' = w.alloc (.cells (Lib.cellsOf (Lib.splitB sep sv (N - 1) s) N) 9) := Any.strings_genSplit Tryd.lays221 (by kernel_rfl) s sep sv n N m w hs hm h1 hsv hn0 hn63 hN
def Tryd.lays146_ren : Go.Shelf.Ren := ⟨fun | 146 => 131 | 221 => 170 | 268 => 192 | 138 => 193 | 143 => 194 | 195 => 209 | 197 => 189 | 218 => 210 | 219 => 211 | 260 => 206 | 217 => 219 | 225 => 218 | 224 => 217 | 267 => 220 | 266 => 223 | 314 => 224 | n => n, fun | 9 => 9 | 31 => 26 | 3 => 3 | 4 => 4 | 0 => 0 | 105 => 194 | 21 => 21 | 5 => 5 | 46 => 108 | 119 => 206 | 139 => 209 | 138 => 208 | 146 => 213 | 51 => 139 | n => n, fun | 1 => 1 | 3 => 2 | 4 => 3 | n => n⟩
theorem Tryd.lays146 : Go.Proofs.Lays.n146 Tryd.prog Tryd.lays146_ren := {
  mixed := by kernel_rfl
  f138 := Tryd.func193.trans (congrArg some (by kernel_rfl))
  f143 := Tryd.func194.trans (congrArg some (by kernel_rfl))
  f146 := Tryd.func131.trans (congrArg some (by kernel_rfl))
  f195 := Tryd.func209.trans (congrArg some (by kernel_rfl))
  f197 := Tryd.func189.trans (congrArg some (by kernel_rfl))
  f217 := Tryd.func219.trans (congrArg some (by kernel_rfl))
  f218 := Tryd.func210.trans (congrArg some (by kernel_rfl))
  f219 := Tryd.func211.trans (congrArg some (by kernel_rfl))
  f221 := Tryd.func170.trans (congrArg some (by kernel_rfl))
  f224 := Tryd.func217.trans (congrArg some (by kernel_rfl))
  f225 := Tryd.func218.trans (congrArg some (by kernel_rfl))
  f260 := Tryd.func206.trans (congrArg some (by kernel_rfl))
  f266 := Tryd.func223.trans (congrArg some (by kernel_rfl))
  f267 := Tryd.func220.trans (congrArg some (by kernel_rfl))
  f268 := Tryd.func192.trans (congrArg some (by kernel_rfl))
  f314 := Tryd.func224.trans (congrArg some (by kernel_rfl))
  t0 := Tryd.underlying0
  a0 := Tryd.isAgg0
  z0 := Tryd.sizeOf0
  v0 := Tryd.zeroValue0
  t3 := Tryd.underlying3
  a3 := Tryd.isAgg3
  z3 := Tryd.sizeOf3
  v3 := Tryd.zeroValue3
  t4 := Tryd.underlying4
  a4 := Tryd.isAgg4
  z4 := Tryd.sizeOf4
  v4 := Tryd.zeroValue4
  t5 := Tryd.underlying5
  a5 := Tryd.isAgg5
  z5 := Tryd.sizeOf5
  v5 := Tryd.zeroValue5
  t9 := Tryd.underlying9
  a9 := Tryd.isAgg9
  z9 := Tryd.sizeOf9
  v9 := Tryd.zeroValue9
  t21 := Tryd.underlying21
  a21 := Tryd.isAgg21
  z21 := Tryd.sizeOf21
  v21 := Tryd.zeroValue21
  t31 := Tryd.underlying26
  a31 := Tryd.isAgg26
  z31 := Tryd.sizeOf26
  v31 := Tryd.zeroValue26
  t46 := Tryd.underlying108
  a46 := Tryd.isAgg108
  z46 := Tryd.sizeOf108
  v46 := Tryd.zeroValue108
  t51 := Tryd.underlying139
  a51 := Tryd.isAgg139
  z51 := Tryd.sizeOf139
  v51 := Tryd.zeroValue139
  t105 := Tryd.underlying194
  a105 := Tryd.isAgg194
  z105 := Tryd.sizeOf194
  v105 := Tryd.zeroValue194
  t119 := Tryd.underlying206
  a119 := Tryd.isAgg206
  z119 := Tryd.sizeOf206
  t138 := Tryd.underlying208
  a138 := Tryd.isAgg208
  z138 := Tryd.sizeOf208
  v138 := Tryd.zeroValue208
  t139 := Tryd.underlying209
  a139 := Tryd.isAgg209
  z139 := Tryd.sizeOf209
  v139 := Tryd.zeroValue209
  t146 := Tryd.underlying213
  a146 := Tryd.isAgg213
  z146 := Tryd.sizeOf213
  v146 := Tryd.zeroValue213
  g1 := by kernel_rfl
  g3 := by kernel_rfl
  g4 := by kernel_rfl }
open Go.RowKit Go.Lib in
/-- strings.Split. (LAID: no walk: one application.) -/
theorem Tryd.strings_Split (s sep : ByteArray) (m : Int) (w : World) (hs : s.size < 4294967281) (hm : w.cell? ⟨1, 0, none⟩ = some (.int .i64 m)) (h1 : 1 ≤ sep.size) :
    Calls Tryd.prog 131 #[.string s, .string sep] w fun e w' =>
      e = .returned (.slice (some ⟨w.heap.size, 0, none⟩) (Lib.countB s sep + 1) (Lib.countB s sep + 1)) ∧ w' = w.alloc (.cells ((Lib.splitB sep 0 (Lib.countB s sep) s).map Value.string).toArray 9) := Any.strings_Split Tryd.lays146 (by kernel_rfl) s sep m w hs hm h1
def Tryd.laysM146_ren : Go.Shelf.Ren := ⟨fun | 146 => 131 | 221 => 170 | 268 => 192 | 138 => 193 | 143 => 194 | 195 => 209 | 197 => 189 | 218 => 210 | 219 => 211 | 260 => 206 | 217 => 219 | 225 => 218 | 224 => 217 | 267 => 220 | 266 => 223 | 314 => 224 | n => n, fun | 9 => 9 | 31 => 26 | 3 => 3 | 4 => 4 | 0 => 0 | 105 => 194 | 21 => 21 | 5 => 5 | 46 => 108 | 119 => 206 | 139 => 209 | 138 => 208 | 146 => 213 | 51 => 139 | n => n, fun | 1 => 1 | 3 => 2 | 4 => 3 | n => n⟩
theorem Tryd.laysM146 : Go.Proofs.LaysM.n146 Tryd.prog Tryd.laysM146_ren := {
  mixed := by kernel_rfl
  f138 := Tryd.func193.trans (congrArg some (by kernel_rfl))
  f143 := Tryd.func194.trans (congrArg some (by kernel_rfl))
  f146 := Tryd.func131.trans (congrArg some (by kernel_rfl))
  f195 := Tryd.func209.trans (congrArg some (by kernel_rfl))
  f197 := Tryd.func189.trans (congrArg some (by kernel_rfl))
  f217 := Tryd.func219.trans (congrArg some (by kernel_rfl))
  f218 := Tryd.func210.trans (congrArg some (by kernel_rfl))
  f219 := Tryd.func211.trans (congrArg some (by kernel_rfl))
  f221 := Tryd.func170.trans (congrArg some (by kernel_rfl))
  f224 := Tryd.func217.trans (congrArg some (by kernel_rfl))
  f225 := Tryd.func218.trans (congrArg some (by kernel_rfl))
  f260 := Tryd.func206.trans (congrArg some (by kernel_rfl))
  f266 := Tryd.func223.trans (congrArg some (by kernel_rfl))
  f267 := Tryd.func220.trans (congrArg some (by kernel_rfl))
  f268 := Tryd.func192.trans (congrArg some (by kernel_rfl))
  f314 := Tryd.func224.trans (congrArg some (by kernel_rfl))
  t0 := Tryd.underlying0
  a0 := Tryd.isAgg0
  z0 := Tryd.sizeOf0
  v0 := Tryd.zeroValue0
  t3 := Tryd.underlying3
  a3 := Tryd.isAgg3
  z3 := Tryd.sizeOf3
  v3 := Tryd.zeroValue3
  t4 := Tryd.underlying4
  a4 := Tryd.isAgg4
  z4 := Tryd.sizeOf4
  v4 := Tryd.zeroValue4
  t5 := Tryd.underlying5
  a5 := Tryd.isAgg5
  z5 := Tryd.sizeOf5
  v5 := Tryd.zeroValue5
  t9 := Tryd.underlying9
  a9 := Tryd.isAgg9
  z9 := Tryd.sizeOf9
  v9 := Tryd.zeroValue9
  t21 := Tryd.underlying21
  a21 := Tryd.isAgg21
  z21 := Tryd.sizeOf21
  v21 := Tryd.zeroValue21
  t31 := Tryd.underlying26
  a31 := Tryd.isAgg26
  z31 := Tryd.sizeOf26
  v31 := Tryd.zeroValue26
  t46 := Tryd.underlying108
  a46 := Tryd.isAgg108
  z46 := Tryd.sizeOf108
  v46 := Tryd.zeroValue108
  t51 := Tryd.underlying139
  a51 := Tryd.isAgg139
  z51 := Tryd.sizeOf139
  v51 := Tryd.zeroValue139
  t105 := Tryd.underlying194
  a105 := Tryd.isAgg194
  z105 := Tryd.sizeOf194
  v105 := Tryd.zeroValue194
  t119 := Tryd.underlying206
  a119 := Tryd.isAgg206
  z119 := Tryd.sizeOf206
  t138 := Tryd.underlying208
  a138 := Tryd.isAgg208
  z138 := Tryd.sizeOf208
  v138 := Tryd.zeroValue208
  t139 := Tryd.underlying209
  a139 := Tryd.isAgg209
  z139 := Tryd.sizeOf209
  v139 := Tryd.zeroValue209
  t146 := Tryd.underlying213
  a146 := Tryd.isAgg213
  z146 := Tryd.sizeOf213
  v146 := Tryd.zeroValue213
  g1 := by kernel_rfl
  g3 := by kernel_rfl
  g4 := by kernel_rfl
  i0 := by kernel_rfl
  i3 := by kernel_rfl
  i4 := by kernel_rfl
  i5 := by kernel_rfl
  i9 := by kernel_rfl
  i21 := by kernel_rfl
  i31 := by kernel_rfl
  i46 := by kernel_rfl
  i51 := by kernel_rfl
  i105 := by kernel_rfl
  i138 := by kernel_rfl
  i139 := by kernel_rfl
  i146 := by kernel_rfl
  m1 := by kernel_rfl
  s1_3 := fun w h => Go.Proofs.cell_of_shapedOpen_int (zero := #[.int .i64 0]) (t := 3) h (of_decide_eq_true (by kernel_rfl)) (by kernel_rfl) rfl (by kernel_rfl) (by kernel_rfl) Tryd.underlying3
  m3 := by kernel_rfl
  m4 := by kernel_rfl }
open Go.RowKit Go.Lib in
/-- strings.Split, sep not empty. (LAID: no walk: one application.) -/
theorem Tryd.strings_Split_shaped (s sep : ByteArray) (w : World) (h : w.ShapedOpen Tryd.prog) (hs : s.size < 4294967281) (h1 : 1 ≤ sep.size) :
    Calls Tryd.prog 131 #[.string s, .string sep] w fun e w' =>
      e = .returned (.slice (some ⟨w.heap.size, 0, none⟩) (Lib.countB s sep + 1) (Lib.countB s sep + 1)) ∧ w' = w.alloc (.cells ((Lib.splitB sep 0 (Lib.countB s sep) s).map Value.string).toArray 9) := Any.strings_Split_shaped Tryd.laysM146 s sep w h hs h1
def Tryd.lays152_ren : Go.Shelf.Ren := ⟨fun | 152 => 207 | 137 => 215 | 119 => 216 | 224 => 217 | 225 => 218 | 217 => 219 | 266 => 223 | n => n, fun | 9 => 9 | 21 => 21 | 3 => 3 | 4 => 4 | 5 => 5 | 0 => 0 | 46 => 108 | n => n, fun | n => n⟩
theorem Tryd.lays152 : Go.Proofs.Lays.n152 Tryd.prog Tryd.lays152_ren := {
  mixed := by kernel_rfl
  f119 := Tryd.func216.trans (congrArg some (by kernel_rfl))
  f137 := Tryd.func215.trans (congrArg some (by kernel_rfl))
  f152 := Tryd.func207.trans (congrArg some (by kernel_rfl))
  f217 := Tryd.func219.trans (congrArg some (by kernel_rfl))
  f224 := Tryd.func217.trans (congrArg some (by kernel_rfl))
  f225 := Tryd.func218.trans (congrArg some (by kernel_rfl))
  f266 := Tryd.func223.trans (congrArg some (by kernel_rfl))
  t0 := Tryd.underlying0
  a0 := Tryd.isAgg0
  z0 := Tryd.sizeOf0
  v0 := Tryd.zeroValue0
  t3 := Tryd.underlying3
  a3 := Tryd.isAgg3
  z3 := Tryd.sizeOf3
  v3 := Tryd.zeroValue3
  t4 := Tryd.underlying4
  a4 := Tryd.isAgg4
  z4 := Tryd.sizeOf4
  v4 := Tryd.zeroValue4
  t5 := Tryd.underlying5
  a5 := Tryd.isAgg5
  z5 := Tryd.sizeOf5
  v5 := Tryd.zeroValue5
  t9 := Tryd.underlying9
  a9 := Tryd.isAgg9
  z9 := Tryd.sizeOf9
  v9 := Tryd.zeroValue9
  t21 := Tryd.underlying21
  a21 := Tryd.isAgg21
  z21 := Tryd.sizeOf21
  v21 := Tryd.zeroValue21
  t46 := Tryd.underlying108
  a46 := Tryd.isAgg108
  z46 := Tryd.sizeOf108
  v46 := Tryd.zeroValue108 }
open Go.RowKit Go.Lib in
theorem Tryd.strings_IndexRune_ascii (s : ByteArray) (r : Int) (w : World) (h0 : 0 ≤ r) (h1 : r < 128) :
    Calls Tryd.prog 207 #[.string s, .int .i32 r] w fun e w' => e = .returned (.int .i64 (Lib.indexByte s.data.toList r.toNat.toUInt8)) ∧ w' = w := Any.strings_IndexRune_ascii Tryd.lays152 s r w h0 h1
def Tryd.lays151_ren : Go.Shelf.Ren := ⟨fun | 151 => 190 | 152 => 207 | 137 => 215 | 119 => 216 | 224 => 217 | 225 => 218 | 217 => 219 | 266 => 223 | n => n, fun | 9 => 9 | 21 => 21 | 4 => 4 | 3 => 3 | 5 => 5 | 0 => 0 | 46 => 108 | n => n, fun | n => n⟩
theorem Tryd.lays151 : Go.Proofs.Lays.n151 Tryd.prog Tryd.lays151_ren := {
  mixed := by kernel_rfl
  f119 := Tryd.func216.trans (congrArg some (by kernel_rfl))
  f137 := Tryd.func215.trans (congrArg some (by kernel_rfl))
  f151 := Tryd.func190.trans (congrArg some (by kernel_rfl))
  f152 := Tryd.func207.trans (congrArg some (by kernel_rfl))
  f217 := Tryd.func219.trans (congrArg some (by kernel_rfl))
  f224 := Tryd.func217.trans (congrArg some (by kernel_rfl))
  f225 := Tryd.func218.trans (congrArg some (by kernel_rfl))
  f266 := Tryd.func223.trans (congrArg some (by kernel_rfl))
  t0 := Tryd.underlying0
  a0 := Tryd.isAgg0
  z0 := Tryd.sizeOf0
  v0 := Tryd.zeroValue0
  t3 := Tryd.underlying3
  a3 := Tryd.isAgg3
  z3 := Tryd.sizeOf3
  v3 := Tryd.zeroValue3
  t4 := Tryd.underlying4
  a4 := Tryd.isAgg4
  z4 := Tryd.sizeOf4
  v4 := Tryd.zeroValue4
  t5 := Tryd.underlying5
  a5 := Tryd.isAgg5
  z5 := Tryd.sizeOf5
  v5 := Tryd.zeroValue5
  t9 := Tryd.underlying9
  a9 := Tryd.isAgg9
  z9 := Tryd.sizeOf9
  v9 := Tryd.zeroValue9
  t21 := Tryd.underlying21
  a21 := Tryd.isAgg21
  z21 := Tryd.sizeOf21
  v21 := Tryd.zeroValue21
  t46 := Tryd.underlying108
  a46 := Tryd.isAgg108
  z46 := Tryd.sizeOf108
  v46 := Tryd.zeroValue108 }
open Go.RowKit Go.Lib in
theorem Tryd.strings_ContainsRune_ascii (s : ByteArray) (r : Int) (w : World) (h0 : 0 ≤ r) (h1 : r < 128) :
    Calls Tryd.prog 190 #[.string s, .int .i32 r] w fun e w' => e = .returned (.bool (decide (0 ≤ Lib.indexByte s.data.toList r.toNat.toUInt8))) ∧ w' = w := Any.strings_ContainsRune_ascii Tryd.lays151 s r w h0 h1
def Tryd.lays227_ren : Go.Shelf.Ren := ⟨fun | 227 => 165 | n => n, fun | 9 => 9 | 116 => 173 | 4 => 4 | 0 => 0 | 3 => 3 | 5 => 5 | n => n, fun | n => n⟩
theorem Tryd.lays227 : Go.Proofs.Lays.n227 Tryd.prog Tryd.lays227_ren := {
  mixed := by kernel_rfl
  f227 := Tryd.func165.trans (congrArg some (by kernel_rfl))
  t0 := Tryd.underlying0
  a0 := Tryd.isAgg0
  z0 := Tryd.sizeOf0
  v0 := Tryd.zeroValue0
  t3 := Tryd.underlying3
  a3 := Tryd.isAgg3
  z3 := Tryd.sizeOf3
  v3 := Tryd.zeroValue3
  t4 := Tryd.underlying4
  a4 := Tryd.isAgg4
  z4 := Tryd.sizeOf4
  v4 := Tryd.zeroValue4
  t5 := Tryd.underlying5
  a5 := Tryd.isAgg5
  z5 := Tryd.sizeOf5
  v5 := Tryd.zeroValue5
  t9 := Tryd.underlying9
  a9 := Tryd.isAgg9
  z9 := Tryd.sizeOf9
  v9 := Tryd.zeroValue9
  t116 := Tryd.underlying173
  a116 := Tryd.isAgg173
  z116 := Tryd.sizeOf173 }
open Go.RowKit Go.Lib in
theorem Tryd.strings_makeASCIISet (hv116 : ∀ w, (zeroValue 173).run Tryd.prog w = .ok (.agg (Array.replicate 256 (.bool false))) w) (chars : ByteArray) (w : World) (hs : chars.size < 4294967281) (hascii : ∀ (j : Nat) b, chars.data.toList[j]? = some b → b.toNat < 128) :
    Calls Tryd.prog 165 #[.string chars] w fun e w' => e = .returned (.tuple #[.agg (Lib.setCells chars.data.toList), .bool true]) ∧ w' = w.alloc (.cells (Lib.setCells chars.data.toList) 173) := Any.strings_makeASCIISet Tryd.lays227 hv116 (by kernel_rfl) chars w hs hascii
def Tryd.lays228_ren : Go.Shelf.Ren := ⟨fun | 228 => 188 | n => n, fun | 124 => 177 | 5 => 5 | 4 => 4 | 0 => 0 | 116 => 173 | n => n, fun | n => n⟩
theorem Tryd.lays228 : Go.Proofs.Lays.n228 Tryd.prog Tryd.lays228_ren := {
  mixed := by kernel_rfl
  f228 := Tryd.func188.trans (congrArg some (by kernel_rfl))
  t0 := Tryd.underlying0
  a0 := Tryd.isAgg0
  z0 := Tryd.sizeOf0
  v0 := Tryd.zeroValue0
  t4 := Tryd.underlying4
  a4 := Tryd.isAgg4
  z4 := Tryd.sizeOf4
  v4 := Tryd.zeroValue4
  t5 := Tryd.underlying5
  a5 := Tryd.isAgg5
  z5 := Tryd.sizeOf5
  v5 := Tryd.zeroValue5
  t116 := Tryd.underlying173
  a116 := Tryd.isAgg173
  z116 := Tryd.sizeOf173
  t124 := Tryd.underlying177
  a124 := Tryd.isAgg177
  z124 := Tryd.sizeOf177
  v124 := Tryd.zeroValue177 }
open Go.RowKit Go.Lib in
/-- '(as *asciiSet) contains(c)': 'as[c]': the set lies at block b, whole. (LAID: no walk: one application.) -/
theorem Tryd.asciiSet_contains (b : Nat) (x : UInt8) (v : Bool) (w : World) (hc : w.cell? ⟨b, x.toNat, none⟩ = some (.bool v)) :
    Calls Tryd.prog 188 #[.pointer (some ⟨b, 0, none⟩), .int .u8 x.toNat] w fun e w' => e = .returned (.bool v) ∧ w' = w := Any.asciiSet_contains Tryd.lays228 b x v w hc
def Tryd.lays260_ren : Go.Shelf.Ren := ⟨fun | 260 => 206 | n => n, fun | 9 => 9 | 21 => 21 | 3 => 3 | 4 => 4 | 5 => 5 | 119 => 206 | 0 => 0 | 46 => 108 | 139 => 209 | 138 => 208 | n => n, fun | 3 => 2 | 4 => 3 | n => n⟩
theorem Tryd.lays260 : Go.Proofs.Lays.n260 Tryd.prog Tryd.lays260_ren := {
  mixed := by kernel_rfl
  f260 := Tryd.func206.trans (congrArg some (by kernel_rfl))
  t0 := Tryd.underlying0
  a0 := Tryd.isAgg0
  z0 := Tryd.sizeOf0
  v0 := Tryd.zeroValue0
  t3 := Tryd.underlying3
  a3 := Tryd.isAgg3
  z3 := Tryd.sizeOf3
  v3 := Tryd.zeroValue3
  t4 := Tryd.underlying4
  a4 := Tryd.isAgg4
  z4 := Tryd.sizeOf4
  v4 := Tryd.zeroValue4
  t5 := Tryd.underlying5
  a5 := Tryd.isAgg5
  z5 := Tryd.sizeOf5
  v5 := Tryd.zeroValue5
  t9 := Tryd.underlying9
  a9 := Tryd.isAgg9
  z9 := Tryd.sizeOf9
  v9 := Tryd.zeroValue9
  t21 := Tryd.underlying21
  a21 := Tryd.isAgg21
  z21 := Tryd.sizeOf21
  v21 := Tryd.zeroValue21
  t46 := Tryd.underlying108
  a46 := Tryd.isAgg108
  z46 := Tryd.sizeOf108
  v46 := Tryd.zeroValue108
  t119 := Tryd.underlying206
  a119 := Tryd.isAgg206
  z119 := Tryd.sizeOf206
  t138 := Tryd.underlying208
  a138 := Tryd.isAgg208
  z138 := Tryd.sizeOf208
  v138 := Tryd.zeroValue208
  t139 := Tryd.underlying209
  a139 := Tryd.isAgg209
  z139 := Tryd.sizeOf209
  v139 := Tryd.zeroValue209
  g3 := by kernel_rfl
  g4 := by kernel_rfl }
open Go.RowKit Go.Lib in
theorem Tryd.utf8_decodeRuneInStringSlow (s : ByteArray) (w : World) (hT : Lib.Utf8Tabs 2 3 w) :
    Calls Tryd.prog 206 #[.string s] w fun e w' => e = .returned (.tuple #[.int .i32 (Lib.decodeGo s).1, .int .i64 (Lib.decodeGo s).2]) ∧ Below w.heap.size w w' := Any.utf8_decodeRuneInStringSlow Tryd.lays260 s w hT
def Tryd.lays109_ren : Go.Shelf.Ren := ⟨fun | 109 => 186 | n => n, fun | 31 => 26 | 9 => 9 | 3 => 3 | 0 => 0 | 4 => 4 | n => n, fun | n => n⟩
theorem Tryd.lays109 : Go.Proofs.Lays.n109 Tryd.prog Tryd.lays109_ren := {
  mixed := by kernel_rfl
  f109 := Tryd.func186.trans (congrArg some (by kernel_rfl))
  t0 := Tryd.underlying0
  a0 := Tryd.isAgg0
  z0 := Tryd.sizeOf0
  v0 := Tryd.zeroValue0
  t3 := Tryd.underlying3
  a3 := Tryd.isAgg3
  z3 := Tryd.sizeOf3
  v3 := Tryd.zeroValue3
  t4 := Tryd.underlying4
  a4 := Tryd.isAgg4
  z4 := Tryd.sizeOf4
  v4 := Tryd.zeroValue4
  t9 := Tryd.underlying9
  a9 := Tryd.isAgg9
  z9 := Tryd.sizeOf9
  v9 := Tryd.zeroValue9
  t31 := Tryd.underlying26
  a31 := Tryd.isAgg26
  z31 := Tryd.sizeOf26
  v31 := Tryd.zeroValue26 }
open Go.Lib in
/-- slices.Index at []string: "Index returns the index of the first occurrence of v in s, or -1 if not present.": IT RETURNS 'Lib.idxOfS (the elements) v'; the world is as it was. 'zs': what the cells behind the slice's address hold (its spare capacity too, if you have it); 'zs.take n': its elements. (LAID: no walk: one application.) -/
theorem Tryd.slices_Index_string (b off n c : Nat) (zs : List ByteArray) (x : ByteArray) (w : World) (hz : n ≤ zs.length) (hbig : n ≤ 9223372036854775807) (hc : ∀ j, j < zs.length → w.cell? ⟨b, off + j, none⟩ = some (.string (zs.getD j ByteArray.empty))) :
    Calls Tryd.prog 186 #[.slice (some ⟨b, off, none⟩) n c, .string x] w fun e w' => e = .returned (.int .i64 (Lib.idxOfS (zs.take n) x)) ∧ w' = w := Any.slices_Index_string Tryd.lays109 b off n c zs x w hz hbig hc
open Go.Lib in
/-- The same at a slice of length 0, a nil one too: no cell is known, none is asked for. (LAID: no walk: one application.) -/
theorem Tryd.slices_Index_string_empty (a : Option Addr) (c : Nat) (x : ByteArray) (w : World) :
    Calls Tryd.prog 186 #[.slice a 0 c, .string x] w fun e w' => e = .returned (.int .i64 (Lib.idxOfS [] x)) ∧ w' = w := Any.slices_Index_string_empty Tryd.lays109 a c x w
def Tryd.lays110_ren : Go.Shelf.Ren := ⟨fun | 110 => 154 | 109 => 186 | n => n, fun | 31 => 26 | 9 => 9 | 4 => 4 | 3 => 3 | 0 => 0 | n => n, fun | n => n⟩
theorem Tryd.lays110 : Go.Proofs.Lays.n110 Tryd.prog Tryd.lays110_ren := {
  mixed := by kernel_rfl
  f109 := Tryd.func186.trans (congrArg some (by kernel_rfl))
  f110 := Tryd.func154.trans (congrArg some (by kernel_rfl))
  t0 := Tryd.underlying0
  a0 := Tryd.isAgg0
  z0 := Tryd.sizeOf0
  v0 := Tryd.zeroValue0
  t3 := Tryd.underlying3
  a3 := Tryd.isAgg3
  z3 := Tryd.sizeOf3
  v3 := Tryd.zeroValue3
  t4 := Tryd.underlying4
  a4 := Tryd.isAgg4
  z4 := Tryd.sizeOf4
  v4 := Tryd.zeroValue4
  t9 := Tryd.underlying9
  a9 := Tryd.isAgg9
  z9 := Tryd.sizeOf9
  v9 := Tryd.zeroValue9
  t31 := Tryd.underlying26
  a31 := Tryd.isAgg26
  z31 := Tryd.sizeOf26
  v31 := Tryd.zeroValue26 }
open Go.Lib in
/-- slices.Contains at []string: "Contains reports whether v is present in s.": IT RETURNS 'Lib.containsS (the elements) v', which is true just where v is among them ('Lib.containsS_iff'); the world is as it was. ITS CALLEE slices.Index IS MET BY ITS OWN CONTRACT OFF THE SHELF (lay that first): no loop is walked here. (LAID: no walk: one application.) -/
theorem Tryd.slices_Contains_string (b off n c : Nat) (zs : List ByteArray) (x : ByteArray) (w : World) (hz : n ≤ zs.length) (hbig : n ≤ 9223372036854775807) (hc : ∀ j, j < zs.length → w.cell? ⟨b, off + j, none⟩ = some (.string (zs.getD j ByteArray.empty))) :
    Calls Tryd.prog 154 #[.slice (some ⟨b, off, none⟩) n c, .string x] w fun e w' => e = .returned (.bool (Lib.containsS (zs.take n) x)) ∧ w' = w := Any.slices_Contains_string Tryd.lays110 b off n c zs x w hz hbig hc
open Go.Lib in
/-- The same at a slice of length 0, a nil one too. (LAID: no walk: one application.) -/
theorem Tryd.slices_Contains_string_empty (a : Option Addr) (c : Nat) (x : ByteArray) (w : World) :
    Calls Tryd.prog 154 #[.slice a 0 c, .string x] w fun e w' => e = .returned (.bool false) ∧ w' = w := Any.slices_Contains_string_empty Tryd.lays110 a c x w
def Tryd.laysNm216_ren : Go.Shelf.Ren := ⟨fun | 16 => 88 | n => n, fun | 24 => 26 | 9 => 9 | 4 => 4 | n => n, fun | n => n⟩
theorem Tryd.laysNm216 : Go.Proofs.Lays2.n16 Tryd.prog Tryd.laysNm216_ren := {
  mixed := by kernel_rfl
  f16 := Tryd.func88.trans (congrArg some (by kernel_rfl))
  t4 := Tryd.underlying4
  a4 := Tryd.isAgg4
  z4 := Tryd.sizeOf4
  v4 := Tryd.zeroValue4
  t9 := Tryd.underlying9
  a9 := Tryd.isAgg9
  z9 := Tryd.sizeOf9
  v9 := Tryd.zeroValue9
  t24 := Tryd.underlying26
  a24 := Tryd.isAgg26
  z24 := Tryd.sizeOf26
  v24 := Tryd.zeroValue26
  i9 := by kernel_rfl }
open Go.RowKit Go.Lib in
/-- slices.Clone at []string: "Clone returns a copy of the slice. The elements are copied using assignment, so this is a shallow clone. The result may have additional unused capacity. The result preserves the nilness of s.": OF A SLICE THAT IS NOT nil IT RETURNS A SLICE THAT IS NOT nil, OF THE SAME ELEMENTS, IN MEMORY OF THE CALL's OWN: in the how-to's words (6f): 'w'.ownsRow B e 1 v' n cells': v' begins at the head of a row among the blocks from B on (B: the heap's size at the call), not frozen, whose first cells are the elements · 'Below B w w'': below B all is as it was. The capacity is whatever the run-time gives. 'zs': what the cells behind the slice's address hold; 'zs.take n': its elements. (LAID: no walk: one application.) -/
theorem Tryd.slices_Clone_string (b off n c : Nat) (zs : List ByteArray) (w : World) (hz : n ≤ zs.length) (hbig : n * 16 ≤ 140737488355328) (hc : ∀ j, j < zs.length → w.cell? ⟨b, off + j, none⟩ = some (.string (zs.getD j ByteArray.empty))) :
    Calls Tryd.prog 88 #[.slice (some ⟨b, off, none⟩) n c] w fun e w' => ∃ v', e = .returned v' ∧ w'.ownsRow w.heap.size 9 1 v' n ((zs.take n).map (Value.string)) ∧ v' ≠ .slice none 0 0 ∧ Below w.heap.size w w' := Any.slices_Clone_string Tryd.laysNm216 b off n c zs w hz hbig hc
open Go.RowKit Go.Lib in
/-- The same at nil: nil comes back; the world is as it was. (LAID: no walk: one application.) -/
theorem Tryd.slices_Clone_string_nil (n c : Nat) (w : World) :
    Calls Tryd.prog 88 #[.slice none n c] w fun e w' => e = .returned (.slice none 0 0) ∧ w' = w := Any.slices_Clone_string_nil Tryd.laysNm216 n c w
open Go.RowKit Go.Lib in
/-- The same at a slice of length 0 that is not nil, WHATEVER ITS ADDRESS (no cell is asked for): a slice that is not nil and owns nothing comes back. (LAID: no walk: one application.) -/
theorem Tryd.slices_Clone_string_zero (a : Addr) (c : Nat) (w : World) :
    Calls Tryd.prog 88 #[.slice (some a) 0 c] w fun e w' => ∃ v', e = .returned v' ∧ w'.ownsRow w.heap.size 9 1 v' 0 [] ∧ v' ≠ .slice none 0 0 ∧ Below w.heap.size w w' := Any.slices_Clone_string_zero Tryd.laysNm216 a c w
def Tryd.lays194_ren : Go.Shelf.Ren := ⟨fun | 194 => 41 | n => n, fun | 31 => 26 | 9 => 9 | 3 => 3 | 4 => 4 | 0 => 0 | n => n, fun | n => n⟩
theorem Tryd.lays194 : Go.Proofs.Lays.n194 Tryd.prog Tryd.lays194_ren := {
  mixed := by kernel_rfl
  f194 := Tryd.func41.trans (congrArg some (by kernel_rfl))
  t0 := Tryd.underlying0
  a0 := Tryd.isAgg0
  z0 := Tryd.sizeOf0
  v0 := Tryd.zeroValue0
  t3 := Tryd.underlying3
  a3 := Tryd.isAgg3
  z3 := Tryd.sizeOf3
  v3 := Tryd.zeroValue3
  t4 := Tryd.underlying4
  a4 := Tryd.isAgg4
  z4 := Tryd.sizeOf4
  v4 := Tryd.zeroValue4
  t9 := Tryd.underlying9
  a9 := Tryd.isAgg9
  z9 := Tryd.sizeOf9
  v9 := Tryd.zeroValue9
  t31 := Tryd.underlying26
  a31 := Tryd.isAgg26
  z31 := Tryd.sizeOf26
  v31 := Tryd.zeroValue26 }
open Go.RowKit Go.Lib Go.Sort in
/-- slices.Compact at []string, over an array: the library's two loops are walked. (LAID: no walk: one application.) -/
theorem Tryd.slices_Compact_string_arr (blk off cap : Nat) (d : Array (List UInt8)) (w : World) (hH : Holds encStr w blk off d) (hsz : d.size ≤ 9223372036854775807) (hcap : d.size ≤ cap) :
    Calls Tryd.prog 41 #[.slice (some ⟨blk, off, none⟩) d.size cap] w fun e w' => e = .returned (.slice (some ⟨blk, off, none⟩) (compactUpTo d d.size).length cap) ∧ ∃ q, w' = putRow encStr (Sort.ahead w q) blk off (compactUpTo d d.size ++ List.replicate (d.size - (compactUpTo d d.size).length) []).toArray := Any.slices_Compact_string_arr Tryd.lays194 blk off cap d w hH hsz hcap
open Go.RowKit Go.Lib Go.Sort in
/-- slices.Compact at []string: "Compact replaces consecutive runs of equal elements with a single copy. This is like the uniq command found on Unix. Compact modifies the contents of the slice s and returns the modified slice, which may have a smaller length. Compact zeroes the elements between the new length and the original length. The result preserves the nilness of s.": IT RETURNS THE SLICE CUT TO 'Lib.compact zs'; ITS CELLS HOLD 'Lib.compact zs', THEN ZERO VALUES up to the old length; all else is as it was, but for the count of draws. IN THE WORDS OF slices.Sort's CONTRACT ('Holds', 'putRow'): so the everyday 'slices.Sort(xs); xs = slices.Compact(xs)' goes from the one contract to the other. It asks 'zs.length ≤ cap' (every slice's: the reslicing 's[:k]' looks at it). Length 0, nil: '.._empty'. (LAID: no walk: one application.) -/
theorem Tryd.slices_Compact_string (blk off cap : Nat) (zs : List (List UInt8)) (w : World) (hH : Holds encStr w blk off zs.toArray) (hsz : zs.length ≤ 9223372036854775807) (hcap : zs.length ≤ cap) :
    Calls Tryd.prog 41 #[.slice (some ⟨blk, off, none⟩) zs.length cap] w fun e w' => e = .returned (.slice (some ⟨blk, off, none⟩) (Lib.compact zs).length cap) ∧ ∃ q, w' = putRow encStr (Sort.ahead w q) blk off (Lib.compact zs ++ List.replicate (zs.length - (Lib.compact zs).length) []).toArray := Any.slices_Compact_string Tryd.lays194 blk off cap zs w hH hsz hcap
open Go.RowKit Go.Lib Go.Sort in
/-- The same at a slice of length 0, a nil one too: it comes back as it is. (LAID: no walk: one application.) -/
theorem Tryd.slices_Compact_string_empty (a : Option Addr) (cap : Nat) (w : World) :
    Calls Tryd.prog 41 #[.slice a 0 cap] w fun e w' => e = .returned (.slice a 0 cap) ∧ w' = w := Any.slices_Compact_string_empty Tryd.lays194 a cap w
open Go.RowKit Go.Lib Go.Sort in
/-- slices.Compact at []string, of an argument. (LAID: no walk: one application.) -/
theorem Tryd.slices_Compact_string_cells (b off n c : Nat) (Sx : Nat → ByteArray) (w : World) (hbig : n ≤ 9223372036854775807) (hcap : n ≤ c) (hc : ∀ i, i < n → w.cell? ⟨b, off + i, none⟩ = some (.string (Sx i))) (hf : ∀ j, j < n → w.frozen? ⟨b, off + j, none⟩ = false) :
    Calls Tryd.prog 41 #[.slice (some ⟨b, off, none⟩) n c] w fun e w' => e = .returned (.slice (some ⟨b, off, none⟩) (Lib.compact (Lib.strsOf Sx n)).length c) ∧ ∃ q, w' = (w.drewN q).setCells b off ((Lib.compact (Lib.strsOf Sx n) ++ List.replicate (n - (Lib.compact (Lib.strsOf Sx n)).length) []).map encStr) := Any.slices_Compact_string_cells Tryd.lays194 b off n c Sx w hbig hcap hc hf
open Go.RowKit Go.Sort in
/-- .. and plain. (LAID: no walk: one application.) -/
theorem Tryd.slices_Sort_string_none (p : Option Addr) (cap : Nat) (w : World) :
    Calls Tryd.prog 40 #[.slice p 0 cap] w fun e w' => e = .returned (.tuple #[]) ∧ w' = w := Any.slices_Sort_string_none Tryd.lays190 p cap w
end Go.Proofs
end
section
/- Library functions: their contracts, proved once for any program, as what a callee keeps to. By an AI agent's session. -/
namespace Go.Gx
open Go.RowKit Go.Lib
set_option linter.unusedVariables false
theorem ext_goes {P : Program} {f : FuncId} {fn : Func} {c : Code} (hf : P.funcs[f]? = some fn) (hb : fn.body = some c) (hname : (fn.name == "runtime.NumGoroutine") = false) {args : Array Value} {w : World} {R : Value → World → Prop}
    (h : Calls P f args w fun e w' => ∃ v, e = .returned v ∧ R v w') : Goes P f args w R := by
  have hcall : (callFunc f args).run P w = .ok (.enter f args) w := by
    have hn' : fn.name ≠ "runtime.NumGoroutine" := by simpa using hname
    simp [callFunc, hf, hn', hb]
  unfold Goes
  rw [hcall]
  exact h
theorem args_nil {S : Nat → Prop} {w : World} {pv : Nat → Value} {vs : List Value} (h : ArgsOk S w pv [] vs) : vs = [] := List.eq_nil_of_length_eq_zero h.1
theorem args_cons {S : Nat → Prop} {w : World} {pv : Nat → Value} {a : AV} {al : List AV} {vs : List Value} (h : ArgsOk S w pv (a :: al) vs) : ∃ cs vs', AR S w (fun _ => none) (fun _ => none) pv a cs ∧ vs = valOf a cs :: vs' ∧ ArgsOk S w pv al vs' := by
  match vs, h with
  | [], h => cases h.1
  | v :: vs', ⟨h1, h2⟩ =>
    obtain ⟨cs, hc, rfl⟩ := h2 0 a v rfl rfl
    exact ⟨cs, vs', hc, rfl, by simpa using h1, fun i b u hb hu => h2 (i + 1) b u (by simpa using hb) (by simpa using hu)⟩
theorem args_str {S : Nat → Prop} {w : World} {pv : Nat → Value} {s : ByteArray} {al : List AV} {vs : List Value} (h : ArgsOk S w pv (.t .str s :: al) vs) : ∃ vs', vs = .string s :: vs' ∧ ArgsOk S w pv al vs' := by
  obtain ⟨cs, vs', hc, rfl, h'⟩ := args_cons h
  cases hc with | t _ _ _ hc => cases hc; exact ⟨vs', rfl, h'⟩
theorem args_int {S : Nat → Prop} {w : World} {pv : Nat → Value} {k : IntKind} {n : Int} {al : List AV} {vs : List Value} (h : ArgsOk S w pv (.t (.int k) n :: al) vs) : ∃ vs', vs = .int k n :: vs' ∧ ArgsOk S w pv al vs' := by
  obtain ⟨cs, vs', hc, rfl, h'⟩ := args_cons h
  cases hc with | t _ _ _ hc => cases hc; exact ⟨vs', rfl, h'⟩
section
variable {P : Program} {E : Env} {pv : Nat → Value} {f : FuncId} {fn : Func} {c : Code}
/-- An answer that leads nowhere. -/
theorem ext_flat (hf : P.funcs[f]? = some fn) (hb : fn.body = some c) (hname : (fn.name == "runtime.NumGoroutine") = false) {args : List AV} {τ : Ty} {y : den τ} {v : Value} (hy : ∀ S w, ∃ cs, CR S w τ y cs ∧ v = valOf (.t τ y) cs)
    (h : ∀ S w vs, (∀ b, S b → b < w.heap.size) → GlOk E S w → ArgsOk S w pv args vs → Calls P f vs.toArray w fun e w' => e = .returned v ∧ Below w.heap.size w w') : Meets P E pv (.f f) args (.t τ y) := by
  intro S w vs hS hgl hargs
  refine ext_goes hf hb hname ((h S w vs hS hgl hargs).mono fun e w' ⟨he, hbl⟩ => ⟨v, he, hbl, S, fun b hb => hb, fun b hb => .inl hb, ?_⟩)
  obtain ⟨cs, hc, rfl⟩ := hy S w'
  exact ⟨none, .plain _ _ (.t _ _ _ hc)⟩
/-- New texts in a block of their own. -/
theorem ext_strs (hf : P.funcs[f]? = some fn) (hb : fn.body = some c) (hname : (fn.name == "runtime.NumGoroutine") = false) {args : List AV} {te : Nat} {xs : List ByteArray} (hx : xs.length ≤ maxLen)
    (h : ∀ S w vs, (∀ b, S b → b < w.heap.size) → GlOk E S w → ArgsOk S w pv args vs → Calls P f vs.toArray w fun e w' => e = .returned (.slice (some ⟨w.heap.size, 0, none⟩) xs.length xs.length) ∧ w' = w.alloc (.cells (xs.map Value.string).toArray te)) : Meets P E pv (.f f) args (.fr te .str xs) := by
  intro S w vs hS hgl hargs
  refine ext_goes hf hb hname ((h S w vs hS hgl hargs).mono fun e w' ⟨he, hw⟩ => ⟨_, he, ?_⟩)
  subst hw
  refine ⟨(Below.refl _ w).alloc (Nat.le_refl _) _, S, fun b hb => hb, fun b hb => .inl hb, some w.heap.size, .fr te .str xs w.heap.size xs.length (Nat.le_refl _) (fun hs => absurd (hS _ hs) (Nat.lt_irrefl _)) ⟨(xs.map Value.string).toArray, (0, 0), ?_, ?_, Nat.le_refl _, hx, fun _ => rfl, .inl (Nat.le_refl _), by decide, fun i hi => ⟨[.string xs[i]], .str _, fun j v hj => ?_⟩⟩⟩
  · show (w.heap.push _)[w.heap.size]? = _
    simp
  · simp [nc]
  · cases j with
    | zero =>
      simp only [List.getElem?_cons_zero, Option.some.injEq] at hj
      subst hj
      simp [nc, hi]
    | succ j => simp at hj
end
/-! ### The functions -/
def xContains (s sub : ByteArray) : Option Bool := bif Nat.ble s.size 4294967280 then some (Lib.contains s.data.toList sub.data.toList) else none
theorem ext_contains {P : Program} {E : Env} {pv : Nat → Value} {f : FuncId} {fn : Func} {c : Code} (hf : P.funcs[f]? = some fn) (hb : fn.body = some c) (hname : (fn.name == "runtime.NumGoroutine") = false) {mx : Nat} (hmx : E.gi mx = true)
    (hc : ∀ (s sub : ByteArray) (m : Int) (w : World), s.size < 4294967281 → w.cell? ⟨mx, 0, none⟩ = some (.int .i64 m) → Calls P f #[.string s, .string sub] w fun e w' => e = .returned (.bool (Lib.contains s.data.toList sub.data.toList)) ∧ w' = w)
    {s sub : ByteArray} {y : Bool} (h : xContains s sub = some y) : Meets P E pv (.f f) (tvals [.str, .str] (s, sub, ())) (.t .bool y) := by
  unfold xContains at h
  cases hs : Nat.ble s.size 4294967280 with
  | false => rw [hs] at h; cases h
  | true =>
    rw [hs] at h
    cases h
    refine ext_flat hf hb hname (v := .bool _) (fun S w => ⟨_, .bool _, rfl⟩) fun S w vs hS hgl ha => ?_
    obtain ⟨_, rfl, ha1⟩ := args_str ha
    obtain ⟨_, rfl, ha2⟩ := args_str ha1
    obtain rfl := args_nil ha2
    obtain ⟨_, m, hm⟩ := hgl.2 mx hmx
    refine (hc s sub m w (Nat.lt_succ_of_le (Nat.le_of_ble_eq_true hs)) hm).mono fun e w' ⟨he, hw⟩ => ⟨he, ?_⟩
    subst hw
    exact Below.refl _ _
def xSplit (s sep : ByteArray) : Option (List ByteArray) := bif Nat.ble s.size 4294967280 && Nat.ble 1 sep.size then some (Lib.splitB sep 0 (Lib.countB s sep) s) else none
theorem ext_split {P : Program} {E : Env} {pv : Nat → Value} {f : FuncId} {fn : Func} {c : Code} (hf : P.funcs[f]? = some fn) (hb : fn.body = some c) (hname : (fn.name == "runtime.NumGoroutine") = false) {mx : Nat} (hmx : E.gi mx = true) {te : Nat}
    (hc : ∀ (s sep : ByteArray) (m : Int) (w : World), s.size < 4294967281 → w.cell? ⟨mx, 0, none⟩ = some (.int .i64 m) → 1 ≤ sep.size → Calls P f #[.string s, .string sep] w fun e w' =>
      e = .returned (.slice (some ⟨w.heap.size, 0, none⟩) (Lib.countB s sep + 1) (Lib.countB s sep + 1)) ∧ w' = w.alloc (.cells ((Lib.splitB sep 0 (Lib.countB s sep) s).map Value.string).toArray te))
    {s sep : ByteArray} {y : List ByteArray} (h : xSplit s sep = some y) : Meets P E pv (.f f) (tvals [.str, .str] (s, sep, ())) (.fr te .str y) := by
  unfold xSplit at h
  cases hs : Nat.ble s.size 4294967280 && Nat.ble 1 sep.size with
  | false => rw [hs] at h; cases h
  | true =>
    rw [hs] at h
    cases h
    rw [Bool.and_eq_true] at hs
    have h1 := Nat.le_of_ble_eq_true hs.1
    have h2 := Nat.le_of_ble_eq_true hs.2
    have hl := Lib.splitB_all sep h2 0 _ s rfl
    have hle := Lib.countB_le sep h2 s.size s (Nat.le_refl _)
    have hm : maxLen = 9223372036854775807 := by decide
    refine ext_strs hf hb hname (by rw [hl, hm]; omega) fun S w vs hS hgl ha => ?_
    obtain ⟨_, rfl, ha1⟩ := args_str ha
    obtain ⟨_, rfl, ha2⟩ := args_str ha1
    obtain rfl := args_nil ha2
    obtain ⟨_, m, hm⟩ := hgl.2 mx hmx
    rw [hl]
    exact hc s sep m w (by omega) hm h2
def xRepeat (s : ByteArray) (n : Int) : Option ByteArray := bif decide (0 ≤ n) && (decide (n ≤ 9223372036854775807) && Nat.ble (s.size * n.toNat) 140737488355328) then some ⟨(Lib.repeatL s.data.toList n.toNat).toArray⟩ else none
theorem ext_repeat {P : Program} {E : Env} {pv : Nat → Value} {f : FuncId} {fn : Func} {c : Code} (hf : P.funcs[f]? = some fn) (hb : fn.body = some c) (hname : (fn.name == "runtime.NumGoroutine") = false)
    (hc : ∀ (s : ByteArray) (c : Nat) (w : World), c ≤ 9223372036854775807 → s.size * c ≤ 140737488355328 → Calls P f #[.string s, .int .i64 c] w fun e w' => e = .returned (.string ⟨(Lib.repeatL s.data.toList c).toArray⟩) ∧ Below w.heap.size w w')
    {s : ByteArray} {n : Int} {y : ByteArray} (h : xRepeat s n = some y) : Meets P E pv (.f f) (tvals [.str, .int .i64] (s, n, ())) (.t .str y) := by
  unfold xRepeat at h
  cases hs : decide (0 ≤ n) && (decide (n ≤ 9223372036854775807) && Nat.ble (s.size * n.toNat) 140737488355328) with
  | false => rw [hs] at h; cases h
  | true =>
    rw [hs] at h
    cases h
    simp only [Bool.and_eq_true, decide_eq_true_eq] at hs
    refine ext_flat hf hb hname (v := .string _) (fun S w => ⟨_, .str _, rfl⟩) fun S w vs hS hgl ha => ?_
    obtain ⟨_, rfl, ha1⟩ := args_str ha
    obtain ⟨_, rfl, ha2⟩ := args_int ha1
    obtain rfl := args_nil ha2
    have e : n = (n.toNat : Int) := by omega
    have := hc s n.toNat w (by omega) (Nat.le_of_ble_eq_true hs.2.2)
    rw [← e] at this
    exact this
def ascii (s : ByteArray) : Bool := s.data.toList.all fun b => decide (b.toNat < 128)
theorem ascii_at {s : ByteArray} (h : ascii s = true) : ∀ (j : Nat) b, s.data.toList[j]? = some b → b.toNat < 128 := fun j b hj => by
  unfold ascii at h
  rw [List.all_eq_true] at h
  exact of_decide_eq_true (h b (List.mem_of_getElem? hj))
def xTrim (s cs : ByteArray) : Option ByteArray := bif Nat.ble s.size 9223372036854775807 && (Nat.ble cs.size 4294967280 && ascii cs) then some ⟨(Lib.trimS s.data.toList cs.data.toList).toArray⟩ else none
theorem ext_trim {P : Program} {E : Env} {pv : Nat → Value} {f : FuncId} {fn : Func} {c : Code} (hf : P.funcs[f]? = some fn) (hb : fn.body = some c) (hname : (fn.name == "runtime.NumGoroutine") = false)
    (hc : ∀ (s cs : ByteArray) (w : World), s.size ≤ 9223372036854775807 → cs.size < 4294967281 → (∀ (j : Nat) b, cs.data.toList[j]? = some b → b.toNat < 128) → Calls P f #[.string s, .string cs] w fun e w' => e = .returned (.string ⟨(Lib.trimS s.data.toList cs.data.toList).toArray⟩) ∧ Below w.heap.size w w')
    {s cs : ByteArray} {y : ByteArray} (h : xTrim s cs = some y) : Meets P E pv (.f f) (tvals [.str, .str] (s, cs, ())) (.t .str y) := by
  unfold xTrim at h
  cases hs : Nat.ble s.size 9223372036854775807 && (Nat.ble cs.size 4294967280 && ascii cs) with
  | false => rw [hs] at h; cases h
  | true =>
    rw [hs] at h
    cases h
    simp only [Bool.and_eq_true] at hs
    refine ext_flat hf hb hname (v := .string _) (fun S w => ⟨_, .str _, rfl⟩) fun S w vs hS hgl ha => ?_
    obtain ⟨_, rfl, ha1⟩ := args_str ha
    obtain ⟨_, rfl, ha2⟩ := args_str ha1
    obtain rfl := args_nil ha2
    exact hc s cs w (Nat.le_of_ble_eq_true hs.1) (Nat.lt_succ_of_le (Nat.le_of_ble_eq_true hs.2.1)) (ascii_at hs.2.2)
def xIndexAny (s cs : ByteArray) : Option Int := bif Nat.ble s.size 4294967280 && (Nat.ble cs.size 4294967280 && (ascii s && ascii cs)) then some (Lib.indexAny s.data.toList cs.data.toList) else none
theorem ext_indexAny {P : Program} {E : Env} {pv : Nat → Value} {f : FuncId} {fn : Func} {c : Code} (hf : P.funcs[f]? = some fn) (hb : fn.body = some c) (hname : (fn.name == "runtime.NumGoroutine") = false)
    (hc : ∀ (s cs : ByteArray) (w : World), s.size < 4294967281 → cs.size < 4294967281 → (∀ (j : Nat) b, s.data.toList[j]? = some b → b.toNat < 128) → (∀ (j : Nat) b, cs.data.toList[j]? = some b → b.toNat < 128) → Calls P f #[.string s, .string cs] w fun e w' => e = .returned (.int .i64 (Lib.indexAny s.data.toList cs.data.toList)) ∧ Below w.heap.size w w')
    {s cs : ByteArray} {y : Int} (h : xIndexAny s cs = some y) : Meets P E pv (.f f) (tvals [.str, .str] (s, cs, ())) (.t (.int .i64) y) := by
  unfold xIndexAny at h
  cases hs : Nat.ble s.size 4294967280 && (Nat.ble cs.size 4294967280 && (ascii s && ascii cs)) with
  | false => rw [hs] at h; cases h
  | true =>
    rw [hs] at h
    cases h
    simp only [Bool.and_eq_true] at hs
    refine ext_flat hf hb hname (v := .int .i64 _) (fun S w => ⟨_, .int _ _, rfl⟩) fun S w vs hS hgl ha => ?_
    obtain ⟨_, rfl, ha1⟩ := args_str ha
    obtain ⟨_, rfl, ha2⟩ := args_str ha1
    obtain rfl := args_nil ha2
    exact hc s cs w (Nat.lt_succ_of_le (Nat.le_of_ble_eq_true hs.1)) (Nat.lt_succ_of_le (Nat.le_of_ble_eq_true hs.2.1)) (ascii_at hs.2.2.1) (ascii_at hs.2.2.2)
/-- The pieces before and behind, and whether there is one. -/
def xCut (s sep : ByteArray) : Option (ByteArray × ByteArray × Bool) := bif Nat.ble s.size 4294967280 then some (⟨(Lib.cut s.data.toList sep.data.toList).1.toArray⟩, ⟨(Lib.cut s.data.toList sep.data.toList).2.1.toArray⟩, (Lib.cut s.data.toList sep.data.toList).2.2) else none
theorem drewN_below (w : World) (n : Nat) : Below w.heap.size w (w.drewN n) := ⟨rfl, rfl, rfl, Nat.le_refl _, fun _ _ => rfl⟩
theorem ext_cut {P : Program} {E : Env} {pv : Nat → Value} {f : FuncId} {fn : Func} {c : Code} (hf : P.funcs[f]? = some fn) (hb : fn.body = some c) (hname : (fn.name == "runtime.NumGoroutine") = false) {mx : Nat} (hmx : E.gi mx = true)
    (hc : ∀ (s sep : ByteArray) (m : Int) (w : World), s.size < 4294967281 → w.cell? ⟨mx, 0, none⟩ = some (.int .i64 m) → Calls P f #[.string s, .string sep] w fun e w' =>
      e = .returned (.tuple #[.string ⟨(Lib.cut s.data.toList sep.data.toList).1.toArray⟩, .string ⟨(Lib.cut s.data.toList sep.data.toList).2.1.toArray⟩, .bool (Lib.cut s.data.toList sep.data.toList).2.2]) ∧ ∃ n, w' = w.drewN n)
    {s sep : ByteArray} {y : ByteArray × ByteArray × Bool} (h : xCut s sep = some y) : Meets P E pv (.f f) (tvals [.str, .str] (s, sep, ())) (.tup [.t .str y.1, .t .str y.2.1, .t .bool y.2.2]) := by
  unfold xCut at h
  cases hs : Nat.ble s.size 4294967280 with
  | false => rw [hs] at h; cases h
  | true =>
    rw [hs] at h
    cases h
    intro S w vs hS hgl ha
    obtain ⟨_, rfl, ha1⟩ := args_str ha
    obtain ⟨_, rfl, ha2⟩ := args_str ha1
    obtain rfl := args_nil ha2
    obtain ⟨_, m, hm⟩ := hgl.2 mx hmx
    refine ext_goes hf hb hname ((hc s sep m w (Nat.lt_succ_of_le (Nat.le_of_ble_eq_true hs)) hm).mono fun e w' ⟨he, n, hw⟩ => ⟨_, he, hw ▸ drewN_below w n, S, fun b hb => hb, fun b hb => .inl hb, ?_⟩)
    refine ⟨[.string _, .string _, .bool _], [none, none, none], rfl, rfl, rfl, fun i r v g h1 h2 h3 => ?_, fun i j g hne h1 => ?_⟩
    · match i, h1, h2, h3 with
      | 0, h1, h2, h3 => cases h1; cases h2; cases h3; exact .plain _ _ (.t _ _ _ (.str _))
      | 1, h1, h2, h3 => cases h1; cases h2; cases h3; exact .plain _ _ (.t _ _ _ (.str _))
      | 2, h1, h2, h3 => cases h1; cases h2; cases h3; exact .plain _ _ (.t _ _ _ (.bool _))
      | n + 3, h1, _, _ => simp at h1
    · match i, h1 with
      | 0, h1 => cases h1
      | 1, h1 => cases h1
      | 2, h1 => cases h1
      | n + 3, h1 => simp at h1
def xJoin (xs : List ByteArray) (sep : ByteArray) : Option ByteArray := bif Nat.ble xs.length 140737488355328 && Nat.ble (Lib.join (xs.map (·.data.toList)) sep.data.toList).length 140737488355328 then some ⟨(Lib.join (xs.map (·.data.toList)) sep.data.toList).toArray⟩ else none
theorem ext_join {P : Program} {E : Env} {pv : Nat → Value} {f : FuncId} {fn : Func} {c : Code} (hf : P.funcs[f]? = some fn) (hb : fn.body = some c) (hname : (fn.name == "runtime.NumGoroutine") = false)
    (hc0 : ∀ (a : Option Addr) (c : Nat) (sep : ByteArray) (w : World), Calls P f #[.slice a 0 c, .string sep] w fun e w' => e = .returned (.string ⟨#[]⟩) ∧ w' = w)
    (hc : ∀ (bk o c : Nat) (xs : List ByteArray) (sep : ByteArray) (w : World), (∀ (j : Nat) x, xs[j]? = some x → w.cell? ⟨bk, o + j, none⟩ = some (.string x)) → bk < w.heap.size → xs.length ≤ 140737488355328 → xs.length ≤ c →
      (Lib.join (xs.map (·.data.toList)) sep.data.toList).length ≤ 140737488355328 → Calls P f #[.slice (some ⟨bk, o, none⟩) xs.length c, .string sep] w fun e w' => e = .returned (.string ⟨(Lib.join (xs.map (·.data.toList)) sep.data.toList).toArray⟩) ∧ Below w.heap.size w w')
    {xs : List ByteArray} {sep : ByteArray} {y : ByteArray} (h : xJoin xs sep = some y) : Meets P E pv (.f f) (tvals [.sl .str, .str] (xs, sep, ())) (.t .str y) := by
  unfold xJoin at h
  cases hs : Nat.ble xs.length 140737488355328 && Nat.ble (Lib.join (xs.map (·.data.toList)) sep.data.toList).length 140737488355328 with
  | false => rw [hs] at h; cases h
  | true =>
    rw [hs] at h
    cases h
    rw [Bool.and_eq_true] at hs
    refine ext_flat hf hb hname (v := .string _) (fun S w => ⟨_, .str _, rfl⟩) fun S w vs hS hgl ha => ?_
    obtain ⟨cs, _, hcr, rfl, ha1⟩ := args_cons ha
    obtain ⟨_, rfl, ha2⟩ := args_str ha1
    obtain rfl := args_nil ha2
    cases hcr with
    | t _ _ _ hcr =>
      cases hcr with
      | sl e xs A c cv hle hm h1 h2 =>
        match xs, A, hle, h1, h2, hs with
        | [], A, _, _, _, _ => exact (hc0 A c sep w).mono fun e w' ⟨he, hw⟩ => ⟨he, hw ▸ Below.refl _ _⟩
        | x :: l, A, hle, h1, h2, hs =>
          obtain ⟨g, o, rfl, hg, _⟩ := h2 0 (Nat.succ_pos _)
          refine hc g o c (x :: l) sep w (fun j z hj => ?_) (hS g hg) (Nat.le_of_ble_eq_true hs.1) hle (Nat.le_of_ble_eq_true hs.2)
          obtain ⟨hj', hz⟩ := List.getElem?_eq_some_iff.1 hj
          obtain ⟨g', o', e', _, hcell⟩ := h2 j hj'
          cases e'
          have hcv := h1 j hj'
          rw [hz] at hcv
          have hq : ∀ q, CR S w .str z q → q[0]? = some (.string z) := fun q hq => by cases hq; rfl
          have := hcell 0 (.string z) (hq _ hcv)
          simpa [nc] using this
def xTrim1 (s cs : ByteArray) : Option ByteArray := match cs with
  | ⟨⟨[c]⟩⟩ => bif Nat.ble s.size 9223372036854775807 && Nat.blt c.toNat 128 then some ⟨(Lib.trimB s.data.toList c).toArray⟩ else none
  | _ => none
theorem ext_trim1 {P : Program} {E : Env} {pv : Nat → Value} {f : FuncId} {fn : Func} {c : Code} (hf : P.funcs[f]? = some fn) (hb : fn.body = some c) (hname : (fn.name == "runtime.NumGoroutine") = false)
    (hc : ∀ (s : ByteArray) (c : UInt8), c.toNat < 128 → ∀ (w : World), s.size ≤ 9223372036854775807 → Calls P f #[.string s, .string ⟨#[c]⟩] w fun e w' => e = .returned (.string ⟨(Lib.trimB s.data.toList c).toArray⟩) ∧ (w' = w ∨ w' = w.drew))
    {s cs : ByteArray} {y : ByteArray} (h : xTrim1 s cs = some y) : Meets P E pv (.f f) (tvals [.str, .str] (s, cs, ())) (.t .str y) := by
  unfold xTrim1 at h
  split at h
  · rename_i c0
    cases hs : Nat.ble s.size 9223372036854775807 && Nat.blt c0.toNat 128 with
    | false => rw [hs] at h; cases h
    | true =>
      rw [hs] at h
      cases h
      rw [Bool.and_eq_true] at hs
      refine ext_flat hf hb hname (v := .string _) (fun S w => ⟨_, .str _, rfl⟩) fun S w vs hS hgl ha => ?_
      obtain ⟨_, rfl, ha1⟩ := args_str ha
      obtain ⟨_, rfl, ha2⟩ := args_str ha1
      obtain rfl := args_nil ha2
      refine (hc s c0 (Nat.le_of_ble_eq_true hs.2) w (Nat.le_of_ble_eq_true hs.1)).mono fun e w' ⟨he, hw⟩ => ⟨he, ?_⟩
      rcases hw with rfl | rfl
      · exact Below.refl _ _
      · exact (Below.refl _ _).drew
  · cases h
def xClone (xs : List ByteArray) : Option (List ByteArray) := bif Nat.ble (xs.length * 16) 140737488355328 then some xs else none
theorem ext_clone {P : Program} {E : Env} {pv : Nat → Value} {f : FuncId} {fn : Func} {c : Code} (hf : P.funcs[f]? = some fn) (hb : fn.body = some c) (hname : (fn.name == "runtime.NumGoroutine") = false) {te : Nat}
    (hc : ∀ (b off n c : Nat) (zs : List ByteArray) (w : World), n ≤ zs.length → n * 16 ≤ 140737488355328 → (∀ j, j < zs.length → w.cell? ⟨b, off + j, none⟩ = some (.string (zs.getD j ByteArray.empty))) →
      Calls P f #[.slice (some ⟨b, off, none⟩) n c] w fun e w' => ∃ v', e = .returned v' ∧ w'.ownsRow w.heap.size te 1 v' n ((zs.take n).map Value.string) ∧ v' ≠ .slice none 0 0 ∧ Below w.heap.size w w')
    (hcn : ∀ (n c : Nat) (w : World), Calls P f #[.slice none n c] w fun e w' => e = .returned (.slice none 0 0) ∧ w' = w)
    (hcz : ∀ (a : Addr) (c : Nat) (w : World), Calls P f #[.slice (some a) 0 c] w fun e w' => ∃ v', e = .returned v' ∧ w'.ownsRow w.heap.size te 1 v' 0 [] ∧ v' ≠ .slice none 0 0 ∧ Below w.heap.size w w')
    {xs : List ByteArray} {y : List ByteArray} (h : xClone xs = some y) : Meets P E pv (.f f) (tvals [.sl .str] (xs, ())) (.fr te .str y) := by
  have hc0 : ∀ (A : Option Addr) (c : Nat) (w : World), Calls P f #[.slice A 0 c] w fun e w' => ∃ v', e = .returned v' ∧ w'.ownsRow w.heap.size te 1 v' 0 [] ∧ Below w.heap.size w w' := fun A c w => by
    cases A with
    | none => exact (hcn 0 c w).mono fun e w' ⟨he, hw⟩ => ⟨_, he, ⟨rfl, .inl ⟨rfl, rfl⟩⟩, hw ▸ Below.refl _ _⟩
    | some a => exact (hcz a c w).mono fun e w' ⟨v, he, ho, _, hb⟩ => ⟨v, he, ho, hb⟩
  unfold xClone at h
  cases hs : Nat.ble (xs.length * 16) 140737488355328 with
  | false => rw [hs] at h; cases h
  | true =>
    rw [hs] at h
    cases h
    have hs := Nat.le_of_ble_eq_true hs
    intro S w vs hS hgl ha
    have fin : ∀ (v' : Value) (w' : World), w'.ownsRow w.heap.size te 1 v' xs.length (xs.map Value.string) → Below w.heap.size w w' → Below w.heap.size w w' ∧ ∃ S' : Nat → Prop, (∀ b, S b → S' b) ∧ (∀ b, S' b → S b ∨ (w.heap.size ≤ b ∧ b < w'.heap.size)) ∧ RR S' w' w.heap.size pv (.fr te .str xs) v' := fun v' w' ho hbl => by
      refine ⟨hbl, S, fun b hb => hb, fun b hb => .inl hb, ?_⟩
      obtain ⟨h1, ⟨rfl, h2⟩ | ⟨g, cap, cur, rfl, h3, h4, h5, h6, h7, h8⟩⟩ := ho
      · obtain rfl : xs = [] := List.eq_nil_of_length_eq_zero h2
        exact ⟨none, .frNil te .str (by decide)⟩
      · refine ⟨some g, .fr te .str xs g cap h3 (fun hs => absurd (hS _ hs) (by omega)) ⟨cur, (0, 0), h4, h7, h5, h6, fun _ => rfl, .inl (Nat.le_refl _), by decide, fun i hi => ⟨[.string xs[i]], .str _, fun j v hj => ?_⟩⟩⟩
        cases j with
        | zero =>
          simp only [List.getElem?_cons_zero, Option.some.injEq] at hj
          subst hj
          have h9 := congrArg (·[i]?) h8
          simp only [Nat.mul_one, List.getElem?_take, if_pos hi, List.getElem?_map, List.getElem?_eq_getElem hi, Option.map_some] at h9
          simpa [nc] using h9
        | succ j => simp at hj
    obtain ⟨cs, _, hcr, rfl, ha1⟩ := args_cons ha
    obtain rfl := args_nil ha1
    cases hcr with
    | t _ _ _ hcr =>
      cases hcr with
      | sl e xs A c cv hle hm h1 h2 =>
        match xs, A, hle, h1, h2, hs, fin with
        | [], A, _, _, _, _, fin => exact ext_goes hf hb hname ((hc0 A c w).mono fun e w' ⟨v', he, ho, hbl⟩ => ⟨v', he, fin _ _ ho hbl⟩)
        | x :: l, A, hle, h1, h2, hs, fin =>
          obtain ⟨g, o, rfl, hg, _⟩ := h2 0 (Nat.succ_pos _)
          refine ext_goes hf hb hname ((hc g o (x :: l).length c (x :: l) w (Nat.le_refl _) hs fun j hj => ?_).mono fun e w' ⟨v', he, ho, _, hbl⟩ => ⟨v', he, fin _ _ (by rw [List.take_length] at ho; exact ho) hbl⟩)
          obtain ⟨g', o', e', _, hcell⟩ := h2 j hj
          cases e'
          have hcv := h1 j hj
          have hq : ∀ z q, CR S w .str z q → q[0]? = some (.string z) := fun z q hq => by cases hq; rfl
          have := hcell 0 _ (hq _ _ hcv)
          rw [List.getD_eq_getElem?_getD, List.getElem?_eq_getElem hj, Option.getD_some]
          simpa [nc] using this
end Go.Gx
end
section
/- '==' of dates and abbreviations. -/
namespace Go.Gx
set_option linter.unusedVariables false
set_option linter.unusedSimpArgs false

theorem eqF_nil {P : Program} {w : World} {d : Nat} {xs ys : Array Value} : (Op.eqFields d xs ys []).run P w = .ok true w := by simp [Op.eqFields]
theorem eqF_cons {P : Program} {w : World} {d : Nat} {xs ys : Array Value} {f : Field} {fs : List Field} {a b : Value} {r s : Bool} (hn : f.name ≠ "_") (h1 : (part f.type xs f.offset).run P w = .ok a w) (h2 : (part f.type ys f.offset).run P w = .ok b w)
    (h3 : (Op.equalIn d f.type a b).run P w = .ok r w) (h4 : (Op.eqFields d xs ys fs).run P w = .ok s w) : (Op.eqFields d xs ys (f :: fs)).run P w = .ok (r && s) w := by
  cases r <;> simp [Op.eqFields, hn, h1, h2, h3, h4]
theorem part_one {P : Program} {E : Env} {w : World} {T : Nat} {τ : Ty} (ht : TyOk P E T τ) (hg : agT τ = false) {cs : Array Value} {o : Nat} {v : Value} (hv : cs[o]? = some v) : (part T cs o).run P w = .ok v w := by
  simp [part, run_isAgg ht, hg, hv]
theorem date_eq {P : Program} {E : Env} (ht : ∀ T τ, E.ty T = some τ → TyOk P E T τ) {T : Nat} (hT : E.ty T = some .date) (hg : P.eqGuardType P.depth T = false) (hs : P.stoodInHeld T = false) (hn : (P.fieldsOf T).all (fun f => f.name != "_") = true) :
    P.eqGuardType P.depth T = false ∧ ∀ (x y : Date) (w : World), (Op.equalIn 10000 T (.agg #[.int .i64 x.y, .int .i64 x.m, .int .i64 x.d, .bool x.c]) (.agg #[.int .i64 y.y, .int .i64 y.m, .int .i64 y.d, .bool y.c])).run P w = .ok (x.y == y.y && (x.m == y.m && (x.d == y.d && x.c == y.c))) w := by
  refine ⟨hg, fun x y w => ?_⟩
  obtain ⟨fs, hu, hsz, hf⟩ := (ht T _ hT).und
  have hfo : P.fieldsOf T = fs := by simp [Program.fieldsOf, hu]
  rw [run_equalIn_agg (P := P) w 9999 T _ _ (by rw [hfo]; exact hu) hs, hfo]
  rw [hfo, Array.all_eq_true'] at hn
  have hname : ∀ f ∈ fs.toList, f.name ≠ "_" := fun f hm => by simpa using hn f (by simpa using hm)
  have hget : ∀ i f, fs.toList[i]? = some f → ∃ σ, (fty .date)[i]? = some σ ∧ f.offset = offL (fty .date) i ∧ E.ty f.type = some σ := fun i f h => hf i f (by simpa using h)
  have hlen : fs.toList.length = 4 := by simpa [fty] using hsz
  match hl : fs.toList, hlen with
  | [f0, f1, f2, f3], _ =>
    rw [hl] at hname hget
    obtain ⟨s0, a0, b0, c0⟩ := hget 0 f0 rfl
    obtain ⟨s1, a1, b1, c1⟩ := hget 1 f1 rfl
    obtain ⟨s2, a2, b2, c2⟩ := hget 2 f2 rfl
    obtain ⟨s3, a3, b3, c3⟩ := hget 3 f3 rfl
    cases a0; cases a1; cases a2; cases a3
    have e3 := eqF_cons (P := P) (w := w) (d := 9999) (xs := #[.int .i64 x.y, .int .i64 x.m, .int .i64 x.d, .bool x.c]) (ys := #[.int .i64 y.y, .int .i64 y.m, .int .i64 y.d, .bool y.c]) (hname f3 (by simp)) (part_one (v := .bool x.c) (ht _ _ c3) rfl (by rw [b3]; rfl)) (part_one (v := .bool y.c) (ht _ _ c3) rfl (by rw [b3]; rfl)) (run_equalIn_bool' w 9998 f3.type _ _ (ht _ _ c3).und) eqF_nil
    have e2 := eqF_cons (hname f2 (by simp)) (part_one (v := .int .i64 x.d) (ht _ _ c2) rfl (by rw [b2]; rfl)) (part_one (v := .int .i64 y.d) (ht _ _ c2) rfl (by rw [b2]; rfl)) (run_equalIn_int w 9998 f2.type _ _ _ _ (ht _ _ c2).und) e3
    have e1 := eqF_cons (hname f1 (by simp)) (part_one (v := .int .i64 x.m) (ht _ _ c1) rfl (by rw [b1]; rfl)) (part_one (v := .int .i64 y.m) (ht _ _ c1) rfl (by rw [b1]; rfl)) (run_equalIn_int w 9998 f1.type _ _ _ _ (ht _ _ c1).und) e2
    have e0 := eqF_cons (hname f0 (by simp)) (part_one (v := .int .i64 x.y) (ht _ _ c0) rfl (by rw [b0]; rfl)) (part_one (v := .int .i64 y.y) (ht _ _ c0) rfl (by rw [b0]; rfl)) (run_equalIn_int w 9998 f0.type _ _ _ _ (ht _ _ c0).und) e1
    rw [e0]
    simp
theorem abbr_eq {P : Program} {E : Env} (ht : ∀ T τ, E.ty T = some τ → TyOk P E T τ) {T : Nat} (hT : E.ty T = some .abbr) (hg : P.eqGuardType P.depth T = false) (hs : P.stoodInHeld T = false) (hn : (P.fieldsOf T).all (fun f => f.name != "_") = true) :
    P.eqGuardType P.depth T = false ∧ ∀ (x y : Abbr) (w : World), (Op.equalIn 10000 T (.agg #[.string x.word, .string x.short]) (.agg #[.string y.word, .string y.short])).run P w = .ok (beqS x.word y.word && beqS x.short y.short) w := by
  refine ⟨hg, fun x y w => ?_⟩
  obtain ⟨fs, hu, hsz, hf⟩ := (ht T _ hT).und
  have hfo : P.fieldsOf T = fs := by simp [Program.fieldsOf, hu]
  rw [run_equalIn_agg (P := P) w 9999 T _ _ (by rw [hfo]; exact hu) hs, hfo]
  rw [hfo, Array.all_eq_true'] at hn
  have hname : ∀ f ∈ fs.toList, f.name ≠ "_" := fun f hm => by simpa using hn f (by simpa using hm)
  have hget : ∀ i f, fs.toList[i]? = some f → ∃ σ, (fty .abbr)[i]? = some σ ∧ f.offset = offL (fty .abbr) i ∧ E.ty f.type = some σ := fun i f h => hf i f (by simpa using h)
  have hlen : fs.toList.length = 2 := by simpa [fty] using hsz
  match hl : fs.toList, hlen with
  | [f0, f1], _ =>
    rw [hl] at hname hget
    obtain ⟨s0, a0, b0, c0⟩ := hget 0 f0 rfl
    obtain ⟨s1, a1, b1, c1⟩ := hget 1 f1 rfl
    cases a0; cases a1
    have e1 := eqF_cons (P := P) (w := w) (d := 9999) (xs := #[.string x.word, .string x.short]) (ys := #[.string y.word, .string y.short]) (hname f1 (by simp)) (part_one (v := .string x.short) (ht _ _ c1) rfl (by rw [b1]; rfl)) (part_one (v := .string y.short) (ht _ _ c1) rfl (by rw [b1]; rfl)) (run_equalIn_string w 9998 f1.type _ _ (ht _ _ c1).und) eqF_nil
    have e0 := eqF_cons (hname f0 (by simp)) (part_one (v := .string x.word) (ht _ _ c0) rfl (by rw [b0]; rfl)) (part_one (v := .string y.word) (ht _ _ c0) rfl (by rw [b0]; rfl)) (run_equalIn_string w 9998 f0.type _ _ (ht _ _ c0).und) e1
    rw [e0]
    simp [beqS]
end Go.Gx
end
