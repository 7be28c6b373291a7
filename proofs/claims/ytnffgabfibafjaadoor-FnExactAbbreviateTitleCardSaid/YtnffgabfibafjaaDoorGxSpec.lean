/- Shapes of states at a loop's head and behind it. Definitions alone. -/
import Derived.Test.YtnffgabfibafjaaDoorGxEval
namespace Go.Gx

/-- A value without data. -/
inductive Con where
  | clo (f : Nat)
  | par (i : Nat)
  | ep (id : Nat)
  | own (id : Nat)
  | undef
def Con.val : Con → AV
  | .clo f => .clo f []
  | .par i => .par i
  | .ep id => .ep id none []
  | .own id => .own id
  | .undef => undefV
def Con.fits : Con → AV → Bool
  | .clo f, .clo g [] => Nat.beq f g
  | .par i, .par j => Nat.beq i j
  | .ep id, .ep j none [] => Nat.beq id j
  | .own id, .own j => Nat.beq id j
  | .undef, .tup [] => true
  | _, _ => false
/-- What a function value has captured: plain data, a variable that is read. -/
inductive CK where
  | t (τ : Ty)
  | tp (τ : Ty)
@[reducible] def CK.X : CK → Type
  | .t τ => den τ
  | .tp τ => den τ
def CK.val : (k : CK) → k.X → AV
  | .t τ, x => .t τ x
  | .tp τ, x => .tp (.t τ x)
def CK.view : (k : CK) → AV → Option k.X
  | .t τ, a => asT τ a
  | .tp τ, a => match a with
    | .tp b => asT τ b
    | _ => none
@[reducible] def CX : List CK → Type
  | [] => Unit
  | k :: l => k.X × CX l
def cvals : (l : List CK) → CX l → List AV
  | [], _ => []
  | k :: l, x => k.val x.1 :: cvals l x.2
def viewC : (l : List CK) → List AV → Option (CX l)
  | [], [] => some ()
  | k :: l, a :: al => match k.view a with
    | some x => match viewC l al with
      | some y => some (x, y)
      | none => none
    | none => none
  | _, _ => none
inductive Fp where
  | t (τ : Ty)
  | own (id e : Nat) (τ : Ty) (fz app : Bool)
  | con (a : Con)
inductive Sp where
  | t (s : Nat) (τ : Ty)
  | own (s id e : Nat) (τ : Ty) (fz app : Bool)
  | con (s : Nat) (a : Con)
  | boxT (s id : Nat) (τ : Ty)
  | boxF (s id : Nat) (τ : Ty) (fs : List Fp)
  | cl (s g : Nat) (cs : List CK)
  | rd (s : Nat) (τ : Ty)

@[reducible] def Fp.X : Fp → Type
  | .t τ => den τ
  | .own _ _ τ _ _ => List (den τ)
  | .con _ => Unit
@[reducible] def FX : List Fp → Type
  | [] => Unit
  | f :: l => f.X × FX l
@[reducible] def Sp.X : Sp → Type
  | .t _ τ => den τ
  | .own _ _ _ τ _ _ => List (den τ)
  | .con _ _ => Unit
  | .boxT _ _ τ => den τ
  | .boxF _ _ _ fs => FX fs
  | .cl _ _ cs => CX cs
  | .rd _ τ => List (den τ)
@[reducible] def SX : List Sp → Type
  | [] => Unit
  | s :: l => s.X × SX l

def Fp.val : (f : Fp) → f.X → AV
  | .t τ, x => .t τ x
  | .own id _ _ _ _, _ => .own id
  | .con a, _ => a.val
def fvals : (l : List Fp) → FX l → List AV
  | [], _ => []
  | f :: l, x => f.val x.1 :: fvals l x.2
def Fp.rowAt : (f : Fp) → f.X → Nat → Option Row → Option Row
  | .own id e τ fz app, xs, j, r => cond (Nat.beq j id) (some (.flat e τ xs fz app)) r
  | _, _, _, r => r
def frows : (l : List Fp) → FX l → Nat → Option Row → Option Row
  | [], _, _, r => r
  | f :: l, x, j, r => f.rowAt x.1 j (frows l x.2 j r)
def Sp.slotAt : (s : Sp) → s.X → Nat → AV → AV
  | .t s τ, x, u, a => cond (Nat.beq u s) (.t τ x) a
  | .own s id _ _ _ _, _, u, a => cond (Nat.beq u s) (.own id) a
  | .con s b, _, u, a => cond (Nat.beq u s) b.val a
  | .boxT s id _, _, u, a => cond (Nat.beq u s) (.ep id none []) a
  | .boxF s id _ _, _, u, a => cond (Nat.beq u s) (.ep id none []) a
  | .cl s g cs, x, u, a => cond (Nat.beq u s) (.clo g (cvals cs x)) a
  | .rd s τ, x, u, a => cond (Nat.beq u s) (.t (.sl τ) x) a
def Sp.rowAt : (s : Sp) → s.X → Nat → Option Row → Option Row
  | .own _ id e τ fz app, xs, j, r => cond (Nat.beq j id) (some (.flat e τ xs fz app)) r
  | .boxT _ id τ, x, j, r => cond (Nat.beq j id) (some (.box τ (.t τ x))) r
  | .boxF _ id τ fs, x, j, r => cond (Nat.beq j id) (some (.box τ (.agg τ (fvals fs x)))) (frows fs x j r)
  | _, _, _, r => r
def slotsOf : (l : List Sp) → SX l → Nat → AV
  | [], _, _ => .any
  | s :: l, x, t => s.slotAt x.1 t (slotsOf l x.2 t)
def rowsOf : (l : List Sp) → SX l → Nat → Option Row
  | [], _, _ => none
  | s :: l, x, j => s.rowAt x.1 j (rowsOf l x.2 j)
/-- The state of this shape. -/
def stOf (nt : Nat) (l : List Sp) (x : SX l) : St := ⟨slotsOf l x, rowsOf l x, nt⟩

/-- A row's list, where the value is that row (or nil). -/
def viewOwn (row : Nat → Option Row) (id e : Nat) (τ : Ty) (fz app : Bool) : AV → Option (List (den τ))
  | .own j => match Nat.beq j id, row id with
    | true, some (.flat e' σ xs fz' app') => match decEq σ τ, Nat.beq e' e, fz' == fz, app' == app with
      | .isTrue h, true, true, true => some (h ▸ xs)
      | _, _, _, _ => none
    | _, _ => none
  | .nil => match row id, fz, app, Nat.blt 0 (nc τ), Nat.beq id mbase with
    | none, false, true, true, false => some []
    | _, _, _, _, _ => none
  | _ => none
def Fp.view (row : Nat → Option Row) : (f : Fp) → AV → Option f.X
  | .t τ, a => asT τ a
  | .own id e τ fz app, a => viewOwn row id e τ fz app a
  | .con c, a => cond (c.fits a) (some ()) none
def fview (row : Nat → Option Row) : (l : List Fp) → List AV → Option (FX l)
  | [], [] => some ()
  | f :: l, a :: as => match f.view row a with
    | some x => match fview row l as with
      | some y => some (x, y)
      | none => none
    | none => none
  | _, _ => none
def Sp.view (st : St) : (s : Sp) → Option s.X
  | .t s τ => asT τ (st.slot s)
  | .own s id e τ fz app => viewOwn st.row id e τ fz app (st.slot s)
  | .con s c => cond (c.fits (st.slot s)) (some ()) none
  | .boxT s id τ => match st.slot s, st.row id with
    | .ep j none [], some (.box σ a) => match Nat.beq j id, decEq σ τ with
      | true, .isTrue _ => asT τ a
      | _, _ => none
    | _, _ => none
  | .boxF s id τ fs => match st.slot s, st.row id with
    | .ep j none [], some (.box σ (.agg _ as)) => match Nat.beq j id, decEq σ τ with
      | true, .isTrue _ => fview st.row fs as
      | _, _ => none
    | .ep j none [], some (.box σ (.t ρ x)) => match Nat.beq j id, decEq σ τ, decEq ρ τ with
      | true, .isTrue _, .isTrue _ => fview st.row fs (explode ρ x)
      | _, _, _ => none
    | _, _ => none
  | .cl s g cs => match st.slot s with
    | .clo f caps => match Nat.beq f g with
      | true => viewC cs caps
      | false => none
    | _ => none
  | .rd s τ => match st.slot s with
    | .own j => match st.row j with
      | some (.flat _ σ xs true _) => match decEq σ τ with
        | .isTrue h => some (h ▸ xs)
        | .isFalse _ => none
      | _ => none
    | a => asT (.sl τ) a
/-- The rows that are read alone from now on. -/
def rdIds (st : St) : List Sp → List Nat
  | [] => []
  | .rd s _ :: l => match st.slot s with
    | .own j => j :: rdIds st l
    | _ => rdIds st l
  | _ :: l => rdIds st l
def view (st : St) : (l : List Sp) → Option (SX l)
  | [] => some ()
  | s :: l => match s.view st with
    | some x => match view st l with
      | some y => some (x, y)
      | none => none
    | none => none
def viewN (nt : Nat) (st : St) (l : List Sp) : Option (SX l) := match Nat.beq st.nt nt with
  | true => view (st.freeze (rdIds st l)) l
  | false => none
/-! ### Shapes that name only what they hold -/
def Fp.ids : Fp → List Nat
  | .own id _ _ _ _ => [id]
  | _ => []
def fids : List Fp → List Nat
  | [] => []
  | f :: l => f.ids ++ fids l
def Sp.ids : Sp → List Nat
  | .own _ id _ _ _ _ => [id]
  | .boxT _ id _ => [id]
  | .boxF _ id _ fs => id :: fids fs
  | _ => []
def rowIds : List Sp → List Nat
  | [] => []
  | s :: l => s.ids ++ rowIds l
def conOk (ids : List Nat) : Con → Bool
  | .ep id => ids.contains id
  | .own id => ids.contains id
  | _ => true
def Fp.ok (ids : List Nat) (σ : Ty) : Fp → Bool
  | .t τ => match decEq τ σ with
    | .isTrue _ => true
    | .isFalse _ => false
  | .own _ _ _ _ _ => true
  | .con c => conOk ids c
def fpsOk (ids : List Nat) : List Ty → List Fp → Bool
  | [], [] => true
  | σ :: l, f :: fs => f.ok ids σ && fpsOk ids l fs
  | _, _ => false
def Sp.ok (ids : List Nat) : Sp → Bool
  | .con _ c => conOk ids c
  | .boxF _ _ τ fs => agT τ && fpsOk ids (fty τ) fs
  | _ => true
def spsOk (ids : List Nat) : List Sp → Bool
  | [] => true
  | s :: l => s.ok ids && spsOk ids l
def spOk (l : List Sp) : Bool := spsOk (rowIds l) l
/-- Arguments as plain data. -/
@[reducible] def TX : List Ty → Type
  | [] => Unit
  | τ :: l => den τ × TX l
def viewT : (l : List Ty) → List AV → Option (TX l)
  | [], [] => some ()
  | τ :: l, a :: as => match asT τ a with
    | some x => match viewT l as with
      | some y => some (x, y)
      | none => none
    | none => none
  | _, _ => none
/-- A result, of this kind. -/
inductive RK where
  | t (τ : Ty)
  | fr (e : Nat) (τ : Ty)
@[reducible] def RK.X : RK → Type
  | .t τ => den τ
  | .fr _ τ => List (den τ)
def RK.view : (k : RK) → AV → Option k.X
  | .t τ, a => match a with
    | .fr _ σ xs => match τ with
      | .sl ρ => match decEq σ ρ with
        | .isTrue h => some (h ▸ xs)
        | .isFalse _ => none
      | _ => none
    | a => asT τ a
  | .fr e τ, a => match a with
    | .fr e' σ xs => match decEq σ τ, Nat.beq e' e with
      | .isTrue h, true => some (h ▸ xs)
      | _, _ => none
    | .nil => match Nat.blt 0 (nc τ) with
      | true => some []
      | false => none
    | _ => none
def viewR1 (k : RK) (a : AV) : Option k.X := k.view a
def viewR2 (k l : RK) : AV → Option (k.X × l.X)
  | .tup [a, b] => match k.view a, l.view b with
    | some x, some y => some (x, y)
    | _, _ => none
  | _ => none
def viewR3 (k l m : RK) : AV → Option (k.X × l.X × m.X)
  | .tup [a, b, c] => match k.view a, l.view b, m.view c with
    | some x, some y, some z => some (x, y, z)
    | _, _, _ => none
  | _ => none
/-- The loops of a code, with the block each lies in. -/
def loopsOf : Nat → Code → List (Nat × Code)
  | b, .seq x y => loopsOf b x ++ loopsOf b y
  | b, .cond _ x y => loopsOf b x ++ loopsOf b y
  | _, .block id c => loopsOf id c
  | b, .loop c => (b, c) :: loopsOf b c
  | _, _ => []
def findL (b : Nat) : List (Nat × Code) → Code
  | [] => .skip
  | p :: l => match Nat.beq p.1 b with
    | true => p.2
    | false => findL b l
/-- The loop that lies in this block. -/
def loopAt (f : Func) (b : Nat) : Code := match f.body with
  | some c => findL b (loopsOf 0 c)
  | none => .skip
def keysOf : List (Nat × Code) → List Nat
  | [] => []
  | p :: l => p.1 :: keysOf l
/-- No two loops lie in one block. -/
def loopsOk (f : Func) : Bool := match f.body with
  | some c => distinctL (keysOf (loopsOf 0 c))
  | none => false
/-- Arguments, of these types. -/
def tvals : (l : List Ty) → TX l → List AV
  | [], _ => []
  | τ :: l, x => .t τ x.1 :: tvals l x.2
def RK.val : (k : RK) → k.X → AV
  | .t τ, x => .t τ x
  | .fr e τ, x => .fr e τ x
end Go.Gx
