/- The interpreter with value semantics ("Gx"): closed values are typed Lean data, a call's own slices and variables are rows by number. Definitions alone. -/
import GoSem.Core.Code
import GoSem.Core.Utf8
import GoSem.Op.String
import GoSem.Core.View
namespace Go.Gx

/-! ### 1. The data -/
structure Date where
  y : Int
  m : Int
  d : Int
  c : Bool
structure Name where
  given : List ByteArray
  particle : ByteArray
  family : ByteArray
  suffix : ByteArray
structure Entry where
  key : ByteArray
  kind : Int
  authors : List Name
  editors : List Name
  title : ByteArray
  container : ByteArray
  publisher : ByteArray
  date : Date
  volume : Int
  pages : ByteArray
  cross : ByteArray
structure Library where
  entries : List Entry
structure Abbr where
  word : ByteArray
  short : ByteArray
inductive Query where
  | mk (op : Int) (field word : ByteArray) (parts : List Query)
def Query.op : Query → Int | .mk a _ _ _ => a
def Query.field : Query → ByteArray | .mk _ a _ _ => a
def Query.word : Query → ByteArray | .mk _ _ a _ => a
def Query.parts : Query → List Query | .mk _ _ _ a => a

inductive Ty where
  | int (k : IntKind)
  | bool
  | str
  | sl (e : Ty)
  | arr (n : Nat) (e : Ty)
  | date | name | entry | lib | abbr | query
  deriving DecidableEq

@[reducible] def den : Ty → Type
  | .int _ => Int
  | .bool => Bool
  | .str => ByteArray
  | .sl e => List (den e)
  | .arr _ e => List (den e)
  | .date => Date
  | .name => Name
  | .entry => Entry
  | .lib => Library
  | .abbr => Abbr
  | .query => Query

/-- How many cells. -/
def nc : Ty → Nat
  | .arr n e => n * nc e
  | .date => 4
  | .name => 4
  | .entry => 14
  | .abbr => 2
  | .query => 4
  | _ => 1
/-- How many bytes. -/
def nb : Ty → Nat
  | .int k => k.bits / 8
  | .bool => 1
  | .str => 16
  | .sl _ => 24
  | .arr n e => n * nb e
  | .date => 32
  | .name => 72
  | .entry => 192
  | .lib => 24
  | .abbr => 32
  | .query => 64
/-- Is it a struct or an array? -/
def agT : Ty → Bool
  | .arr _ _ | .date | .name | .entry | .lib | .abbr | .query => true
  | _ => false
/-- Does a value of it lead to memory? -/
def slT : Ty → Bool
  | .sl _ | .name | .entry | .lib | .query => true
  | .arr _ e => slT e
  | _ => false
def dflt : (τ : Ty) → den τ
  | .int _ => (0 : Int)
  | .bool => false
  | .str => (⟨#[]⟩ : ByteArray)
  | .sl _ => []
  | .arr n e => List.replicate n (dflt e)
  | .date => ⟨0, 0, 0, false⟩
  | .name => ⟨[], ⟨#[]⟩, ⟨#[]⟩, ⟨#[]⟩⟩
  | .entry => ⟨⟨#[]⟩, 0, [], [], ⟨#[]⟩, ⟨#[]⟩, ⟨#[]⟩, ⟨0, 0, 0, false⟩, 0, ⟨#[]⟩, ⟨#[]⟩⟩
  | .lib => ⟨[]⟩
  | .abbr => ⟨⟨#[]⟩, ⟨#[]⟩⟩
  | .query => .mk 0 ⟨#[]⟩ ⟨#[]⟩ []
/-- The types of a struct's fields. -/
def fty : Ty → List Ty
  | .arr n e => List.replicate n e
  | .date => [.int .i64, .int .i64, .int .i64, .bool]
  | .name => [.sl .str, .str, .str, .str]
  | .entry => [.str, .int .i64, .sl .name, .sl .name, .str, .str, .str, .date, .int .i64, .str, .str]
  | .lib => [.sl .entry]
  | .abbr => [.str, .str]
  | .query => [.int .i64, .str, .str, .sl .query]
  | _ => []

/-! ### 2. Values, rows, states -/
inductive AV where
  | t (τ : Ty) (x : den τ)                 -- plain data
  | nil                                     -- the slice nil, written out
  | own (id : Nat)                          -- the whole row of this number
  | ep (id : Nat) (i : Option Nat) (p : List Nat)   -- a pointer into row id: its element i, its field p
  | tp (a : AV)                             -- a pointer to what never changes
  | agg (τ : Ty) (fs : List AV)             -- a struct whose fields aren't all plain data
  | hole (τ : Ty)                           -- some cells, nobody knows which
  | tup (vs : List AV)
  | clo (f : Nat) (caps : List AV)
  | par (i : Nat)                           -- a function that came in
  | fr (e : Nat) (τ : Ty) (xs : List (den τ))       -- a result: a slice in a block of its own
  | bx (τ : Ty) (x : den τ)                 -- an argument: a variable of the caller's, handed over
  | kep (o r : AV)                          -- an answer: what was handed over, as it is then; the answer proper
  | mov (e : Nat) (τ : Ty) (xs : List (den τ))      -- an answer: the row that was handed over, or what came of it
  | any                                     -- whatever

inductive Row where
  | flat (e : Nat) (τ : Ty) (xs : List (den τ)) (fz app : Bool)
  | box (τ : Ty) (a : AV)

structure St where
  slot : Nat → AV
  row : Nat → Option Row
  nt : Nat

inductive Ex where
  | normal | exit (id : Nat) | ret

def undefV : AV := .tup []

def explode : (τ : Ty) → den τ → List AV
  | .arr _ e, xs => xs.map (AV.t e)
  | .date, d => [.t (.int .i64) d.y, .t (.int .i64) d.m, .t (.int .i64) d.d, .t .bool d.c]
  | .name, n => [.t (.sl .str) n.given, .t .str n.particle, .t .str n.family, .t .str n.suffix]
  | .entry, e => [.t .str e.key, .t (.int .i64) e.kind, .t (.sl .name) e.authors, .t (.sl .name) e.editors, .t .str e.title, .t .str e.container, .t .str e.publisher, .t .date e.date, .t (.int .i64) e.volume, .t .str e.pages, .t .str e.cross]
  | .lib, l => [.t (.sl .entry) l.entries]
  | .abbr, a => [.t .str a.word, .t .str a.short]
  | .query, q => [.t (.int .i64) q.op, .t .str q.field, .t .str q.word, .t (.sl .query) q.parts]
  | _, _ => []

/-- Plain data of this type. -/
def asT (τ : Ty) : AV → Option (den τ)
  | .t σ x => if h : σ = τ then some (h ▸ x) else none
  | .nil => match τ with
    | .sl _ => some []
    | _ => none
  | _ => none
def asTs (τ : Ty) : List AV → Option (List (den τ))
  | [] => some []
  | a :: l => match asT τ a with
    | some x => match asTs τ l with
      | some xs => some (x :: xs)
      | none => none
    | none => none

def implode : Ty → List AV → Option AV
  | .date, [a, b, c, d] => match asT (.int .i64) a, asT (.int .i64) b, asT (.int .i64) c, asT .bool d with
    | some a, some b, some c, some d => some (.t .date ⟨a, b, c, d⟩)
    | _, _, _, _ => none
  | .name, [a, b, c, d] => match asT (.sl .str) a, asT .str b, asT .str c, asT .str d with
    | some a, some b, some c, some d => some (.t .name ⟨a, b, c, d⟩)
    | _, _, _, _ => none
  | .entry, [a, b, c, d, e, f, g, h, i, j, k] =>
    match asT .str a, asT (.int .i64) b, asT (.sl .name) c, asT (.sl .name) d, asT .str e, asT .str f with
    | some a, some b, some c, some d, some e, some f =>
      match asT .str g, asT .date h, asT (.int .i64) i, asT .str j, asT .str k with
      | some g, some h, some i, some j, some k => some (.t .entry ⟨a, b, c, d, e, f, g, h, i, j, k⟩)
      | _, _, _, _, _ => none
    | _, _, _, _, _, _ => none
  | .lib, [a] => match asT (.sl .entry) a with
    | some a => some (.t .lib ⟨a⟩)
    | none => none
  | .abbr, [a, b] => match asT .str a, asT .str b with
    | some a, some b => some (.t .abbr ⟨a, b⟩)
    | _, _ => none
  | .query, [a, b, c, d] => match asT (.int .i64) a, asT .str b, asT .str c, asT (.sl .query) d with
    | some a, some b, some c, some d => some (.t .query (.mk a b c d))
    | _, _, _, _ => none
  | .arr n e, l => match asTs e l with
    | some xs => if xs.length = n then some (.t (.arr n e) xs) else none
    | none => none
  | _, _ => none
/-- A struct of these fields. -/
def mkSt (τ : Ty) (fs : List AV) : AV := match implode τ fs with
  | some a => a
  | none => .agg τ fs

/-- A field. -/
def fieldA (a : AV) (f : Nat) : Option AV := match a with
  | .t τ x => (explode τ x)[f]?
  | .agg _ fs => fs[f]?
  | _ => none
def setField (a : AV) (f : Nat) (b : AV) : Option AV := match a with
  | .t τ x => match (explode τ x)[f]? with
    | some _ => some (mkSt τ ((explode τ x).set f b))
    | none => none
  | .agg τ fs => match fs[f]? with
    | some _ => some (mkSt τ (fs.set f b))
    | none => none
  | _ => none
def getP : AV → List Nat → Option AV
  | a, [] => some a
  | a, f :: p => match fieldA a f with
    | some b => getP b p
    | none => none
def setP : AV → List Nat → AV → Option AV
  | _, [], b => some b
  | a, f :: p, b => match fieldA a f with
    | some c => match setP c p b with
      | some d => setField a f d
      | none => none
    | none => none
/-- The type at a path. -/
def tyP : Ty → List Nat → Option Ty
  | τ, [] => some τ
  | τ, f :: p => match (fty τ)[f]? with
    | some σ => tyP σ p
    | none => none

/-- No field's number: '.ep id (some i) [tmark]' is the tail of a row, from place i on. -/
def tmark : Nat := 99
def tailP : List Nat → Bool
  | [f] => Nat.beq f tmark
  | _ => false
theorem flat_tyP {τ : Ty} (h : agT τ = false) (f : Nat) (p : List Nat) : tyP τ (f :: p) = none := by
  cases τ <;> first
    | rfl
    | cases h
theorem flat_field {τ : Ty} (h : agT τ = false) (x : den τ) (f : Nat) : fieldA (.t τ x) f = none := by
  cases τ <;> first
    | rfl
    | cases h
theorem flat_getP {τ : Ty} (h : agT τ = false) (x : den τ) (f : Nat) (p : List Nat) : getP (.t τ x) (f :: p) = none := by
  simp only [getP, flat_field h]
/-- Does a value fit into a variable of this type? -/
def fitN : Nat → Ty → AV → Bool
  | 0, _, _ => false
  | n + 1, τ, a => match a with
    | .t σ _ => match decEq σ τ with
      | .isTrue _ => true
      | .isFalse _ => false
    | .nil => match τ with
      | .sl _ => true
      | _ => false
    | .own _ => match τ with
      | .sl _ => true
      | _ => false
    | .ep _ _ _ | .tp _ | .clo _ _ | .par _ => !agT τ && Nat.beq (nc τ) 1
    | .agg σ fs => match decEq σ τ with
      | .isTrue _ => agT σ && all2 (fitN n) (fty σ) fs
      | .isFalse _ => false
    | .hole σ => match decEq σ τ with
      | .isTrue _ => true
      | .isFalse _ => false
    | _ => false
where all2 (f : Ty → AV → Bool) : List Ty → List AV → Bool
  | [], [] => true
  | σ :: l, a :: as => f σ a && all2 f l as
  | _, _ => false
def fit (τ : Ty) (a : AV) : Bool := fitN 6 τ a

/-! ### 3. Numbers of rows in a value; values without any -/
def anyL (f : AV → Bool) : List AV → Bool
  | [] => false
  | a :: l => f a || anyL f l
def mapL (f : AV → AV) : List AV → List AV
  | [] => []
  | a :: l => f a :: mapL f l
def mapO (f : AV → Option AV) : List AV → Option (List AV)
  | [] => some []
  | a :: l => match f a with
    | some b => match mapO f l with
      | some m => some (b :: m)
      | none => none
    | none => none
def zipL (f : Ty → AV → AV) : List Ty → List AV → List AV
  | σ :: l, a :: fs => f σ a :: zipL f l fs
  | _, fs => fs
/-- The number of the row that was handed over, to be kept in its place; of one that may be put elsewhere. -/
def mbase : Nat := 1099511627776
def mmove : Nat := 1099511627777
/-- Does it name a row of these numbers? (Where it is too deep: yes.) -/
def hasIdN (lo hi : Nat) : Nat → AV → Bool
  | 0, _ => true
  | n + 1, a => match a with
    | .own id => Nat.ble lo id && Nat.blt id hi
    | .ep id _ _ => Nat.ble lo id && Nat.blt id hi
    | .agg _ fs => anyL (hasIdN lo hi n) fs
    | .tup fs => anyL (hasIdN lo hi n) fs
    | .clo _ fs => anyL (hasIdN lo hi n) fs
    | _ => false
def hasId (lo hi : Nat) (a : AV) : Bool := hasIdN lo hi 6 a
def killA (lo hi : Nat) (a : AV) : AV := cond (hasId lo hi a) .any a
/-- In a variable: what names a row of these numbers is forgotten, field by field. -/
def killFN (lo hi : Nat) : Nat → Ty → AV → AV
  | 0, σ, _ => .hole σ
  | n + 1, σ, a => match a with
    | .agg τ fs => .agg τ (zipL (killFN lo hi n) (fty τ) fs)
    | a => cond (hasId lo hi a) (.hole σ) a
def killF (lo hi : Nat) (σ : Ty) (a : AV) : AV := killFN lo hi 6 σ a
def killR (lo hi : Nat) (id : Nat) (r : Option Row) : Option Row :=
  cond (Nat.ble lo id && Nat.blt id hi) none (match r with
    | some (.box τ a) => some (.box τ (killF lo hi τ a))
    | r => r)
def St.kill (st : St) (lo hi : Nat) : St := ⟨fun t => killA lo hi (st.slot t), fun id => killR lo hi id (st.row id), st.nt⟩
def St.put (st : St) (d : Nat) (a : AV) : St := ⟨fun t => cond (Nat.beq t d) a (st.slot t), st.row, st.nt⟩
def St.putO (st : St) (d : Option Nat) (a : AV) : St := match d with
  | some d => st.put d a
  | none => st
def St.setRow (st : St) (id : Nat) (r : Row) : St := ⟨st.slot, fun j => cond (Nat.beq j id) (some r) (st.row j), st.nt⟩
def freezeR : Row → Row
  | .flat e τ xs _ app => .flat e τ xs true app
  | r => r
def St.freeze (st : St) : List Nat → St
  | [] => st
  | id :: l => match st.row id with
    | some r => (st.setRow id (freezeR r)).freeze l
    | none => st.freeze l

/-- What an operation does: its value; new rows; rows that never change any more; a row appended to; a row written. -/
structure Upd where
  v : AV
  news : List (Nat × Row)
  frz : List Nat
  app : Option (Nat × Row)
  sto : Option (Nat × Row)
def quiet (v : AV) : Upd := ⟨v, [], [], none, none⟩
def makes (v : AV) (news : List (Nat × Row)) : Upd := ⟨v, news, [], none, none⟩
def St.setRows (st : St) : List (Nat × Row) → St
  | [] => st
  | p :: l => (st.setRow p.1 p.2).setRows l
def St.apply (st : St) (dst : Option Nat) (u : Upd) : St :=
  let st1 := (st.freeze u.frz).setRows u.news
  let st2 := match u.app with
    | some (j, r) => (st1.kill j (j + 1)).setRow j r
    | none => st1
  let st3 := match u.sto with
    | some (j, r) => st2.setRow j r
    | none => st2
  st3.putO dst u.v

/-- Without rows: what a callee is handed. -/
def closeR (row : Nat → Option Row) : Nat → AV → Option AV
  | 0, _ => none
  | n + 1, a => match a with
    | .t τ x => some (.t τ x)
    | .nil => some .nil
    | .own id => match row id with
      | some (.flat _ τ xs _ _) => some (.t (.sl τ) xs)
      | _ => none
    | .ep id none p => match row id with
      | some (.box σ b) => match getP b p, tyP σ p with
        | some c, some τ => match closeR row n c with
          | some d => match asT τ d with
            | some x => some (.tp (.t τ x))
            | none => none
          | none => none
        | _, _ => none
      | _ => none
    | .ep id (some i) p => match row id with
      | some (.flat _ τ xs _ _) => match getP (.t τ (xs.getD i (dflt τ))) p with
        | some (.t σ x) => some (.tp (.t σ x))
        | _ => none
      | _ => none
    | .tp b => some (.tp b)
    | .agg τ fs => match mapO (closeR row n) fs with
      | some gs => implode τ gs
      | none => none
    | .clo f fs => match mapO (closeR row n) fs with
      | some gs => some (.clo f gs)
      | none => none
    | .par i => some (.par i)
    | _ => none
end Go.Gx
