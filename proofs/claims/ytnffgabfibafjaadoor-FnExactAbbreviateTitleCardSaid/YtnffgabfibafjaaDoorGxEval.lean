/- The interpreter's steps: operations, regions, code. Definitions alone. -/
import Derived.Test.YtnffgabfibafjaaDoorGxBase
import Derived.Orders
namespace Go.Gx

/-- What the interpreter is told of a program: its types, its variables that never change. -/
structure Env where
  ty : Nat → Option Ty
  el : Nat → Nat                 -- a slice type's element type
  gl : Nat → Option AV
  md : Nat → Bool                -- functions that are handed what they may change
  gi : Nat → Bool                -- variables that hold some int

inductive Cal where
  | f (n : Nat)
  | par (i : Nat)
abbrev Orc := {R : Type} → Cal → List AV → (AV → Option R) → Option R
abbrev LOrc := {R : Type} → Nat → St → (Ex → St → Option R) → Option R

def ofVal : Value → AV
  | .int k n => .t (.int k) n
  | .bool b => .t .bool b
  | .string s => .t .str s
  | .slice none 0 0 => .nil
  | _ => .any
def ev (E : Env) (st : St) : Operand → AV
  | .tmp t => st.slot t
  | .const v => ofVal v
  | .global g => match E.gl g with
    | some a => .tp a
    | none => .any
  | .func f => .clo f []

def bt (s : ByteArray) (i : Nat) : Int := ((s.data.getD i 0).toNat : Int)
def beqS (x y : ByteArray) : Bool := x.toList == y.toList
def ltS (x y : ByteArray) : Bool := Op.bytesLess x.toList y.toList
def bytesL (s : ByteArray) : List Int := s.data.toList.map fun b => (b.toNat : Int)
def strL (xs : List Int) : ByteArray := ⟨(xs.map fun n => UInt8.ofNat n.toNat).toArray⟩

/-- '==' of data of these types. -/
def eqT : (τ : Ty) → den τ → den τ → Option Bool
  | .int _, (x : Int), (y : Int) => some (x == y)
  | .bool, (x : Bool), (y : Bool) => some (x == y)
  | .str, x, y => some (beqS x y)
  | .date, x, y => some (x.y == y.y && (x.m == y.m && (x.d == y.d && x.c == y.c)))
  | .abbr, x, y => some (beqS x.word y.word && beqS x.short y.short)
  | _, _, _ => none

section
variable {R : Type}
def binI (op : BinOp) (k : IntKind) (x y : Int) (K : AV → Option R) : Option R :=
  match op with
  | .add => K (.t (.int k) (k.wrap (x + y)))
  | .sub => K (.t (.int k) (k.wrap (x - y)))
  | .mul => K (.t (.int k) (k.wrap (x * y)))
  | .quo => cond (y == 0) none (K (.t (.int k) (k.wrap (x.tdiv y))))
  | .rem => cond (y == 0) none (K (.t (.int k) (x.tmod y)))
  | .eql => K (.t .bool (x == y))
  | .neq => K (.t .bool (x != y))
  | .lss => K (.t .bool (decide (x < y)))
  | .leq => K (.t .bool (decide (x ≤ y)))
  | .gtr => K (.t .bool (decide (x > y)))
  | .geq => K (.t .bool (decide (x ≥ y)))
  | _ => none
def binS (op : BinOp) (x y : ByteArray) (K : AV → Option R) : Option R :=
  match op with
  | .add => cond (Nat.ble (x.size + y.size) 9223372036854775807) (K (.t .str (x ++ y))) none
  | .eql => K (.t .bool (beqS x y))
  | .neq => K (.t .bool (!beqS x y))
  | .lss => K (.t .bool (ltS x y))
  | .leq => K (.t .bool (ltS x y || beqS x y))
  | .gtr => K (.t .bool (!(ltS x y || beqS x y)))
  | .geq => K (.t .bool (!ltS x y))
  | _ => none
def binA (op : BinOp) (a b : AV) (K : AV → Option R) : Option R :=
  match a, b with
  | .t (.int k) x, .t (.int k') y => match decEq k k' with
    | .isTrue _ => binI op k x y K
    | .isFalse _ => none
  | .t .str x, .t .str y => binS op x y K
  | _, _ => none
/-- '==' and '!=' of data that isn't a number or a text; the type is the operand's. -/
def binT (op : BinOp) (t : Option Ty) (a b : AV) (K : AV → Option R) : Option R :=
  match t, a, b with
  | some .bool, .t .bool x, .t .bool y => match op with
    | .eql => K (.t .bool (x == y))
    | .neq => K (.t .bool (!(x == y)))
    | _ => none
  | some .date, .t .date x, .t .date y => match op with
    | .eql => K (.t .bool (x.y == y.y && (x.m == y.m && (x.d == y.d && x.c == y.c))))
    | .neq => K (.t .bool (!(x.y == y.y && (x.m == y.m && (x.d == y.d && x.c == y.c)))))
    | _ => none
  | some .abbr, .t .abbr x, .t .abbr y => match op with
    | .eql => K (.t .bool (beqS x.word y.word && beqS x.short y.short))
    | .neq => K (.t .bool (!(beqS x.word y.word && beqS x.short y.short)))
    | _ => none
  | _, a, b => binA op a b K
def unA (op : UnOp) (a : AV) (K : AV → Option R) : Option R :=
  match op, a with
  | .not, .t .bool b => K (.t .bool (!b))
  | .neg, .t (.int k) x => K (.t (.int k) (k.wrap (0 - x)))
  | _, _ => none

/-- 0 ≤ i < n, or Go panics. -/
def idx (i : Int) (n : Nat) (K : Option R) : Option R := cond (decide (0 ≤ i)) (cond (decide (i < (n : Int))) K none) none
/-- The two bounds of a slice expression. -/
def cut (lo hi : Option Int) (n : Nat) (K : Nat → Nat → Option R) : Option R :=
  match lo, hi with
  | none, none => K 0 n
  | some l, none => cond (decide (0 ≤ l)) (cond (decide (l ≤ (n : Int))) (K l.toNat n) none) none
  | none, some h => cond (decide (0 ≤ h)) (cond (decide (h ≤ (n : Int))) (K 0 h.toNat) none) none
  | some l, some h => cond (decide (0 ≤ h)) (cond (decide (h ≤ (n : Int))) (cond (decide (0 ≤ l)) (cond (decide (l ≤ h)) (K l.toNat h.toNat) none) none) none) none
/-- A list's piece: nothing is written that isn't cut. -/
def pieceL {α : Type} (lo hi : Option Int) (xs : List α) (l h : Nat) : List α :=
  match lo, hi with
  | none, none => xs
  | some _, none => xs.drop l
  | none, some _ => xs.take h
  | some _, some _ => (xs.take h).drop l

/-- A piece of a row that was handed over: 0 any piece, 1 its tail, 2 its head (which is the row from then on). -/
def movK (j : Nat) (l h : Option Int) (fz ag : Bool) : Nat := match Nat.beq j mmove && (!fz && !ag), l, h with
  | true, some _, none => 1
  | true, none, some _ => 2
  | _, _, _ => 0
def tysl : Ty → Option Ty
  | .sl e => some e
  | _ => none
/-- A slice's data: what it holds, as plain data of this type. -/
def listOf (row : Nat → Option Row) (τ : Ty) : AV → Option (List (den τ))
  | .nil => some []
  | .t (.sl σ) xs => match decEq σ τ with
    | .isTrue h => some (h ▸ xs)
    | .isFalse _ => none
  | .own id => match row id with
    | some (.flat _ σ xs _ _) => match decEq σ τ with
      | .isTrue h => some (h ▸ xs)
      | .isFalse _ => none
    | _ => none
  | _ => none
def lenA (row : Nat → Option Row) : Option Ty → AV → Option Int
  | some (.sl _), .nil => some 0
  | some .str, .t .str s => some (s.size : Int)
  | some (.sl _), .t (.sl _) xs => some (xs.length : Int)
  | some (.sl _), .own id => match row id with
    | some (.flat _ _ xs _ _) => some (xs.length : Int)
    | _ => none
  | _, _ => none
/-- The rows that a value leads to. -/
def idsN : Nat → AV → List Nat
  | 0, _ => []
  | n + 1, a => match a with
    | .own id => [id]
    | .agg _ fs => go (idsN n) fs
    | .clo _ fs => go (idsN n) fs
    | _ => []
where go (f : AV → List Nat) : List AV → List Nat
  | [] => []
  | a :: l => f a ++ go f l
def epsN : Nat → AV → Bool
  | 0, _ => true
  | n + 1, a => match a with
    | .ep _ _ _ => true
    | .agg _ fs => anyL (epsN n) fs
    | .clo _ fs => anyL (epsN n) fs
    | .tp _ => true
    | _ => false
def idsL : List AV → List Nat
  | [] => []
  | a :: l => idsN 6 a ++ idsL l
/-- May a result lead to what the arguments lead to? -/
def leads : Nat → AV → Bool
  | 0, _ => true
  | n + 1, a => match a with
    | .t τ _ => slT τ
    | .fr _ τ _ => slT τ
    | .tup vs => anyL (leads n) vs
    | .nil => false
    | _ => true
/-- What a callee made in a block of its own is a row of the caller's. -/
def inst1 (id : Nat) (a : AV) (K : AV → List (Nat × Row) → Option R) : Option R :=
  match a with
  | .fr e τ xs => K (.own id) [(id, .flat e τ xs false true)]
  | a => K a []
def instR (id : Nat) (a : AV) (K : AV → List (Nat × Row) → Option R) : Option R :=
  match a with
  | .tup [] => K (.tup []) []
  | .tup [a, b] => inst1 id a fun a l => inst1 (id + 1) b fun b m => K (.tup [a, b]) (l ++ m)
  | .tup [a, b, c] => inst1 id a fun a l => inst1 (id + 1) b fun b m => inst1 (id + 2) c fun c n => K (.tup [a, b, c]) (l ++ (m ++ n))
  | .tup _ => none
  | a => inst1 id a K
def callA (C : Orc) (cal : Cal) (args : List AV) (dr : Bool) (id : Nat) (row : Nat → Option Row) (K : Upd → Option R) : Option R :=
  match mapO (closeR row 6) args with
  | none => none
  | some as => C cal as fun r =>
    match leads 4 r with
    | false => instR id r fun a l => K (makes a l)
    | true => match idsL args, anyL (epsN 6) args with
      | [], false => instR id r fun a l => K (makes a l)
      | ids, false => match dr with
        | false => instR id r fun a l => K ⟨a, l, ids, none, none⟩
        | true => none
      | _, true => none

/-! #### What is handed over -/
def hand (row : Nat → Option Row) : AV → Option (Nat × AV)
  | .own i => match row i with
    | some (.flat e τ xs false true) => some (i, .fr e τ xs)
    | _ => none
  | .ep i none [] => match row i with
    | some (.box σ (.t σ' x)) => match decEq σ' σ with
      | .isTrue _ => some (i, .bx σ' x)
      | .isFalse _ => none
    | _ => none
  | _ => none
def rowOf : AV → Option Row
  | .fr e τ xs => some (.flat e τ xs false true)
  | .bx τ x => some (.box τ (.t τ x))
  | _ => none
def slR : Row → Bool
  | .flat _ τ _ _ _ => slT τ
  | .box τ _ => slT τ
def sameK : AV → AV → Bool
  | .fr e τ _, .fr e' τ' _ => match decEq τ τ' with
    | .isTrue _ => Nat.beq e e'
    | .isFalse _ => false
  | .bx τ _, .bx τ' _ => match decEq τ τ' with
    | .isTrue _ => true
    | .isFalse _ => false
  | _, _ => false
def callM (C : Orc) (g : Nat) (args : List AV) (dr : Bool) (id : Nat) (row : Nat → Option Row) (K : Upd → Option R) : Option R :=
  match dr, args with
  | false, a0 :: rest => match hand row a0, mapO (closeR row 6) rest with
    | some (i, x0), some cl => match !anyL (epsN 6) rest && !(idsL rest).contains i with
      | true => C (.f g) (x0 :: cl) fun r => match r with
        | .kep o r' => match sameK o x0, rowOf o with
          | true, some ro => match leads 4 r' || slR ro with
            | false => instR id r' fun a l => K ⟨a, l, [], none, some (i, ro)⟩
            | true => instR id r' fun a l => K ⟨a, l, idsL rest, none, some (i, ro)⟩
          | _, _ => none
        | .mov e τ ys => match sameK (.fr e τ ys) x0 with
          | true => match Nat.beq i mbase with
            | true => none
            | false => match slT τ with
              | false => K ⟨.own i, [], [], some (i, .flat e τ ys false true), none⟩
              | true => K ⟨.own i, [], idsL rest, some (i, .flat e τ ys false true), none⟩
          | false => none
        | _ => none
      | false => none
    | _, _ => none
  | _, _ => none

/-- append(a, b): bytes a row may take. -/
def room (n : Nat) (τ : Ty) : Bool := Nat.ble (n * nb τ) 140737488355328
def appA (E : Env) (sT : Nat) (a b : AV) (id : Nat) (row : Nat → Option Row) (K : Upd → Option R) : Option R :=
  match E.ty sT with
  | some (.sl τ) => match listOf row τ b with
    | some ys => match a with
      | .nil => cond (room ys.length τ) (K (makes (.own id) [(id, .flat (E.el sT) τ ys false true)])) none
      | .own j => match row j with
        | some (.flat e σ xs false true) => match decEq σ τ with
          | .isTrue h => match Nat.beq e (E.el sT) && !Nat.beq j mbase with
            | true => cond (room (xs.length + ys.length) τ) (K ⟨.own j, [], [], some (j, .flat e τ ((h ▸ xs) ++ ys) false true), none⟩) none
            | false => none
          | .isFalse _ => none
        | _ => none
      | _ => none
    | none => none
  | _ => none

def builtinA (E : Env) (b : Builtin) (argTypes : Array Nat) (args : List AV) (id : Nat) (row : Nat → Option Row) (K : Upd → Option R) : Option R :=
  match b, args with
  | .len, [a] => match argTypes.toList with
    | [T] => match lenA row (E.ty T) a with
      | some n => K (quiet (.t (.int .i64) n))
      | none => none
    | _ => none
  | .append, [a, x] => match argTypes.toList with
    | [T, T'] => match Nat.beq T T' with
      | true => appA E T a x id row K
      | false => none
    | _ => none
  | .min, [.t (.int .i64) x, .t (.int .i64) y] => K (quiet (.t (.int .i64) (if y < x then y else x)))
  | .max, [.t (.int .i64) x, .t (.int .i64) y] => K (quiet (.t (.int .i64) (if y > x then y else x)))
  | .min, [.t (.int .i64) x, .t (.int .i64) y, .t (.int .i64) z] => K (quiet (.t (.int .i64) (if z < (if y < x then y else x) then z else (if y < x then y else x))))
  | .clear, [.ep j (some i) p] => match tailP p, row j with
    | true, some (.flat e τ xs false app) => match argTypes.toList, agT τ with
      | [T], false => match E.ty T with
        | some (.sl σ) => match decEq σ τ with
          | .isTrue _ => K ⟨undefV, [], [], none, some (j, .flat e τ (xs.take i ++ List.replicate (xs.length - i) (dflt τ)) false app)⟩
          | .isFalse _ => none
        | _ => none
      | _, _ => none
    | _, _ => none
  | _, _ => none

def evO (ev : Operand → AV) : Option Operand → Option (Option Int)
  | none => some none
  | some x => match ev x with
    | .t (.int .i64) n => some (some n)
    | _ => none

/-- The parts of a literal in their places. -/
def partsA (ev : Operand → AV) (l : List Ty) : List (Nat × Operand) → List AV → Option (List AV)
  | [], fs => some fs
  | p :: ps, fs => match l[p.1]? with
    | some σ => match fit σ (ev p.2) with
      | true => partsA ev l ps (fs.set p.1 (ev p.2))
      | false => none
    | none => none
def closeAll (row : Nat → Option Row) (τ : Ty) : List AV → Option (List (den τ))
  | [] => some []
  | a :: l => match closeR row 6 a with
    | some b => match asT τ b with
      | some x => match closeAll row τ l with
        | some xs => some (x :: xs)
        | none => none
      | none => none
    | none => none
def mapE (f : Operand → AV) : List Operand → List AV
  | [] => []
  | a :: l => f a :: mapE f l

def isAny : AV → Bool
  | .any => true
  | _ => false
/-- A struct that has this field. -/
def stT (τ : Ty) (f : Nat) : Bool := match τ with
  | .arr _ _ => false
  | τ => Nat.blt f (fty τ).length
/-- One operation. dr: in a region whose order is open. -/
def aop (E : Env) (C : Orc) (dr : Bool) (o : Oper) (id : Nat) (ev : Operand → AV) (row : Nat → Option Row) (K : Upd → Option R) : Option R :=
  match o.op with
  | .move x | .assign x => K (quiet (ev x))
  | .pick c a b => match ev c with
    | .t .bool v => cond v (K (quiet (ev a))) (K (quiet (ev b)))
    | _ => none
  | .alloc T => match E.ty T with
    | some τ => K (makes (.ep id none []) [(id, .box τ (.t τ (dflt τ)))])
    | none => none
  | .box T x => match E.ty T with
    | some τ => match fit τ (ev x) with
      | true => K (makes (.ep id none []) [(id, .box τ (ev x))])
      | false => none
    | none => none
  | .build T ps => match E.ty T with
    | some τ => match agT τ with
      | true => match partsA ev (fty τ) ps.toList (explode τ (dflt τ)) with
        | some fs => K (quiet (mkSt τ fs))
        | none => none
      | false => none
    | none => none
  | .buildSlice T n ps => match E.ty T with
    | some (.sl τ) => match Nat.ble (n * nc τ) 16777216, partsA ev (List.replicate n τ) ps.toList (List.replicate n (.t τ (dflt τ))) with
      | true, some fs => match closeAll row τ fs with
        | some xs => match idsL fs, anyL (epsN 6) fs with
          | [], false => K (makes (.own id) [(id, .flat (E.el T) τ xs false true)])
          | ids, false => match dr with
            | false => K ⟨.own id, [(id, .flat (E.el T) τ xs false true)], ids, none, none⟩
            | true => none
          | _, true => none
        | none => none
      | _, _ => none
    | _ => none
  | .load T x => match E.ty T, ev x with
    | some τ, .tp (.t σ y) => match decEq σ τ with
      | .isTrue _ => K (quiet (.t σ y))
      | .isFalse _ => none
    | some τ, .ep j none p => match row j with
      | some (.box σ a) => match tyP σ p with
        | some ρ => match decEq ρ τ with
          | .isTrue _ => match getP a p with
            | some b => K (quiet b)
            | none => none
          | .isFalse _ => none
        | none => none
      | _ => none
    | some τ, .ep j (some i) p => match row j with
      | some (.flat _ σ xs _ _) => match tyP σ p with
        | some ρ => match decEq ρ τ with
          | .isTrue _ => match getP (.t σ (xs.getD i (dflt σ))) p with
            | some b => K (quiet b)
            | none => none
          | .isFalse _ => none
        | none => none
      | _ => none
    | _, _ => none
  | .store T x v => match E.ty T, ev x with
    | some τ, .ep j none p => match row j with
      | some (.box σ a) => match tyP σ p with
        | some ρ => match decEq ρ τ, fit τ (ev v) with
          | .isTrue _, true => match setP a p (ev v) with
            | some b => K ⟨undefV, [], [], none, some (j, .box σ b)⟩
            | none => none
          | _, _ => none
        | none => none
      | _ => none
    | some τ, .ep j (some i) p => match row j with
      | some (.flat e σ xs false app) => match tyP σ p with
        | some ρ => match decEq ρ τ, fit τ (ev v) with
          | .isTrue _, true => match setP (.t σ (xs.getD i (dflt σ))) p (ev v) with
            | some b => match asT σ b with
              | some y => K ⟨undefV, [], [], none, some (j, .flat e σ (xs.set i y) false app)⟩
              | none => none
            | none => none
          | _, _ => none
        | none => none
      | _ => none
    | _, _ => none
  | .nilCheck x => match ev x with
    | .ep j i p => match tailP p with
      | false => K (quiet (.ep j i p))
      | true => none
    | .tp a => K (quiet (.tp a))
    | .clo f c => K (quiet (.clo f c))
    | _ => none
  | .binOp op T x y _ => binT op (E.ty T) (ev x) (ev y) fun a => K (quiet a)
  | .unOp op _ x => unA op (ev x) fun a => K (quiet a)
  | .convert S T x => match E.ty S, E.ty T, ev x with
    | some (.int _), some (.int k), .t (.int _) n => K (quiet (.t (.int k) (k.wrap n)))
    | some .str, some .str, .t .str s => K (quiet (.t .str s))
    | some .str, some (.sl (.int .u8)), .t .str s => cond (Nat.ble s.size 9223372036854775807) (K (makes (.own id) [(id, .flat (E.el T) (.int .u8) (bytesL s) false false)])) none
    | some (.sl (.int .u8)), some .str, a => match listOf row (.int .u8) a with
      | some xs => K (quiet (.t .str (strL xs)))
      | none => none
    | some (.int _), some .str, .t (.int _) n => K (quiet (.t .str (Utf8.encode n)))
    | _, _, _ => none
  | .makeFunc (.func f) first caps => match first.toList with
    | [] => match anyL isAny (mapE ev caps.toList) with
      | false => K (quiet (.clo f (mapE ev caps.toList)))
      | true => none
    | _ => none
  | .makeSlice T l c => match E.ty T, ev l, ev c with
    | some (.sl τ), .t (.int .i64) n, .t (.int .i64) m => cond (n == m) (cond (decide (0 ≤ n)) (cond (Nat.ble (n.toNat * nb τ) 140737488355328)
        (K (makes (.own id) [(id, .flat (E.el T) τ (List.replicate n.toNat (dflt τ)) false true)])) none) none) none
    | _, _, _ => none
  | .slice T x lo hi none => match E.ty T, evO ev lo, evO ev hi, ev x with
    | some .str, some l, some h, .t .str s => cut l h s.size fun a b => K (quiet (.t .str (s.extract a b)))
    | some (.sl σ), some l, some h, .t (.sl τ) xs => match decEq σ τ with
      | .isTrue _ => cut l h xs.length fun a b => K (quiet (.t (.sl τ) (pieceL l h xs a b)))
      | .isFalse _ => none
    | some (.sl σ), some l, some h, .own j => match dr, row j with
      | false, some (.flat e τ xs fz app) => match decEq σ τ with
        | .isTrue _ => match movK j l h fz (agT τ) with
          | 0 => cut l h xs.length fun a b => K ⟨.t (.sl τ) (pieceL l h xs a b), [], [j], none, none⟩
          | 1 => cut l h xs.length fun a _ => K (quiet (.ep j (some a) [tmark]))
          | _ => cut l h xs.length fun a b => K ⟨.own j, [], [], some (j, .flat e τ (pieceL l h xs a b) false app), none⟩
        | .isFalse _ => none
      | _, _ => none
    | some (.arr m σ), some none, some none, .tp (.t (.arr n τ) xs) => match decEq σ τ, Nat.beq m n with
      | .isTrue _, true => cond (Nat.ble n 9223372036854775807) (K (quiet (.t (.sl τ) xs))) none
      | _, _ => none
    | _, _, _, _ => none
  | .fieldAddr T x f => match E.ty T, ev x with
    | some τ, .tp (.t σ y) => match decEq σ τ, fieldA (.t σ y) f with
      | .isTrue _, some b => cond (stT τ f) (K (quiet (.tp b))) none
      | _, _ => none
    | some τ, .ep j i p => match row j with
      | some (.box σ _) => match tyP σ p with
        | some ρ => match decEq ρ τ with
          | .isTrue _ => cond (stT τ f) (K (quiet (.ep j i (p ++ [f])))) none
          | .isFalse _ => none
        | none => none
      | some (.flat _ σ _ _ _) => match tyP σ p with
        | some ρ => match decEq ρ τ with
          | .isTrue _ => cond (stT τ f) (K (quiet (.ep j i (p ++ [f])))) none
          | .isFalse _ => none
        | none => none
      | none => none
    | _, _ => none
  | .field T x f => match E.ty T, ev x with
    | some τ, .t σ y => match decEq σ τ, fieldA (.t σ y) f with
      | .isTrue _, some b => cond (stT τ f) (K (quiet b)) none
      | _, _ => none
    | some τ, .agg σ fs => match decEq σ τ, fieldA (.agg σ fs) f with
      | .isTrue _, some b => match fit τ (.agg σ fs) with
        | true => cond (stT τ f) (K (quiet b)) none
        | false => none
      | _, _ => none
    | _, _ => none
  | .indexAddr T x ix => match E.ty T, ev ix with
    | some (.sl τ), .t (.int .i64) i => match ev x with
      | .t (.sl σ) xs => match decEq σ τ with
        | .isTrue _ => idx i xs.length (K (quiet (.tp (.t σ (xs.getD i.toNat (dflt σ))))))
        | .isFalse _ => none
      | .own j => match row j with
        | some (.flat _ σ xs _ _) => match decEq σ τ with
          | .isTrue _ => idx i xs.length (K (quiet (.ep j (some i.toNat) [])))
          | .isFalse _ => none
        | _ => none
      | _ => none
    | some (.arr n τ), .t (.int .i64) i => match ev x with
      | .tp (.t (.arr m σ) xs) => match decEq σ τ, Nat.beq m n with
        | .isTrue _, true => cond (Nat.blt 1 n) (idx i n (K (quiet (.tp (.t σ (xs.getD i.toNat (dflt σ))))))) none
        | _, _ => none
      | _ => none
    | _, _ => none
  | .index T x ix => match E.ty T, ev x, ev ix with
    | some .str, .t .str s, .t (.int .i64) i => idx i s.size (K (quiet (.t (.int .u8) (bt s i.toNat))))
    | _, _, _ => none
  | .extract x i => match ev x with
    | .tup vs => match vs[i]? with
      | some a => K (quiet a)
      | none => none
    | _ => none
  | .call c => match c.callee with
    | .builtin b => builtinA E b c.argTypes (mapE ev c.args.toList) id row K
    | .value f => match ev f with
      | .clo g caps => match E.md g with
        | true => callM C g (mapE ev c.args.toList ++ caps) dr id row K
        | false => callA C (.f g) (mapE ev c.args.toList ++ caps) dr id row K
      | .par i => callA C (.par i) (mapE ev c.args.toList) dr id row K
      | _ => none
    | _ => none
  | _ => none

/-- Is the operation carried out? What is learned of its guard is kept. -/
def wantedK (ops : Array Oper) (o : Oper) (st : St) (yes no : St → Option R) : Option R :=
  match o.guard with
  | none => yes st
  | some (j, want) => match ops[j]? with
    | some g => match g.dst with
      | some d => match st.slot d with
        | .t .bool b => match want with
          | true => cond b (yes (st.put d (.t .bool true))) (no (st.put d (.t .bool false)))
          | false => cond b (no (st.put d (.t .bool true))) (yes (st.put d (.t .bool false)))
        | .tup [] => no st
        | _ => none
      | none => no st
    | none => no st
def dstOk (o : Oper) (n : Nat) : Bool := match o.dst with
  | some d => Nat.blt d n
  | none => true
def runOps (E : Env) (C : Orc) (dr : Bool) (ops : Array Oper) (rid : Nat) : List Oper → Nat → St → (St → Option R) → Option R
  | [], _, st, K => K st
  | o :: l, i, st, K => match dstOk o st.nt with
    | true => wantedK ops o st (fun st => aop E C dr o ((rid * 256 + i) * 4) (ev E st) st.row fun u => runOps E C dr ops rid l (i + 1) (st.apply o.dst u) K)
      (fun st => runOps E C dr ops rid l (i + 1) (st.putO o.dst undefV) K)
    | false => none

/-- Operations that change what others may see. -/
def effB (o : Oper) : Bool := match o.op with
  | .store .. => true
  | .call { callee := .builtin .append, .. } => true
  | .call { callee := .builtin .clear, .. } => true
  | _ => false
/-- What an operation looks at. -/
def looks (ops : Array Oper) (o : Oper) : List Nat := o.looksAt ops
/-- One of two is ahead of the other, by these bits. -/
def inOrder (B : List Nat) (i j : Nat) : Bool := Nat.beq i j || (B.getD (max i j) 0).testBit (min i j)
/-- The bits are those of the edges; whoever looks at what another one writes stands in order to it; so does, to every other, what changes what others may see. -/
def drawOk (ops : Array Oper) : Bool :=
  let B := (Region.before ops).toList
  let n := ops.size
  (List.range n).all fun i => match ops[i]? with
    | none => false
    | some o => (match o.op with | .select .. => false | _ => true) && o.after.toList.all (fun e => !Region.binds .any e || Nat.blt e.on i) &&
      Nat.beq (B.getD i 0) (o.after.toList.foldl (fun s e => if Region.binds .any e then s ||| 2 ^ e.on ||| B.getD e.on 0 else s) 0) &&
      (List.range n).all fun j => match ops[j]? with
        | none => false
        | some p => inOrder B i j || (!effB o && (match p.dst with
          | some d => !(looks ops o).contains d && o.dst != some d
          | none => true))

def runC (E : Env) (C : Orc) (L : LOrc) : Nat → Code → St → (Ex → St → Option R) → Option R
  | _, .skip, st, K => K .normal st
  | _, .region rid ops dr, st, K => match !Nat.ble ops.size 256 || (!Nat.ble (rid * 1024 + 1024) mbase || (dr && !drawOk ops)) with
    | true => none
    | false => runOps E C dr ops rid ops.toList 0 (st.kill (rid * 1024) (rid * 1024 + 1024)) fun st => K .normal st
  | b, .seq x y, st, K => runC E C L b x st fun e st => match e with
    | .normal => runC E C L b y st K
    | e => K e st
  | b, .cond c x y, st, K => match ev E st c with
    | .t .bool v => cond v (runC E C L b x st K) (runC E C L b y st K)
    | _ => none
  | _, .block id c, st, K => runC E C L id c st fun e st => match e with
    | .exit j => match Nat.beq j id with
      | true => K .normal st
      | false => K (.exit j) st
    | e => K e st
  | b, .loop _, st, K => L b st K
  | _, .exit id, st, K => K (.exit id) st
  | _, .ret, st, K => K .ret st
  | _, _, _, _ => none
end

/-! ### A function's run -/
def ret1 (st : St) (a : AV) : Option AV := match a with
  | .own id => match st.row id with
    | some (.flat e τ xs false true) => some (.fr e τ xs)
    | some (.flat _ τ xs _ _) => some (.t (.sl τ) xs)
    | _ => none
  | a => closeR st.row 6 a
def resA (E : Env) (st : St) : ResultVar → Option AV
  | .tmp t => some (st.slot t)
  | .cell t T => match E.ty T, st.slot t with
    | some τ, .ep j none [] => match st.row j with
      | some (.box σ a) => match decEq σ τ with
        | .isTrue _ => some a
        | .isFalse _ => none
      | _ => none
    | _, _ => none
def distinctL : List Nat → Bool
  | [] => true
  | a :: l => !l.contains a && distinctL l
def retAll (st : St) : List AV → Option (List AV)
  | [] => some []
  | a :: l => match ret1 st a with
    | some b => match retAll st l with
      | some m => some (b :: m)
      | none => none
    | none => none
def resAll (E : Env) (st : St) : List ResultVar → Option (List AV)
  | [] => some []
  | a :: l => match resA E st a with
    | some b => match resAll E st l with
      | some m => some (b :: m)
      | none => none
    | none => none
def one : List AV → AV
  | [a] => a
  | l => .tup l
def start (nt : Nat) (args : List AV) : St := ⟨fun t => match args[t]? with
  | some a => a
  | none => undefV, fun _ => none, nt⟩
def runF {R : Type} (E : Env) (C : Orc) (L : LOrc) (fn : Func) (args : List AV) (K : AV → Option R) : Option R :=
  match fn.body with
  | some c => runC E C L 0 c (start fn.ntmps args) fun e st => match e with
    | .exit _ => none
    | _ => match resAll E st fn.results.toList with
      | some rs => match distinctL (idsL rs) && !anyL (epsN 6) rs with
        | true => match retAll st rs with
          | some as => K (one as)
          | none => none
        | false => none
      | none => none
  | none => none

/-! ### A function that is handed what it may change -/
def startM (nt mb : Nat) (a0 : AV) (args : List AV) : St := ⟨fun t => match t with
  | 0 => (match a0 with
    | .fr _ _ _ => .own mb
    | _ => .ep mb none [])
  | t + 1 => match args[t]? with
    | some a => a
    | none => undefV, fun id => cond (Nat.beq id mb) (rowOf a0) none, nt⟩
def outM {R : Type} (st : St) (mb : Nat) (a0 : AV) (K : AV → Option R) : Option R := match a0, st.row mb with
  | .fr e τ xs, some (.flat e' σ ys false true) => match sameK (.fr e' σ ys) (.fr e τ xs) with
    | true => cond (Nat.beq ys.length xs.length) (K (.fr e' σ ys)) none
    | false => none
  | .bx τ _, some (.box σ b) => match decEq σ τ, asT σ b with
    | .isTrue _, some y => K (.bx σ y)
    | _, _ => none
  | _, _ => none
def keepM {R : Type} (st : St) (mb : Nat) (a0 : AV) (rs : List AV) (K : AV → Option R) : Option R := match Nat.beq mb mbase && (distinctL (idsL rs) && (!anyL (epsN 6) rs && !(idsL rs).contains mbase)) with
  | true => match retAll st rs with
    | some as => outM st mb a0 fun o => K (.kep o (one as))
    | none => none
  | false => none
def runM {R : Type} (E : Env) (C : Orc) (L : LOrc) (fn : Func) (mb : Nat) (a0 : AV) (args : List AV) (K : AV → Option R) : Option R :=
  match fn.body with
  | some c => runC E C L 0 c (startM fn.ntmps mb a0 args) fun e st => match e with
    | .exit _ => none
    | _ => match resAll E st fn.results.toList with
      | some rs => match rs with
        | [.own i] => match Nat.beq i mb && !Nat.beq mb mbase with
          | true => match st.row mb with
            | some (.flat e τ ys false true) => K (.mov e τ ys)
            | _ => none
          | false => keepM st mb a0 [.own i] K
        | rs => keepM st mb a0 rs K
      | none => none
  | none => none
end Go.Gx
