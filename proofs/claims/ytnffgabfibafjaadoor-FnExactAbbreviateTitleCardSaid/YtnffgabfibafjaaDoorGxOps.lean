/- What an operation does, as a relation; the interpreter's steps meet it; it hangs on the operands and the rows that are there. -/
import Derived.Test.YtnffgabfibafjaaDoorGxSim2
namespace Go.Gx

def CallR (G : Cal → List AV → AV → Prop) (row : Nat → Option Row) (dr : Bool) (id : Nat) (cal : Cal) (args : List AV) (u : Upd) : Prop :=
  ∃ cl r av news, mapO (closeR row 6) args = some cl ∧ G cal cl r ∧ instR id r (fun a l => some (a, l)) = some (av, news) ∧
    ((leads 4 r = false ∧ u = makes av news) ∨ (anyL (epsN 6) args = false ∧ (idsL args = [] ∨ dr = false) ∧ u = ⟨av, news, idsL args, none, none⟩))
def CallM (G : Cal → List AV → AV → Prop) (row : Nat → Option Row) (dr : Bool) (id : Nat) (g : Nat) (args : List AV) (u : Upd) : Prop :=
  dr = false ∧ ∃ a0 rest i x0 cl r, args = a0 :: rest ∧ hand row a0 = some (i, x0) ∧ mapO (closeR row 6) rest = some cl ∧ anyL (epsN 6) rest = false ∧ i ∉ idsL rest ∧ G (.f g) (x0 :: cl) r ∧
    ((∃ o r' ro av news, r = .kep o r' ∧ sameK o x0 = true ∧ rowOf o = some ro ∧ instR id r' (fun a l => some (a, l)) = some (av, news) ∧
        ((leads 4 r' = false ∧ slR ro = false ∧ u = ⟨av, news, [], none, some (i, ro)⟩) ∨ u = ⟨av, news, idsL rest, none, some (i, ro)⟩)) ∨
     (∃ e τ, ∃ ys : List (den τ), r = .mov e τ ys ∧ sameK (.fr e τ ys) x0 = true ∧ i ≠ mbase ∧ ((slT τ = false ∧ u = ⟨.own i, [], [], some (i, .flat e τ ys false true), none⟩) ∨ u = ⟨.own i, [], idsL rest, some (i, .flat e τ ys false true), none⟩)))
def CallX (E : Env) (G : Cal → List AV → AV → Prop) (row : Nat → Option Row) (dr : Bool) (id : Nat) (g : Nat) (args : List AV) (u : Upd) : Prop :=
  (E.md g = false ∧ CallR G row dr id (.f g) args u) ∨ (E.md g = true ∧ CallM G row dr id g args u)
def AppR (E : Env) (sT : Nat) (a b : AV) (id : Nat) (row : Nat → Option Row) (u : Upd) : Prop :=
  ∃ τ ys, E.ty sT = some (.sl τ) ∧ listOf row τ b = some ys ∧
    ((a = .nil ∧ room ys.length τ = true ∧ u = makes (.own id) [(id, .flat (E.el sT) τ ys false true)]) ∨
     (∃ j xs, a = .own j ∧ j ≠ mbase ∧ row j = some (.flat (E.el sT) τ xs false true) ∧ room (xs.length + ys.length) τ = true ∧ u = ⟨.own j, [], [], some (j, .flat (E.el sT) τ (xs ++ ys) false true), none⟩))
def BuiltR (E : Env) (b : Builtin) (argTypes : Array Nat) (args : List AV) (id : Nat) (row : Nat → Option Row) (u : Upd) : Prop :=
  (b = .len ∧ ∃ a n T, args = [a] ∧ argTypes = #[T] ∧ lenA row (E.ty T) a = some n ∧ u = quiet (.t (.int .i64) n)) ∨
  (b = .append ∧ ∃ a x T, args = [a, x] ∧ argTypes = #[T, T] ∧ AppR E T a x id row u) ∨
  (b = .min ∧ ∃ x y : Int, args = [.t (.int .i64) x, .t (.int .i64) y] ∧ u = quiet (.t (.int .i64) (if y < x then y else x))) ∨
  (b = .max ∧ ∃ x y : Int, args = [.t (.int .i64) x, .t (.int .i64) y] ∧ u = quiet (.t (.int .i64) (if y > x then y else x))) ∨
  (b = .min ∧ ∃ x y z : Int, args = [.t (.int .i64) x, .t (.int .i64) y, .t (.int .i64) z] ∧ u = quiet (.t (.int .i64) (if z < (if y < x then y else x) then z else (if y < x then y else x)))) ∨
  (b = .clear ∧ ∃ j i e τ, ∃ xs : List (den τ), ∃ app p T, args = [.ep j (some i) p] ∧ argTypes = #[T] ∧ E.ty T = some (.sl τ) ∧ tailP p = true ∧ row j = some (.flat e τ xs false app) ∧ agT τ = false ∧ u = ⟨undefV, [], [], none, some (j, .flat e τ (xs.take i ++ List.replicate (xs.length - i) (dflt τ)) false app)⟩)
def CutR (lo hi : Option Int) (n a b : Nat) : Prop := cut lo hi n (fun a b => some (a, b)) = some (a, b)

/-- Pieces of a row that was handed over. -/
def SliceM (E : Env) (T : Nat) (l h : Option Int) (x : AV) (row : Nat → Option Row) (u : Upd) : Prop :=
  ∃ j e τ, ∃ xs : List (den τ), ∃ app a b, E.ty T = some (.sl τ) ∧ x = .own j ∧ row j = some (.flat e τ xs false app) ∧ agT τ = false ∧ j ≠ mbase ∧ CutR l h xs.length a b ∧
    ((∃ l0, l = some l0 ∧ h = none ∧ u = quiet (.ep j (some a) [tmark])) ∨
     (∃ h0, l = none ∧ h = some h0 ∧ u = ⟨.own j, [], [], some (j, .flat e τ (pieceL l h xs a b) false app), none⟩))
def AOp (E : Env) (G : Cal → List AV → AV → Prop) (dr : Bool) (o : Oper) (id : Nat) (ev : Operand → AV) (row : Nat → Option Row) (u : Upd) : Prop :=
  match o.op with
  | .move x => u = quiet (ev x)
  | .assign x => u = quiet (ev x)
  | .pick c a b => ∃ v, ev c = .t .bool v ∧ u = quiet (cond v (ev a) (ev b))
  | .alloc T => ∃ τ, E.ty T = some τ ∧ u = makes (.ep id none []) [(id, .box τ (.t τ (dflt τ)))]
  | .box T x => ∃ τ, E.ty T = some τ ∧ Fit τ (ev x) ∧ u = makes (.ep id none []) [(id, .box τ (ev x))]
  | .build T ps => ∃ τ fs, E.ty T = some τ ∧ agT τ = true ∧ partsA ev (fty τ) ps.toList (explode τ (dflt τ)) = some fs ∧ u = quiet (mkSt τ fs)
  | .buildSlice T n ps => ∃ τ fs xs, E.ty T = some (.sl τ) ∧ n * nc τ ≤ 16777216 ∧ partsA ev (List.replicate n τ) ps.toList (List.replicate n (.t τ (dflt τ))) = some fs ∧ closeAll row τ fs = some xs ∧ anyL (epsN 6) fs = false ∧ (idsL fs = [] ∨ dr = false) ∧
      u = ⟨.own id, [(id, .flat (E.el T) τ xs false true)], idsL fs, none, none⟩
  | .load T x => ∃ τ, E.ty T = some τ ∧ ((∃ y, ev x = .tp (.t τ y) ∧ u = quiet (.t τ y)) ∨
      (∃ j p σ a b, ev x = .ep j none p ∧ row j = some (.box σ a) ∧ tyP σ p = some τ ∧ getP a p = some b ∧ u = quiet b) ∨
      (∃ j i p e σ xs fz app b, ev x = .ep j (some i) p ∧ row j = some (.flat e σ xs fz app) ∧ tyP σ p = some τ ∧ getP (.t σ (xs.getD i (dflt σ))) p = some b ∧ u = quiet b))
  | .store T x v => ∃ τ, E.ty T = some τ ∧ Fit τ (ev v) ∧
      ((∃ j p σ a b, ev x = .ep j none p ∧ row j = some (.box σ a) ∧ tyP σ p = some τ ∧ setP a p (ev v) = some b ∧ u = ⟨undefV, [], [], none, some (j, .box σ b)⟩) ∨
       (∃ j i p e σ xs app b y, ev x = .ep j (some i) p ∧ row j = some (.flat e σ xs false app) ∧ tyP σ p = some τ ∧ setP (.t σ (xs.getD i (dflt σ))) p (ev v) = some b ∧ asT σ b = some y ∧
          u = ⟨undefV, [], [], none, some (j, .flat e σ (xs.set i y) false app)⟩))
  | .nilCheck x => u = quiet (ev x) ∧ ((∃ j i p, ev x = .ep j i p ∧ tailP p = false) ∨ (∃ a, ev x = .tp a) ∨ (∃ f c, ev x = .clo f c))
  | .binOp op T x y _ => ∃ b, binT op (E.ty T) (ev x) (ev y) some = some b ∧ u = quiet b
  | .unOp op _ x => ∃ b, unA op (ev x) some = some b ∧ u = quiet b
  | .convert S T x =>
      (∃ j k n, ∃ i, E.ty S = some (.int i) ∧ E.ty T = some (.int k) ∧ ev x = .t (.int j) n ∧ u = quiet (.t (.int k) (k.wrap n))) ∨
      (∃ s, E.ty S = some .str ∧ E.ty T = some .str ∧ ev x = .t .str s ∧ u = quiet (.t .str s)) ∨
      (∃ s, E.ty S = some .str ∧ E.ty T = some (.sl (.int .u8)) ∧ ev x = .t .str s ∧ s.size ≤ 9223372036854775807 ∧ u = makes (.own id) [(id, .flat (E.el T) (.int .u8) (bytesL s) false false)]) ∨
      (∃ xs, E.ty S = some (.sl (.int .u8)) ∧ E.ty T = some .str ∧ listOf row (.int .u8) (ev x) = some xs ∧ u = quiet (.t .str (strL xs))) ∨
      (∃ i j n, E.ty S = some (.int i) ∧ E.ty T = some .str ∧ ev x = .t (.int j) n ∧ u = quiet (.t .str (Utf8.encode n)))
  | .makeFunc fn first caps => ∃ f, fn = .func f ∧ first = #[] ∧ anyL isAny (mapE ev caps.toList) = false ∧ u = quiet (.clo f (mapE ev caps.toList))
  | .makeSlice T l c => ∃ τ, ∃ n : Int, E.ty T = some (.sl τ) ∧ ev l = .t (.int .i64) n ∧ ev c = .t (.int .i64) n ∧ 0 ≤ n ∧ n.toNat * nb τ ≤ 140737488355328 ∧
      u = makes (.own id) [(id, .flat (E.el T) τ (List.replicate n.toNat (dflt τ)) false true)]
  | .slice T x lo hi mx => mx = none ∧ ∃ l h, evO ev lo = some l ∧ evO ev hi = some h ∧
      ((dr = false ∧ SliceM E T l h (ev x) row u) ∨ (∃ s a b, E.ty T = some .str ∧ ev x = .t .str s ∧ CutR l h s.size a b ∧ u = quiet (.t .str (s.extract a b))) ∨
       (∃ τ, ∃ xs : List (den τ), ∃ a b, E.ty T = some (.sl τ) ∧ ev x = .t (.sl τ) xs ∧ CutR l h xs.length a b ∧ u = quiet (.t (.sl τ) (pieceL l h xs a b))) ∨
       (dr = false ∧ ∃ j e τ, ∃ xs : List (den τ), ∃ fz app a b, E.ty T = some (.sl τ) ∧ ev x = .own j ∧ row j = some (.flat e τ xs fz app) ∧ CutR l h xs.length a b ∧ u = ⟨.t (.sl τ) (pieceL l h xs a b), [], [j], none, none⟩) ∨
       (∃ n τ, ∃ xs : List (den τ), l = none ∧ h = none ∧ ev x = .tp (.t (.arr n τ) xs) ∧ E.ty T = some (.arr n τ) ∧ n ≤ 9223372036854775807 ∧ u = quiet (.t (.sl τ) xs)))
  | .fieldAddr T x f => ∃ τ, E.ty T = some τ ∧ stT τ f = true ∧ ((∃ y b, ev x = .tp (.t τ y) ∧ fieldA (.t τ y) f = some b ∧ u = quiet (.tp b)) ∨
      (∃ j i p σ r, ev x = .ep j i p ∧ row j = some r ∧ ((∃ a, r = .box σ a) ∨ (∃ e xs fz app, r = .flat e σ xs fz app)) ∧ tyP σ p = some τ ∧ u = quiet (.ep j i (p ++ [f]))))
  | .field T x f => ∃ τ b, E.ty T = some τ ∧ stT τ f = true ∧ Fit τ (ev x) ∧ fieldA (ev x) f = some b ∧ u = quiet b
  | .indexAddr T x ix => ∃ i : Int, ev ix = .t (.int .i64) i ∧ 0 ≤ i ∧
      ((∃ τ, ∃ xs : List (den τ), E.ty T = some (.sl τ) ∧ ev x = .t (.sl τ) xs ∧ i < (xs.length : Int) ∧ u = quiet (.tp (.t τ (xs.getD i.toNat (dflt τ))))) ∨
       (∃ j e τ, ∃ xs : List (den τ), ∃ fz app, E.ty T = some (.sl τ) ∧ ev x = .own j ∧ row j = some (.flat e τ xs fz app) ∧ i < (xs.length : Int) ∧ u = quiet (.ep j (some i.toNat) [])) ∨
       (∃ n τ, ∃ xs : List (den τ), E.ty T = some (.arr n τ) ∧ ev x = .tp (.t (.arr n τ) xs) ∧ 1 < n ∧ i < (n : Int) ∧ u = quiet (.tp (.t τ (xs.getD i.toNat (dflt τ))))))
  | .index T x ix => ∃ s, ∃ i : Int, E.ty T = some .str ∧ ev x = .t .str s ∧ ev ix = .t (.int .i64) i ∧ 0 ≤ i ∧ i < (s.size : Int) ∧ u = quiet (.t (.int .u8) (bt s i.toNat))
  | .extract x i => ∃ vs a, ev x = .tup vs ∧ vs[i]? = some a ∧ u = quiet a
  | .call c => (∃ b, c.callee = .builtin b ∧ BuiltR E b c.argTypes (mapE ev c.args.toList) id row u) ∨
      (∃ f, c.callee = .value f ∧ ((∃ g caps, ev f = .clo g caps ∧ CallX E G row dr id g (mapE ev c.args.toList ++ caps) u) ∨ (∃ i, ev f = .par i ∧ CallR G row dr id (.par i) (mapE ev c.args.toList) u)))
  | _ => False

/-- What the oracle answers is told by G. -/
def OrcIs (C : Orc) (G : Cal → List AV → AV → Prop) : Prop := ∀ (R : Type) cal args (K : AV → Option R) r, C cal args K = some r → ∃ res, G cal args res ∧ K res = some r

section
variable {R : Type} {r : R}
theorem binI_nat {op : BinOp} {k : IntKind} {x y : Int} {K : AV → Option R} (h : binI op k x y K = some r) : ∃ b, binI op k x y some = some b ∧ K b = some r := by
  cases op <;> simp only [binI] at h ⊢ <;> first
    | exact ⟨_, rfl, h⟩
    | (cases hy : (y == 0) <;> rw [hy] at h <;> simp at h ⊢ <;> exact h)
    | cases h
theorem binS_nat {op : BinOp} {x y : ByteArray} {K : AV → Option R} (h : binS op x y K = some r) : ∃ b, binS op x y some = some b ∧ K b = some r := by
  cases op <;> simp only [binS] at h ⊢ <;> first
    | exact ⟨_, rfl, h⟩
    | (cases hy : (Nat.ble (x.size + y.size) 9223372036854775807) <;> rw [hy] at h <;> simp at h ⊢ <;> exact h)
    | cases h
theorem binA_nat {op : BinOp} {a b : AV} {K : AV → Option R} (h : binA op a b K = some r) : ∃ c, binA op a b some = some c ∧ K c = some r := by
  unfold binA at h ⊢
  split at h
  · split at h
    · exact binI_nat h
    · cases h
  · exact binS_nat h
  · cases h
theorem binT_nat {op : BinOp} {t : Option Ty} {a b : AV} {K : AV → Option R} (h : binT op t a b K = some r) : ∃ c, binT op t a b some = some c ∧ K c = some r := by
  unfold binT at h ⊢
  split at h
  · cases op <;> first
      | exact ⟨_, rfl, h⟩
      | cases h
  · cases op <;> first
      | exact ⟨_, rfl, h⟩
      | cases h
  · cases op <;> first
      | exact ⟨_, rfl, h⟩
      | cases h
  · exact binA_nat h
theorem unA_nat {op : UnOp} {a : AV} {K : AV → Option R} (h : unA op a K = some r) : ∃ c, unA op a some = some c ∧ K c = some r := by
  unfold unA at h ⊢
  split at h
  · exact ⟨_, rfl, h⟩
  · exact ⟨_, rfl, h⟩
  · cases h
theorem idx_some {i : Int} {n : Nat} {K : Option R} (h : idx i n K = some r) : 0 ≤ i ∧ i < (n : Int) ∧ K = some r := by
  unfold idx at h
  cases h1 : decide (0 ≤ i) with
  | false => rw [h1] at h; cases h
  | true =>
    cases h2 : decide (i < (n : Int)) with
    | false => rw [h1, h2] at h; cases h
    | true => rw [h1, h2] at h; exact ⟨of_decide_eq_true h1, of_decide_eq_true h2, h⟩
theorem cond_some {b : Bool} {x : Option R} (h : cond b x none = some r) : b = true ∧ x = some r := by
  cases b with
  | false => cases h
  | true => exact ⟨rfl, h⟩
theorem cut_some {lo hi : Option Int} {n : Nat} {K : Nat → Nat → Option R} (h : cut lo hi n K = some r) : ∃ a b, CutR lo hi n a b ∧ K a b = some r := by
  unfold CutR
  cases lo with
  | none =>
    cases hi with
    | none => exact ⟨_, _, rfl, h⟩
    | some b =>
      simp only [cut] at h ⊢
      obtain ⟨h1, h⟩ := cond_some h
      obtain ⟨h2, h⟩ := cond_some h
      exact ⟨_, _, by rw [h1, h2]; rfl, h⟩
  | some a =>
    cases hi with
    | none =>
      simp only [cut] at h ⊢
      obtain ⟨h1, h⟩ := cond_some h
      obtain ⟨h2, h⟩ := cond_some h
      exact ⟨_, _, by rw [h1, h2]; rfl, h⟩
    | some b =>
      simp only [cut] at h ⊢
      obtain ⟨h1, h⟩ := cond_some h
      obtain ⟨h2, h⟩ := cond_some h
      obtain ⟨h3, h⟩ := cond_some h
      obtain ⟨h4, h⟩ := cond_some h
      exact ⟨_, _, by rw [h1, h2, h3, h4]; rfl, h⟩
theorem inst1_nat {id : Nat} {a : AV} {K : AV → List (Nat × Row) → Option R} (h : inst1 id a K = some r) : ∃ b l, inst1 id a (fun b l => some (b, l)) = some (b, l) ∧ K b l = some r := by
  unfold inst1 at h ⊢
  split at h
  · exact ⟨_, _, rfl, h⟩
  · rename_i hn
    cases a <;> first
      | exact ⟨_, _, rfl, h⟩
      | exact absurd rfl (hn _ _ _)
theorem inst1_eq {id : Nat} {a b : AV} {l : List (Nat × Row)} {R' : Type} (h : inst1 id a (fun b l => some (b, l)) = some (b, l)) (K : AV → List (Nat × Row) → Option R') : inst1 id a K = K b l := by
  cases a <;> simp only [inst1, Option.some.injEq, Prod.mk.injEq] at h ⊢ <;> (obtain ⟨rfl, rfl⟩ := h; rfl)
theorem instR_nat {id : Nat} {a : AV} {K : AV → List (Nat × Row) → Option R} (h : instR id a K = some r) : ∃ b l, instR id a (fun b l => some (b, l)) = some (b, l) ∧ K b l = some r := by
  cases a with
  | tup vs =>
    match vs, h with
    | [], h => exact ⟨_, _, rfl, h⟩
    | [_], h => simp [instR] at h
    | [x, y], h =>
      simp only [instR] at h ⊢
      obtain ⟨b1, l1, e1, h⟩ := inst1_nat h
      obtain ⟨b2, l2, e2, h⟩ := inst1_nat h
      exact ⟨_, _, by rw [inst1_eq e1, inst1_eq e2], h⟩
    | [x, y, z], h =>
      simp only [instR] at h ⊢
      obtain ⟨b1, l1, e1, h⟩ := inst1_nat h
      obtain ⟨b2, l2, e2, h⟩ := inst1_nat h
      obtain ⟨b3, l3, e3, h⟩ := inst1_nat h
      exact ⟨_, _, by rw [inst1_eq e1, inst1_eq e2, inst1_eq e3], h⟩
    | _ :: _ :: _ :: _ :: _, h => simp [instR] at h
  | _ => simp only [instR] at h ⊢; exact inst1_nat h

variable {E : Env} {C : Orc} {G : Cal → List AV → AV → Prop}
theorem callA_rel (hC : OrcIs C G) {cal : Cal} {args : List AV} {dr : Bool} {id : Nat} {row : Nat → Option Row} {K : Upd → Option R} (h : callA C cal args dr id row K = some r) : ∃ u, CallR G row dr id cal args u ∧ K u = some r := by
  unfold callA at h
  split at h
  · cases h
  · rename_i cl hcl
    obtain ⟨res, hres, h⟩ := hC _ _ _ _ _ h
    split at h
    · rename_i hl
      obtain ⟨b, l, e, h⟩ := instR_nat h
      exact ⟨_, ⟨cl, res, b, l, hcl, hres, e, .inl ⟨hl, rfl⟩⟩, h⟩
    · split at h
      · rename_i h1 h2
        obtain ⟨b, l, e, h⟩ := instR_nat h
        exact ⟨_, ⟨cl, res, b, l, hcl, hres, e, .inr ⟨h2, .inl h1, by rw [h1]; rfl⟩⟩, h⟩
      · rename_i h1 h2 _
        split at h
        · obtain ⟨b, l, e, h⟩ := instR_nat h
          exact ⟨_, ⟨cl, res, b, l, hcl, hres, e, .inr ⟨h2, .inr rfl, rfl⟩⟩, h⟩
        · cases h
      · cases h
theorem callM_rel (hC : OrcIs C G) {g : Nat} {args : List AV} {dr : Bool} {id : Nat} {row : Nat → Option Row} {K : Upd → Option R} (h : callM C g args dr id row K = some r) : ∃ u, CallM G row dr id g args u ∧ K u = some r := by
  unfold callM at h
  split at h
  · rename_i a0 rest
    split at h
    · rename_i i x0 cl hh hcl
      split at h
      · rename_i hg
        simp only [Bool.and_eq_true, Bool.not_eq_true'] at hg
        obtain ⟨res, hres, h⟩ := hC _ _ _ _ _ h
        have hi : i ∉ idsL rest := by simpa using hg.2
        split at h
        · rename_i o r'
          split at h
          · rename_i ro hk hro
            split at h
            · rename_i hl
              obtain ⟨b, l, e, h⟩ := instR_nat h
              exact ⟨_, ⟨rfl, a0, rest, i, x0, cl, _, rfl, hh, hcl, hg.1, hi, hres, .inl ⟨o, r', ro, b, l, rfl, hk, hro, e, .inl ⟨(Bool.or_eq_false_iff.1 hl).1, (Bool.or_eq_false_iff.1 hl).2, rfl⟩⟩⟩, h⟩
            · obtain ⟨b, l, e, h⟩ := instR_nat h
              exact ⟨_, ⟨rfl, a0, rest, i, x0, cl, _, rfl, hh, hcl, hg.1, hi, hres, .inl ⟨o, r', ro, b, l, rfl, hk, hro, e, .inr rfl⟩⟩, h⟩
          · cases h
        · rename_i e τ ys
          split at h
          · rename_i hk
            split at h
            · cases h
            · rename_i hne
              have hne : i ≠ mbase := fun e => by rw [e, Nat.beq_refl] at hne; cases hne
              split at h
              · rename_i hsl
                exact ⟨_, ⟨rfl, a0, rest, i, x0, cl, _, rfl, hh, hcl, hg.1, hi, hres, .inr ⟨e, τ, ys, rfl, hk, hne, .inl ⟨hsl, rfl⟩⟩⟩, h⟩
              · exact ⟨_, ⟨rfl, a0, rest, i, x0, cl, _, rfl, hh, hcl, hg.1, hi, hres, .inr ⟨e, τ, ys, rfl, hk, hne, .inr rfl⟩⟩, h⟩
          · cases h
        · cases h
      · cases h
    · cases h
  · cases h
theorem appA_rel {sT : Nat} {a b : AV} {id : Nat} {row : Nat → Option Row} {K : Upd → Option R} (h : appA E sT a b id row K = some r) : ∃ u, AppR E sT a b id row u ∧ K u = some r := by
  unfold appA at h
  split at h
  · rename_i τ hτ
    split at h
    · rename_i ys hys
      split at h
      · obtain ⟨h1, h⟩ := cond_some h
        exact ⟨_, ⟨τ, ys, hτ, hys, .inl ⟨rfl, h1, rfl⟩⟩, h⟩
      · rename_i j
        split at h
        · rename_i e σ xs hrow
          split at h
          · rename_i hst _
            split at h
            · rename_i he
              subst hst
              obtain ⟨h1, h⟩ := cond_some h
              simp only [Bool.and_eq_true, Bool.not_eq_true'] at he
              obtain ⟨he, hne⟩ := he
              have hne : j ≠ mbase := fun e => by rw [e, Nat.beq_refl] at hne; cases hne
              have he := Nat.eq_of_beq_eq_true he
              subst he
              exact ⟨_, ⟨σ, ys, hτ, hys, .inr ⟨j, xs, rfl, hne, hrow, h1, rfl⟩⟩, h⟩
            · cases h
          · cases h
        · cases h
      · cases h
    · cases h
  · cases h
theorem builtinA_rel {b : Builtin} {ats : Array Nat} {args : List AV} {id : Nat} {row : Nat → Option Row} {K : Upd → Option R} (h : builtinA E b ats args id row K = some r) : ∃ u, BuiltR E b ats args id row u ∧ K u = some r := by
  unfold builtinA at h
  split at h
  · split at h
    · rename_i T hT
      split at h
      · rename_i n hn
        exact ⟨_, .inl ⟨rfl, _, n, T, rfl, Array.toList_inj.1 hT, hn, rfl⟩, h⟩
      · cases h
    · cases h
  · split at h
    · rename_i T T' hT
      split at h
      · rename_i e
        have e := Nat.eq_of_beq_eq_true e
        subst e
        obtain ⟨u, h1, h2⟩ := appA_rel h
        exact ⟨u, .inr (.inl ⟨rfl, _, _, T, rfl, Array.toList_inj.1 hT, h1⟩), h2⟩
      · cases h
    · cases h
  · exact ⟨_, .inr (.inr (.inl ⟨rfl, _, _, rfl, rfl⟩)), h⟩
  · exact ⟨_, .inr (.inr (.inr (.inl ⟨rfl, _, _, rfl, rfl⟩))), h⟩
  · exact ⟨_, .inr (.inr (.inr (.inr (.inl ⟨rfl, _, _, _, rfl, rfl⟩)))), h⟩
  · split at h
    · rename_i ht hr
      split at h
      · rename_i T hT hag
        split at h
        · rename_i σ hty
          split at h
          · rename_i e _
            subst e
            exact ⟨_, .inr (.inr (.inr (.inr (.inr ⟨rfl, _, _, _, _, _, _, _, T, rfl, Array.toList_inj.1 hT, hty, ht, hr, hag, rfl⟩)))), h⟩
          · cases h
        · cases h
      · cases h
    · cases h
  · cases h
end
end Go.Gx
