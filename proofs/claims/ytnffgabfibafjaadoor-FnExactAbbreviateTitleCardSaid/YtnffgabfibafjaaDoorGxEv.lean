/- What a printed function answers with rounds enough; plain lemmas. -/
import Derived.Test.YtnffgabfibafjaaDoorGxRow
import Derived.Lib.Strings
namespace Go.Gx
set_option linter.unusedVariables false
set_option linter.unusedSimpArgs false

/-- With rounds enough f answers r. -/
def Ev {α : Type} (f : Nat → Option α) (r : α) : Prop := ∃ K, ∀ k, K ≤ k → f k = some r
theorem Ev.pure {α : Type} (r : α) : Ev (fun _ => some r) r := ⟨0, fun _ _ => rfl⟩
theorem Ev.const {α : Type} {f : Option α} {r : α} (h : f = some r) : Ev (fun _ => f) r := ⟨0, fun _ _ => h⟩
theorem Ev.bind {α β : Type} {f : Nat → Option α} {g : Nat → α → Option β} {a : α} {b : β} (hf : Ev f a) (hg : Ev (fun k => g k a) b) : Ev (fun k => (f k).bind (g k)) b := by
  obtain ⟨K, hK⟩ := hf
  obtain ⟨L, hL⟩ := hg
  exact ⟨max K L, fun k hk => by show (f k).bind (g k) = some b; rw [hK k (by omega), Option.bind_some]; exact hL k (by omega)⟩
/-- .. where what is bound takes no rounds. -/
theorem Ev.bind0 {α β : Type} {f : Option α} {g : Nat → α → Option β} {a : α} {b : β} (hf : f = some a) (hg : Ev (fun k => g k a) b) : Ev (fun k => f.bind (g k)) b := by
  subst hf; exact hg
theorem Ev.step {α : Type} {f g : Nat → Option α} {r : α} (h : ∀ k, f (k + 1) = g k) (hg : Ev g r) : Ev f r := by
  obtain ⟨K, hK⟩ := hg
  exact ⟨K + 1, fun k hk => by obtain ⟨m, rfl⟩ : ∃ m, k = m + 1 := ⟨k - 1, by omega⟩; rw [h]; exact hK m (by omega)⟩
theorem Ev.congr {α : Type} {f g : Nat → Option α} {r : α} (hg : Ev g r) (h : ∀ k, f k = g k) : Ev f r := by
  obtain ⟨K, hK⟩ := hg
  exact ⟨K, fun k hk => by rw [h]; exact hK k hk⟩
theorem Ev.eq {α : Type} {f : Nat → Option α} {r s : α} (h : Ev f r) (e : r = s) : Ev f s := e ▸ h
theorem Ev.get {α : Type} {f : Nat → Option α} {r : α} (h : Ev f r) : ∃ k, f k = some r := by
  obtain ⟨K, hK⟩ := h; exact ⟨K, hK K (Nat.le_refl K)⟩
theorem Ev.uniq {α : Type} {f : Nat → Option α} {r s : α} (h : Ev f r) (h' : Ev f s) : r = s := by
  obtain ⟨K, hK⟩ := h
  obtain ⟨L, hL⟩ := h'
  have := (hK (max K L) (by omega)).symm.trans (hL (max K L) (by omega))
  exact Option.some.inj this
theorem Ev.cond {α : Type} {b : Bool} {f g : Nat → Option α} {r : α} (h1 : b = true → Ev f r) (h2 : b = false → Ev g r) : Ev (fun k => cond b (f k) (g k)) r := by
  cases b with
  | true => exact h1 rfl
  | false => exact h2 rfl
theorem Ev.inl {α β γ : Type} {f : Nat → Option (Sum α β)} {g : Nat → α → Option γ} {h : Nat → β → Option γ} {a : α} {r : γ} (hf : Ev f (.inl a)) (hg : Ev (fun k => g k a) r) : Ev (fun k => (f k).bind fun y => match y with | .inl z => g k z | .inr z => h k z) r := Ev.bind hf hg
theorem Ev.inr {α β γ : Type} {f : Nat → Option (Sum α β)} {g : Nat → α → Option γ} {h : Nat → β → Option γ} {a : β} {r : γ} (hf : Ev f (.inr a)) (hg : Ev (fun k => h k a) r) : Ev (fun k => (f k).bind fun y => match y with | .inl z => g k z | .inr z => h k z) r := Ev.bind hf hg
/-- With rounds enough f answers something of this kind. -/
def EvP {α : Type} (f : Nat → Option α) (P : α → Prop) : Prop := ∃ r, Ev f r ∧ P r
theorem EvP.pure {α : Type} {P : α → Prop} (r : α) (h : P r) : EvP (fun _ => some r) P := ⟨r, Ev.pure r, h⟩
theorem EvP.bind {α β : Type} {f : Nat → Option α} {g : Nat → α → Option β} {P : α → Prop} {Q : β → Prop} (hf : EvP f P) (hg : ∀ a, P a → EvP (fun k => g k a) Q) : EvP (fun k => (f k).bind (g k)) Q := by
  obtain ⟨a, h1, h2⟩ := hf
  obtain ⟨r, h3, h4⟩ := hg a h2
  exact ⟨r, Ev.bind h1 h3, h4⟩
theorem EvP.of {α β : Type} {f : Nat → Option α} {g : Nat → α → Option β} {a : α} {Q : β → Prop} (hf : Ev f a) (hg : EvP (fun k => g k a) Q) : EvP (fun k => (f k).bind (g k)) Q := by
  obtain ⟨r, h3, h4⟩ := hg
  exact ⟨r, Ev.bind hf h3, h4⟩
theorem EvP.of0 {α β : Type} {f : Option α} {g : Nat → α → Option β} {a : α} {Q : β → Prop} (hf : f = some a) (hg : EvP (fun k => g k a) Q) : EvP (fun k => f.bind (g k)) Q := by
  subst hf; exact hg
theorem EvP.step {α : Type} {f g : Nat → Option α} {P : α → Prop} (h : ∀ k, f (k + 1) = g k) (hg : EvP g P) : EvP f P := by
  obtain ⟨r, h1, h2⟩ := hg
  exact ⟨r, Ev.step h h1, h2⟩
theorem EvP.mono {α : Type} {f : Nat → Option α} {P Q : α → Prop} (h : EvP f P) (hq : ∀ r, P r → Q r) : EvP f Q := by
  obtain ⟨r, h1, h2⟩ := h
  exact ⟨r, h1, hq r h2⟩
theorem EvP.ev {α : Type} {f : Nat → Option α} {s : α} (h : EvP f fun r => r = s) : Ev f s := by
  obtain ⟨r, h1, rfl⟩ := h; exact h1
theorem Ev.evp {α : Type} {f : Nat → Option α} {s : α} {P : α → Prop} (h : Ev f s) (hp : P s) : EvP f P := ⟨s, h, hp⟩
/-- Two that answer the same. -/
def EvQ {α : Type} (f g : Nat → Option α) : Prop := ∃ r, Ev f r ∧ Ev g r
theorem EvQ.pure {α : Type} (r : α) : EvQ (fun _ => some r) (fun _ => some r) := ⟨r, Ev.pure r, Ev.pure r⟩
theorem EvQ.bind {α β : Type} {f f' : Nat → Option α} {g g' : Nat → α → Option β} (hf : EvQ f f') (hg : ∀ a, EvQ (fun k => g k a) (fun k => g' k a)) : EvQ (fun k => (f k).bind (g k)) (fun k => (f' k).bind (g' k)) := by
  obtain ⟨a, h1, h2⟩ := hf
  obtain ⟨r, h3, h4⟩ := hg a
  exact ⟨r, Ev.bind h1 h3, Ev.bind h2 h4⟩

/-! ### Tests -/
theorem cpos {α : Type} {p : Prop} [Decidable p] {a b : α} (h : p) : cond (decide p) a b = a := by rw [decide_eq_true h]; rfl
theorem cneg {α : Type} {p : Prop} [Decidable p] {a b : α} (h : ¬ p) : cond (decide p) a b = b := by rw [decide_eq_false h]; rfl
theorem ceq {α : Type} {x y : Int} {a b : α} (h : x = y) : cond (x == y) a b = a := by rw [show (x == y) = true by simpa using h]; rfl
theorem cne {α : Type} {x y : Int} {a b : α} (h : x ≠ y) : cond (x == y) a b = b := by rw [show (x == y) = false by simpa using h]; rfl
theorem cbeq {α : Type} {x y : Int} {a b : α} (h : x = y) : cond (x != y) a b = b := by rw [show (x != y) = false by simpa using h]; rfl
theorem cbne {α : Type} {x y : Int} {a b : α} (h : x ≠ y) : cond (x != y) a b = a := by rw [show (x != y) = true by simpa using h]; rfl
theorem cnb {α : Type} {p : Prop} [Decidable p] {a b : α} : cond (!decide p) a b = cond (decide p) b a := by cases decide p <;> rfl
theorem cnot {α : Type} {c : Bool} {a b : α} : cond (!c) a b = cond c b a := by cases c <;> rfl
theorem cble {α : Type} {n m : Nat} {a b : α} (h : n ≤ m) : cond (Nat.ble n m) a b = a := by rw [Nat.ble_eq_true_of_le h]; rfl
theorem dpos {p : Prop} [Decidable p] (h : p) : decide p = true := decide_eq_true h
theorem dneg {p : Prop} [Decidable p] (h : ¬ p) : decide p = false := decide_eq_false h
theorem wrap_in {x : Int} (h1 : -9223372036854775808 ≤ x) (h2 : x ≤ 9223372036854775807) : IntKind.wrap .i64 x = x := by
  rw [IntKind.wrap_i64]; omega
theorem wf_i64 {n : Int} (h : WF (.int .i64) n) : -9223372036854775808 ≤ n ∧ n ≤ 9223372036854775807 := by
  cases h with
  | int _ _ h =>
    have h1 : IntKind.i64.min = -9223372036854775808 := rfl
    have h2 : IntKind.i64.max = 9223372036854775807 := rfl
    simp only [Lit.wf, Bool.and_eq_true, decide_eq_true_eq] at h
    omega
theorem maxLen_eq : maxLen = 9223372036854775807 := by decide
theorem wf_str {s : ByteArray} (h : WF .str s) : s.size ≤ 9223372036854775807 := by
  cases h with | str _ h => exact maxLen_eq ▸ h

/-! ### Texts -/
def L (s : ByteArray) : List UInt8 := s.data.toList
theorem L_inj {s t : ByteArray} (h : L s = L t) : s = t := by
  cases s; cases t
  simp only [L] at h
  rw [Array.toList_inj.1 h]
theorem L_size (s : ByteArray) : (L s).length = s.size := rfl
theorem toList_eq (s : ByteArray) : s.toList = s.data.toList := ByteArray.toList_eq s
theorem beqS_iff {s t : ByteArray} : beqS s t = true ↔ s = t := by
  unfold beqS
  rw [beq_iff_eq, toList_eq, toList_eq]
  exact ⟨fun h => L_inj h, fun h => by rw [h]⟩
theorem beqS_self (s : ByteArray) : beqS s s = true := beqS_iff.2 rfl
theorem beqS_eq (s t : ByteArray) : beqS s t = (L s == L t) := by
  unfold beqS; rw [toList_eq, toList_eq]; rfl
theorem L_bt (s : ByteArray) (i : Nat) : bt s i = (((L s).getD i 0).toNat : Int) := by
  simp [bt, L, Array.getD_eq_getD_getElem?, List.getD_eq_getElem?_getD]
theorem bt_range (s : ByteArray) (i : Nat) : 0 ≤ bt s i ∧ bt s i ≤ 255 := by
  unfold bt
  have := (s.data.getD i 0).toNat_lt
  omega
theorem L_extract (s : ByteArray) (a b : Nat) : L (s.extract a b) = ((L s).take b).drop a := by
  simp [L, ByteArray.data_extract, List.drop_take]
theorem L_append (s t : ByteArray) : L (s ++ t) = L s ++ L t := by simp [L, ByteArray.data_append]
theorem L_mk (l : List UInt8) : L ⟨l.toArray⟩ = l := by simp [L]
theorem size_mk (l : List UInt8) : (⟨l.toArray⟩ : ByteArray).size = l.length := by simp [ByteArray.size]

/-! ### Loops -/
/-- A loop that stops at the first one that isn't so. -/
theorem loop_all {R : Type} {f : Nat → Int → Option R} {n : Nat} {p : Nat → Bool} {no yes : R} (hno : ∀ i : Nat, i < n → p i = false → Ev (fun k => f k i) no)
    (hyes : ∀ (i : Nat) r, i < n → p i = true → Ev (fun k => f k ((i : Int) + 1)) r → Ev (fun k => f k i) r) (hend : Ev (fun k => f k n) yes) :
    ∀ m i : Nat, i + m = n → Ev (fun k => f k i) (if (List.range' i m).all p = true then yes else no)
  | 0, i, h => by
    rw [show i = n by omega]
    exact hend
  | m + 1, i, h => by
    rw [List.range'_succ, List.all_cons]
    cases hp : p i with
    | false => exact hno i (by omega) hp
    | true =>
      rw [Bool.true_and]
      exact hyes i _ (by omega) hp (loop_all hno hyes hend m (i + 1) (by omega))
theorem range_all {α : Type} (xs : List α) (d : α) (q : α → Bool) : (List.range' 0 xs.length).all (fun i => q (xs.getD i d)) = xs.all q := by
  rw [Bool.eq_iff_iff]
  simp only [List.all_eq_true, List.mem_range'_1, Nat.zero_add, Nat.zero_le, true_and]
  constructor
  · intro h x hx
    obtain ⟨i, hi, rfl⟩ := List.getElem_of_mem hx
    have := h i hi
    simpa [List.getD, hi] using this
  · intro h i hi
    simpa [List.getD, hi] using h _ (List.getElem_mem hi)
end Go.Gx
