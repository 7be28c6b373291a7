/- The interpreter's operations are the machine's: all of them. -/
import Derived.Test.YtnffgabfibafjaaDoorGxCall2
import Derived.Test.YtnffgabfibafjaaDoorGxStep9
namespace Go.Gx
open Go.RowKit

theorem step_ok {P : Program} {E : Env} {w0 : World} {B : Old} {pv : Nat → Value} {S : Nat → Prop} {ρ : Nat → Option Loc} {st : St} {a : Act} {w : World} {o : Oper} {id : Nat} {K : Act → World → Prop} {Q : Exit → Act → World → Prop}
    (hE : EnvOk P E) {G : Cal → List AV → AV → Prop} (hG : GOk P E pv G) (hs : Sim w0 B pv S ρ st a w) (hgl : GlOk E S w) (hd : dstOk o st.nt = true) (hid : ∀ c, c < 4 → ρ (id + c) = none) {dr : Bool} {u : Upd}
    (h : AOp E G dr o id (ev E st) st.row u) (hK : Nx E w0 B pv S ρ st o.dst u id K) : o.wp P a w K Q := by
  have h0 : ρ id = none := by simpa using hid 0 (by omega)
  obtain ⟨dst, op, type, pos, after, guard⟩ := o
  unfold AOp at h
  cases op <;> simp only at h
  case move x => subst h; exact step_move hs hgl hd (.inl rfl) hK
  case assign x => subst h; exact step_move hs hgl hd (.inr rfl) hK
  case pick c x y => obtain ⟨v, hc, rfl⟩ := h; exact step_pick hs hgl hd rfl hc hK
  case alloc T => obtain ⟨τ, hτ, rfl⟩ := h; exact step_alloc hE hs hgl hd h0 rfl hτ hK
  case box T x => obtain ⟨τ, hτ, hf, rfl⟩ := h; exact step_box hs hgl hd h0 rfl hf hK
  case build T ps => obtain ⟨τ, fs, hτ, hag, hfs, rfl⟩ := h; exact step_build hE hs hgl hd rfl hτ hag hfs hK
  case buildSlice T n ps => obtain ⟨τ, fs, xs, hτ, hn, hfs, hxs, hep, _, rfl⟩ := h; exact step_buildSlice hE hs hgl hd h0 rfl hτ hn hfs hxs hep hK
  case load T x => obtain ⟨τ, hτ, h⟩ := h; exact step_load hE hs hgl hd rfl hτ h hK
  case store T x v => obtain ⟨τ, hτ, hf, h⟩ := h; exact step_store hE hs hgl hd rfl hτ hf h hK
  case nilCheck x => obtain ⟨rfl, h⟩ := h; exact step_nilCheck hs hgl hd rfl h hK
  case binOp op t x y z => obtain ⟨b, hb, rfl⟩ := h; exact step_binT hE hs hgl hd rfl hb hK
  case unOp op t x => obtain ⟨b, hb, rfl⟩ := h; exact step_unOp hs hgl hd rfl hb hK
  case convert S0 T x => exact step_convert hE hs hgl hd h0 rfl h hK
  case makeFunc fn first caps => obtain ⟨f, rfl, rfl, hn, rfl⟩ := h; exact step_makeFunc hs hgl hd rfl hK hn
  case makeSlice T l c => obtain ⟨τ, n, hT, hl, hc, hp, hb, rfl⟩ := h; exact step_makeSlice hE hs hgl hd h0 rfl hT hl hc hp hb hK
  case slice T x lo hi mx =>
    obtain ⟨rfl, l, h', hl, hh, hx⟩ := h
    rcases hx with ⟨_, hx⟩ | hx
    · exact step_sliceM hE hs hgl hd rfl hl hh hx hK
    · exact step_slice hE hs hgl hd rfl hl hh hx hK
  case fieldAddr T x f => obtain ⟨τ, hτ, hst, h⟩ := h; exact step_fieldAddr hE hs hgl hd rfl hτ hst h hK
  case field T x f => obtain ⟨τ, b, hτ, hst, hf, hb, rfl⟩ := h; exact step_field hE hs hgl hd rfl hτ hst hb hf hK
  case indexAddr T x ix => obtain ⟨i, hi, hp, h⟩ := h; exact step_indexAddr hE hs hgl hd rfl hi hp h hK
  case index T x ix => obtain ⟨s, i, hT, hx, hi, hp, h1, rfl⟩ := h; exact step_index hE hs hgl hd rfl hT hx hi hp h1 hK
  case extract x i => obtain ⟨vs, b, hx, hb, rfl⟩ := h; exact step_extract hs hgl hd rfl hx hb hK
  case call c =>
    obtain ⟨callee, args, ats⟩ := c
    rcases h with ⟨b, hb, h⟩ | ⟨f, hf, h⟩
    · simp only at hb h
      subst hb
      rcases h with ⟨rfl, x, n, T, hargs, rfl, hl, rfl⟩ | ⟨rfl, x, y, T, hargs, rfl, h⟩ | ⟨rfl, x, y, hargs, rfl⟩ | ⟨rfl, x, y, hargs, rfl⟩ | ⟨rfl, x, y, z, hargs, rfl⟩ | ⟨rfl, j, i, e, τ, xs, app, p, T, hargs, rfl, hT, hp, hr, hag, rfl⟩
      · exact step_len hE hs hgl hd rfl hargs hl hK
      · exact step_append hE hs hgl hd h0 rfl hargs h hK
      · exact step_minmax hs hgl hd rfl (.inl ⟨rfl, x, y, hargs, rfl⟩) hK
      · exact step_minmax hs hgl hd rfl (.inr (.inl ⟨rfl, x, y, hargs, rfl⟩)) hK
      · exact step_minmax hs hgl hd rfl (.inr (.inr ⟨rfl, x, y, z, hargs, rfl⟩)) hK
      · exact step_clear hE hs hgl hd rfl hargs hT hp hr hag hK
    · simp only at hf h
      subst hf
      exact step_call hs hgl hd hG rfl hid h hK
end Go.Gx
