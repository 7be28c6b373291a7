/- Library functions: their contracts,proved once for any program,as what a callee keeps to. By an AI agent's session. -/
import Derived.Test.YtoojiikgbopeiaaGreatDoorMdg4
import Derived.Shelf.Vars
import Derived.Below
import Derived.Lib.IndexMore
import Derived.Lib.Split
import Derived.Lib.SplitLaws
import Derived.Lib.Repeat
import Derived.Deep.Draws
import Derived.Lib.Join
import Derived.Lib.SlTrimSet
import Derived.Lib.IndexAny
import Derived.Lib.TrimByte
import Derived.Laws.AppendOwn
import Derived.Lib.ItoaNum
import Derived.Sort.Grow
import Derived.Test.YtoojiikgbopeiaaGreatDoorMdg5
import Derived.Test.YtoojiikgbopeiaaGreatDoorProg
import Derived.KernelRfl
set_option linter.unusedVariables false
set_option linter.unusedSimpArgs false
set_option maxRecDepth 100000
section
namespace Go.Gx
open Go.RowKit Go.Lib
theorem ext_goes {P:Program} {f:FuncId} {fn:Func} {c:Code} (hf:P.funcs[f]? = some fn) (hb:fn.body=some c) (hname:(fn.name == "runtime.NumGoroutine")=false) {args:Array Value} {w:World} {R:Value->World->Prop}
  (h:Calls P f args w fun e w'=>∃ v,e = .returned v/\R v w'):Goes P f args w R:=by
 have hcall:(callFunc f args).run P w = .ok (.enter f args) w:=by
  have hn':fn.name ≠ "runtime.NumGoroutine":= by simpa using hname
  simp [callFunc,hf,hn',hb]
 unfold Goes
 rw [hcall]
 exact h
theorem args_nil {S:Nat->Prop} {w:World} {pv:Nat->Value} {vs:List Value} (h:ArgsOk S w pv [] vs):vs=[]:=List.eq_nil_of_length_eq_zero h.1
theorem args_cons {S:Nat->Prop} {w:World} {pv:Nat->Value} {a:AV} {al:List AV} {vs:List Value} (h:ArgsOk S w pv (a :: al) vs):∃ cs vs',AR S w (fun _=>none) (fun _=>none) pv a cs/\vs=valOf a cs :: vs'/\ArgsOk S w pv al vs':=by
 match vs,h with
 | [],h=>cases h.1
 | v :: vs',⟨h1,h2⟩=>
  obtain ⟨cs,hc,rfl⟩:=h2 0 a v rfl rfl
  exact ⟨cs,vs',hc,rfl,by simpa using h1,fun i b u hb hu=>h2 (i+1) b u (by simpa using hb) (by simpa using hu)⟩
theorem args_str {S:Nat->Prop} {w:World} {pv:Nat->Value} {s:ByteArray} {al:List AV} {vs:List Value} (h:ArgsOk S w pv (.t .str s :: al) vs):∃ vs',vs = .string s :: vs'/\ArgsOk S w pv al vs':=by
 obtain ⟨cs,vs',hc,rfl,h'⟩:=args_cons h
 cases hc with | t _ _ _ hc=>cases hc; exact ⟨vs',rfl,h'⟩
section
variable {P:Program} {E:Env} {pv:Nat->Value} {f:FuncId} {fn:Func} {c:Code}
theorem ext_flat (hf:P.funcs[f]? = some fn) (hb:fn.body=some c) (hname:(fn.name == "runtime.NumGoroutine")=false) {args:List AV} {τ:Ty} {y:den τ} {v:Value} (hy:∀ S w,∃ cs,CR S w τ y cs/\v=valOf (.t τ y) cs)
  (h:∀ S w vs,(∀ b,S b->b<w.heap.size)->GlOk E pv S w->ArgsOk S w pv args vs->Calls P f vs.toArray w fun e w'=>e = .returned v/\Below w.heap.size w w'):Meets P E pv (.f f) args (.t τ y):=by
 intro S w vs hS hgl hargs
 refine ext_goes hf hb hname ((h S w vs hS hgl hargs).mono fun e w' ⟨he,hbl⟩=>⟨v,he,hbl,S,fun b hb=>hb,fun b hb=> .inl hb,?_⟩)
 obtain ⟨cs,hc,rfl⟩:=hy S w'
 exact ⟨none,.plain _ _ (.t _ _ _ hc)⟩
theorem ext_strs (hf:P.funcs[f]? = some fn) (hb:fn.body=some c) (hname:(fn.name == "runtime.NumGoroutine")=false) {args:List AV} {te:Nat} {xs:List ByteArray} (hx:xs.length<=maxLen)
  (h:∀ S w vs,(∀ b,S b->b<w.heap.size)->GlOk E pv S w->ArgsOk S w pv args vs->Calls P f vs.toArray w fun e w'=>e = .returned (.slice (some ⟨w.heap.size,0,none⟩) xs.length xs.length)/\w'=w.alloc (.cells (xs.map Value.string).toArray te)):Meets P E pv (.f f) args (.fr te .str xs):=by
 intro S w vs hS hgl hargs
 refine ext_goes hf hb hname ((h S w vs hS hgl hargs).mono fun e w' ⟨he,hw⟩=>⟨_,he,?_⟩)
 subst hw
 refine ⟨(Below.refl _ w).alloc (Nat.le_refl _) _,S,fun b hb=>hb,fun b hb=> .inl hb,some w.heap.size,.fr te .str xs w.heap.size xs.length (Nat.le_refl _) (fun hs=>absurd (hS _ hs) (Nat.lt_irrefl _)) ⟨(xs.map Value.string).toArray,(0,0),?_,?_,Nat.le_refl _,hx,fun _=>rfl,.inl (Nat.le_refl _),by decide,fun i hi=>⟨[.string xs[i]],.str _,fun j v hj=> ?_⟩⟩⟩
 ·show (w.heap.push _)[w.heap.size]? = _
  simp
 ·simp [nc]
 ·cases j with
  | zero=>
   simp only [List.getElem?_cons_zero,Option.some.injEq] at hj
   subst hj
   simp [nc,hi]
  | succ j=>simp at hj
end
def xSplit (s sep:ByteArray):Option (List ByteArray):=bif Nat.ble s.size 4294967280 && Nat.ble 1 sep.size then some (Lib.splitB sep 0 (Lib.countB s sep) s) else none
theorem ext_split {P:Program} {E:Env} {pv:Nat->Value} {f:FuncId} {fn:Func} {c:Code} (hf:P.funcs[f]? = some fn) (hb:fn.body=some c) (hname:(fn.name == "runtime.NumGoroutine")=false) {mx:Nat} (hmx:E.gi mx=true) {te:Nat}
  (hc:∀ (s sep:ByteArray) (m:Int) (w:World),s.size<4294967281->w.cell? ⟨mx,0,none⟩=some (.int .i64 m)->1<=sep.size->Calls P f #[.string s,.string sep] w fun e w'=>
   e = .returned (.slice (some ⟨w.heap.size,0,none⟩) (Lib.countB s sep+1) (Lib.countB s sep+1))/\w'=w.alloc (.cells ((Lib.splitB sep 0 (Lib.countB s sep) s).map Value.string).toArray te))
  {s sep:ByteArray} {y:List ByteArray} (h:xSplit s sep=some y):Meets P E pv (.f f) (tvals [.str,.str] (s,sep,())) (.fr te .str y):=by
 unfold xSplit at h
 cases hs:Nat.ble s.size 4294967280 && Nat.ble 1 sep.size with
 | false=>rw [hs] at h; cases h
 | true=>
  rw [hs] at h
  cases h
  rw [Bool.and_eq_true] at hs
  have h1:=Nat.le_of_ble_eq_true hs.1
  have h2:=Nat.le_of_ble_eq_true hs.2
  have hl:=Lib.splitB_all sep h2 0 _ s rfl
  have hle:=Lib.countB_le sep h2 s.size s (Nat.le_refl _)
  have hm:maxLen=9223372036854775807:=by decide
  refine ext_strs hf hb hname (by rw [hl,hm]; omega) fun S w vs hS hgl ha=> ?_
  obtain ⟨_,rfl,ha1⟩:=args_str ha
  obtain ⟨_,rfl,ha2⟩:=args_str ha1
  obtain rfl:=args_nil ha2
  obtain ⟨_,m,hm⟩:=hgl.2.1 mx hmx
  rw [hl]
  exact hc s sep m w (by omega) hm h2
def xJoin (xs:List ByteArray) (sep:ByteArray):Option ByteArray:=bif Nat.ble xs.length 140737488355328 && Nat.ble (Lib.join (xs.map (·.data.toList)) sep.data.toList).length 140737488355328 then some ⟨(Lib.join (xs.map (·.data.toList)) sep.data.toList).toArray⟩ else none
theorem ext_join {P:Program} {E:Env} {pv:Nat->Value} {f:FuncId} {fn:Func} {c:Code} (hf:P.funcs[f]? = some fn) (hb:fn.body=some c) (hname:(fn.name == "runtime.NumGoroutine")=false)
  (hc0:∀ (a:Option Addr) (c:Nat) (sep:ByteArray) (w:World),Calls P f #[.slice a 0 c,.string sep] w fun e w'=>e = .returned (.string ⟨#[]⟩)/\w'=w)
  (hc:∀ (bk o c:Nat) (xs:List ByteArray) (sep:ByteArray) (w:World),(∀ (j:Nat) x,xs[j]? = some x->w.cell? ⟨bk,o+j,none⟩=some (.string x))->bk<w.heap.size->xs.length<=140737488355328->xs.length<=c ->
   (Lib.join (xs.map (·.data.toList)) sep.data.toList).length<=140737488355328->Calls P f #[.slice (some ⟨bk,o,none⟩) xs.length c,.string sep] w fun e w'=>e = .returned (.string ⟨(Lib.join (xs.map (·.data.toList)) sep.data.toList).toArray⟩)/\Below w.heap.size w w')
  {xs:List ByteArray} {sep:ByteArray} {y:ByteArray} (h:xJoin xs sep=some y):Meets P E pv (.f f) (tvals [.sl .str,.str] (xs,sep,())) (.t .str y):=by
 unfold xJoin at h
 cases hs:Nat.ble xs.length 140737488355328 && Nat.ble (Lib.join (xs.map (·.data.toList)) sep.data.toList).length 140737488355328 with
 | false=>rw [hs] at h; cases h
 | true=>
  rw [hs] at h
  cases h
  rw [Bool.and_eq_true] at hs
  refine ext_flat hf hb hname (v:=.string _) (fun S w=>⟨_,.str _,rfl⟩) fun S w vs hS hgl ha=> ?_
  obtain ⟨cs,_,hcr,rfl,ha1⟩:=args_cons ha
  obtain ⟨_,rfl,ha2⟩:=args_str ha1
  obtain rfl:=args_nil ha2
  cases hcr with
  | t _ _ _ hcr=>
   cases hcr with
   | sl e xs A c cv hle hm h1 h2=>
    match xs,A,hle,h1,h2,hs with
    | [],A,_,_,_,_=>exact (hc0 A c sep w).mono fun e w' ⟨he,hw⟩=>⟨he,hw ▸ Below.refl _ _⟩
    | x :: l,A,hle,h1,h2,hs=>
     obtain ⟨g,o,rfl,hg,_⟩:=h2 0 (Nat.succ_pos _)
     refine hc g o c (x :: l) sep w (fun j z hj=> ?_) (hS g hg) (Nat.le_of_ble_eq_true hs.1) hle (Nat.le_of_ble_eq_true hs.2)
     obtain ⟨hj',hz⟩:=List.getElem?_eq_some_iff.1 hj
     obtain ⟨g',o',e',_,hcell⟩:=h2 j hj'
     cases e'
     have hcv:=h1 j hj'
     rw [hz] at hcv
     have hq:∀ q,CR S w .str z q->q[0]? = some (.string z):=fun q hq=>by cases hq; rfl
     have:=hcell 0 (.string z) (hq _ hcv)
     simpa [nc] using this
def xTrim1 (s cs:ByteArray):Option ByteArray:=match cs with
 | ⟨⟨[c]⟩⟩=>bif Nat.ble s.size 9223372036854775807 && Nat.blt c.toNat 128 then some ⟨(Lib.trimB s.data.toList c).toArray⟩ else none
 | _=>none
theorem ext_trim1 {P:Program} {E:Env} {pv:Nat->Value} {f:FuncId} {fn:Func} {c:Code} (hf:P.funcs[f]? = some fn) (hb:fn.body=some c) (hname:(fn.name == "runtime.NumGoroutine")=false)
  (hc:∀ (s:ByteArray) (c:UInt8),c.toNat<128->∀ (w:World),s.size<=9223372036854775807->Calls P f #[.string s,.string ⟨#[c]⟩] w fun e w'=>e = .returned (.string ⟨(Lib.trimB s.data.toList c).toArray⟩)/\(w'=w\/w'=w.drew))
  {s cs:ByteArray} {y:ByteArray} (h:xTrim1 s cs=some y):Meets P E pv (.f f) (tvals [.str,.str] (s,cs,())) (.t .str y):=by
 unfold xTrim1 at h
 split at h
 ·rename_i c0
  cases hs:Nat.ble s.size 9223372036854775807 && Nat.blt c0.toNat 128 with
  | false=>rw [hs] at h; cases h
  | true=>
   rw [hs] at h
   cases h
   rw [Bool.and_eq_true] at hs
   refine ext_flat hf hb hname (v:=.string _) (fun S w=>⟨_,.str _,rfl⟩) fun S w vs hS hgl ha=> ?_
   obtain ⟨_,rfl,ha1⟩:=args_str ha
   obtain ⟨_,rfl,ha2⟩:=args_str ha1
   obtain rfl:=args_nil ha2
   refine (hc s c0 (Nat.le_of_ble_eq_true hs.2) w (Nat.le_of_ble_eq_true hs.1)).mono fun e w' ⟨he,hw⟩=>⟨he,?_⟩
   rcases hw with rfl | rfl
   ·exact Below.refl _ _
   ·exact (Below.refl _ _).drew
 ·cases h
end Go.Gx
end
section
/- A library function by its contract: strconv.Itoa. -/
namespace Go.Gx
end Go.Gx
end
section
namespace Go.Proofs.YtoojiikgbopeiaaGreatDoor
open Go.Gx
def tyT (t:Nat):Option Ty:=match t with
 | 2=>some (.int .i64)
 | 3=>some (.int .i64)
 | 4=>some .bool
 | 5=>some (.int .u8)
 | 6=>some (.int .u8)
 | 9=>some .str
 | 10=>some .str
 | 11=>some .str
 | 21=>some (.int .i32)
 | 22=>some (.sl .entry)
 | 24=>some .lib
 | 26=>some (.sl (.sl .str))
 | 29=>some (.sl .entry)
 | 31=>some .lib
 | 38=>some (.sl (.int .u8))
 | 44=>some (.sl .name)
 | 46=>some .date
 | 48=>some .entry
 | 62=>some (.sl (.int .i64))
 | 65=>some (.sl .str)
 | 74=>some (.int .u64)
 | 76=>some .cur
 | 89=>some .name
 | 97=>some (.sl .name)
 | 98=>some .date
 | 100=>some .entry
 | 107=>some (.int .u64)
 | 126=>some (.int .i64)
 | 133=>some (.int .u32)
 | 142=>some .name
 | 145=>some (.int .u64)
 | 167=>some (.arr 256 .bool)
 | 177=>some (.arr 24 (.int .u8))
 | 188=>some (.arr 20 (.int .u64))
 | 189=>some (.arr 65 (.int .u8))
 | 197=>some (.arr 256 (.int .u8))
 | 202=>some (.arr 32 (.int .u8))
 | 203=>some (.arr 64 (.int .u8))
 | 212=>some (.int .u8)
 | _=>none
def elT (t:Nat):Nat:=match t with
 | 22=>100
 | 26=>65
 | 29=>48
 | 38=>5
 | 44=>89
 | 62=>3
 | 65=>9
 | 97=>142
 | _=>0
def mdT (f:Nat):Bool:=match f with
 | 12=>true
 | 36=>true
 | 39=>true
 | 40=>true
 | 42=>true
 | 43=>true
 | 44=>true
 | 47=>true
 | 48=>true
 | 49=>true
 | 61=>true
 | 72=>true
 | 76=>true
 | 77=>true
 | 78=>true
 | 83=>true
 | 84=>true
 | 85=>true
 | 86=>true
 | 98=>true
 | 99=>true
 | 100=>true
 | 111=>true
 | 131=>true
 | 132=>true
 | 166=>true
 | _=>false
def strV0:ByteArray:=⟨#[0,1,2,2,3,3,3,3,4,4,4,4,4,4,4,4,5,5,5,5,5,5,5,5,5,5,5,5,5,5,5,5,6,6,6,6,6,6,6,6,6,6,6,6,6,6,6,6,6,6,6,6,6,6,6,6,6,6,6,6,6,6,6,6,7,7,7,7,7,7,7,7,7,7,7,7,7,7,7,7,7,7,7,7,7,7,7,7,7,7,7,7,7,7,7,7,7,7,7,7,7,7,7,7,7,7,7,7,7,7,7,7,7,7,7,7,7,7,7,7,7,7,7,7,7,7,7,7,8,8,8,8,8,8,8,8,8,8,8,8,8,8,8,8,8,8,8,8,8,8,8,8,8,8,8,8,8,8,8,8,8,8,8,8,8,8,8,8,8,8,8,8,8,8,8,8,8,8,8,8,8,8,8,8,8,8,8,8,8,8,8,8,8,8,8,8,8,8,8,8,8,8,8,8,8,8,8,8,8,8,8,8,8,8,8,8,8,8,8,8,8,8,8,8,8,8,8,8,8,8,8,8,8,8,8,8,8,8,8,8,8,8,8,8,8,8,8,8,8,8,8,8,8,8,8,8]⟩
def glT (g:Nat):Option AV:=match g with
 | _=>none
def giT (g:Nat):Bool:=match g with
 | 1=>true
 | _=>false
def dmT (f:Nat):Bool:=match f with
 | 11=>true
 | 12=>true
 | 39=>true
 | 40=>true
 | 76=>true
 | _=>false
def pmT (f:Nat):Bool:=match f with
 | 7=>true
 | 68=>true
 | 144=>true
 | _=>false
def tmX (f:Nat):Bool:=match f with
 | 8=>true
 | _=>false
def tmT (f:Nat):Bool:=match f with
 | 8=>true
 | _=>false
def vmT (f:Nat):Bool:=match f with
 | _=>false
def mdTT (f:Nat):Bool:=match f with
 | 12=>true
 | 36=>true
 | 39=>true
 | 40=>true
 | 42=>true
 | 43=>true
 | 44=>true
 | 47=>true
 | 48=>true
 | 49=>true
 | 61=>true
 | 72=>true
 | 76=>true
 | 77=>true
 | 78=>true
 | 83=>true
 | 84=>true
 | 85=>true
 | 86=>true
 | 98=>true
 | 99=>true
 | 100=>true
 | 111=>true
 | 131=>true
 | 132=>true
 | 166=>true
 | _=>false
def envX:Env:={ ty:=tyT,el:=elT,gl:=glT,md:=mdT,gi:=giT,dm:=dmT,pm:=pmT,tm:=tmX }
def envT:Env:={ ty:=tyT,el:=elT,gl:=glT,md:=mdTT,gi:=giT,tm:=tmT,vm:=vmT,tr:=true }
def envP:Env:={ ty:=tyT,el:=elT,gl:=glT,md:=mdT,gi:=giT,on:=true }
theorem env_ty:∀ T τ,envX.ty T=some τ->TyOk Tryz.prog envX T τ:=fun T τ h=>by
 dsimp only [envX,tyT] at h
 split at h <;> first
  | (cases h; done)
  | (cases h; exact tyOk_of (by kernel_rfl) (by kernel_rfl))
theorem envOk:EnvOk Tryz.prog envX:=⟨env_ty,by kernel_rfl,fun T h=>by
 dsimp only [envX,tyT] at h
 split at h <;> first
  | (cases h; done)
  | exact date_eq env_ty rfl (by kernel_rfl) (by kernel_rfl) (by kernel_rfl),fun T h=>by
 dsimp only [envX,tyT] at h
 split at h <;> first
  | (cases h; done)
  | exact abbr_eq env_ty rfl (by kernel_rfl) (by kernel_rfl) (by kernel_rfl)⟩
theorem env_tyT:∀ T τ,envT.ty T=some τ->TyOk Tryz.prog envT T τ:=fun T τ h=>by
 dsimp only [envT,tyT] at h
 split at h <;> first
  | (cases h; done)
  | (cases h; exact tyOk_of (by kernel_rfl) (by kernel_rfl))
theorem envOkT:EnvOk Tryz.prog envT:=⟨env_tyT,by kernel_rfl,fun T h=>by
 dsimp only [envT,tyT] at h
 split at h <;> first
  | (cases h; done)
  | exact date_eq env_tyT rfl (by kernel_rfl) (by kernel_rfl) (by kernel_rfl),fun T h=>by
 dsimp only [envT,tyT] at h
 split at h <;> first
  | (cases h; done)
  | exact abbr_eq env_tyT rfl (by kernel_rfl) (by kernel_rfl) (by kernel_rfl)⟩
theorem env_tyP:∀ T τ,envP.ty T=some τ->TyOk Tryz.prog envP T τ:=fun T τ h=>by
 dsimp only [envP,tyT] at h
 split at h <;> first
  | (cases h; done)
  | (cases h; exact tyOk_of (by kernel_rfl) (by kernel_rfl))
theorem envOkP:EnvOk Tryz.prog envP:=⟨env_tyP,by kernel_rfl,fun T h=>by
 dsimp only [envP,tyT] at h
 split at h <;> first
  | (cases h; done)
  | exact date_eq env_tyP rfl (by kernel_rfl) (by kernel_rfl) (by kernel_rfl),fun T h=>by
 dsimp only [envP,tyT] at h
 split at h <;> first
  | (cases h; done)
  | exact abbr_eq env_tyP rfl (by kernel_rfl) (by kernel_rfl) (by kernel_rfl)⟩
def Z29.l0:Nat->(List ByteArray)->Int->Int->Option (Sum Int Int)
 | 0,_,_,_=>none
 | k+1,x0,x1,x5=>bif (decide (x5<(x0.length:Int))) then (bif decide (0<=x5) then (bif decide (x5<(x0.length:Int)) then (bif (decide ((IntKind.wrap .i64 (x1-((x0.getD (x5:Int).toNat (⟨#[]⟩:ByteArray)).size:Int)))<0)) then (some (.inl (-1))) else (Z29.l0 k x0 (IntKind.wrap .i64 (x1-((x0.getD (x5:Int).toNat (⟨#[]⟩:ByteArray)).size:Int))) (IntKind.wrap .i64 (x5+1)))) else none) else none) else (some (.inr x1))
def Z29.F (k:Nat) (a0:List ByteArray) (a1:Int):Option (Int):=bif (decide ((IntKind.wrap .i64 (a1-(a0.length:Int)))<0)) then (some (-1)) else ((Z29.l0 k a0 (IntKind.wrap .i64 (a1-(a0.length:Int))) 0).bind fun y1=>match y1 with | .inl z2=>some z2 | .inr z2=>some z2)
def Z29.C (k:Nat):Cal->Option CArm:=fun c=>match c with
 | _=>none
def Z29.sp0:List Sp:=[.t 0 (.sl .str),.t 1 (.int .i64),.t 5 (.int .i64)]
def Z29.sp0_0:List Sp:=[.t 4 (.int .i64)]
def Z29.sp0_1:List Sp:=[.t 1 (.int .i64)]
def Z29.A0:LArm:=.two Z29.sp0 Z29.sp0_0 Z29.sp0_1 (Int) (Int) (fun k x=>Z29.l0 k x.1 x.2.1 x.2.2.1) .ret (.exit 0) (fun y=>(y,())) (fun x=>x.1) (fun y=>(y,())) (fun x=>x.1)
def Z29.L:Nat->Option LArm:=fun b=>match b with
 | 0=>some Z29.A0
 | _=>none
theorem Z29.run (k:Nat) (a0:List ByteArray) (a1:Int):runF envX (tabC (Z29.C k)) (tabL 28 k Z29.L) Tryz.f177 [.t (.sl .str) a0,.t (.int .i64) a1] (viewR1 (.t (.int .i64)))=Z29.F k a0 a1:=by kernel_rfl
theorem Z29.step0 (k:Nat) (x0:List ByteArray) (x1:Int) (x5:Int):runC envX (tabC (Z29.C k)) (tabL 28 k Z29.L) 0 (loopAt Tryz.f177 0) (stOf 28 Z29.sp0 (x0,x1,x5,())) (Z29.A0.cont 28 k)=Z29.l0 (k+1) x0 x1 x5:=by kernel_rfl
theorem Z29.G (hE:EnvOk Tryz.prog envX) (pv:Nat->Value) (k:Nat):∀ cal A,Z29.C k cal=some A->ArmOk Tryz.prog envX pv cal A:=by
 intro cal A h
 unfold Z29.C at h
 cases h
theorem Z29.good (hE:EnvOk Tryz.prog envX) (pv:Nat->Value) (k:Nat) (a0:List ByteArray) (a1:Int) {y:_} (h:Z29.F k a0 a1=some y):Meets Tryz.prog envX pv (.f 177) (tvals [(.sl .str),(.int .i64)] (a0,a1,())) (.t (.int .i64) y) :=
 fun_loops hE (t:=Z29.C) k (fun k _=>Z29.G hE pv k) (f:=177) (fn:=Tryz.f177) (by kernel_rfl) rfl (by kernel_rfl) (by kernel_rfl) (lt:=Z29.L) (by kernel_rfl) (fun b A h=>by
  unfold Z29.L at h; split at h
  ·cases h; exact ⟨by kernel_rfl,by kernel_rfl,by kernel_rfl,fun _=>rfl,fun _=>rfl,fun _=>rfl⟩
  ·cases h) (fun b A h=>by
  unfold Z29.L at h; split at h
  ·cases h; exact fun k x=>Z29.step0 k x.1 x.2.1 x.2.2.1
  ·cases h) ((Z29.run k a0 a1).trans h) (fun r hr=>wk_view1 hr)
def Z80.F (k:Nat) (a0:Name) (a1:Int):Option (Int):=(Z29.F k a0.given a1).bind fun r1=>bif (decide (r1<0)) then (some (-1)) else (bif (decide ((IntKind.wrap .i64 (r1-(a0.particle.size:Int)))<0)) then (some (-1)) else (bif (decide ((IntKind.wrap .i64 ((IntKind.wrap .i64 (r1-(a0.particle.size:Int)))-(a0.family.size:Int)))<0)) then (some (-1)) else (bif (decide ((IntKind.wrap .i64 ((IntKind.wrap .i64 ((IntKind.wrap .i64 (r1-(a0.particle.size:Int)))-(a0.family.size:Int)))-(a0.suffix.size:Int)))<0)) then (some (-1)) else (some (IntKind.wrap .i64 ((IntKind.wrap .i64 ((IntKind.wrap .i64 (r1-(a0.particle.size:Int)))-(a0.family.size:Int)))-(a0.suffix.size:Int)))))))
def Z80.C (k:Nat):Cal->Option CArm:=fun c=>match c with
 | .f 177=>some (.p [(.sl .str),(.int .i64)] _ (fun x=>Z29.F k x.1 x.2.1) (fun r=>(.t (.int .i64) r)))
 | _=>none
theorem Z80.run (k:Nat) (a0:Name) (a1:Int):runF envX (tabC (Z80.C k)) (tabL 33 0 (fun _=>none)) Tryz.f142 [.t .name a0,.t (.int .i64) a1] (viewR1 (.t (.int .i64)))=Z80.F k a0 a1:=by kernel_rfl
theorem Z80.G (hE:EnvOk Tryz.prog envX) (pv:Nat->Value) (k:Nat):∀ cal A,Z80.C k cal=some A->ArmOk Tryz.prog envX pv cal A:=by
 intro cal A h
 unfold Z80.C at h
 split at h
 ·cases h; exact fun x y hy=>Z29.good hE pv k x.1 x.2.1 hy
 ·cases h
theorem Z80.good (hE:EnvOk Tryz.prog envX) (pv:Nat->Value) (k:Nat) (a0:Name) (a1:Int) {y:_} (h:Z80.F k a0 a1=some y):Meets Tryz.prog envX pv (.f 142) (tvals [.name,(.int .i64)] (a0,a1,())) (.t (.int .i64) y) :=
 fun_plain hE (Z80.G hE pv k) (f:=142) (fn:=Tryz.f142) (by kernel_rfl) rfl (by kernel_rfl) (by kernel_rfl) ((Z80.run k a0 a1).trans h) (fun r hr=>wk_view1 hr)
def Z26.l0:Nat->(List Name)->Int->Int->Option (Sum Int Int)
 | 0,_,_,_=>none
 | k+1,x0,x1,x5=>bif (decide (x5<(x0.length:Int))) then (bif decide (0<=x5) then (bif decide (x5<(x0.length:Int)) then ((Z80.F k (x0.getD (x5:Int).toNat (dflt .name)) x1).bind fun r1=>bif (decide (r1<0)) then (some (.inl (-1))) else (Z26.l0 k x0 r1 (IntKind.wrap .i64 (x5+1)))) else none) else none) else (some (.inr x1))
def Z26.F (k:Nat) (a0:List Name) (a1:Int):Option (Int):=bif (decide ((IntKind.wrap .i64 (a1-(a0.length:Int)))<0)) then (some (-1)) else ((Z26.l0 k a0 (IntKind.wrap .i64 (a1-(a0.length:Int))) 0).bind fun y2=>match y2 with | .inl z3=>some z3 | .inr z3=>some z3)
def Z26.C (k:Nat):Cal->Option CArm:=fun c=>match c with
 | .f 142=>some (.p [.name,(.int .i64)] _ (fun x=>Z80.F k x.1 x.2.1) (fun r=>(.t (.int .i64) r)))
 | _=>none
def Z26.sp0:List Sp:=[.t 0 (.sl .name),.t 1 (.int .i64),.t 5 (.int .i64)]
def Z26.sp0_0:List Sp:=[.t 4 (.int .i64)]
def Z26.sp0_1:List Sp:=[.t 1 (.int .i64)]
def Z26.A0:LArm:=.two Z26.sp0 Z26.sp0_0 Z26.sp0_1 (Int) (Int) (fun k x=>Z26.l0 k x.1 x.2.1 x.2.2.1) .ret (.exit 0) (fun y=>(y,())) (fun x=>x.1) (fun y=>(y,())) (fun x=>x.1)
def Z26.L:Nat->Option LArm:=fun b=>match b with
 | 0=>some Z26.A0
 | _=>none
theorem Z26.run (k:Nat) (a0:List Name) (a1:Int):runF envX (tabC (Z26.C k)) (tabL 27 k Z26.L) Tryz.f105 [.t (.sl .name) a0,.t (.int .i64) a1] (viewR1 (.t (.int .i64)))=Z26.F k a0 a1:=by kernel_rfl
theorem Z26.step0 (k:Nat) (x0:List Name) (x1:Int) (x5:Int):runC envX (tabC (Z26.C k)) (tabL 27 k Z26.L) 0 (loopAt Tryz.f105 0) (stOf 27 Z26.sp0 (x0,x1,x5,())) (Z26.A0.cont 27 k)=Z26.l0 (k+1) x0 x1 x5:=by kernel_rfl
theorem Z26.G (hE:EnvOk Tryz.prog envX) (pv:Nat->Value) (k:Nat):∀ cal A,Z26.C k cal=some A->ArmOk Tryz.prog envX pv cal A:=by
 intro cal A h
 unfold Z26.C at h
 split at h
 ·cases h; exact fun x y hy=>Z80.good hE pv k x.1 x.2.1 hy
 ·cases h
theorem Z26.good (hE:EnvOk Tryz.prog envX) (pv:Nat->Value) (k:Nat) (a0:List Name) (a1:Int) {y:_} (h:Z26.F k a0 a1=some y):Meets Tryz.prog envX pv (.f 105) (tvals [(.sl .name),(.int .i64)] (a0,a1,())) (.t (.int .i64) y) :=
 fun_loops hE (t:=Z26.C) k (fun k _=>Z26.G hE pv k) (f:=105) (fn:=Tryz.f105) (by kernel_rfl) rfl (by kernel_rfl) (by kernel_rfl) (lt:=Z26.L) (by kernel_rfl) (fun b A h=>by
  unfold Z26.L at h; split at h
  ·cases h; exact ⟨by kernel_rfl,by kernel_rfl,by kernel_rfl,fun _=>rfl,fun _=>rfl,fun _=>rfl⟩
  ·cases h) (fun b A h=>by
  unfold Z26.L at h; split at h
  ·cases h; exact fun k x=>Z26.step0 k x.1 x.2.1 x.2.2.1
  ·cases h) ((Z26.run k a0 a1).trans h) (fun r hr=>wk_view1 hr)
def Z81.F (k:Nat) (a0:Entry) (a1:Int):Option (Int):=bif (decide ((IntKind.wrap .i64 (a1-(a0.key.size:Int)))<0)) then (some (-1)) else ((Z26.F k a0.authors (IntKind.wrap .i64 (a1-(a0.key.size:Int)))).bind fun r1=>bif (decide (r1<0)) then (some (-1)) else ((Z26.F k a0.editors r1).bind fun r2=>bif (decide (r2<0)) then (some (-1)) else (bif (decide ((IntKind.wrap .i64 (r2-(a0.title.size:Int)))<0)) then (some (-1)) else (bif (decide ((IntKind.wrap .i64 ((IntKind.wrap .i64 (r2-(a0.title.size:Int)))-(a0.container.size:Int)))<0)) then (some (-1)) else (bif (decide ((IntKind.wrap .i64 ((IntKind.wrap .i64 ((IntKind.wrap .i64 (r2-(a0.title.size:Int)))-(a0.container.size:Int)))-(a0.publisher.size:Int)))<0)) then (some (-1)) else (bif (decide ((IntKind.wrap .i64 ((IntKind.wrap .i64 ((IntKind.wrap .i64 ((IntKind.wrap .i64 (r2-(a0.title.size:Int)))-(a0.container.size:Int)))-(a0.publisher.size:Int)))-(a0.pages.size:Int)))<0)) then (some (-1)) else (bif (decide ((IntKind.wrap .i64 ((IntKind.wrap .i64 ((IntKind.wrap .i64 ((IntKind.wrap .i64 ((IntKind.wrap .i64 (r2-(a0.title.size:Int)))-(a0.container.size:Int)))-(a0.publisher.size:Int)))-(a0.pages.size:Int)))-(a0.cross.size:Int)))<0)) then (some (-1)) else (some (IntKind.wrap .i64 ((IntKind.wrap .i64 ((IntKind.wrap .i64 ((IntKind.wrap .i64 ((IntKind.wrap .i64 (r2-(a0.title.size:Int)))-(a0.container.size:Int)))-(a0.publisher.size:Int)))-(a0.pages.size:Int)))-(a0.cross.size:Int)))))))))))
def Z81.C (k:Nat):Cal->Option CArm:=fun c=>match c with
 | .f 105=>some (.p [(.sl .name),(.int .i64)] _ (fun x=>Z26.F k x.1 x.2.1) (fun r=>(.t (.int .i64) r)))
 | _=>none
theorem Z81.run (k:Nat) (a0:Entry) (a1:Int):runF envX (tabC (Z81.C k)) (tabL 60 0 (fun _=>none)) Tryz.f65 [.t .entry a0,.t (.int .i64) a1] (viewR1 (.t (.int .i64)))=Z81.F k a0 a1:=by kernel_rfl
theorem Z81.G (hE:EnvOk Tryz.prog envX) (pv:Nat->Value) (k:Nat):∀ cal A,Z81.C k cal=some A->ArmOk Tryz.prog envX pv cal A:=by
 intro cal A h
 unfold Z81.C at h
 split at h
 ·cases h; exact fun x y hy=>Z26.good hE pv k x.1 x.2.1 hy
 ·cases h
theorem Z81.good (hE:EnvOk Tryz.prog envX) (pv:Nat->Value) (k:Nat) (a0:Entry) (a1:Int) {y:_} (h:Z81.F k a0 a1=some y):Meets Tryz.prog envX pv (.f 65) (tvals [.entry,(.int .i64)] (a0,a1,())) (.t (.int .i64) y) :=
 fun_plain hE (Z81.G hE pv k) (f:=65) (fn:=Tryz.f65) (by kernel_rfl) rfl (by kernel_rfl) (by kernel_rfl) ((Z81.run k a0 a1).trans h) (fun r hr=>wk_view1 hr)
def Z30.l0:Nat->(List Entry)->Int->Int->Option (Sum Int Int)
 | 0,_,_,_=>none
 | k+1,x0,x1,x5=>bif (decide (x5<(x0.length:Int))) then (bif decide (0<=x5) then (bif decide (x5<(x0.length:Int)) then ((Z81.F k (x0.getD (x5:Int).toNat (dflt .entry)) x1).bind fun r1=>bif (decide (r1<0)) then (some (.inl (-1))) else (Z30.l0 k x0 r1 (IntKind.wrap .i64 (x5+1)))) else none) else none) else (some (.inr x1))
def Z30.F (k:Nat) (a0:List Entry) (a1:Int):Option (Int):=bif (decide ((IntKind.wrap .i64 (a1-(a0.length:Int)))<0)) then (some (-1)) else ((Z30.l0 k a0 (IntKind.wrap .i64 (a1-(a0.length:Int))) 0).bind fun y2=>match y2 with | .inl z3=>some z3 | .inr z3=>some z3)
def Z30.C (k:Nat):Cal->Option CArm:=fun c=>match c with
 | .f 65=>some (.p [.entry,(.int .i64)] _ (fun x=>Z81.F k x.1 x.2.1) (fun r=>(.t (.int .i64) r)))
 | _=>none
def Z30.sp0:List Sp:=[.t 0 (.sl .entry),.t 1 (.int .i64),.t 5 (.int .i64)]
def Z30.sp0_0:List Sp:=[.t 4 (.int .i64)]
def Z30.sp0_1:List Sp:=[.t 1 (.int .i64)]
def Z30.A0:LArm:=.two Z30.sp0 Z30.sp0_0 Z30.sp0_1 (Int) (Int) (fun k x=>Z30.l0 k x.1 x.2.1 x.2.2.1) .ret (.exit 0) (fun y=>(y,())) (fun x=>x.1) (fun y=>(y,())) (fun x=>x.1)
def Z30.L:Nat->Option LArm:=fun b=>match b with
 | 0=>some Z30.A0
 | _=>none
theorem Z30.run (k:Nat) (a0:List Entry) (a1:Int):runF envX (tabC (Z30.C k)) (tabL 27 k Z30.L) Tryz.f26 [.t (.sl .entry) a0,.t (.int .i64) a1] (viewR1 (.t (.int .i64)))=Z30.F k a0 a1:=by kernel_rfl
theorem Z30.step0 (k:Nat) (x0:List Entry) (x1:Int) (x5:Int):runC envX (tabC (Z30.C k)) (tabL 27 k Z30.L) 0 (loopAt Tryz.f26 0) (stOf 27 Z30.sp0 (x0,x1,x5,())) (Z30.A0.cont 27 k)=Z30.l0 (k+1) x0 x1 x5:=by kernel_rfl
theorem Z30.G (hE:EnvOk Tryz.prog envX) (pv:Nat->Value) (k:Nat):∀ cal A,Z30.C k cal=some A->ArmOk Tryz.prog envX pv cal A:=by
 intro cal A h
 unfold Z30.C at h
 split at h
 ·cases h; exact fun x y hy=>Z81.good hE pv k x.1 x.2.1 hy
 ·cases h
theorem Z30.good (hE:EnvOk Tryz.prog envX) (pv:Nat->Value) (k:Nat) (a0:List Entry) (a1:Int) {y:_} (h:Z30.F k a0 a1=some y):Meets Tryz.prog envX pv (.f 26) (tvals [(.sl .entry),(.int .i64)] (a0,a1,())) (.t (.int .i64) y) :=
 fun_loops hE (t:=Z30.C) k (fun k _=>Z30.G hE pv k) (f:=26) (fn:=Tryz.f26) (by kernel_rfl) rfl (by kernel_rfl) (by kernel_rfl) (lt:=Z30.L) (by kernel_rfl) (fun b A h=>by
  unfold Z30.L at h; split at h
  ·cases h; exact ⟨by kernel_rfl,by kernel_rfl,by kernel_rfl,fun _=>rfl,fun _=>rfl,fun _=>rfl⟩
  ·cases h) (fun b A h=>by
  unfold Z30.L at h; split at h
  ·cases h; exact fun k x=>Z30.step0 k x.1 x.2.1 x.2.2.1
  ·cases h) ((Z30.run k a0 a1).trans h) (fun r hr=>wk_view1 hr)
def Z82.F (k:Nat) (a0:Library) (a1:Int):Option (Int):=(Z30.F k a0.entries a1).bind fun r1=>bif (decide (r1<0)) then (some (-1)) else (some r1)
def Z82.C (k:Nat):Cal->Option CArm:=fun c=>match c with
 | .f 26=>some (.p [(.sl .entry),(.int .i64)] _ (fun x=>Z30.F k x.1 x.2.1) (fun r=>(.t (.int .i64) r)))
 | _=>none
theorem Z82.run (k:Nat) (a0:Library) (a1:Int):runF envX (tabC (Z82.C k)) (tabL 12 0 (fun _=>none)) Tryz.f5 [.t .lib a0,.t (.int .i64) a1] (viewR1 (.t (.int .i64)))=Z82.F k a0 a1:=by kernel_rfl
theorem Z82.G (hE:EnvOk Tryz.prog envX) (pv:Nat->Value) (k:Nat):∀ cal A,Z82.C k cal=some A->ArmOk Tryz.prog envX pv cal A:=by
 intro cal A h
 unfold Z82.C at h
 split at h
 ·cases h; exact fun x y hy=>Z30.good hE pv k x.1 x.2.1 hy
 ·cases h
theorem Z82.good (hE:EnvOk Tryz.prog envX) (pv:Nat->Value) (k:Nat) (a0:Library) (a1:Int) {y:_} (h:Z82.F k a0 a1=some y):Meets Tryz.prog envX pv (.f 5) (tvals [.lib,(.int .i64)] (a0,a1,())) (.t (.int .i64) y) :=
 fun_plain hE (Z82.G hE pv k) (f:=5) (fn:=Tryz.f5) (by kernel_rfl) rfl (by kernel_rfl) (by kernel_rfl) ((Z82.run k a0 a1).trans h) (fun r hr=>wk_view1 hr)
def Z51.F (a0:Int) (a1:Int) (a2:Int):Option (Bool):=bif (decide (a0 ≥ a1)) then (some (decide (a0<=a2))) else (some false)
def Z51.C:Cal->Option CArm:=fun c=>match c with
 | _=>none
theorem Z51.run (a0:Int) (a1:Int) (a2:Int):runF envX (tabC Z51.C) (tabL 15 0 (fun _=>none)) Tryz.f28 [.t (.int .i64) a0,.t (.int .i64) a1,.t (.int .i64) a2] (viewR1 (.t .bool))=Z51.F a0 a1 a2:=by kernel_rfl
theorem Z51.G (hE:EnvOk Tryz.prog envX) (pv:Nat->Value):∀ cal A,Z51.C cal=some A->ArmOk Tryz.prog envX pv cal A:=by
 intro cal A h
 unfold Z51.C at h
 cases h
theorem Z51.good (hE:EnvOk Tryz.prog envX) (pv:Nat->Value) (a0:Int) (a1:Int) (a2:Int) {y:_} (h:Z51.F a0 a1 a2=some y):Meets Tryz.prog envX pv (.f 28) (tvals [(.int .i64),(.int .i64),(.int .i64)] (a0,a1,a2,())) (.t .bool y) :=
 fun_plain hE (Z51.G hE pv) (f:=28) (fn:=Tryz.f28) (by kernel_rfl) rfl (by kernel_rfl) (by kernel_rfl) ((Z51.run a0 a1 a2).trans h) (fun r hr=>wk_view1 hr)
def Z54.F (a0:Int):Option (Bool):=bif (decide (a0 ≥ 97)) then (some (decide (a0<=122))) else (some false)
def Z54.C:Cal->Option CArm:=fun c=>match c with
 | _=>none
theorem Z54.run (a0:Int):runF envX (tabC Z54.C) (tabL 9 0 (fun _=>none)) Tryz.f134 [.t (.int .u8) a0] (viewR1 (.t .bool))=Z54.F a0:=by kernel_rfl
theorem Z54.G (hE:EnvOk Tryz.prog envX) (pv:Nat->Value):∀ cal A,Z54.C cal=some A->ArmOk Tryz.prog envX pv cal A:=by
 intro cal A h
 unfold Z54.C at h
 cases h
theorem Z54.good (hE:EnvOk Tryz.prog envX) (pv:Nat->Value) (a0:Int) {y:_} (h:Z54.F a0=some y):Meets Tryz.prog envX pv (.f 134) (tvals [(.int .u8)] (a0,())) (.t .bool y) :=
 fun_plain hE (Z54.G hE pv) (f:=134) (fn:=Tryz.f134) (by kernel_rfl) rfl (by kernel_rfl) (by kernel_rfl) ((Z54.run a0).trans h) (fun r hr=>wk_view1 hr)
def Z12.l0:Nat->ByteArray->Int->Option (Sum Bool Unit)
 | 0,_,_=>none
 | k+1,x0,x3=>bif (decide (x3<(x0.size:Int))) then (bif decide (0<=x3) then (bif decide (x3<(x0.size:Int)) then ((Z54.F (bt x0 (x3:Int).toNat)).bind fun r3=>bif (!r3) then (bif decide (0<=x3) then (bif decide (x3<(x0.size:Int)) then (bif (decide ((bt x0 (x3:Int).toNat)<48)) then (some (.inl false)) else (bif decide (0<=x3) then (bif decide (x3<(x0.size:Int)) then (bif (decide ((bt x0 (x3:Int).toNat) > 57)) then (some (.inl false)) else (Z12.l0 k x0 (IntKind.wrap .i64 (x3+1)))) else none) else none)) else none) else none) else (Z12.l0 k x0 (IntKind.wrap .i64 (x3+1)))) else none) else none) else (some (.inr ()))
def Z12.F (k:Nat) (a0:ByteArray):Option (Bool):=(Z51.F (a0.size:Int) 1 10).bind fun r1=>bif (!r1) then (some false) else (bif decide (0<=0) then (bif decide (0<(a0.size:Int)) then ((Z54.F (bt a0 (0:Int).toNat)).bind fun r2=>bif (!r2) then (some false) else ((Z12.l0 k a0 0).bind fun y4=>match y4 with | .inl z5=>some z5 | .inr z5=>some true)) else none) else none)
def Z12.C (k:Nat):Cal->Option CArm:=fun c=>match c with
 | .f 28=>some (.p [(.int .i64),(.int .i64),(.int .i64)] _ (fun x=>Z51.F x.1 x.2.1 x.2.2.1) (fun r=>(.t .bool r)))
 | .f 134=>some (.p [(.int .u8)] _ (fun x=>Z54.F x.1) (fun r=>(.t .bool r)))
 | _=>none
def Z12.sp0:List Sp:=[.t 0 .str,.t 3 (.int .i64)]
def Z12.sp0_0:List Sp:=[.t 2 .bool]
def Z12.sp0_1:List Sp:=[]
def Z12.A0:LArm:=.two Z12.sp0 Z12.sp0_0 Z12.sp0_1 (Bool) (Unit) (fun k x=>Z12.l0 k x.1 x.2.1) .ret (.exit 0) (fun y=>(y,())) (fun x=>x.1) (fun y=>()) (fun x=>())
def Z12.L:Nat->Option LArm:=fun b=>match b with
 | 0=>some Z12.A0
 | _=>none
theorem Z12.run (k:Nat) (a0:ByteArray):runF envX (tabC (Z12.C k)) (tabL 37 k Z12.L) Tryz.f93 [.t .str a0] (viewR1 (.t .bool))=Z12.F k a0:=by kernel_rfl
theorem Z12.step0 (k:Nat) (x0:ByteArray) (x3:Int):runC envX (tabC (Z12.C k)) (tabL 37 k Z12.L) 0 (loopAt Tryz.f93 0) (stOf 37 Z12.sp0 (x0,x3,())) (Z12.A0.cont 37 k)=Z12.l0 (k+1) x0 x3:=by kernel_rfl
theorem Z12.G (hE:EnvOk Tryz.prog envX) (pv:Nat->Value) (k:Nat):∀ cal A,Z12.C k cal=some A->ArmOk Tryz.prog envX pv cal A:=by
 intro cal A h
 unfold Z12.C at h
 split at h
 ·cases h; exact fun x y hy=>Z51.good hE pv x.1 x.2.1 x.2.2.1 hy
 ·cases h; exact fun x y hy=>Z54.good hE pv x.1 hy
 ·cases h
theorem Z12.good (hE:EnvOk Tryz.prog envX) (pv:Nat->Value) (k:Nat) (a0:ByteArray) {y:_} (h:Z12.F k a0=some y):Meets Tryz.prog envX pv (.f 93) (tvals [.str] (a0,())) (.t .bool y) :=
 fun_loops hE (t:=Z12.C) k (fun k _=>Z12.G hE pv k) (f:=93) (fn:=Tryz.f93) (by kernel_rfl) rfl (by kernel_rfl) (by kernel_rfl) (lt:=Z12.L) (by kernel_rfl) (fun b A h=>by
  unfold Z12.L at h; split at h
  ·cases h; exact ⟨by kernel_rfl,by kernel_rfl,by kernel_rfl,fun _=>rfl,fun _=>rfl,fun _=>rfl⟩
  ·cases h) (fun b A h=>by
  unfold Z12.L at h; split at h
  ·cases h; exact fun k x=>Z12.step0 k x.1 x.2.1
  ·cases h) ((Z12.run k a0).trans h) (fun r hr=>wk_view1 hr)
def Z59.F (a0:Int):Option (Bool):=bif (decide (a0 ≥ 65)) then (some (decide (a0<=90))) else (some false)
def Z59.C:Cal->Option CArm:=fun c=>match c with
 | _=>none
theorem Z59.run (a0:Int):runF envX (tabC Z59.C) (tabL 9 0 (fun _=>none)) Tryz.f161 [.t (.int .u8) a0] (viewR1 (.t .bool))=Z59.F a0:=by kernel_rfl
theorem Z59.G (hE:EnvOk Tryz.prog envX) (pv:Nat->Value):∀ cal A,Z59.C cal=some A->ArmOk Tryz.prog envX pv cal A:=by
 intro cal A h
 unfold Z59.C at h
 cases h
theorem Z59.good (hE:EnvOk Tryz.prog envX) (pv:Nat->Value) (a0:Int) {y:_} (h:Z59.F a0=some y):Meets Tryz.prog envX pv (.f 161) (tvals [(.int .u8)] (a0,())) (.t .bool y) :=
 fun_plain hE (Z59.G hE pv) (f:=161) (fn:=Tryz.f161) (by kernel_rfl) rfl (by kernel_rfl) (by kernel_rfl) ((Z59.run a0).trans h) (fun r hr=>wk_view1 hr)
def Z56.F (a0:Int):Option (Bool):=(Z59.F a0).bind fun r1=>bif r1 then (some true) else ((Z54.F a0).bind fun r2=>some r2)
def Z56.C:Cal->Option CArm:=fun c=>match c with
 | .f 161=>some (.p [(.int .u8)] _ (fun x=>Z59.F x.1) (fun r=>(.t .bool r)))
 | .f 134=>some (.p [(.int .u8)] _ (fun x=>Z54.F x.1) (fun r=>(.t .bool r)))
 | _=>none
theorem Z56.run (a0:Int):runF envX (tabC Z56.C) (tabL 9 0 (fun _=>none)) Tryz.f186 [.t (.int .u8) a0] (viewR1 (.t .bool))=Z56.F a0:=by kernel_rfl
theorem Z56.G (hE:EnvOk Tryz.prog envX) (pv:Nat->Value):∀ cal A,Z56.C cal=some A->ArmOk Tryz.prog envX pv cal A:=by
 intro cal A h
 unfold Z56.C at h
 split at h
 ·cases h; exact fun x y hy=>Z59.good hE pv x.1 hy
 ·cases h; exact fun x y hy=>Z54.good hE pv x.1 hy
 ·cases h
theorem Z56.good (hE:EnvOk Tryz.prog envX) (pv:Nat->Value) (a0:Int) {y:_} (h:Z56.F a0=some y):Meets Tryz.prog envX pv (.f 186) (tvals [(.int .u8)] (a0,())) (.t .bool y) :=
 fun_plain hE (Z56.G hE pv) (f:=186) (fn:=Tryz.f186) (by kernel_rfl) rfl (by kernel_rfl) (by kernel_rfl) ((Z56.run a0).trans h) (fun r hr=>wk_view1 hr)
def Z10.l0:Nat->ByteArray->Int->Option (Sum Bool Unit)
 | 0,_,_=>none
 | k+1,x0,x3=>bif (decide (x3<(x0.size:Int))) then (bif decide (0<=x3) then (bif decide (x3<(x0.size:Int)) then ((Z56.F (bt x0 (x3:Int).toNat)).bind fun r4=>bif (!r4) then (bif decide (0<=x3) then (bif decide (x3<(x0.size:Int)) then (bif ((bt x0 (x3:Int).toNat) != 45) then (bif decide (0<=x3) then (bif decide (x3<(x0.size:Int)) then (bif ((bt x0 (x3:Int).toNat) != 39) then (some (.inl false)) else (bif decide (0<=(IntKind.wrap .i64 (x3-1))) then (bif decide ((IntKind.wrap .i64 (x3-1))<(x0.size:Int)) then ((Z56.F (bt x0 ((IntKind.wrap .i64 (x3-1)):Int).toNat)).bind fun r5=>bif (!r5) then (some (.inl false)) else (Z10.l0 k x0 (IntKind.wrap .i64 (x3+1)))) else none) else none)) else none) else none) else (bif decide (0<=(IntKind.wrap .i64 (x3-1))) then (bif decide ((IntKind.wrap .i64 (x3-1))<(x0.size:Int)) then ((Z56.F (bt x0 ((IntKind.wrap .i64 (x3-1)):Int).toNat)).bind fun r6=>bif (!r6) then (some (.inl false)) else (Z10.l0 k x0 (IntKind.wrap .i64 (x3+1)))) else none) else none)) else none) else none) else (Z10.l0 k x0 (IntKind.wrap .i64 (x3+1)))) else none) else none) else (some (.inr ()))
def Z10.F (k:Nat) (a0:ByteArray):Option (Bool):=(Z51.F (a0.size:Int) 1 12).bind fun r1=>bif (!r1) then (some false) else (bif decide (0<=0) then (bif decide (0<(a0.size:Int)) then ((Z56.F (bt a0 (0:Int).toNat)).bind fun r2=>bif (!r2) then (some false) else (bif decide (0<=(IntKind.wrap .i64 ((a0.size:Int)-1))) then (bif decide ((IntKind.wrap .i64 ((a0.size:Int)-1))<(a0.size:Int)) then ((Z56.F (bt a0 ((IntKind.wrap .i64 ((a0.size:Int)-1)):Int).toNat)).bind fun r3=>bif (!r3) then (some false) else ((Z10.l0 k a0 1).bind fun y7=>match y7 with | .inl z8=>some z8 | .inr z8=>some true)) else none) else none)) else none) else none)
def Z10.C (k:Nat):Cal->Option CArm:=fun c=>match c with
 | .f 28=>some (.p [(.int .i64),(.int .i64),(.int .i64)] _ (fun x=>Z51.F x.1 x.2.1 x.2.2.1) (fun r=>(.t .bool r)))
 | .f 186=>some (.p [(.int .u8)] _ (fun x=>Z56.F x.1) (fun r=>(.t .bool r)))
 | _=>none
def Z10.sp0:List Sp:=[.t 0 .str,.t 3 (.int .i64)]
def Z10.sp0_0:List Sp:=[.t 2 .bool]
def Z10.sp0_1:List Sp:=[]
def Z10.A0:LArm:=.two Z10.sp0 Z10.sp0_0 Z10.sp0_1 (Bool) (Unit) (fun k x=>Z10.l0 k x.1 x.2.1) .ret (.exit 0) (fun y=>(y,())) (fun x=>x.1) (fun y=>()) (fun x=>())
def Z10.L:Nat->Option LArm:=fun b=>match b with
 | 0=>some Z10.A0
 | _=>none
theorem Z10.run (k:Nat) (a0:ByteArray):runF envX (tabC (Z10.C k)) (tabL 54 k Z10.L) Tryz.f160 [.t .str a0] (viewR1 (.t .bool))=Z10.F k a0:=by kernel_rfl
theorem Z10.step0 (k:Nat) (x0:ByteArray) (x3:Int):runC envX (tabC (Z10.C k)) (tabL 54 k Z10.L) 0 (loopAt Tryz.f160 0) (stOf 54 Z10.sp0 (x0,x3,())) (Z10.A0.cont 54 k)=Z10.l0 (k+1) x0 x3:=by kernel_rfl
theorem Z10.G (hE:EnvOk Tryz.prog envX) (pv:Nat->Value) (k:Nat):∀ cal A,Z10.C k cal=some A->ArmOk Tryz.prog envX pv cal A:=by
 intro cal A h
 unfold Z10.C at h
 split at h
 ·cases h; exact fun x y hy=>Z51.good hE pv x.1 x.2.1 x.2.2.1 hy
 ·cases h; exact fun x y hy=>Z56.good hE pv x.1 hy
 ·cases h
theorem Z10.good (hE:EnvOk Tryz.prog envX) (pv:Nat->Value) (k:Nat) (a0:ByteArray) {y:_} (h:Z10.F k a0=some y):Meets Tryz.prog envX pv (.f 160) (tvals [.str] (a0,())) (.t .bool y) :=
 fun_loops hE (t:=Z10.C) k (fun k _=>Z10.G hE pv k) (f:=160) (fn:=Tryz.f160) (by kernel_rfl) rfl (by kernel_rfl) (by kernel_rfl) (lt:=Z10.L) (by kernel_rfl) (fun b A h=>by
  unfold Z10.L at h; split at h
  ·cases h; exact ⟨by kernel_rfl,by kernel_rfl,by kernel_rfl,fun _=>rfl,fun _=>rfl,fun _=>rfl⟩
  ·cases h) (fun b A h=>by
  unfold Z10.L at h; split at h
  ·cases h; exact fun k x=>Z10.step0 k x.1 x.2.1
  ·cases h) ((Z10.run k a0).trans h) (fun r hr=>wk_view1 hr)
def Z31.l0:Nat->ByteArray->Int->(List ByteArray)->Int->Int->Option (ByteArray × (List ByteArray) × Int)
 | 0,_,_,_,_,_=>none
 | k+1,x0,x1,x5,x6,x7=>bif (decide (x7<(x0.size:Int))) then (bif decide (0<=x7) then (bif decide (x7<(x0.size:Int)) then (bif ((bt x0 (x7:Int).toNat)==x1) then (bif decide (0<=x7) then (bif decide (x7<=(x0.size:Int)) then (bif decide (0<=x6) then (bif decide (x6<=x7) then (bif room (x5.length+([(x0.extract (x6:Int).toNat (x7:Int).toNat)]:List ByteArray).length) .str then (Z31.l0 k x0 x1 (x5++([(x0.extract (x6:Int).toNat (x7:Int).toNat)]:List ByteArray)) (IntKind.wrap .i64 (x7+1)) (IntKind.wrap .i64 (x7+1))) else none) else none) else none) else none) else none) else (Z31.l0 k x0 x1 x5 x6 (IntKind.wrap .i64 (x7+1)))) else none) else none) else (some (x0,x5,x6))
def Z31.F (k:Nat) (a0:ByteArray) (a1:Int):Option (List ByteArray):=(Z31.l0 k a0 a1 ([]:List ByteArray) 0 0).bind fun y1=>bif decide (0<=y1.2.2) then (bif decide (y1.2.2<=(y1.1.size:Int)) then (bif room (y1.2.1.length+([(y1.1.extract (y1.2.2:Int).toNat y1.1.size)]:List ByteArray).length) .str then (some (y1.2.1++([(y1.1.extract (y1.2.2:Int).toNat y1.1.size)]:List ByteArray))) else none) else none) else none
def Z31.C (k:Nat):Cal->Option CArm:=fun c=>match c with
 | _=>none
def Z31.sp0:List Sp:=[.t 0 .str,.t 1 (.int .u8),.own 5 1024 9 .str false true,.t 6 (.int .i64),.t 7 (.int .i64)]
def Z31.sp0_0:List Sp:=[.t 0 .str,.own 5 1024 9 .str false true,.t 6 (.int .i64)]
def Z31.A0:LArm:=.one Z31.sp0 Z31.sp0_0 (ByteArray × (List ByteArray) × Int) (fun k x=>Z31.l0 k x.1 x.2.1 x.2.2.1 x.2.2.2.1 x.2.2.2.2.1) (.exit 0) (fun y=>(y.1,y.2.1,y.2.2,())) (fun x=>(x.1,x.2.1,x.2.2.1))
def Z31.L:Nat->Option LArm:=fun b=>match b with
 | 0=>some Z31.A0
 | _=>none
theorem Z31.run (k:Nat) (a0:ByteArray) (a1:Int):runF envX (tabC (Z31.C k)) (tabL 35 k Z31.L) Tryz.f187 [.t .str a0,.t (.int .u8) a1] (viewR1 (.fr 9 .str))=Z31.F k a0 a1:=by kernel_rfl
theorem Z31.step0 (k:Nat) (x0:ByteArray) (x1:Int) (x5:List ByteArray) (x6:Int) (x7:Int):runC envX (tabC (Z31.C k)) (tabL 35 k Z31.L) 0 (loopAt Tryz.f187 0) (stOf 35 Z31.sp0 (x0,x1,x5,x6,x7,())) (Z31.A0.cont 35 k)=Z31.l0 (k+1) x0 x1 x5 x6 x7:=by kernel_rfl
theorem Z31.G (hE:EnvOk Tryz.prog envX) (pv:Nat->Value) (k:Nat):∀ cal A,Z31.C k cal=some A->ArmOk Tryz.prog envX pv cal A:=by
 intro cal A h
 unfold Z31.C at h
 cases h
theorem Z31.good (hE:EnvOk Tryz.prog envX) (pv:Nat->Value) (k:Nat) (a0:ByteArray) (a1:Int) {y:_} (h:Z31.F k a0 a1=some y):Meets Tryz.prog envX pv (.f 187) (tvals [.str,(.int .u8)] (a0,a1,())) (.fr 9 .str y) :=
 fun_loops hE (t:=Z31.C) k (fun k _=>Z31.G hE pv k) (f:=187) (fn:=Tryz.f187) (by kernel_rfl) rfl (by kernel_rfl) (by kernel_rfl) (lt:=Z31.L) (by kernel_rfl) (fun b A h=>by
  unfold Z31.L at h; split at h
  ·cases h; exact ⟨by kernel_rfl,by kernel_rfl,fun _=>rfl,fun _=>rfl⟩
  ·cases h) (fun b A h=>by
  unfold Z31.L at h; split at h
  ·cases h; exact fun k x=>Z31.step0 k x.1 x.2.1 x.2.2.1 x.2.2.2.1 x.2.2.2.2.1
  ·cases h) ((Z31.run k a0 a1).trans h) (fun r hr=>wk_view1 hr)
def Z4.l2:Nat->(List ByteArray)->Int->Int->Option (Sum Bool ((List ByteArray) × Int))
 | 0,_,_,_=>none
 | k+1,x3,x4,x5=>bif decide (0<=x4) then (bif decide (x4<(x3.length:Int)) then (bif (decide (x5<((x3.getD ((x4:Int).toNat) (⟨#[]⟩:ByteArray)).size:Int))) then (bif decide (0<=x4) then (bif decide (x4<(x3.length:Int)) then (bif decide (0<=x5) then (bif decide (x5<((x3.getD ((x4:Int).toNat) (⟨#[]⟩:ByteArray)).size:Int)) then ((Z54.F (bt (x3.getD ((x4:Int).toNat) (⟨#[]⟩:ByteArray)) (x5:Int).toNat)).bind fun r3=>bif (!r3) then (some (.inl false)) else (Z4.l2 k x3 x4 (IntKind.wrap .i64 (x5+1)))) else none) else none) else none) else none) else (some (.inr (x3,x4)))) else none) else none
def Z4.l0:Nat->(List ByteArray)->Int->Option (Sum Bool (List ByteArray))
 | 0,_,_=>none
 | k+1,x3,x4=>bif (decide (x4<(x3.length:Int))) then (bif decide (0<=x4) then (bif decide (x4<(x3.length:Int)) then ((Z10.F k (x3.getD ((x4:Int).toNat) (⟨#[]⟩:ByteArray))).bind fun r2=>bif (!r2) then (some (.inl false)) else ((Z4.l2 k x3 x4 0).bind fun y4=>match y4 with | .inl z5=>some (.inl z5) | .inr z5=>Z4.l0 k z5.1 (IntKind.wrap .i64 (z5.2+1)))) else none) else none) else (some (.inr x3))
def Z4.F (k:Nat) (a0:ByteArray):Option (Bool):=bif (beqS a0 (⟨#[]⟩:ByteArray)) then (some true) else ((Z31.F k a0 32).bind fun r1=>(Z4.l0 k r1 0).bind fun y6=>match y6 with | .inl z7=>some z7 | .inr z7=>some (decide ((z7.length:Int)<=2)))
def Z4.C (k:Nat):Cal->Option CArm:=fun c=>match c with
 | .f 187=>some (.p [.str,(.int .u8)] _ (fun x=>Z31.F k x.1 x.2.1) (fun r=>(.fr 9 .str r)))
 | .f 160=>some (.p [.str] _ (fun x=>Z10.F k x.1) (fun r=>(.t .bool r)))
 | .f 134=>some (.p [(.int .u8)] _ (fun x=>Z54.F x.1) (fun r=>(.t .bool r)))
 | _=>none
def Z4.sp2:List Sp:=[.own 3 3076 9 .str false true,.t 4 (.int .i64),.t 5 (.int .i64)]
def Z4.sp2_0:List Sp:=[.t 2 .bool]
def Z4.sp2_1:List Sp:=[.own 3 3076 9 .str false true,.t 4 (.int .i64)]
def Z4.A2:LArm:=.two Z4.sp2 Z4.sp2_0 Z4.sp2_1 (Bool) ((List ByteArray) × Int) (fun k x=>Z4.l2 k x.1 x.2.1 x.2.2.1) .ret (.exit 2) (fun y=>(y,())) (fun x=>x.1) (fun y=>(y.1,y.2,())) (fun x=>(x.1,x.2.1))
def Z4.sp0:List Sp:=[.own 3 3076 9 .str false true,.t 4 (.int .i64)]
def Z4.sp0_0:List Sp:=[.t 2 .bool]
def Z4.sp0_1:List Sp:=[.own 3 3076 9 .str false true]
def Z4.A0:LArm:=.two Z4.sp0 Z4.sp0_0 Z4.sp0_1 (Bool) ((List ByteArray)) (fun k x=>Z4.l0 k x.1 x.2.1) .ret (.exit 0) (fun y=>(y,())) (fun x=>x.1) (fun y=>(y,())) (fun x=>x.1)
def Z4.L:Nat->Option LArm:=fun b=>match b with
 | 2=>some Z4.A2
 | 0=>some Z4.A0
 | _=>none
theorem Z4.run (k:Nat) (a0:ByteArray):runF envX (tabC (Z4.C k)) (tabL 42 k Z4.L) Tryz.f162 [.t .str a0] (viewR1 (.t .bool))=Z4.F k a0:=by kernel_rfl
theorem Z4.step2 (k:Nat) (x3:List ByteArray) (x4:Int) (x5:Int):runC envX (tabC (Z4.C k)) (tabL 42 k Z4.L) 2 (loopAt Tryz.f162 2) (stOf 42 Z4.sp2 (x3,x4,x5,())) (Z4.A2.cont 42 k)=Z4.l2 (k+1) x3 x4 x5:=by kernel_rfl
theorem Z4.step0 (k:Nat) (x3:List ByteArray) (x4:Int):runC envX (tabC (Z4.C k)) (tabL 42 k Z4.L) 0 (loopAt Tryz.f162 0) (stOf 42 Z4.sp0 (x3,x4,())) (Z4.A0.cont 42 k)=Z4.l0 (k+1) x3 x4:=by kernel_rfl
theorem Z4.G (hE:EnvOk Tryz.prog envX) (pv:Nat->Value) (k:Nat):∀ cal A,Z4.C k cal=some A->ArmOk Tryz.prog envX pv cal A:=by
 intro cal A h
 unfold Z4.C at h
 split at h
 ·cases h; exact fun x y hy=>Z31.good hE pv k x.1 x.2.1 hy
 ·cases h; exact fun x y hy=>Z10.good hE pv k x.1 hy
 ·cases h; exact fun x y hy=>Z54.good hE pv x.1 hy
 ·cases h
theorem Z4.good (hE:EnvOk Tryz.prog envX) (pv:Nat->Value) (k:Nat) (a0:ByteArray) {y:_} (h:Z4.F k a0=some y):Meets Tryz.prog envX pv (.f 162) (tvals [.str] (a0,())) (.t .bool y) :=
 fun_loops hE (t:=Z4.C) k (fun k _=>Z4.G hE pv k) (f:=162) (fn:=Tryz.f162) (by kernel_rfl) rfl (by kernel_rfl) (by kernel_rfl) (lt:=Z4.L) (by kernel_rfl) (fun b A h=>by
  unfold Z4.L at h; split at h
  ·cases h; exact ⟨by kernel_rfl,by kernel_rfl,by kernel_rfl,fun _=>rfl,fun _=>rfl,fun _=>rfl⟩
  ·cases h; exact ⟨by kernel_rfl,by kernel_rfl,by kernel_rfl,fun _=>rfl,fun _=>rfl,fun _=>rfl⟩
  ·cases h) (fun b A h=>by
  unfold Z4.L at h; split at h
  ·cases h; exact fun k x=>Z4.step2 k x.1 x.2.1 x.2.2.1
  ·cases h; exact fun k x=>Z4.step0 k x.1 x.2.1
  ·cases h) ((Z4.run k a0).trans h) (fun r hr=>wk_view1 hr)
def Z22.l0:Nat->Name->Int->Option (Sum Bool Name)
 | 0,_,_=>none
 | k+1,x1,x3=>bif (decide (x3<(x1.given.length:Int))) then (bif decide (0<=x3) then (bif decide (x3<(x1.given.length:Int)) then ((Z10.F k (x1.given.getD (x3:Int).toNat (⟨#[]⟩:ByteArray))).bind fun r1=>bif (!r1) then (some (.inl false)) else (bif decide (0<=x3) then (bif decide (x3<(x1.given.length:Int)) then (bif decide (0<=0) then (bif decide (0<((x1.given.getD (x3:Int).toNat (⟨#[]⟩:ByteArray)).size:Int)) then ((Z59.F (bt (x1.given.getD (x3:Int).toNat (⟨#[]⟩:ByteArray)) (0:Int).toNat)).bind fun r2=>bif (!r2) then (some (.inl false)) else (Z22.l0 k x1 (IntKind.wrap .i64 (x3+1)))) else none) else none) else none) else none)) else none) else none) else (some (.inr x1))
def Z22.F (k:Nat) (a0:Name):Option (Bool):=(Z22.l0 k a0 0).bind fun y3=>match y3 with | .inl z4=>some z4 | .inr z4=>bif (decide ((z4.given.length:Int)<=3)) then ((Z4.F k z4.particle).bind fun r5=>bif r5 then ((Z10.F k z4.family).bind fun r6=>bif r6 then (bif decide (0<=0) then (bif decide (0<(z4.family.size:Int)) then ((Z59.F (bt z4.family (0:Int).toNat)).bind fun r7=>bif r7 then (bif (beqS z4.suffix (⟨#[]⟩:ByteArray)) then (some true) else ((Z10.F k z4.suffix).bind fun r8=>some r8)) else (some false)) else none) else none) else (some false)) else (some false)) else (some false)
def Z22.C (k:Nat):Cal->Option CArm:=fun c=>match c with
 | .f 160=>some (.p [.str] _ (fun x=>Z10.F k x.1) (fun r=>(.t .bool r)))
 | .f 161=>some (.p [(.int .u8)] _ (fun x=>Z59.F x.1) (fun r=>(.t .bool r)))
 | .f 162=>some (.p [.str] _ (fun x=>Z4.F k x.1) (fun r=>(.t .bool r)))
 | _=>none
def Z22.sp0:List Sp:=[.boxT 1 0 .name,.t 3 (.int .i64)]
def Z22.sp0_0:List Sp:=[.t 2 .bool]
def Z22.sp0_1:List Sp:=[.boxT 1 0 .name]
def Z22.A0:LArm:=.two Z22.sp0 Z22.sp0_0 Z22.sp0_1 (Bool) (Name) (fun k x=>Z22.l0 k x.1 x.2.1) .ret (.exit 0) (fun y=>(y,())) (fun x=>x.1) (fun y=>(y,())) (fun x=>x.1)
def Z22.L:Nat->Option LArm:=fun b=>match b with
 | 0=>some Z22.A0
 | _=>none
theorem Z22.run (k:Nat) (a0:Name):runF envX (tabC (Z22.C k)) (tabL 58 k Z22.L) Tryz.f135 [.t .name a0] (viewR1 (.t .bool))=Z22.F k a0:=by kernel_rfl
theorem Z22.step0 (k:Nat) (x1:Name) (x3:Int):runC envX (tabC (Z22.C k)) (tabL 58 k Z22.L) 0 (loopAt Tryz.f135 0) (stOf 58 Z22.sp0 (x1,x3,())) (Z22.A0.cont 58 k)=Z22.l0 (k+1) x1 x3:=by kernel_rfl
theorem Z22.G (hE:EnvOk Tryz.prog envX) (pv:Nat->Value) (k:Nat):∀ cal A,Z22.C k cal=some A->ArmOk Tryz.prog envX pv cal A:=by
 intro cal A h
 unfold Z22.C at h
 split at h
 ·cases h; exact fun x y hy=>Z10.good hE pv k x.1 hy
 ·cases h; exact fun x y hy=>Z59.good hE pv x.1 hy
 ·cases h; exact fun x y hy=>Z4.good hE pv k x.1 hy
 ·cases h
theorem Z22.good (hE:EnvOk Tryz.prog envX) (pv:Nat->Value) (k:Nat) (a0:Name) {y:_} (h:Z22.F k a0=some y):Meets Tryz.prog envX pv (.f 135) (tvals [.name] (a0,())) (.t .bool y) :=
 fun_loops hE (t:=Z22.C) k (fun k _=>Z22.G hE pv k) (f:=135) (fn:=Tryz.f135) (by kernel_rfl) rfl (by kernel_rfl) (by kernel_rfl) (lt:=Z22.L) (by kernel_rfl) (fun b A h=>by
  unfold Z22.L at h; split at h
  ·cases h; exact ⟨by kernel_rfl,by kernel_rfl,by kernel_rfl,fun _=>rfl,fun _=>rfl,fun _=>rfl⟩
  ·cases h) (fun b A h=>by
  unfold Z22.L at h; split at h
  ·cases h; exact fun k x=>Z22.step0 k x.1 x.2.1
  ·cases h) ((Z22.run k a0).trans h) (fun r hr=>wk_view1 hr)
def Z17.l0:Nat->(List Name)->Int->Option (Sum Bool (List Name))
 | 0,_,_=>none
 | k+1,x0,x3=>bif (decide (x3<(x0.length:Int))) then (bif (decide (x3<=4)) then (bif decide (0<=x3) then (bif decide (x3<(x0.length:Int)) then ((Z22.F k (x0.getD (x3:Int).toNat (dflt .name))).bind fun r1=>bif (!r1) then (some (.inl false)) else (Z17.l0 k x0 (IntKind.wrap .i64 (x3+1)))) else none) else none) else (some (.inr x0))) else (some (.inr x0))
def Z17.F (k:Nat) (a0:List Name):Option (Bool):=(Z17.l0 k a0 0).bind fun y2=>match y2 with | .inl z3=>some z3 | .inr z3=>some (decide ((z3.length:Int)<=4))
def Z17.C (k:Nat):Cal->Option CArm:=fun c=>match c with
 | .f 135=>some (.p [.name] _ (fun x=>Z22.F k x.1) (fun r=>(.t .bool r)))
 | _=>none
def Z17.sp0:List Sp:=[.t 0 (.sl .name),.t 3 (.int .i64)]
def Z17.sp0_0:List Sp:=[.t 2 .bool]
def Z17.sp0_1:List Sp:=[.t 0 (.sl .name)]
def Z17.A0:LArm:=.two Z17.sp0 Z17.sp0_0 Z17.sp0_1 (Bool) ((List Name)) (fun k x=>Z17.l0 k x.1 x.2.1) .ret (.exit 0) (fun y=>(y,())) (fun x=>x.1) (fun y=>(y,())) (fun x=>x.1)
def Z17.L:Nat->Option LArm:=fun b=>match b with
 | 0=>some Z17.A0
 | _=>none
theorem Z17.run (k:Nat) (a0:List Name):runF envX (tabC (Z17.C k)) (tabL 23 k Z17.L) Tryz.f94 [.t (.sl .name) a0] (viewR1 (.t .bool))=Z17.F k a0:=by kernel_rfl
theorem Z17.step0 (k:Nat) (x0:List Name) (x3:Int):runC envX (tabC (Z17.C k)) (tabL 23 k Z17.L) 0 (loopAt Tryz.f94 0) (stOf 23 Z17.sp0 (x0,x3,())) (Z17.A0.cont 23 k)=Z17.l0 (k+1) x0 x3:=by kernel_rfl
theorem Z17.G (hE:EnvOk Tryz.prog envX) (pv:Nat->Value) (k:Nat):∀ cal A,Z17.C k cal=some A->ArmOk Tryz.prog envX pv cal A:=by
 intro cal A h
 unfold Z17.C at h
 split at h
 ·cases h; exact fun x y hy=>Z22.good hE pv k x.1 hy
 ·cases h
theorem Z17.good (hE:EnvOk Tryz.prog envX) (pv:Nat->Value) (k:Nat) (a0:List Name) {y:_} (h:Z17.F k a0=some y):Meets Tryz.prog envX pv (.f 94) (tvals [(.sl .name)] (a0,())) (.t .bool y) :=
 fun_loops hE (t:=Z17.C) k (fun k _=>Z17.G hE pv k) (f:=94) (fn:=Tryz.f94) (by kernel_rfl) rfl (by kernel_rfl) (by kernel_rfl) (lt:=Z17.L) (by kernel_rfl) (fun b A h=>by
  unfold Z17.L at h; split at h
  ·cases h; exact ⟨by kernel_rfl,by kernel_rfl,by kernel_rfl,fun _=>rfl,fun _=>rfl,fun _=>rfl⟩
  ·cases h) (fun b A h=>by
  unfold Z17.L at h; split at h
  ·cases h; exact fun k x=>Z17.step0 k x.1 x.2.1
  ·cases h) ((Z17.run k a0).trans h) (fun r hr=>wk_view1 hr)
def Z18.l0:Nat->ByteArray->Int->Option (Sum Bool ByteArray)
 | 0,_,_=>none
 | k+1,x0,x3=>bif (decide (x3<(x0.size:Int))) then (bif decide (0<=x3) then (bif decide (x3<(x0.size:Int)) then (bif (decide ((bt x0 (x3:Int).toNat)<32)) then (some (.inl false)) else (bif decide (0<=x3) then (bif decide (x3<(x0.size:Int)) then (bif (decide ((bt x0 (x3:Int).toNat) > 126)) then (some (.inl false)) else (Z18.l0 k x0 (IntKind.wrap .i64 (x3+1)))) else none) else none)) else none) else none) else (some (.inr x0))
def Z18.F (k:Nat) (a0:ByteArray):Option (Bool):=bif (decide ((a0.size:Int) > 40)) then (some false) else ((Z18.l0 k a0 0).bind fun y1=>match y1 with | .inl z2=>some z2 | .inr z2=>bif (beqS z2 (⟨#[]⟩:ByteArray)) then (some true) else (bif decide (0<=0) then (bif decide (0<(z2.size:Int)) then (bif ((bt z2 (0:Int).toNat) != 32) then (bif decide (0<=(IntKind.wrap .i64 ((z2.size:Int)-1))) then (bif decide ((IntKind.wrap .i64 ((z2.size:Int)-1))<(z2.size:Int)) then (some ((bt z2 ((IntKind.wrap .i64 ((z2.size:Int)-1)):Int).toNat) != 32)) else none) else none) else (some false)) else none) else none))
def Z18.C (k:Nat):Cal->Option CArm:=fun c=>match c with
 | _=>none
def Z18.sp0:List Sp:=[.t 0 .str,.t 3 (.int .i64)]
def Z18.sp0_0:List Sp:=[.t 2 .bool]
def Z18.sp0_1:List Sp:=[.t 0 .str]
def Z18.A0:LArm:=.two Z18.sp0 Z18.sp0_0 Z18.sp0_1 (Bool) (ByteArray) (fun k x=>Z18.l0 k x.1 x.2.1) .ret (.exit 0) (fun y=>(y,())) (fun x=>x.1) (fun y=>(y,())) (fun x=>x.1)
def Z18.L:Nat->Option LArm:=fun b=>match b with
 | 0=>some Z18.A0
 | _=>none
theorem Z18.run (k:Nat) (a0:ByteArray):runF envX (tabC (Z18.C k)) (tabL 38 k Z18.L) Tryz.f95 [.t .str a0] (viewR1 (.t .bool))=Z18.F k a0:=by kernel_rfl
theorem Z18.step0 (k:Nat) (x0:ByteArray) (x3:Int):runC envX (tabC (Z18.C k)) (tabL 38 k Z18.L) 0 (loopAt Tryz.f95 0) (stOf 38 Z18.sp0 (x0,x3,())) (Z18.A0.cont 38 k)=Z18.l0 (k+1) x0 x3:=by kernel_rfl
theorem Z18.G (hE:EnvOk Tryz.prog envX) (pv:Nat->Value) (k:Nat):∀ cal A,Z18.C k cal=some A->ArmOk Tryz.prog envX pv cal A:=by
 intro cal A h
 unfold Z18.C at h
 cases h
theorem Z18.good (hE:EnvOk Tryz.prog envX) (pv:Nat->Value) (k:Nat) (a0:ByteArray) {y:_} (h:Z18.F k a0=some y):Meets Tryz.prog envX pv (.f 95) (tvals [.str] (a0,())) (.t .bool y) :=
 fun_loops hE (t:=Z18.C) k (fun k _=>Z18.G hE pv k) (f:=95) (fn:=Tryz.f95) (by kernel_rfl) rfl (by kernel_rfl) (by kernel_rfl) (lt:=Z18.L) (by kernel_rfl) (fun b A h=>by
  unfold Z18.L at h; split at h
  ·cases h; exact ⟨by kernel_rfl,by kernel_rfl,by kernel_rfl,fun _=>rfl,fun _=>rfl,fun _=>rfl⟩
  ·cases h) (fun b A h=>by
  unfold Z18.L at h; split at h
  ·cases h; exact fun k x=>Z18.step0 k x.1 x.2.1
  ·cases h) ((Z18.run k a0).trans h) (fun r hr=>wk_view1 hr)
def Z83.F (a0:Int) (a1:Int):Option (Int):=bif (a1==2) then (bif (4==0) then (none) else (bif ((Int.tmod a0 4)==0) then (bif (100==0) then (none) else (bif ((Int.tmod a0 100) != 0) then (some 29) else (bif (400==0) then (none) else (bif ((Int.tmod a0 400)==0) then (some 29) else (some 28))))) else (bif (400==0) then (none) else (bif ((Int.tmod a0 400)==0) then (some 29) else (some 28))))) else (bif (a1==4) then (some 30) else (bif (a1==6) then (some 30) else (bif (a1==9) then (some 30) else (bif (a1==11) then (some 30) else (some 31)))))
def Z83.C:Cal->Option CArm:=fun c=>match c with
 | _=>none
theorem Z83.run (a0:Int) (a1:Int):runF envX (tabC Z83.C) (tabL 34 0 (fun _=>none)) Tryz.f136 [.t (.int .i64) a0,.t (.int .i64) a1] (viewR1 (.t (.int .i64)))=Z83.F a0 a1:=by kernel_rfl
theorem Z83.G (hE:EnvOk Tryz.prog envX) (pv:Nat->Value):∀ cal A,Z83.C cal=some A->ArmOk Tryz.prog envX pv cal A:=by
 intro cal A h
 unfold Z83.C at h
 cases h
theorem Z83.good (hE:EnvOk Tryz.prog envX) (pv:Nat->Value) (a0:Int) (a1:Int) {y:_} (h:Z83.F a0 a1=some y):Meets Tryz.prog envX pv (.f 136) (tvals [(.int .i64),(.int .i64)] (a0,a1,())) (.t (.int .i64) y) :=
 fun_plain hE (Z83.G hE pv) (f:=136) (fn:=Tryz.f136) (by kernel_rfl) rfl (by kernel_rfl) (by kernel_rfl) ((Z83.run a0 a1).trans h) (fun r hr=>wk_view1 hr)
def Z71.F (a0:Date):Option (Bool):=bif ((a0.y==0 && (a0.m==0 && (a0.d==0 && a0.c==false)))) then (some true) else ((Z51.F a0.y 1 2999).bind fun r1=>bif (!r1) then (some false) else ((Z51.F a0.m 0 12).bind fun r2=>bif (!r2) then (some false) else (bif a0.c then (bif (a0.m==0) then (some (a0.d==0)) else (some false)) else (bif (a0.m==0) then (some (a0.d==0)) else ((Z83.F a0.y a0.m).bind fun r3=>(Z51.F a0.d 0 r3).bind fun r4=>some r4)))))
def Z71.C:Cal->Option CArm:=fun c=>match c with
 | .f 28=>some (.p [(.int .i64),(.int .i64),(.int .i64)] _ (fun x=>Z51.F x.1 x.2.1 x.2.2.1) (fun r=>(.t .bool r)))
 | .f 136=>some (.p [(.int .i64),(.int .i64)] _ (fun x=>Z83.F x.1 x.2.1) (fun r=>(.t (.int .i64) r)))
 | _=>none
theorem Z71.run (a0:Date):runF envX (tabC Z71.C) (tabL 44 0 (fun _=>none)) Tryz.f96 [.t .date a0] (viewR1 (.t .bool))=Z71.F a0:=by kernel_rfl
theorem Z71.G (hE:EnvOk Tryz.prog envX) (pv:Nat->Value):∀ cal A,Z71.C cal=some A->ArmOk Tryz.prog envX pv cal A:=by
 intro cal A h
 unfold Z71.C at h
 split at h
 ·cases h; exact fun x y hy=>Z51.good hE pv x.1 x.2.1 x.2.2.1 hy
 ·cases h; exact fun x y hy=>Z83.good hE pv x.1 x.2.1 hy
 ·cases h
theorem Z71.good (hE:EnvOk Tryz.prog envX) (pv:Nat->Value) (a0:Date) {y:_} (h:Z71.F a0=some y):Meets Tryz.prog envX pv (.f 96) (tvals [.date] (a0,())) (.t .bool y) :=
 fun_plain hE (Z71.G hE pv) (f:=96) (fn:=Tryz.f96) (by kernel_rfl) rfl (by kernel_rfl) (by kernel_rfl) ((Z71.run a0).trans h) (fun r hr=>wk_view1 hr)
def Z84.F (k:Nat) (a0:Entry):Option (Bool):=(Z12.F k a0.key).bind fun r1=>bif (!r1) then (some false) else ((Z51.F a0.kind 1 4).bind fun r2=>bif (!r2) then (some false) else ((Z17.F k a0.authors).bind fun r3=>bif (!r3) then (some false) else ((Z17.F k a0.editors).bind fun r4=>bif (!r4) then (some false) else ((Z18.F k a0.title).bind fun r5=>bif (!r5) then (some false) else ((Z18.F k a0.container).bind fun r6=>bif (!r6) then (some false) else ((Z18.F k a0.publisher).bind fun r7=>bif (!r7) then (some false) else ((Z18.F k a0.pages).bind fun r8=>bif (!r8) then (some false) else ((Z71.F a0.date).bind fun r9=>bif r9 then ((Z51.F a0.volume 0 9999).bind fun r10=>bif r10 then (bif (beqS a0.cross (⟨#[]⟩:ByteArray)) then (some true) else ((Z12.F k a0.cross).bind fun r11=>bif r11 then (some (!beqS a0.cross a0.key)) else (some false))) else (some false)) else (some false)))))))))
def Z84.C (k:Nat):Cal->Option CArm:=fun c=>match c with
 | .f 93=>some (.p [.str] _ (fun x=>Z12.F k x.1) (fun r=>(.t .bool r)))
 | .f 28=>some (.p [(.int .i64),(.int .i64),(.int .i64)] _ (fun x=>Z51.F x.1 x.2.1 x.2.2.1) (fun r=>(.t .bool r)))
 | .f 94=>some (.p [(.sl .name)] _ (fun x=>Z17.F k x.1) (fun r=>(.t .bool r)))
 | .f 95=>some (.p [.str] _ (fun x=>Z18.F k x.1) (fun r=>(.t .bool r)))
 | .f 96=>some (.p [.date] _ (fun x=>Z71.F x.1) (fun r=>(.t .bool r)))
 | _=>none
theorem Z84.run (k:Nat) (a0:Entry):runF envX (tabC (Z84.C k)) (tabL 72 0 (fun _=>none)) Tryz.f56 [.t .entry a0] (viewR1 (.t .bool))=Z84.F k a0:=by kernel_rfl
theorem Z84.G (hE:EnvOk Tryz.prog envX) (pv:Nat->Value) (k:Nat):∀ cal A,Z84.C k cal=some A->ArmOk Tryz.prog envX pv cal A:=by
 intro cal A h
 unfold Z84.C at h
 split at h
 ·cases h; exact fun x y hy=>Z12.good hE pv k x.1 hy
 ·cases h; exact fun x y hy=>Z51.good hE pv x.1 x.2.1 x.2.2.1 hy
 ·cases h; exact fun x y hy=>Z17.good hE pv k x.1 hy
 ·cases h; exact fun x y hy=>Z18.good hE pv k x.1 hy
 ·cases h; exact fun x y hy=>Z71.good hE pv x.1 hy
 ·cases h
theorem Z84.good (hE:EnvOk Tryz.prog envX) (pv:Nat->Value) (k:Nat) (a0:Entry) {y:_} (h:Z84.F k a0=some y):Meets Tryz.prog envX pv (.f 56) (tvals [.entry] (a0,())) (.t .bool y) :=
 fun_plain hE (Z84.G hE pv k) (f:=56) (fn:=Tryz.f56) (by kernel_rfl) rfl (by kernel_rfl) (by kernel_rfl) ((Z84.run k a0).trans h) (fun r hr=>wk_view1 hr)
def Z19.l0:Nat->Library->Int->Option (Sum Bool Unit)
 | 0,_,_=>none
 | k+1,x1,x3=>bif (decide (x3<(x1.entries.length:Int))) then (bif decide (0<=x3) then (bif decide (x3<(x1.entries.length:Int)) then ((Z84.F k (x1.entries.getD (x3:Int).toNat (dflt .entry))).bind fun r1=>bif (!r1) then (some (.inl false)) else (bif (decide (x3 > 0)) then (bif decide (0<=(IntKind.wrap .i64 (x3-1))) then (bif decide ((IntKind.wrap .i64 (x3-1))<(x1.entries.length:Int)) then (bif decide (0<=x3) then (bif decide (x3<(x1.entries.length:Int)) then (bif (!ltS ((x1.entries.getD ((IntKind.wrap .i64 (x3-1)):Int).toNat (dflt .entry)).key) ((x1.entries.getD (x3:Int).toNat (dflt .entry)).key)) then (some (.inl false)) else (Z19.l0 k x1 (IntKind.wrap .i64 (x3+1)))) else none) else none) else none) else none) else (Z19.l0 k x1 (IntKind.wrap .i64 (x3+1))))) else none) else none) else (some (.inr ()))
def Z19.F (k:Nat) (a0:Library):Option (Bool):=bif (decide ((a0.entries.length:Int) > 8)) then (some false) else ((Z19.l0 k a0 0).bind fun y2=>match y2 with | .inl z3=>some z3 | .inr z3=>some true)
def Z19.C (k:Nat):Cal->Option CArm:=fun c=>match c with
 | .f 56=>some (.p [.entry] _ (fun x=>Z84.F k x.1) (fun r=>(.t .bool r)))
 | _=>none
def Z19.sp0:List Sp:=[.boxT 1 0 .lib,.t 3 (.int .i64)]
def Z19.sp0_0:List Sp:=[.t 2 .bool]
def Z19.sp0_1:List Sp:=[]
def Z19.A0:LArm:=.two Z19.sp0 Z19.sp0_0 Z19.sp0_1 (Bool) (Unit) (fun k x=>Z19.l0 k x.1 x.2.1) .ret (.exit 0) (fun y=>(y,())) (fun x=>x.1) (fun y=>()) (fun x=>())
def Z19.L:Nat->Option LArm:=fun b=>match b with
 | 0=>some Z19.A0
 | _=>none
theorem Z19.run (k:Nat) (a0:Library):runF envX (tabC (Z19.C k)) (tabL 42 k Z19.L) Tryz.f27 [.t .lib a0] (viewR1 (.t .bool))=Z19.F k a0:=by kernel_rfl
theorem Z19.step0 (k:Nat) (x1:Library) (x3:Int):runC envX (tabC (Z19.C k)) (tabL 42 k Z19.L) 0 (loopAt Tryz.f27 0) (stOf 42 Z19.sp0 (x1,x3,())) (Z19.A0.cont 42 k)=Z19.l0 (k+1) x1 x3:=by kernel_rfl
theorem Z19.G (hE:EnvOk Tryz.prog envX) (pv:Nat->Value) (k:Nat):∀ cal A,Z19.C k cal=some A->ArmOk Tryz.prog envX pv cal A:=by
 intro cal A h
 unfold Z19.C at h
 split at h
 ·cases h; exact fun x y hy=>Z84.good hE pv k x.1 hy
 ·cases h
theorem Z19.good (hE:EnvOk Tryz.prog envX) (pv:Nat->Value) (k:Nat) (a0:Library) {y:_} (h:Z19.F k a0=some y):Meets Tryz.prog envX pv (.f 27) (tvals [.lib] (a0,())) (.t .bool y) :=
 fun_loops hE (t:=Z19.C) k (fun k _=>Z19.G hE pv k) (f:=27) (fn:=Tryz.f27) (by kernel_rfl) rfl (by kernel_rfl) (by kernel_rfl) (lt:=Z19.L) (by kernel_rfl) (fun b A h=>by
  unfold Z19.L at h; split at h
  ·cases h; exact ⟨by kernel_rfl,by kernel_rfl,by kernel_rfl,fun _=>rfl,fun _=>rfl,fun _=>rfl⟩
  ·cases h) (fun b A h=>by
  unfold Z19.L at h; split at h
  ·cases h; exact fun k x=>Z19.step0 k x.1 x.2.1
  ·cases h) ((Z19.run k a0).trans h) (fun r hr=>wk_view1 hr)
def Z55.F (a0:Int) (a1:Int):Option (Int):=bif (decide (a0<a1)) then (some a0) else (some a1)
def Z55.C:Cal->Option CArm:=fun c=>match c with
 | _=>none
theorem Z55.run (a0:Int) (a1:Int):runF envX (tabC Z55.C) (tabL 10 0 (fun _=>none)) Tryz.f30 [.t (.int .i64) a0,.t (.int .i64) a1] (viewR1 (.t (.int .i64)))=Z55.F a0 a1:=by kernel_rfl
theorem Z55.G (hE:EnvOk Tryz.prog envX) (pv:Nat->Value):∀ cal A,Z55.C cal=some A->ArmOk Tryz.prog envX pv cal A:=by
 intro cal A h
 unfold Z55.C at h
 cases h
theorem Z55.good (hE:EnvOk Tryz.prog envX) (pv:Nat->Value) (a0:Int) (a1:Int) {y:_} (h:Z55.F a0 a1=some y):Meets Tryz.prog envX pv (.f 30) (tvals [(.int .i64),(.int .i64)] (a0,a1,())) (.t (.int .i64) y) :=
 fun_plain hE (Z55.G hE pv) (f:=30) (fn:=Tryz.f30) (by kernel_rfl) rfl (by kernel_rfl) (by kernel_rfl) ((Z55.run a0 a1).trans h) (fun r hr=>wk_view1 hr)
def Z3.l0:Nat->ByteArray->ByteArray->(List Int)->Int->Option (ByteArray × ByteArray × (List Int))
 | 0,_,_,_,_=>none
 | k+1,x0,x1,x5,x6=>bif (decide (x6<=(x1.size:Int))) then (bif room (x5.length+([x6]:List Int).length) (.int .i64) then (Z3.l0 k x0 x1 (x5++([x6]:List Int)) (IntKind.wrap .i64 (x6+1))) else none) else (some (x0,x1,x5))
def Z3.l4:Nat->ByteArray->ByteArray->(List Int)->Int->(List Int)->Int->Option (ByteArray × ByteArray × Int × (List Int))
 | 0,_,_,_,_,_,_=>none
 | k+1,x0,x1,x5,x7,x8,x9=>bif (decide (x9<=(x1.size:Int))) then (bif decide (0<=x9) then (bif decide (x9<(x5.length:Int)) then (bif decide (0<=(IntKind.wrap .i64 (x9-1))) then (bif decide ((IntKind.wrap .i64 (x9-1))<(x8.length:Int)) then ((Z55.F (x5.getD ((x9:Int).toNat) 0) (x8.getD (((IntKind.wrap .i64 (x9-1)):Int).toNat) 0)).bind fun r2=>bif decide (0<=(IntKind.wrap .i64 (x7-1))) then (bif decide ((IntKind.wrap .i64 (x7-1))<(x0.size:Int)) then (bif decide (0<=(IntKind.wrap .i64 (x9-1))) then (bif decide ((IntKind.wrap .i64 (x9-1))<(x1.size:Int)) then (bif ((bt x0 ((IntKind.wrap .i64 (x7-1)):Int).toNat)==(bt x1 ((IntKind.wrap .i64 (x9-1)):Int).toNat)) then (bif decide (0<=(IntKind.wrap .i64 (x9-1))) then (bif decide ((IntKind.wrap .i64 (x9-1))<(x5.length:Int)) then ((Z55.F (IntKind.wrap .i64 (r2+1)) (x5.getD (((IntKind.wrap .i64 (x9-1)):Int).toNat) 0)).bind fun r3=>bif room (x8.length+([r3]:List Int).length) (.int .i64) then (Z3.l4 k x0 x1 x5 x7 (x8++([r3]:List Int)) (IntKind.wrap .i64 (x9+1))) else none) else none) else none) else (bif decide (0<=(IntKind.wrap .i64 (x9-1))) then (bif decide ((IntKind.wrap .i64 (x9-1))<(x5.length:Int)) then ((Z55.F (IntKind.wrap .i64 (r2+1)) (IntKind.wrap .i64 ((x5.getD (((IntKind.wrap .i64 (x9-1)):Int).toNat) 0)+1))).bind fun r4=>bif room (x8.length+([r4]:List Int).length) (.int .i64) then (Z3.l4 k x0 x1 x5 x7 (x8++([r4]:List Int)) (IntKind.wrap .i64 (x9+1))) else none) else none) else none)) else none) else none) else none) else none) else none) else none) else none) else none) else (some (x0,x1,x7,x8))
def Z3.l2:Nat->ByteArray->ByteArray->(List Int)->Int->Option (ByteArray × (List Int))
 | 0,_,_,_,_=>none
 | k+1,x0,x1,x5,x7=>bif (decide (x7<=(x0.size:Int))) then ((Z3.l4 k x0 x1 x5 x7 ([x7]:List Int) 1).bind fun y5=>Z3.l2 k y5.1 y5.2.1 y5.2.2.2 (IntKind.wrap .i64 (y5.2.2.1+1))) else (some (x1,x5))
def Z3.F (k:Nat) (a0:ByteArray) (a1:ByteArray):Option (Int):=(Z3.l0 k a0 a1 ([]:List Int) 0).bind fun y1=>(Z3.l2 k y1.1 y1.2.1 y1.2.2 1).bind fun y6=>bif decide (0<=(y6.1.size:Int)) then (bif decide ((y6.1.size:Int)<(y6.2.length:Int)) then (some (y6.2.getD (((y6.1.size:Int):Int).toNat) 0)) else none) else none
def Z3.C (k:Nat):Cal->Option CArm:=fun c=>match c with
 | .f 30=>some (.p [(.int .i64),(.int .i64)] _ (fun x=>Z55.F x.1 x.2.1) (fun r=>(.t (.int .i64) r)))
 | _=>none
def Z3.sp0:List Sp:=[.t 0 .str,.t 1 .str,.own 5 1024 3 (.int .i64) false true,.t 6 (.int .i64)]
def Z3.sp0_0:List Sp:=[.t 0 .str,.t 1 .str,.own 5 1024 3 (.int .i64) false true]
def Z3.A0:LArm:=.one Z3.sp0 Z3.sp0_0 (ByteArray × ByteArray × (List Int)) (fun k x=>Z3.l0 k x.1 x.2.1 x.2.2.1 x.2.2.2.1) (.exit 0) (fun y=>(y.1,y.2.1,y.2.2,())) (fun x=>(x.1,x.2.1,x.2.2.1))
def Z3.sp4:List Sp:=[.t 0 .str,.t 1 .str,.own 5 1024 3 (.int .i64) false true,.t 7 (.int .i64),.own 8 9220 3 (.int .i64) false true,.t 9 (.int .i64)]
def Z3.sp4_0:List Sp:=[.t 0 .str,.t 1 .str,.t 7 (.int .i64),.own 8 9220 3 (.int .i64) false true]
def Z3.A4:LArm:=.one Z3.sp4 Z3.sp4_0 (ByteArray × ByteArray × Int × (List Int)) (fun k x=>Z3.l4 k x.1 x.2.1 x.2.2.1 x.2.2.2.1 x.2.2.2.2.1 x.2.2.2.2.2.1) (.exit 4) (fun y=>(y.1,y.2.1,y.2.2.1,y.2.2.2,())) (fun x=>(x.1,x.2.1,x.2.2.1,x.2.2.2.1))
def Z3.sp2:List Sp:=[.t 0 .str,.t 1 .str,.own 5 1024 3 (.int .i64) false true,.t 7 (.int .i64)]
def Z3.sp2_0:List Sp:=[.t 1 .str,.own 5 1024 3 (.int .i64) false true]
def Z3.A2:LArm:=.one Z3.sp2 Z3.sp2_0 (ByteArray × (List Int)) (fun k x=>Z3.l2 k x.1 x.2.1 x.2.2.1 x.2.2.2.1) (.exit 2) (fun y=>(y.1,y.2,())) (fun x=>(x.1,x.2.1))
def Z3.L:Nat->Option LArm:=fun b=>match b with
 | 0=>some Z3.A0
 | 4=>some Z3.A4
 | 2=>some Z3.A2
 | _=>none
theorem Z3.run (k:Nat) (a0:ByteArray) (a1:ByteArray):runF envX (tabC (Z3.C k)) (tabL 81 k Z3.L) Tryz.f102 [.t .str a0,.t .str a1] (viewR1 (.t (.int .i64)))=Z3.F k a0 a1:=by kernel_rfl
theorem Z3.step0 (k:Nat) (x0:ByteArray) (x1:ByteArray) (x5:List Int) (x6:Int):runC envX (tabC (Z3.C k)) (tabL 81 k Z3.L) 0 (loopAt Tryz.f102 0) (stOf 81 Z3.sp0 (x0,x1,x5,x6,())) (Z3.A0.cont 81 k)=Z3.l0 (k+1) x0 x1 x5 x6:=by kernel_rfl
theorem Z3.step4 (k:Nat) (x0:ByteArray) (x1:ByteArray) (x5:List Int) (x7:Int) (x8:List Int) (x9:Int):runC envX (tabC (Z3.C k)) (tabL 81 k Z3.L) 4 (loopAt Tryz.f102 4) (stOf 81 Z3.sp4 (x0,x1,x5,x7,x8,x9,())) (Z3.A4.cont 81 k)=Z3.l4 (k+1) x0 x1 x5 x7 x8 x9:=by kernel_rfl
theorem Z3.step2 (k:Nat) (x0:ByteArray) (x1:ByteArray) (x5:List Int) (x7:Int):runC envX (tabC (Z3.C k)) (tabL 81 k Z3.L) 2 (loopAt Tryz.f102 2) (stOf 81 Z3.sp2 (x0,x1,x5,x7,())) (Z3.A2.cont 81 k)=Z3.l2 (k+1) x0 x1 x5 x7:=by kernel_rfl
theorem Z3.G (hE:EnvOk Tryz.prog envX) (pv:Nat->Value) (k:Nat):∀ cal A,Z3.C k cal=some A->ArmOk Tryz.prog envX pv cal A:=by
 intro cal A h
 unfold Z3.C at h
 split at h
 ·cases h; exact fun x y hy=>Z55.good hE pv x.1 x.2.1 hy
 ·cases h
theorem Z3.good (hE:EnvOk Tryz.prog envX) (pv:Nat->Value) (k:Nat) (a0:ByteArray) (a1:ByteArray) {y:_} (h:Z3.F k a0 a1=some y):Meets Tryz.prog envX pv (.f 102) (tvals [.str,.str] (a0,a1,())) (.t (.int .i64) y) :=
 fun_loops hE (t:=Z3.C) k (fun k _=>Z3.G hE pv k) (f:=102) (fn:=Tryz.f102) (by kernel_rfl) rfl (by kernel_rfl) (by kernel_rfl) (lt:=Z3.L) (by kernel_rfl) (fun b A h=>by
  unfold Z3.L at h; split at h
  ·cases h; exact ⟨by kernel_rfl,by kernel_rfl,fun _=>rfl,fun _=>rfl⟩
  ·cases h; exact ⟨by kernel_rfl,by kernel_rfl,fun _=>rfl,fun _=>rfl⟩
  ·cases h; exact ⟨by kernel_rfl,by kernel_rfl,fun _=>rfl,fun _=>rfl⟩
  ·cases h) (fun b A h=>by
  unfold Z3.L at h; split at h
  ·cases h; exact fun k x=>Z3.step0 k x.1 x.2.1 x.2.2.1 x.2.2.2.1
  ·cases h; exact fun k x=>Z3.step4 k x.1 x.2.1 x.2.2.1 x.2.2.2.1 x.2.2.2.2.1 x.2.2.2.2.2.1
  ·cases h; exact fun k x=>Z3.step2 k x.1 x.2.1 x.2.2.1 x.2.2.2.1
  ·cases h) ((Z3.run k a0 a1).trans h) (fun r hr=>wk_view1 hr)
def Z20.l0:Nat->(List ByteArray)->ByteArray->Int->Option (ByteArray)
 | 0,_,_,_=>none
 | k+1,x0,x3,x4=>bif (decide (x4<(x0.length:Int))) then (bif (decide (x4 > 0)) then (bif Nat.ble (x3.size+(⟨#[32]⟩:ByteArray).size) 9223372036854775807 then (bif decide (0<=x4) then (bif decide (x4<(x0.length:Int)) then (bif Nat.ble ((x3++(⟨#[32]⟩:ByteArray)).size+(x0.getD (x4:Int).toNat (⟨#[]⟩:ByteArray)).size) 9223372036854775807 then (Z20.l0 k x0 ((x3++(⟨#[32]⟩:ByteArray))++(x0.getD (x4:Int).toNat (⟨#[]⟩:ByteArray))) (IntKind.wrap .i64 (x4+1))) else none) else none) else none) else none) else (bif decide (0<=x4) then (bif decide (x4<(x0.length:Int)) then (bif Nat.ble (x3.size+(x0.getD (x4:Int).toNat (⟨#[]⟩:ByteArray)).size) 9223372036854775807 then (Z20.l0 k x0 (x3++(x0.getD (x4:Int).toNat (⟨#[]⟩:ByteArray))) (IntKind.wrap .i64 (x4+1))) else none) else none) else none)) else (some x3)
def Z20.F (k:Nat) (a0:List ByteArray):Option (ByteArray):=(Z20.l0 k a0 (⟨#[]⟩:ByteArray) 0).bind fun y1=>some y1
def Z20.C (k:Nat):Cal->Option CArm:=fun c=>match c with
 | _=>none
def Z20.sp0:List Sp:=[.t 0 (.sl .str),.t 3 .str,.t 4 (.int .i64)]
def Z20.sp0_0:List Sp:=[.t 3 .str]
def Z20.A0:LArm:=.one Z20.sp0 Z20.sp0_0 (ByteArray) (fun k x=>Z20.l0 k x.1 x.2.1 x.2.2.1) (.exit 0) (fun y=>(y,())) (fun x=>x.1)
def Z20.L:Nat->Option LArm:=fun b=>match b with
 | 0=>some Z20.A0
 | _=>none
theorem Z20.run (k:Nat) (a0:List ByteArray):runF envX (tabC (Z20.C k)) (tabL 22 k Z20.L) Tryz.f139 [.t (.sl .str) a0] (viewR1 (.t .str))=Z20.F k a0:=by kernel_rfl
theorem Z20.step0 (k:Nat) (x0:List ByteArray) (x3:ByteArray) (x4:Int):runC envX (tabC (Z20.C k)) (tabL 22 k Z20.L) 0 (loopAt Tryz.f139 0) (stOf 22 Z20.sp0 (x0,x3,x4,())) (Z20.A0.cont 22 k)=Z20.l0 (k+1) x0 x3 x4:=by kernel_rfl
theorem Z20.G (hE:EnvOk Tryz.prog envX) (pv:Nat->Value) (k:Nat):∀ cal A,Z20.C k cal=some A->ArmOk Tryz.prog envX pv cal A:=by
 intro cal A h
 unfold Z20.C at h
 cases h
theorem Z20.good (hE:EnvOk Tryz.prog envX) (pv:Nat->Value) (k:Nat) (a0:List ByteArray) {y:_} (h:Z20.F k a0=some y):Meets Tryz.prog envX pv (.f 139) (tvals [(.sl .str)] (a0,())) (.t .str y) :=
 fun_loops hE (t:=Z20.C) k (fun k _=>Z20.G hE pv k) (f:=139) (fn:=Tryz.f139) (by kernel_rfl) rfl (by kernel_rfl) (by kernel_rfl) (lt:=Z20.L) (by kernel_rfl) (fun b A h=>by
  unfold Z20.L at h; split at h
  ·cases h; exact ⟨by kernel_rfl,by kernel_rfl,fun _=>rfl,fun _=>rfl⟩
  ·cases h) (fun b A h=>by
  unfold Z20.L at h; split at h
  ·cases h; exact fun k x=>Z20.step0 k x.1 x.2.1 x.2.2.1
  ·cases h) ((Z20.run k a0).trans h) (fun r hr=>wk_view1 hr)
def Z85.F (a0:Int):Option (Bool):=bif (decide (a0 ≥ 65)) then (bif (decide (a0<=90)) then (some true) else (bif (decide (a0 ≥ 97)) then (some (decide (a0<=122))) else (some false))) else (bif (decide (a0 ≥ 97)) then (some (decide (a0<=122))) else (some false))
def Z85.C:Cal->Option CArm:=fun c=>match c with
 | _=>none
theorem Z85.run (a0:Int):runF envX (tabC Z85.C) (tabL 17 0 (fun _=>none)) Tryz.f58 [.t (.int .u8) a0] (viewR1 (.t .bool))=Z85.F a0:=by kernel_rfl
theorem Z85.G (hE:EnvOk Tryz.prog envX) (pv:Nat->Value):∀ cal A,Z85.C cal=some A->ArmOk Tryz.prog envX pv cal A:=by
 intro cal A h
 unfold Z85.C at h
 cases h
theorem Z85.good (hE:EnvOk Tryz.prog envX) (pv:Nat->Value) (a0:Int) {y:_} (h:Z85.F a0=some y):Meets Tryz.prog envX pv (.f 58) (tvals [(.int .u8)] (a0,())) (.t .bool y) :=
 fun_plain hE (Z85.G hE pv) (f:=58) (fn:=Tryz.f58) (by kernel_rfl) rfl (by kernel_rfl) (by kernel_rfl) ((Z85.run a0).trans h) (fun r hr=>wk_view1 hr)
def Z66.F (a0:Int):Option (Int):=bif (decide (a0 ≥ 65)) then (bif (decide (a0<=90)) then (some (IntKind.wrap .u8 (a0+32))) else (some a0)) else (some a0)
def Z66.C:Cal->Option CArm:=fun c=>match c with
 | _=>none
theorem Z66.run (a0:Int):runF envX (tabC Z66.C) (tabL 12 0 (fun _=>none)) Tryz.f97 [.t (.int .u8) a0] (viewR1 (.t (.int .u8)))=Z66.F a0:=by kernel_rfl
theorem Z66.G (hE:EnvOk Tryz.prog envX) (pv:Nat->Value):∀ cal A,Z66.C cal=some A->ArmOk Tryz.prog envX pv cal A:=by
 intro cal A h
 unfold Z66.C at h
 cases h
theorem Z66.good (hE:EnvOk Tryz.prog envX) (pv:Nat->Value) (a0:Int) {y:_} (h:Z66.F a0=some y):Meets Tryz.prog envX pv (.f 97) (tvals [(.int .u8)] (a0,())) (.t (.int .u8) y) :=
 fun_plain hE (Z66.G hE pv) (f:=97) (fn:=Tryz.f97) (by kernel_rfl) rfl (by kernel_rfl) (by kernel_rfl) ((Z66.run a0).trans h) (fun r hr=>wk_view1 hr)
def Z86.F (a0:Int):Option (Bool):=bif (decide (a0 ≥ 48)) then (some (decide (a0<=57))) else (some false)
def Z86.C:Cal->Option CArm:=fun c=>match c with
 | _=>none
theorem Z86.run (a0:Int):runF envX (tabC Z86.C) (tabL 9 0 (fun _=>none)) Tryz.f169 [.t (.int .u8) a0] (viewR1 (.t .bool))=Z86.F a0:=by kernel_rfl
theorem Z86.G (hE:EnvOk Tryz.prog envX) (pv:Nat->Value):∀ cal A,Z86.C cal=some A->ArmOk Tryz.prog envX pv cal A:=by
 intro cal A h
 unfold Z86.C at h
 cases h
theorem Z86.good (hE:EnvOk Tryz.prog envX) (pv:Nat->Value) (a0:Int) {y:_} (h:Z86.F a0=some y):Meets Tryz.prog envX pv (.f 169) (tvals [(.int .u8)] (a0,())) (.t .bool y) :=
 fun_plain hE (Z86.G hE pv) (f:=169) (fn:=Tryz.f169) (by kernel_rfl) rfl (by kernel_rfl) (by kernel_rfl) ((Z86.run a0).trans h) (fun r hr=>wk_view1 hr)
def Z8.l0:Nat->ByteArray->(List ByteArray)->(List Int)->Int->Option ((List ByteArray))
 | 0,_,_,_,_=>none
 | k+1,x0,x3,x4,x5=>bif (decide (x5<=(x0.size:Int))) then (bif (x5==(x0.size:Int)) then (bif (decide ((x4.length:Int) > 0)) then (bif room (x3.length+([(strL x4)]:List ByteArray).length) .str then (Z8.l0 k x0 (x3++([(strL x4)]:List ByteArray)) ([]:List Int) (IntKind.wrap .i64 (x5+1))) else none) else (Z8.l0 k x0 x3 ([]:List Int) (IntKind.wrap .i64 (x5+1)))) else (bif decide (0<=x5) then (bif decide (x5<(x0.size:Int)) then (bif ((bt x0 (x5:Int).toNat)==32) then (bif (decide ((x4.length:Int) > 0)) then (bif room (x3.length+([(strL x4)]:List ByteArray).length) .str then (Z8.l0 k x0 (x3++([(strL x4)]:List ByteArray)) ([]:List Int) (IntKind.wrap .i64 (x5+1))) else none) else (Z8.l0 k x0 x3 ([]:List Int) (IntKind.wrap .i64 (x5+1)))) else (bif decide (0<=x5) then (bif decide (x5<(x0.size:Int)) then ((Z85.F (bt x0 (x5:Int).toNat)).bind fun r1=>bif r1 then (bif decide (0<=x5) then (bif decide (x5<(x0.size:Int)) then ((Z66.F (bt x0 (x5:Int).toNat)).bind fun r2=>bif room (x4.length+([r2]:List Int).length) (.int .u8) then (Z8.l0 k x0 x3 (x4++([r2]:List Int)) (IntKind.wrap .i64 (x5+1))) else none) else none) else none) else (bif decide (0<=x5) then (bif decide (x5<(x0.size:Int)) then ((Z86.F (bt x0 (x5:Int).toNat)).bind fun r3=>bif r3 then (bif decide (0<=x5) then (bif decide (x5<(x0.size:Int)) then ((Z66.F (bt x0 (x5:Int).toNat)).bind fun r4=>bif room (x4.length+([r4]:List Int).length) (.int .u8) then (Z8.l0 k x0 x3 (x4++([r4]:List Int)) (IntKind.wrap .i64 (x5+1))) else none) else none) else none) else (Z8.l0 k x0 x3 x4 (IntKind.wrap .i64 (x5+1)))) else none) else none)) else none) else none)) else none) else none)) else (some x3)
def Z8.F (k:Nat) (a0:ByteArray):Option (List ByteArray):=(Z8.l0 k a0 ([]:List ByteArray) ([]:List Int) 0).bind fun y5=>some y5
def Z8.C (k:Nat):Cal->Option CArm:=fun c=>match c with
 | .f 58=>some (.p [(.int .u8)] _ (fun x=>Z85.F x.1) (fun r=>(.t .bool r)))
 | .f 97=>some (.p [(.int .u8)] _ (fun x=>Z66.F x.1) (fun r=>(.t (.int .u8) r)))
 | .f 169=>some (.p [(.int .u8)] _ (fun x=>Z86.F x.1) (fun r=>(.t .bool r)))
 | _=>none
def Z8.sp0:List Sp:=[.t 0 .str,.own 3 1024 9 .str false true,.own 4 2048 5 (.int .u8) false true,.t 5 (.int .i64)]
def Z8.sp0_0:List Sp:=[.own 3 1024 9 .str false true]
def Z8.A0:LArm:=.one Z8.sp0 Z8.sp0_0 ((List ByteArray)) (fun k x=>Z8.l0 k x.1 x.2.1 x.2.2.1 x.2.2.2.1) (.exit 0) (fun y=>(y,())) (fun x=>x.1)
def Z8.L:Nat->Option LArm:=fun b=>match b with
 | 0=>some Z8.A0
 | _=>none
theorem Z8.run (k:Nat) (a0:ByteArray):runF envX (tabC (Z8.C k)) (tabL 51 k Z8.L) Tryz.f140 [.t .str a0] (viewR1 (.fr 9 .str))=Z8.F k a0:=by kernel_rfl
theorem Z8.step0 (k:Nat) (x0:ByteArray) (x3:List ByteArray) (x4:List Int) (x5:Int):runC envX (tabC (Z8.C k)) (tabL 51 k Z8.L) 0 (loopAt Tryz.f140 0) (stOf 51 Z8.sp0 (x0,x3,x4,x5,())) (Z8.A0.cont 51 k)=Z8.l0 (k+1) x0 x3 x4 x5:=by kernel_rfl
theorem Z8.G (hE:EnvOk Tryz.prog envX) (pv:Nat->Value) (k:Nat):∀ cal A,Z8.C k cal=some A->ArmOk Tryz.prog envX pv cal A:=by
 intro cal A h
 unfold Z8.C at h
 split at h
 ·cases h; exact fun x y hy=>Z85.good hE pv x.1 hy
 ·cases h; exact fun x y hy=>Z66.good hE pv x.1 hy
 ·cases h; exact fun x y hy=>Z86.good hE pv x.1 hy
 ·cases h
theorem Z8.good (hE:EnvOk Tryz.prog envX) (pv:Nat->Value) (k:Nat) (a0:ByteArray) {y:_} (h:Z8.F k a0=some y):Meets Tryz.prog envX pv (.f 140) (tvals [.str] (a0,())) (.fr 9 .str y) :=
 fun_loops hE (t:=Z8.C) k (fun k _=>Z8.G hE pv k) (f:=140) (fn:=Tryz.f140) (by kernel_rfl) rfl (by kernel_rfl) (by kernel_rfl) (lt:=Z8.L) (by kernel_rfl) (fun b A h=>by
  unfold Z8.L at h; split at h
  ·cases h; exact ⟨by kernel_rfl,by kernel_rfl,fun _=>rfl,fun _=>rfl⟩
  ·cases h) (fun b A h=>by
  unfold Z8.L at h; split at h
  ·cases h; exact fun k x=>Z8.step0 k x.1 x.2.1 x.2.2.1 x.2.2.2.1
  ·cases h) ((Z8.run k a0).trans h) (fun r hr=>wk_view1 hr)
def Z67.F (k:Nat) (a0:ByteArray):Option (ByteArray):=(Z8.F k a0).bind fun r1=>(Z20.F k r1).bind fun r2=>some r2
def Z67.C (k:Nat):Cal->Option CArm:=fun c=>match c with
 | .f 140=>some (.p [.str] _ (fun x=>Z8.F k x.1) (fun r=>(.fr 9 .str r)))
 | .f 139=>some (.p [(.sl .str)] _ (fun x=>Z20.F k x.1) (fun r=>(.t .str r)))
 | _=>none
theorem Z67.run (k:Nat) (a0:ByteArray):runF envX (tabC (Z67.C k)) (tabL 6 0 (fun _=>none)) Tryz.f103 [.t .str a0] (viewR1 (.t .str))=Z67.F k a0:=by kernel_rfl
theorem Z67.G (hE:EnvOk Tryz.prog envX) (pv:Nat->Value) (k:Nat):∀ cal A,Z67.C k cal=some A->ArmOk Tryz.prog envX pv cal A:=by
 intro cal A h
 unfold Z67.C at h
 split at h
 ·cases h; exact fun x y hy=>Z8.good hE pv k x.1 hy
 ·cases h; exact fun x y hy=>Z20.good hE pv k x.1 hy
 ·cases h
theorem Z67.good (hE:EnvOk Tryz.prog envX) (pv:Nat->Value) (k:Nat) (a0:ByteArray) {y:_} (h:Z67.F k a0=some y):Meets Tryz.prog envX pv (.f 103) (tvals [.str] (a0,())) (.t .str y) :=
 fun_plain hE (Z67.G hE pv k) (f:=103) (fn:=Tryz.f103) (by kernel_rfl) rfl (by kernel_rfl) (by kernel_rfl) ((Z67.run k a0).trans h) (fun r hr=>wk_view1 hr)
def Z87.F (k:Nat) (a0:ByteArray) (a1:ByteArray):Option (Int):=(Z67.F k a0).bind fun r1=>(Z67.F k a1).bind fun r2=>(Z3.F k r1 r2).bind fun r3=>some r3
def Z87.C (k:Nat):Cal->Option CArm:=fun c=>match c with
 | .f 103=>some (.p [.str] _ (fun x=>Z67.F k x.1) (fun r=>(.t .str r)))
 | .f 102=>some (.p [.str,.str] _ (fun x=>Z3.F k x.1 x.2.1) (fun r=>(.t (.int .i64) r)))
 | _=>none
theorem Z87.run (k:Nat) (a0:ByteArray) (a1:ByteArray):runF envX (tabC (Z87.C k)) (tabL 10 0 (fun _=>none)) Tryz.f63 [.t .str a0,.t .str a1] (viewR1 (.t (.int .i64)))=Z87.F k a0 a1:=by kernel_rfl
theorem Z87.G (hE:EnvOk Tryz.prog envX) (pv:Nat->Value) (k:Nat):∀ cal A,Z87.C k cal=some A->ArmOk Tryz.prog envX pv cal A:=by
 intro cal A h
 unfold Z87.C at h
 split at h
 ·cases h; exact fun x y hy=>Z67.good hE pv k x.1 hy
 ·cases h; exact fun x y hy=>Z3.good hE pv k x.1 x.2.1 hy
 ·cases h
theorem Z87.good (hE:EnvOk Tryz.prog envX) (pv:Nat->Value) (k:Nat) (a0:ByteArray) (a1:ByteArray) {y:_} (h:Z87.F k a0 a1=some y):Meets Tryz.prog envX pv (.f 63) (tvals [.str,.str] (a0,a1,())) (.t (.int .i64) y) :=
 fun_plain hE (Z87.G hE pv k) (f:=63) (fn:=Tryz.f63) (by kernel_rfl) rfl (by kernel_rfl) (by kernel_rfl) ((Z87.run k a0 a1).trans h) (fun r hr=>wk_view1 hr)
def Z88.F (a0:ByteArray) (a1:ByteArray):Option (Bool):=bif (beqS a0 a1) then (some true) else (bif ((a0.size:Int)==1) then (bif decide (0<=0) then (bif decide (0<(a0.size:Int)) then (bif decide (0<=0) then (bif decide (0<(a1.size:Int)) then (bif ((bt a0 (0:Int).toNat)==(bt a1 (0:Int).toNat)) then (some true) else (bif ((a1.size:Int)==1) then (bif decide (0<=0) then (bif decide (0<(a0.size:Int)) then (bif decide (0<=0) then (bif decide (0<(a1.size:Int)) then (some ((bt a0 (0:Int).toNat)==(bt a1 (0:Int).toNat))) else none) else none) else none) else none) else (some false))) else none) else none) else none) else none) else (bif ((a1.size:Int)==1) then (bif decide (0<=0) then (bif decide (0<(a0.size:Int)) then (bif decide (0<=0) then (bif decide (0<(a1.size:Int)) then (some ((bt a0 (0:Int).toNat)==(bt a1 (0:Int).toNat))) else none) else none) else none) else none) else (some false)))
def Z88.C:Cal->Option CArm:=fun c=>match c with
 | _=>none
theorem Z88.run (a0:ByteArray) (a1:ByteArray):runF envX (tabC Z88.C) (tabL 32 0 (fun _=>none)) Tryz.f143 [.t .str a0,.t .str a1] (viewR1 (.t .bool))=Z88.F a0 a1:=by kernel_rfl
theorem Z88.G (hE:EnvOk Tryz.prog envX) (pv:Nat->Value):∀ cal A,Z88.C cal=some A->ArmOk Tryz.prog envX pv cal A:=by
 intro cal A h
 unfold Z88.C at h
 cases h
theorem Z88.good (hE:EnvOk Tryz.prog envX) (pv:Nat->Value) (a0:ByteArray) (a1:ByteArray) {y:_} (h:Z88.F a0 a1=some y):Meets Tryz.prog envX pv (.f 143) (tvals [.str,.str] (a0,a1,())) (.t .bool y) :=
 fun_plain hE (Z88.G hE pv) (f:=143) (fn:=Tryz.f143) (by kernel_rfl) rfl (by kernel_rfl) (by kernel_rfl) ((Z88.run a0 a1).trans h) (fun r hr=>wk_view1 hr)
def Z23.l0:Nat->Name->Name->Int->Option (Sum Bool (Name × Name))
 | 0,_,_,_=>none
 | k+1,x2,x3,x5=>bif (decide (x5<(x2.given.length:Int))) then (bif (decide (x5<(x3.given.length:Int))) then (bif decide (0<=x5) then (bif decide (x5<(x2.given.length:Int)) then (bif decide (0<=x5) then (bif decide (x5<(x3.given.length:Int)) then ((Z88.F (x2.given.getD (x5:Int).toNat (⟨#[]⟩:ByteArray)) (x3.given.getD (x5:Int).toNat (⟨#[]⟩:ByteArray))).bind fun r1=>bif (!r1) then (some (.inl false)) else (Z23.l0 k x2 x3 (IntKind.wrap .i64 (x5+1)))) else none) else none) else none) else none) else (some (.inr (x2,x3)))) else (some (.inr (x2,x3)))
def Z23.F (k:Nat) (a0:Name) (a1:Name):Option (Bool):=(Z23.l0 k a0 a1 0).bind fun y2=>match y2 with | .inl z3=>some z3 | .inr z3=>bif (beqS z3.1.particle z3.2.particle) then (bif (beqS z3.1.family z3.2.family) then (some (beqS z3.1.suffix z3.2.suffix)) else (some false)) else (some false)
def Z23.C (k:Nat):Cal->Option CArm:=fun c=>match c with
 | .f 143=>some (.p [.str,.str] _ (fun x=>Z88.F x.1 x.2.1) (fun r=>(.t .bool r)))
 | _=>none
def Z23.sp0:List Sp:=[.boxT 2 0 .name,.boxT 3 4 .name,.t 5 (.int .i64)]
def Z23.sp0_0:List Sp:=[.t 4 .bool]
def Z23.sp0_1:List Sp:=[.boxT 2 0 .name,.boxT 3 4 .name]
def Z23.A0:LArm:=.two Z23.sp0 Z23.sp0_0 Z23.sp0_1 (Bool) (Name × Name) (fun k x=>Z23.l0 k x.1 x.2.1 x.2.2.1) .ret (.exit 0) (fun y=>(y,())) (fun x=>x.1) (fun y=>(y.1,y.2,())) (fun x=>(x.1,x.2.1))
def Z23.L:Nat->Option LArm:=fun b=>match b with
 | 0=>some Z23.A0
 | _=>none
theorem Z23.run (k:Nat) (a0:Name) (a1:Name):runF envX (tabC (Z23.C k)) (tabL 51 k Z23.L) Tryz.f106 [.t .name a0,.t .name a1] (viewR1 (.t .bool))=Z23.F k a0 a1:=by kernel_rfl
theorem Z23.step0 (k:Nat) (x2:Name) (x3:Name) (x5:Int):runC envX (tabC (Z23.C k)) (tabL 51 k Z23.L) 0 (loopAt Tryz.f106 0) (stOf 51 Z23.sp0 (x2,x3,x5,())) (Z23.A0.cont 51 k)=Z23.l0 (k+1) x2 x3 x5:=by kernel_rfl
theorem Z23.G (hE:EnvOk Tryz.prog envX) (pv:Nat->Value) (k:Nat):∀ cal A,Z23.C k cal=some A->ArmOk Tryz.prog envX pv cal A:=by
 intro cal A h
 unfold Z23.C at h
 split at h
 ·cases h; exact fun x y hy=>Z88.good hE pv x.1 x.2.1 hy
 ·cases h
theorem Z23.good (hE:EnvOk Tryz.prog envX) (pv:Nat->Value) (k:Nat) (a0:Name) (a1:Name) {y:_} (h:Z23.F k a0 a1=some y):Meets Tryz.prog envX pv (.f 106) (tvals [.name,.name] (a0,a1,())) (.t .bool y) :=
 fun_loops hE (t:=Z23.C) k (fun k _=>Z23.G hE pv k) (f:=106) (fn:=Tryz.f106) (by kernel_rfl) rfl (by kernel_rfl) (by kernel_rfl) (lt:=Z23.L) (by kernel_rfl) (fun b A h=>by
  unfold Z23.L at h; split at h
  ·cases h; exact ⟨by kernel_rfl,by kernel_rfl,by kernel_rfl,fun _=>rfl,fun _=>rfl,fun _=>rfl⟩
  ·cases h) (fun b A h=>by
  unfold Z23.L at h; split at h
  ·cases h; exact fun k x=>Z23.step0 k x.1 x.2.1 x.2.2.1
  ·cases h) ((Z23.run k a0 a1).trans h) (fun r hr=>wk_view1 hr)
def Z24.l0:Nat->(List Name)->(List Name)->Int->Option (Sum Bool ((List Name) × (List Name)))
 | 0,_,_,_=>none
 | k+1,x0,x1,x5=>bif (decide (x5<(x0.length:Int))) then (bif (decide (x5<(x1.length:Int))) then (bif decide (0<=x5) then (bif decide (x5<(x0.length:Int)) then (bif decide (0<=x5) then (bif decide (x5<(x1.length:Int)) then ((Z23.F k (x0.getD (x5:Int).toNat (dflt .name)) (x1.getD (x5:Int).toNat (dflt .name))).bind fun r1=>bif (!r1) then (some (.inl false)) else (Z24.l0 k x0 x1 (IntKind.wrap .i64 (x5+1)))) else none) else none) else none) else none) else (some (.inr (x0,x1)))) else (some (.inr (x0,x1)))
def Z24.F (k:Nat) (a0:List Name) (a1:List Name):Option (Bool):=(Z24.l0 k a0 a1 0).bind fun y2=>match y2 with | .inl z3=>some z3 | .inr z3=>some ((z3.1.length:Int)==(z3.2.length:Int))
def Z24.C (k:Nat):Cal->Option CArm:=fun c=>match c with
 | .f 106=>some (.p [.name,.name] _ (fun x=>Z23.F k x.1 x.2.1) (fun r=>(.t .bool r)))
 | _=>none
def Z24.sp0:List Sp:=[.t 0 (.sl .name),.t 1 (.sl .name),.t 5 (.int .i64)]
def Z24.sp0_0:List Sp:=[.t 4 .bool]
def Z24.sp0_1:List Sp:=[.t 0 (.sl .name),.t 1 (.sl .name)]
def Z24.A0:LArm:=.two Z24.sp0 Z24.sp0_0 Z24.sp0_1 (Bool) ((List Name) × (List Name)) (fun k x=>Z24.l0 k x.1 x.2.1 x.2.2.1) .ret (.exit 0) (fun y=>(y,())) (fun x=>x.1) (fun y=>(y.1,y.2,())) (fun x=>(x.1,x.2.1))
def Z24.L:Nat->Option LArm:=fun b=>match b with
 | 0=>some Z24.A0
 | _=>none
theorem Z24.run (k:Nat) (a0:List Name) (a1:List Name):runF envX (tabC (Z24.C k)) (tabL 33 k Z24.L) Tryz.f66 [.t (.sl .name) a0,.t (.sl .name) a1] (viewR1 (.t .bool))=Z24.F k a0 a1:=by kernel_rfl
theorem Z24.step0 (k:Nat) (x0:List Name) (x1:List Name) (x5:Int):runC envX (tabC (Z24.C k)) (tabL 33 k Z24.L) 0 (loopAt Tryz.f66 0) (stOf 33 Z24.sp0 (x0,x1,x5,())) (Z24.A0.cont 33 k)=Z24.l0 (k+1) x0 x1 x5:=by kernel_rfl
theorem Z24.G (hE:EnvOk Tryz.prog envX) (pv:Nat->Value) (k:Nat):∀ cal A,Z24.C k cal=some A->ArmOk Tryz.prog envX pv cal A:=by
 intro cal A h
 unfold Z24.C at h
 split at h
 ·cases h; exact fun x y hy=>Z23.good hE pv k x.1 x.2.1 hy
 ·cases h
theorem Z24.good (hE:EnvOk Tryz.prog envX) (pv:Nat->Value) (k:Nat) (a0:List Name) (a1:List Name) {y:_} (h:Z24.F k a0 a1=some y):Meets Tryz.prog envX pv (.f 66) (tvals [(.sl .name),(.sl .name)] (a0,a1,())) (.t .bool y) :=
 fun_loops hE (t:=Z24.C) k (fun k _=>Z24.G hE pv k) (f:=66) (fn:=Tryz.f66) (by kernel_rfl) rfl (by kernel_rfl) (by kernel_rfl) (lt:=Z24.L) (by kernel_rfl) (fun b A h=>by
  unfold Z24.L at h; split at h
  ·cases h; exact ⟨by kernel_rfl,by kernel_rfl,by kernel_rfl,fun _=>rfl,fun _=>rfl,fun _=>rfl⟩
  ·cases h) (fun b A h=>by
  unfold Z24.L at h; split at h
  ·cases h; exact fun k x=>Z24.step0 k x.1 x.2.1 x.2.2.1
  ·cases h) ((Z24.run k a0 a1).trans h) (fun r hr=>wk_view1 hr)
def Z89.F (a0:Int) (a1:Int):Option (Bool):=bif (a0==a1) then (some true) else (bif (a0==0) then (some true) else (some (a1==0)))
def Z89.C:Cal->Option CArm:=fun c=>match c with
 | _=>none
theorem Z89.run (a0:Int) (a1:Int):runF envX (tabC Z89.C) (tabL 16 0 (fun _=>none)) Tryz.f107 [.t (.int .i64) a0,.t (.int .i64) a1] (viewR1 (.t .bool))=Z89.F a0 a1:=by kernel_rfl
theorem Z89.G (hE:EnvOk Tryz.prog envX) (pv:Nat->Value):∀ cal A,Z89.C cal=some A->ArmOk Tryz.prog envX pv cal A:=by
 intro cal A h
 unfold Z89.C at h
 cases h
theorem Z89.good (hE:EnvOk Tryz.prog envX) (pv:Nat->Value) (a0:Int) (a1:Int) {y:_} (h:Z89.F a0 a1=some y):Meets Tryz.prog envX pv (.f 107) (tvals [(.int .i64),(.int .i64)] (a0,a1,())) (.t .bool y) :=
 fun_plain hE (Z89.G hE pv) (f:=107) (fn:=Tryz.f107) (by kernel_rfl) rfl (by kernel_rfl) (by kernel_rfl) ((Z89.run a0 a1).trans h) (fun r hr=>wk_view1 hr)
def Z90.F (a0:Date) (a1:Date):Option (Bool):=bif (a0.y==0) then (some true) else (bif (a1.y==0) then (some true) else (bif (a0.y==a1.y) then ((Z89.F a0.m a1.m).bind fun r1=>bif r1 then (bif (a0.m==0) then (some true) else (bif (a1.m==0) then (some true) else ((Z89.F a0.d a1.d).bind fun r2=>some r2))) else (some false)) else (some false)))
def Z90.C:Cal->Option CArm:=fun c=>match c with
 | .f 107=>some (.p [(.int .i64),(.int .i64)] _ (fun x=>Z89.F x.1 x.2.1) (fun r=>(.t .bool r)))
 | _=>none
theorem Z90.run (a0:Date) (a1:Date):runF envX (tabC Z90.C) (tabL 42 0 (fun _=>none)) Tryz.f67 [.t .date a0,.t .date a1] (viewR1 (.t .bool))=Z90.F a0 a1:=by kernel_rfl
theorem Z90.G (hE:EnvOk Tryz.prog envX) (pv:Nat->Value):∀ cal A,Z90.C cal=some A->ArmOk Tryz.prog envX pv cal A:=by
 intro cal A h
 unfold Z90.C at h
 split at h
 ·cases h; exact fun x y hy=>Z89.good hE pv x.1 x.2.1 hy
 ·cases h
theorem Z90.good (hE:EnvOk Tryz.prog envX) (pv:Nat->Value) (a0:Date) (a1:Date) {y:_} (h:Z90.F a0 a1=some y):Meets Tryz.prog envX pv (.f 67) (tvals [.date,.date] (a0,a1,())) (.t .bool y) :=
 fun_plain hE (Z90.G hE pv) (f:=67) (fn:=Tryz.f67) (by kernel_rfl) rfl (by kernel_rfl) (by kernel_rfl) ((Z90.run a0 a1).trans h) (fun r hr=>wk_view1 hr)
def Z72.F (k:Nat) (a0:Entry) (a1:Entry) (a2:Int):Option (Bool):=bif (a0.kind==a1.kind) then ((Z24.F k a0.authors a1.authors).bind fun r1=>bif r1 then ((Z90.F a0.date a1.date).bind fun r2=>bif r2 then ((Z87.F k a0.title a1.title).bind fun r3=>some (decide (r3<=a2))) else (some false)) else (some false)) else (some false)
def Z72.C (k:Nat):Cal->Option CArm:=fun c=>match c with
 | .f 66=>some (.p [(.sl .name),(.sl .name)] _ (fun x=>Z24.F k x.1 x.2.1) (fun r=>(.t .bool r)))
 | .f 67=>some (.p [.date,.date] _ (fun x=>Z90.F x.1 x.2.1) (fun r=>(.t .bool r)))
 | .f 63=>some (.p [.str,.str] _ (fun x=>Z87.F k x.1 x.2.1) (fun r=>(.t (.int .i64) r)))
 | _=>none
theorem Z72.run (k:Nat) (a0:Entry) (a1:Entry) (a2:Int):runF envX (tabC (Z72.C k)) (tabL 35 0 (fun _=>none)) Tryz.f29 [.t .entry a0,.t .entry a1,.t (.int .i64) a2] (viewR1 (.t .bool))=Z72.F k a0 a1 a2:=by kernel_rfl
theorem Z72.G (hE:EnvOk Tryz.prog envX) (pv:Nat->Value) (k:Nat):∀ cal A,Z72.C k cal=some A->ArmOk Tryz.prog envX pv cal A:=by
 intro cal A h
 unfold Z72.C at h
 split at h
 ·cases h; exact fun x y hy=>Z24.good hE pv k x.1 x.2.1 hy
 ·cases h; exact fun x y hy=>Z90.good hE pv x.1 x.2.1 hy
 ·cases h; exact fun x y hy=>Z87.good hE pv k x.1 x.2.1 hy
 ·cases h
theorem Z72.good (hE:EnvOk Tryz.prog envX) (pv:Nat->Value) (k:Nat) (a0:Entry) (a1:Entry) (a2:Int) {y:_} (h:Z72.F k a0 a1 a2=some y):Meets Tryz.prog envX pv (.f 29) (tvals [.entry,.entry,(.int .i64)] (a0,a1,a2,())) (.t .bool y) :=
 fun_plain hE (Z72.G hE pv k) (f:=29) (fn:=Tryz.f29) (by kernel_rfl) rfl (by kernel_rfl) (by kernel_rfl) ((Z72.run k a0 a1 a2).trans h) (fun r hr=>wk_view1 hr)
def Z0.l0:Nat->Int->Library->(List (List ByteArray))->Int->(List Int)->Int->Option (Int × Library × (List (List ByteArray)) × Int × (List Int))
 | 0,_,_,_,_,_,_=>none
 | k+1,x1,x2,x6,x7,x8,x9=>bif (decide (x9<x7)) then (bif room (x8.length+([x9]:List Int).length) (.int .i64) then (Z0.l0 k x1 x2 x6 x7 (x8++([x9]:List Int)) (IntKind.wrap .i64 (x9+1))) else none) else (some (x1,x2,x6,x7,x8))
def Z0.l6:Nat->Int->Library->(List (List ByteArray))->Int->(List Int)->Bool->Int->Int->Option (Int × Library × (List (List ByteArray)) × Int × (List Int) × Bool × Int)
 | 0,_,_,_,_,_,_,_,_=>none
 | k+1,x1,x2,x6,x7,x8,x10,x11,x12=>bif (decide (x12<x11)) then (bif decide (0<=x11) then (bif decide (x11<(x8.length:Int)) then (bif decide (0<=x12) then (bif decide (x12<(x8.length:Int)) then (bif ((x8.getD ((x11:Int).toNat) 0) != (x8.getD ((x12:Int).toNat) 0)) then (bif decide (0<=x12) then (bif decide (x12<(x2.entries.length:Int)) then (bif decide (0<=x11) then (bif decide (x11<(x2.entries.length:Int)) then ((Z72.F k (x2.entries.getD (x12:Int).toNat (dflt .entry)) (x2.entries.getD (x11:Int).toNat (dflt .entry)) x1).bind fun r4=>bif r4 then (bif decide (0<=x11) then (bif decide (x11<(x8.length:Int)) then (bif decide (0<=x12) then (bif decide (x12<(x8.length:Int)) then ((Z55.F (x8.getD ((x11:Int).toNat) 0) (x8.getD ((x12:Int).toNat) 0)).bind fun r5=>bif decide (0<=x11) then (bif decide (x11<(x8.length:Int)) then (bif decide (0<=x12) then (bif decide (x12<((x8.set ((x11:Int).toNat) r5).length:Int)) then (Z0.l6 k x1 x2 x6 x7 ((x8.set ((x11:Int).toNat) r5).set ((x12:Int).toNat) r5) true x11 (IntKind.wrap .i64 (x12+1))) else none) else none) else none) else none) else none) else none) else none) else none) else (Z0.l6 k x1 x2 x6 x7 x8 x10 x11 (IntKind.wrap .i64 (x12+1)))) else none) else none) else none) else none) else (Z0.l6 k x1 x2 x6 x7 x8 x10 x11 (IntKind.wrap .i64 (x12+1)))) else none) else none) else none) else none) else (some (x1,x2,x6,x7,x8,x10,x11))
def Z0.l4:Nat->Int->Library->(List (List ByteArray))->Int->(List Int)->Bool->Int->Option (Int × Library × (List (List ByteArray)) × Int × (List Int) × Bool)
 | 0,_,_,_,_,_,_,_=>none
 | k+1,x1,x2,x6,x7,x8,x10,x11=>bif (decide (x11<x7)) then ((Z0.l6 k x1 x2 x6 x7 x8 x10 x11 0).bind fun y6=>Z0.l4 k y6.1 y6.2.1 y6.2.2.1 y6.2.2.2.1 y6.2.2.2.2.1 y6.2.2.2.2.2.1 (IntKind.wrap .i64 (y6.2.2.2.2.2.2+1))) else (some (x1,x2,x6,x7,x8,x10))
def Z0.l2:Nat->Int->Library->(List (List ByteArray))->Int->(List Int)->Bool->Option (Library × (List (List ByteArray)) × Int × (List Int))
 | 0,_,_,_,_,_,_=>none
 | k+1,x1,x2,x6,x7,x8,x10=>bif x10 then ((Z0.l4 k x1 x2 x6 x7 x8 false 0).bind fun y7=>Z0.l2 k y7.1 y7.2.1 y7.2.2.1 y7.2.2.2.1 y7.2.2.2.2.1 y7.2.2.2.2.2) else (some (x2,x6,x7,x8))
def Z0.l10:Nat->Library->(List (List ByteArray))->Int->(List Int)->Int->(List ByteArray)->Int->Option (Library × (List (List ByteArray)) × Int × (List Int) × Int × (List ByteArray))
 | 0,_,_,_,_,_,_,_=>none
 | k+1,x2,x6,x7,x8,x14,x15,x16=>bif (decide (x16<x7)) then (bif decide (0<=x16) then (bif decide (x16<(x8.length:Int)) then (bif ((x8.getD ((x16:Int).toNat) 0)==x14) then (bif decide (0<=x16) then (bif decide (x16<(x2.entries.length:Int)) then (bif room (x15.length+([(x2.entries.getD (x16:Int).toNat (dflt .entry)).key]:List ByteArray).length) .str then (Z0.l10 k x2 x6 x7 x8 x14 (x15++([(x2.entries.getD (x16:Int).toNat (dflt .entry)).key]:List ByteArray)) (IntKind.wrap .i64 (x16+1))) else none) else none) else none) else (Z0.l10 k x2 x6 x7 x8 x14 x15 (IntKind.wrap .i64 (x16+1)))) else none) else none) else (some (x2,x6,x7,x8,x14,x15))
def Z0.l8:Nat->Library->(List (List ByteArray))->Int->(List Int)->Int->Option ((List (List ByteArray)))
 | 0,_,_,_,_,_=>none
 | k+1,x2,x6,x7,x8,x14=>bif (decide (x14<x7)) then ((Z0.l10 k x2 x6 x7 x8 x14 ([]:List ByteArray) x14).bind fun y9=>bif (decide ((y9.2.2.2.2.2.length:Int) > 1)) then (bif room (y9.2.1.length+([y9.2.2.2.2.2]:List (List ByteArray)).length) (.sl .str) then (Z0.l8 k y9.1 (y9.2.1++([y9.2.2.2.2.2]:List (List ByteArray))) y9.2.2.1 y9.2.2.2.1 (IntKind.wrap .i64 (y9.2.2.2.2.1+1))) else none) else (Z0.l8 k y9.1 y9.2.1 y9.2.2.1 y9.2.2.2.1 (IntKind.wrap .i64 (y9.2.2.2.2.1+1)))) else (some x6)
def Z0.F (k:Nat) (a0:Library) (a1:Int):Option ((List (List ByteArray)) × Bool):=(Z19.F k a0).bind fun r1=>bif (!r1) then (some (([]:List (List ByteArray)),false)) else ((Z51.F a1 0 40).bind fun r2=>bif (!r2) then (some (([]:List (List ByteArray)),false)) else ((Z0.l0 k a1 a0 ([]:List (List ByteArray)) (a0.entries.length:Int) ([]:List Int) 0).bind fun y3=>(Z0.l2 k y3.1 y3.2.1 y3.2.2.1 y3.2.2.2.1 y3.2.2.2.2 true).bind fun y8=>(Z0.l8 k y8.1 y8.2.1 y8.2.2.1 y8.2.2.2 0).bind fun y10=>some (y10,true)))
def Z0.C (k:Nat):Cal->Option CArm:=fun c=>match c with
 | .f 27=>some (.p [.lib] _ (fun x=>Z19.F k x.1) (fun r=>(.t .bool r)))
 | .f 28=>some (.p [(.int .i64),(.int .i64),(.int .i64)] _ (fun x=>Z51.F x.1 x.2.1 x.2.2.1) (fun r=>(.t .bool r)))
 | .f 29=>some (.p [.entry,.entry,(.int .i64)] _ (fun x=>Z72.F k x.1 x.2.1 x.2.2.1) (fun r=>(.t .bool r)))
 | .f 30=>some (.p [(.int .i64),(.int .i64)] _ (fun x=>Z55.F x.1 x.2.1) (fun r=>(.t (.int .i64) r)))
 | _=>none
def Z0.sp0:List Sp:=[.t 1 (.int .i64),.boxT 2 0 .lib,.own 6 1024 65 (.sl .str) false true,.t 7 (.int .i64),.own 8 5120 3 (.int .i64) false true,.t 9 (.int .i64)]
def Z0.sp0_0:List Sp:=[.t 1 (.int .i64),.boxT 2 0 .lib,.own 6 1024 65 (.sl .str) false true,.t 7 (.int .i64),.own 8 5120 3 (.int .i64) false true]
def Z0.A0:LArm:=.one Z0.sp0 Z0.sp0_0 (Int × Library × (List (List ByteArray)) × Int × (List Int)) (fun k x=>Z0.l0 k x.1 x.2.1 x.2.2.1 x.2.2.2.1 x.2.2.2.2.1 x.2.2.2.2.2.1) (.exit 0) (fun y=>(y.1,y.2.1,y.2.2.1,y.2.2.2.1,y.2.2.2.2,())) (fun x=>(x.1,x.2.1,x.2.2.1,x.2.2.2.1,x.2.2.2.2.1))
def Z0.sp6:List Sp:=[.t 1 (.int .i64),.boxT 2 0 .lib,.own 6 1024 65 (.sl .str) false true,.t 7 (.int .i64),.own 8 5120 3 (.int .i64) false true,.t 10 .bool,.t 11 (.int .i64),.t 12 (.int .i64)]
def Z0.sp6_0:List Sp:=[.t 1 (.int .i64),.boxT 2 0 .lib,.own 6 1024 65 (.sl .str) false true,.t 7 (.int .i64),.own 8 5120 3 (.int .i64) false true,.t 10 .bool,.t 11 (.int .i64)]
def Z0.A6:LArm:=.one Z0.sp6 Z0.sp6_0 (Int × Library × (List (List ByteArray)) × Int × (List Int) × Bool × Int) (fun k x=>Z0.l6 k x.1 x.2.1 x.2.2.1 x.2.2.2.1 x.2.2.2.2.1 x.2.2.2.2.2.1 x.2.2.2.2.2.2.1 x.2.2.2.2.2.2.2.1) (.exit 6) (fun y=>(y.1,y.2.1,y.2.2.1,y.2.2.2.1,y.2.2.2.2.1,y.2.2.2.2.2.1,y.2.2.2.2.2.2,())) (fun x=>(x.1,x.2.1,x.2.2.1,x.2.2.2.1,x.2.2.2.2.1,x.2.2.2.2.2.1,x.2.2.2.2.2.2.1))
def Z0.sp4:List Sp:=[.t 1 (.int .i64),.boxT 2 0 .lib,.own 6 1024 65 (.sl .str) false true,.t 7 (.int .i64),.own 8 5120 3 (.int .i64) false true,.t 10 .bool,.t 11 (.int .i64)]
def Z0.sp4_0:List Sp:=[.t 1 (.int .i64),.boxT 2 0 .lib,.own 6 1024 65 (.sl .str) false true,.t 7 (.int .i64),.own 8 5120 3 (.int .i64) false true,.t 10 .bool]
def Z0.A4:LArm:=.one Z0.sp4 Z0.sp4_0 (Int × Library × (List (List ByteArray)) × Int × (List Int) × Bool) (fun k x=>Z0.l4 k x.1 x.2.1 x.2.2.1 x.2.2.2.1 x.2.2.2.2.1 x.2.2.2.2.2.1 x.2.2.2.2.2.2.1) (.exit 4) (fun y=>(y.1,y.2.1,y.2.2.1,y.2.2.2.1,y.2.2.2.2.1,y.2.2.2.2.2,())) (fun x=>(x.1,x.2.1,x.2.2.1,x.2.2.2.1,x.2.2.2.2.1,x.2.2.2.2.2.1))
def Z0.sp2:List Sp:=[.t 1 (.int .i64),.boxT 2 0 .lib,.own 6 1024 65 (.sl .str) false true,.t 7 (.int .i64),.own 8 5120 3 (.int .i64) false true,.t 10 .bool]
def Z0.sp2_0:List Sp:=[.boxT 2 0 .lib,.own 6 1024 65 (.sl .str) false true,.t 7 (.int .i64),.own 8 5120 3 (.int .i64) false true]
def Z0.A2:LArm:=.one Z0.sp2 Z0.sp2_0 (Library × (List (List ByteArray)) × Int × (List Int)) (fun k x=>Z0.l2 k x.1 x.2.1 x.2.2.1 x.2.2.2.1 x.2.2.2.2.1 x.2.2.2.2.2.1) (.exit 2) (fun y=>(y.1,y.2.1,y.2.2.1,y.2.2.2,())) (fun x=>(x.1,x.2.1,x.2.2.1,x.2.2.2.1))
def Z0.sp10:List Sp:=[.boxT 2 0 .lib,.own 6 1024 65 (.sl .str) false true,.t 7 (.int .i64),.own 8 5120 3 (.int .i64) false true,.t 14 (.int .i64),.own 15 27648 9 .str false true,.t 16 (.int .i64)]
def Z0.sp10_0:List Sp:=[.boxT 2 0 .lib,.own 6 1024 65 (.sl .str) false true,.t 7 (.int .i64),.own 8 5120 3 (.int .i64) false true,.t 14 (.int .i64),.own 15 27648 9 .str false true]
def Z0.A10:LArm:=.one Z0.sp10 Z0.sp10_0 (Library × (List (List ByteArray)) × Int × (List Int) × Int × (List ByteArray)) (fun k x=>Z0.l10 k x.1 x.2.1 x.2.2.1 x.2.2.2.1 x.2.2.2.2.1 x.2.2.2.2.2.1 x.2.2.2.2.2.2.1) (.exit 10) (fun y=>(y.1,y.2.1,y.2.2.1,y.2.2.2.1,y.2.2.2.2.1,y.2.2.2.2.2,())) (fun x=>(x.1,x.2.1,x.2.2.1,x.2.2.2.1,x.2.2.2.2.1,x.2.2.2.2.2.1))
def Z0.sp8:List Sp:=[.boxT 2 0 .lib,.own 6 1024 65 (.sl .str) false true,.t 7 (.int .i64),.own 8 5120 3 (.int .i64) false true,.t 14 (.int .i64)]
def Z0.sp8_0:List Sp:=[.own 6 1024 65 (.sl .str) false true]
def Z0.A8:LArm:=.one Z0.sp8 Z0.sp8_0 ((List (List ByteArray))) (fun k x=>Z0.l8 k x.1 x.2.1 x.2.2.1 x.2.2.2.1 x.2.2.2.2.1) (.exit 8) (fun y=>(y,())) (fun x=>x.1)
def Z0.L:Nat->Option LArm:=fun b=>match b with
 | 0=>some Z0.A0
 | 6=>some Z0.A6
 | 4=>some Z0.A4
 | 2=>some Z0.A2
 | 10=>some Z0.A10
 | 8=>some Z0.A8
 | _=>none
theorem Z0.run (k:Nat) (a0:Library) (a1:Int):runF envX (tabC (Z0.C k)) (tabL 126 k Z0.L) Tryz.f6 [.t .lib a0,.t (.int .i64) a1] (viewR2 (.fr 65 (.sl .str)) (.t .bool))=Z0.F k a0 a1:=by kernel_rfl
theorem Z0.step0 (k:Nat) (x1:Int) (x2:Library) (x6:List (List ByteArray)) (x7:Int) (x8:List Int) (x9:Int):runC envX (tabC (Z0.C k)) (tabL 126 k Z0.L) 0 (loopAt Tryz.f6 0) (stOf 126 Z0.sp0 (x1,x2,x6,x7,x8,x9,())) (Z0.A0.cont 126 k)=Z0.l0 (k+1) x1 x2 x6 x7 x8 x9:=by kernel_rfl
theorem Z0.step6 (k:Nat) (x1:Int) (x2:Library) (x6:List (List ByteArray)) (x7:Int) (x8:List Int) (x10:Bool) (x11:Int) (x12:Int):runC envX (tabC (Z0.C k)) (tabL 126 k Z0.L) 6 (loopAt Tryz.f6 6) (stOf 126 Z0.sp6 (x1,x2,x6,x7,x8,x10,x11,x12,())) (Z0.A6.cont 126 k)=Z0.l6 (k+1) x1 x2 x6 x7 x8 x10 x11 x12:=by kernel_rfl
theorem Z0.step4 (k:Nat) (x1:Int) (x2:Library) (x6:List (List ByteArray)) (x7:Int) (x8:List Int) (x10:Bool) (x11:Int):runC envX (tabC (Z0.C k)) (tabL 126 k Z0.L) 4 (loopAt Tryz.f6 4) (stOf 126 Z0.sp4 (x1,x2,x6,x7,x8,x10,x11,())) (Z0.A4.cont 126 k)=Z0.l4 (k+1) x1 x2 x6 x7 x8 x10 x11:=by kernel_rfl
theorem Z0.step2 (k:Nat) (x1:Int) (x2:Library) (x6:List (List ByteArray)) (x7:Int) (x8:List Int) (x10:Bool):runC envX (tabC (Z0.C k)) (tabL 126 k Z0.L) 2 (loopAt Tryz.f6 2) (stOf 126 Z0.sp2 (x1,x2,x6,x7,x8,x10,())) (Z0.A2.cont 126 k)=Z0.l2 (k+1) x1 x2 x6 x7 x8 x10:=by kernel_rfl
theorem Z0.step10 (k:Nat) (x2:Library) (x6:List (List ByteArray)) (x7:Int) (x8:List Int) (x14:Int) (x15:List ByteArray) (x16:Int):runC envX (tabC (Z0.C k)) (tabL 126 k Z0.L) 10 (loopAt Tryz.f6 10) (stOf 126 Z0.sp10 (x2,x6,x7,x8,x14,x15,x16,())) (Z0.A10.cont 126 k)=Z0.l10 (k+1) x2 x6 x7 x8 x14 x15 x16:=by kernel_rfl
theorem Z0.step8 (k:Nat) (x2:Library) (x6:List (List ByteArray)) (x7:Int) (x8:List Int) (x14:Int):runC envX (tabC (Z0.C k)) (tabL 126 k Z0.L) 8 (loopAt Tryz.f6 8) (stOf 126 Z0.sp8 (x2,x6,x7,x8,x14,())) (Z0.A8.cont 126 k)=Z0.l8 (k+1) x2 x6 x7 x8 x14:=by kernel_rfl
theorem Z0.G (hE:EnvOk Tryz.prog envX) (pv:Nat->Value) (k:Nat):∀ cal A,Z0.C k cal=some A->ArmOk Tryz.prog envX pv cal A:=by
 intro cal A h
 unfold Z0.C at h
 split at h
 ·cases h; exact fun x y hy=>Z19.good hE pv k x.1 hy
 ·cases h; exact fun x y hy=>Z51.good hE pv x.1 x.2.1 x.2.2.1 hy
 ·cases h; exact fun x y hy=>Z72.good hE pv k x.1 x.2.1 x.2.2.1 hy
 ·cases h; exact fun x y hy=>Z55.good hE pv x.1 x.2.1 hy
 ·cases h
theorem Z0.good (hE:EnvOk Tryz.prog envX) (pv:Nat->Value) (k:Nat) (a0:Library) (a1:Int) {y:_} (h:Z0.F k a0 a1=some y):Meets Tryz.prog envX pv (.f 6) (tvals [.lib,(.int .i64)] (a0,a1,())) (.tup [.fr 65 (.sl .str) y.1,.t .bool y.2]) :=
 fun_loops hE (t:=Z0.C) k (fun k _=>Z0.G hE pv k) (f:=6) (fn:=Tryz.f6) (by kernel_rfl) rfl (by kernel_rfl) (by kernel_rfl) (lt:=Z0.L) (by kernel_rfl) (fun b A h=>by
  unfold Z0.L at h; split at h
  ·cases h; exact ⟨by kernel_rfl,by kernel_rfl,fun _=>rfl,fun _=>rfl⟩
  ·cases h; exact ⟨by kernel_rfl,by kernel_rfl,fun _=>rfl,fun _=>rfl⟩
  ·cases h; exact ⟨by kernel_rfl,by kernel_rfl,fun _=>rfl,fun _=>rfl⟩
  ·cases h; exact ⟨by kernel_rfl,by kernel_rfl,fun _=>rfl,fun _=>rfl⟩
  ·cases h; exact ⟨by kernel_rfl,by kernel_rfl,fun _=>rfl,fun _=>rfl⟩
  ·cases h; exact ⟨by kernel_rfl,by kernel_rfl,fun _=>rfl,fun _=>rfl⟩
  ·cases h) (fun b A h=>by
  unfold Z0.L at h; split at h
  ·cases h; exact fun k x=>Z0.step0 k x.1 x.2.1 x.2.2.1 x.2.2.2.1 x.2.2.2.2.1 x.2.2.2.2.2.1
  ·cases h; exact fun k x=>Z0.step6 k x.1 x.2.1 x.2.2.1 x.2.2.2.1 x.2.2.2.2.1 x.2.2.2.2.2.1 x.2.2.2.2.2.2.1 x.2.2.2.2.2.2.2.1
  ·cases h; exact fun k x=>Z0.step4 k x.1 x.2.1 x.2.2.1 x.2.2.2.1 x.2.2.2.2.1 x.2.2.2.2.2.1 x.2.2.2.2.2.2.1
  ·cases h; exact fun k x=>Z0.step2 k x.1 x.2.1 x.2.2.1 x.2.2.2.1 x.2.2.2.2.1 x.2.2.2.2.2.1
  ·cases h; exact fun k x=>Z0.step10 k x.1 x.2.1 x.2.2.1 x.2.2.2.1 x.2.2.2.2.1 x.2.2.2.2.2.1 x.2.2.2.2.2.2.1
  ·cases h; exact fun k x=>Z0.step8 k x.1 x.2.1 x.2.2.1 x.2.2.2.1 x.2.2.2.2.1
  ·cases h) ((Z0.run k a0 a1).trans h) (fun r hr=>wk_view2 hr)
def Z110.l0:Nat->(List ByteArray)->(List ByteArray)->Int->Option ((List ByteArray))
 | 0,_,_,_=>none
 | k+1,x0,x3,x4=>bif (decide (x4<(x0.length:Int))) then (bif decide (0<=x4) then (bif decide (x4<(x0.length:Int)) then (bif decide (0<=x4) then (bif decide (x4<(x3.length:Int)) then (Z110.l0 k x0 (x3.set ((x4:Int).toNat) (x0.getD (x4:Int).toNat (⟨#[]⟩:ByteArray))) (IntKind.wrap .i64 (x4+1))) else none) else none) else none) else none) else (some x3)
def Z110.F (k:Nat) (a0:List ByteArray):Option (List ByteArray):=bif ((a0.length:Int)==(a0.length:Int)) then (bif decide (0<=(a0.length:Int)) then (bif Nat.ble (((a0.length:Int):Int).toNat * nb .str) 140737488355328 then ((Z110.l0 k a0 (List.replicate ((a0.length:Int):Int).toNat (⟨#[]⟩:ByteArray)) 0).bind fun y1=>some y1) else none) else none) else none
def laws_toName.C (k:Nat):Cal->Option CArm:=fun c=>match c with
 | .f 178=>some (.p [(.sl .str)] _ (fun x=>Z110.F k x.1) (fun r=>(.fr 9 .str r)))
 | _=>none
def Z39.l0:Nat->(List ByteArray)->(List ByteArray)->Int->Option ((List ByteArray))
 | 0,_,_,_=>none
 | k+1,x0,x3,x4=>bif (decide (x4<(x0.length:Int))) then (bif decide (0<=x4) then (bif decide (x4<(x0.length:Int)) then (bif decide (0<=x4) then (bif decide (x4<(x3.length:Int)) then (Z39.l0 k x0 (x3.set ((x4:Int).toNat) (x0.getD (x4:Int).toNat (⟨#[]⟩:ByteArray))) (IntKind.wrap .i64 (x4+1))) else none) else none) else none) else none) else (some x3)
def Z39.F (k:Nat) (a0:List ByteArray):Option (List ByteArray):=bif ((a0.length:Int)==(a0.length:Int)) then (bif decide (0<=(a0.length:Int)) then (bif Nat.ble (((a0.length:Int):Int).toNat * nb .str) 140737488355328 then ((Z39.l0 k a0 (List.replicate ((a0.length:Int):Int).toNat (⟨#[]⟩:ByteArray)) 0).bind fun y1=>some y1) else none) else none) else none
def Z39.C (k:Nat):Cal->Option CArm:=fun c=>match c with
 | _=>none
def Z39.sp0:List Sp:=[.t 0 (.sl .str),.own 3 1032 9 .str false true,.t 4 (.int .i64)]
def Z39.sp0_0:List Sp:=[.own 3 1032 9 .str false true]
def Z39.A0:LArm:=.one Z39.sp0 Z39.sp0_0 ((List ByteArray)) (fun k x=>Z39.l0 k x.1 x.2.1 x.2.2.1) (.exit 0) (fun y=>(y,())) (fun x=>x.1)
def Z39.L:Nat->Option LArm:=fun b=>match b with
 | 0=>some Z39.A0
 | _=>none
theorem Z39.run (k:Nat) (a0:List ByteArray):runF envP (tabC (Z39.C k)) (tabL 22 k Z39.L) Tryz.f178 [.t (.sl .str) a0] (viewR1 (.fr 9 .str))=Z39.F k a0:=by kernel_rfl
theorem Z39.step0 (k:Nat) (x0:List ByteArray) (x3:List ByteArray) (x4:Int):runC envP (tabC (Z39.C k)) (tabL 22 k Z39.L) 0 (loopAt Tryz.f178 0) (stOf 22 Z39.sp0 (x0,x3,x4,())) (Z39.A0.cont 22 k)=Z39.l0 (k+1) x0 x3 x4:=by kernel_rfl
theorem Z39.G (hE:EnvOk Tryz.prog envP) (pv:Nat->Value) (n:Nat) (k:Nat):∀ cal A,Z39.C k cal=some A->ArmOk Tryz.prog envP (mpv pv n) cal A:=by
 intro cal A h
 unfold Z39.C at h
 cases h
theorem Z39.good (hE:EnvOk Tryz.prog envP) (pv:Nat->Value) (n:Nat) (k:Nat) (a0:List ByteArray) {y:_} (h:Z39.F k a0=some y):Meets Tryz.prog envP (mpv pv n) (.f 178) (tvals [(.sl .str)] (a0,())) (.fr 9 .str y) :=
 fun_loops hE (t:=Z39.C) k (fun k _=>Z39.G hE pv n k) (f:=178) (fn:=Tryz.f178) (by kernel_rfl) rfl (by kernel_rfl) (by kernel_rfl) (lt:=Z39.L) (by kernel_rfl) (fun b A h=>by
  unfold Z39.L at h; split at h
  ·cases h; exact ⟨by kernel_rfl,by kernel_rfl,fun _=>rfl,fun _=>rfl⟩
  ·cases h) (fun b A h=>by
  unfold Z39.L at h; split at h
  ·cases h; exact fun k x=>Z39.step0 k x.1 x.2.1 x.2.2.1
  ·cases h) ((Z39.run k a0).trans h) (fun r hr=>wk_view1 hr)
def Z68.F (k:Nat) (a0:Name):Option (Name):=(Z39.F k a0.given).bind fun r1=>some (⟨r1,a0.particle,a0.family,a0.suffix⟩:Name)
def Z68.C (k:Nat):Cal->Option CArm:=fun c=>match c with
 | .f 178=>some (.p [(.sl .str)] _ (fun x=>Z39.F k x.1) (fun r=>(.fr 9 .str r)))
 | _=>none
theorem Z68.run (k:Nat) (a0:Name):runPc envP (tabC (Z68.C k)) (tabL 18 0 (fun _=>none)) Tryz.f144 [.t .name a0] (viewR1 (.pc .name))=Z68.F k a0:=by kernel_rfl
theorem Z68.G (hE:EnvOk Tryz.prog envP) (pv:Nat->Value) (n:Nat) (k:Nat):∀ cal A,Z68.C k cal=some A->ArmOk Tryz.prog envP (mpv pv n) cal A:=by
 intro cal A h
 unfold Z68.C at h
 split at h
 ·cases h; exact fun x y hy=>Z39.good hE pv n k x.1 hy
 ·cases h
theorem Z68.good (hE:EnvOk Tryz.prog envP) (pv:Nat->Value) (n:Nat) (k:Nat) (a0:Name) {y:_} (h:Z68.F k a0=some y):Meets Tryz.prog envP (mpv pv n) (.f 144) (tvals [.name] (a0,())) (.pc true .name y) :=
 funPc_plain hE (mpv_O pv n) (mpv_Q pv n) (Z68.G hE pv n k) (f:=144) (fn:=Tryz.f144) (by kernel_rfl) rfl (by kernel_rfl) (by kernel_rfl) ((Z68.run k a0).trans h) (fun r hr=>wk_view1 hr)
def Z113.l0:Nat->(List Name)->(List Name)->Int->Option ((List Name))
 | 0,_,_,_=>none
 | k+1,x0,x3,x4=>bif (decide (x4<(x0.length:Int))) then (bif decide (0<=x4) then (bif decide (x4<(x0.length:Int)) then ((Z68.F k (x0.getD (x4:Int).toNat (dflt .name))).bind fun r1=>bif decide (0<=x4) then (bif decide (x4<(x3.length:Int)) then (Z113.l0 k x0 (x3.set ((x4:Int).toNat) r1) (IntKind.wrap .i64 (x4+1))) else none) else none) else none) else none) else (some x3)
def Z113.F (k:Nat) (a0:List Name):Option (List Name):=bif ((a0.length:Int)==(a0.length:Int)) then (bif decide (0<=(a0.length:Int)) then (bif Nat.ble (((a0.length:Int):Int).toNat * nb .name) 140737488355328 then ((Z113.l0 k a0 (List.replicate ((a0.length:Int):Int).toNat (dflt .name)) 0).bind fun y2=>some y2) else none) else none) else none
def Z113.C (k:Nat):Cal->Option CArm:=fun c=>match c with
 | .f 144=>some (.pp [.name] .name (fun x=>Z68.F k x.1))
 | _=>none
def Z114.F (a0:Date):Option (Date):=some (⟨a0.y,a0.m,a0.d,a0.c⟩:Date)
def laws_toEntry.C (k:Nat):Cal->Option CArm:=fun c=>match c with
 | .f 108=>some (.p [(.sl .name)] _ (fun x=>Z113.F k x.1) (fun r=>(.fr 89 .name r)))
 | .f 109=>some (.p [.date] _ (fun x=>Z114.F x.1) (fun r=>(.t .date r)))
 | _=>none
def Z35.l0:Nat->(List Name)->(List Name)->Int->Option ((List Name))
 | 0,_,_,_=>none
 | k+1,x0,x3,x4=>bif (decide (x4<(x0.length:Int))) then (bif decide (0<=x4) then (bif decide (x4<(x0.length:Int)) then ((Z68.F k (x0.getD (x4:Int).toNat (dflt .name))).bind fun r1=>bif decide (0<=x4) then (bif decide (x4<(x3.length:Int)) then (Z35.l0 k x0 (x3.set ((x4:Int).toNat) r1) (IntKind.wrap .i64 (x4+1))) else none) else none) else none) else none) else (some x3)
def Z35.F (k:Nat) (a0:List Name):Option (List Name):=bif ((a0.length:Int)==(a0.length:Int)) then (bif decide (0<=(a0.length:Int)) then (bif Nat.ble (((a0.length:Int):Int).toNat * nb .name) 140737488355328 then ((Z35.l0 k a0 (List.replicate ((a0.length:Int):Int).toNat (dflt .name)) 0).bind fun y2=>some y2) else none) else none) else none
def Z35.C (k:Nat):Cal->Option CArm:=fun c=>match c with
 | .f 144=>some (.p [.name] _ (fun x=>Z68.F k x.1) (fun r=>(.pc true .name r)))
 | _=>none
def Z35.sp0:List Sp:=[.t 0 (.sl .name),.own 3 1032 89 .name false true,.t 4 (.int .i64)]
def Z35.sp0_0:List Sp:=[.own 3 1032 89 .name false true]
def Z35.A0:LArm:=.one Z35.sp0 Z35.sp0_0 ((List Name)) (fun k x=>Z35.l0 k x.1 x.2.1 x.2.2.1) (.exit 0) (fun y=>(y,())) (fun x=>x.1)
def Z35.L:Nat->Option LArm:=fun b=>match b with
 | 0=>some Z35.A0
 | _=>none
theorem Z35.run (k:Nat) (a0:List Name):runF envP (tabC (Z35.C k)) (tabL 23 k Z35.L) Tryz.f108 [.t (.sl .name) a0] (viewR1 (.fr 89 .name))=Z35.F k a0:=by kernel_rfl
theorem Z35.step0 (k:Nat) (x0:List Name) (x3:List Name) (x4:Int):runC envP (tabC (Z35.C k)) (tabL 23 k Z35.L) 0 (loopAt Tryz.f108 0) (stOf 23 Z35.sp0 (x0,x3,x4,())) (Z35.A0.cont 23 k)=Z35.l0 (k+1) x0 x3 x4:=by kernel_rfl
theorem Z35.G (hE:EnvOk Tryz.prog envP) (pv:Nat->Value) (n:Nat) (k:Nat):∀ cal A,Z35.C k cal=some A->ArmOk Tryz.prog envP (mpv pv n) cal A:=by
 intro cal A h
 unfold Z35.C at h
 split at h
 ·cases h; exact fun x y hy=>Z68.good hE pv n k x.1 hy
 ·cases h
theorem Z35.good (hE:EnvOk Tryz.prog envP) (pv:Nat->Value) (n:Nat) (k:Nat) (a0:List Name) {y:_} (h:Z35.F k a0=some y):Meets Tryz.prog envP (mpv pv n) (.f 108) (tvals [(.sl .name)] (a0,())) (.fr 89 .name y) :=
 fun_loops hE (t:=Z35.C) k (fun k _=>Z35.G hE pv n k) (f:=108) (fn:=Tryz.f108) (by kernel_rfl) rfl (by kernel_rfl) (by kernel_rfl) (lt:=Z35.L) (by kernel_rfl) (fun b A h=>by
  unfold Z35.L at h; split at h
  ·cases h; exact ⟨by kernel_rfl,by kernel_rfl,fun _=>rfl,fun _=>rfl⟩
  ·cases h) (fun b A h=>by
  unfold Z35.L at h; split at h
  ·cases h; exact fun k x=>Z35.step0 k x.1 x.2.1 x.2.2.1
  ·cases h) ((Z35.run k a0).trans h) (fun r hr=>wk_view1 hr)
def Z107.F (a0:Date):Option (Date):=some (⟨a0.y,a0.m,a0.d,a0.c⟩:Date)
def Z107.C:Cal->Option CArm:=fun c=>match c with
 | _=>none
theorem Z107.run (a0:Date):runF envP (tabC Z107.C) (tabL 17 0 (fun _=>none)) Tryz.f109 [.t .date a0] (viewR1 (.t .date))=Z107.F a0:=by kernel_rfl
theorem Z107.G (hE:EnvOk Tryz.prog envP) (pv:Nat->Value) (n:Nat):∀ cal A,Z107.C cal=some A->ArmOk Tryz.prog envP (mpv pv n) cal A:=by
 intro cal A h
 unfold Z107.C at h
 cases h
theorem Z107.good (hE:EnvOk Tryz.prog envP) (pv:Nat->Value) (n:Nat) (a0:Date) {y:_} (h:Z107.F a0=some y):Meets Tryz.prog envP (mpv pv n) (.f 109) (tvals [.date] (a0,())) (.t .date y) :=
 fun_plain hE (Z107.G hE pv n) (f:=109) (fn:=Tryz.f109) (by kernel_rfl) rfl (by kernel_rfl) (by kernel_rfl) ((Z107.run a0).trans h) (fun r hr=>wk_view1 hr)
def Z91.F (k:Nat) (a0:Entry):Option (Entry):=(Z35.F k a0.authors).bind fun r1=>(Z35.F k a0.editors).bind fun r2=>(Z107.F a0.date).bind fun r3=>some (⟨a0.key,a0.kind,r1,r2,a0.title,a0.container,a0.publisher,r3,a0.volume,a0.pages,a0.cross⟩:Entry)
def Z91.C (k:Nat):Cal->Option CArm:=fun c=>match c with
 | .f 108=>some (.p [(.sl .name)] _ (fun x=>Z35.F k x.1) (fun r=>(.fr 89 .name r)))
 | .f 109=>some (.p [.date] _ (fun x=>Z107.F x.1) (fun r=>(.t .date r)))
 | _=>none
theorem Z91.run (k:Nat) (a0:Entry):runPc envP (tabC (Z91.C k)) (tabL 41 0 (fun _=>none)) Tryz.f68 [.t .entry a0] (viewR1 (.pc .entry))=Z91.F k a0:=by kernel_rfl
theorem Z91.G (hE:EnvOk Tryz.prog envP) (pv:Nat->Value) (n:Nat) (k:Nat):∀ cal A,Z91.C k cal=some A->ArmOk Tryz.prog envP (mpv pv n) cal A:=by
 intro cal A h
 unfold Z91.C at h
 split at h
 ·cases h; exact fun x y hy=>Z35.good hE pv n k x.1 hy
 ·cases h; exact fun x y hy=>Z107.good hE pv n x.1 hy
 ·cases h
theorem Z91.good (hE:EnvOk Tryz.prog envP) (pv:Nat->Value) (n:Nat) (k:Nat) (a0:Entry) {y:_} (h:Z91.F k a0=some y):Meets Tryz.prog envP (mpv pv n) (.f 68) (tvals [.entry] (a0,())) (.pc true .entry y) :=
 funPc_plain hE (mpv_O pv n) (mpv_Q pv n) (Z91.G hE pv n k) (f:=68) (fn:=Tryz.f68) (by kernel_rfl) rfl (by kernel_rfl) (by kernel_rfl) ((Z91.run k a0).trans h) (fun r hr=>wk_view1 hr)
def Z49.F (a0:Int) (a1:Int) (a2:Int):Option (Bool):=bif (decide (a0 ≥ a1)) then (some (decide (a0<=a2))) else (some false)
def Z49.C:Cal->Option CArm:=fun c=>match c with
 | _=>none
theorem Z49.run (a0:Int) (a1:Int) (a2:Int):runF envX (tabC Z49.C) (tabL 15 0 (fun _=>none)) Tryz.f33 [.t (.int .i64) a0,.t (.int .i64) a1,.t (.int .i64) a2] (viewR1 (.t .bool))=Z49.F a0 a1 a2:=by kernel_rfl
theorem Z49.G (hE:EnvOk Tryz.prog envX) (pv:Nat->Value):∀ cal A,Z49.C cal=some A->ArmOk Tryz.prog envX pv cal A:=by
 intro cal A h
 unfold Z49.C at h
 cases h
theorem Z49.good (hE:EnvOk Tryz.prog envX) (pv:Nat->Value) (a0:Int) (a1:Int) (a2:Int) {y:_} (h:Z49.F a0 a1 a2=some y):Meets Tryz.prog envX pv (.f 33) (tvals [(.int .i64),(.int .i64),(.int .i64)] (a0,a1,a2,())) (.t .bool y) :=
 fun_plain hE (Z49.G hE pv) (f:=33) (fn:=Tryz.f33) (by kernel_rfl) rfl (by kernel_rfl) (by kernel_rfl) ((Z49.run a0 a1 a2).trans h) (fun r hr=>wk_view1 hr)
def Z111.F (a0:ByteArray) (a1:ByteArray):Option (ByteArray):=xTrim1 a0 a1
theorem Z111.good (hE:EnvOk Tryz.prog envX) (pv:Nat->Value) (a0:ByteArray) (a1:ByteArray) {y:_} (h:Z111.F a0 a1=some y):Meets Tryz.prog envX pv (.f 141) (tvals [.str,.str] (a0,a1,())) (.t .str y) :=
 ext_trim1 (fn:=Tryz.f141) (by kernel_rfl) rfl (by kernel_rfl) Tryz.strings_Trim_one h
def Z36.l0:Nat->ByteArray->Int->Option (Sum Bool ByteArray)
 | 0,_,_=>none
 | k+1,x0,x3=>bif (decide (x3<(x0.size:Int))) then (bif decide (0<=x3) then (bif decide (x3<(x0.size:Int)) then (bif (decide ((bt x0 (x3:Int).toNat)<32)) then (some (.inl false)) else (bif decide (0<=x3) then (bif decide (x3<(x0.size:Int)) then (bif (decide ((bt x0 (x3:Int).toNat) > 126)) then (some (.inl false)) else (Z36.l0 k x0 (IntKind.wrap .i64 (x3+1)))) else none) else none)) else none) else none) else (some (.inr x0))
def Z36.F (k:Nat) (a0:ByteArray):Option (Bool):=(Z36.l0 k a0 0).bind fun y1=>match y1 with | .inl z2=>some z2 | .inr z2=>(Z111.F z2 (⟨#[32]⟩:ByteArray)).bind fun r3=>some (beqS r3 z2)
def Z36.C (k:Nat):Cal->Option CArm:=fun c=>match c with
 | .f 141=>some (.p [.str,.str] _ (fun x=>Z111.F x.1 x.2.1) (fun r=>(.t .str r)))
 | _=>none
def Z36.sp0:List Sp:=[.t 0 .str,.t 3 (.int .i64)]
def Z36.sp0_0:List Sp:=[.t 2 .bool]
def Z36.sp0_1:List Sp:=[.t 0 .str]
def Z36.A0:LArm:=.two Z36.sp0 Z36.sp0_0 Z36.sp0_1 (Bool) (ByteArray) (fun k x=>Z36.l0 k x.1 x.2.1) .ret (.exit 0) (fun y=>(y,())) (fun x=>x.1) (fun y=>(y,())) (fun x=>x.1)
def Z36.L:Nat->Option LArm:=fun b=>match b with
 | 0=>some Z36.A0
 | _=>none
theorem Z36.run (k:Nat) (a0:ByteArray):runF envX (tabC (Z36.C k)) (tabL 24 k Z36.L) Tryz.f104 [.t .str a0] (viewR1 (.t .bool))=Z36.F k a0:=by kernel_rfl
theorem Z36.step0 (k:Nat) (x0:ByteArray) (x3:Int):runC envX (tabC (Z36.C k)) (tabL 24 k Z36.L) 0 (loopAt Tryz.f104 0) (stOf 24 Z36.sp0 (x0,x3,())) (Z36.A0.cont 24 k)=Z36.l0 (k+1) x0 x3:=by kernel_rfl
theorem Z36.G (hE:EnvOk Tryz.prog envX) (pv:Nat->Value) (k:Nat):∀ cal A,Z36.C k cal=some A->ArmOk Tryz.prog envX pv cal A:=by
 intro cal A h
 unfold Z36.C at h
 split at h
 ·cases h; exact fun x y hy=>Z111.good hE pv x.1 x.2.1 hy
 ·cases h
theorem Z36.good (hE:EnvOk Tryz.prog envX) (pv:Nat->Value) (k:Nat) (a0:ByteArray) {y:_} (h:Z36.F k a0=some y):Meets Tryz.prog envX pv (.f 104) (tvals [.str] (a0,())) (.t .bool y) :=
 fun_loops hE (t:=Z36.C) k (fun k _=>Z36.G hE pv k) (f:=104) (fn:=Tryz.f104) (by kernel_rfl) rfl (by kernel_rfl) (by kernel_rfl) (lt:=Z36.L) (by kernel_rfl) (fun b A h=>by
  unfold Z36.L at h; split at h
  ·cases h; exact ⟨by kernel_rfl,by kernel_rfl,by kernel_rfl,fun _=>rfl,fun _=>rfl,fun _=>rfl⟩
  ·cases h) (fun b A h=>by
  unfold Z36.L at h; split at h
  ·cases h; exact fun k x=>Z36.step0 k x.1 x.2.1
  ·cases h) ((Z36.run k a0).trans h) (fun r hr=>wk_view1 hr)
def Z61.F (k:Nat) (a0:ByteArray):Option (Bool):=bif (decide ((a0.size:Int)<=40)) then ((Z36.F k a0).bind fun r1=>some r1) else (some false)
def Z61.C (k:Nat):Cal->Option CArm:=fun c=>match c with
 | .f 104=>some (.p [.str] _ (fun x=>Z36.F k x.1) (fun r=>(.t .bool r)))
 | _=>none
theorem Z61.run (k:Nat) (a0:ByteArray):runF envX (tabC (Z61.C k)) (tabL 10 0 (fun _=>none)) Tryz.f64 [.t .str a0] (viewR1 (.t .bool))=Z61.F k a0:=by kernel_rfl
theorem Z61.G (hE:EnvOk Tryz.prog envX) (pv:Nat->Value) (k:Nat):∀ cal A,Z61.C k cal=some A->ArmOk Tryz.prog envX pv cal A:=by
 intro cal A h
 unfold Z61.C at h
 split at h
 ·cases h; exact fun x y hy=>Z36.good hE pv k x.1 hy
 ·cases h
theorem Z61.good (hE:EnvOk Tryz.prog envX) (pv:Nat->Value) (k:Nat) (a0:ByteArray) {y:_} (h:Z61.F k a0=some y):Meets Tryz.prog envX pv (.f 64) (tvals [.str] (a0,())) (.t .bool y) :=
 fun_plain hE (Z61.G hE pv k) (f:=64) (fn:=Tryz.f64) (by kernel_rfl) rfl (by kernel_rfl) (by kernel_rfl) ((Z61.run k a0).trans h) (fun r hr=>wk_view1 hr)
def Z52.F (a0:Int):Option (Bool):=bif (decide (a0 ≥ 97)) then (some (decide (a0<=122))) else (some false)
def Z52.C:Cal->Option CArm:=fun c=>match c with
 | _=>none
theorem Z52.run (a0:Int):runF envX (tabC Z52.C) (tabL 9 0 (fun _=>none)) Tryz.f124 [.t (.int .u8) a0] (viewR1 (.t .bool))=Z52.F a0:=by kernel_rfl
theorem Z52.G (hE:EnvOk Tryz.prog envX) (pv:Nat->Value):∀ cal A,Z52.C cal=some A->ArmOk Tryz.prog envX pv cal A:=by
 intro cal A h
 unfold Z52.C at h
 cases h
theorem Z52.good (hE:EnvOk Tryz.prog envX) (pv:Nat->Value) (a0:Int) {y:_} (h:Z52.F a0=some y):Meets Tryz.prog envX pv (.f 124) (tvals [(.int .u8)] (a0,())) (.t .bool y) :=
 fun_plain hE (Z52.G hE pv) (f:=124) (fn:=Tryz.f124) (by kernel_rfl) rfl (by kernel_rfl) (by kernel_rfl) ((Z52.run a0).trans h) (fun r hr=>wk_view1 hr)
def Z57.F (a0:Int):Option (Bool):=bif (decide (a0 ≥ 48)) then (some (decide (a0<=57))) else (some false)
def Z57.C:Cal->Option CArm:=fun c=>match c with
 | _=>none
theorem Z57.run (a0:Int):runF envX (tabC Z57.C) (tabL 9 0 (fun _=>none)) Tryz.f125 [.t (.int .u8) a0] (viewR1 (.t .bool))=Z57.F a0:=by kernel_rfl
theorem Z57.G (hE:EnvOk Tryz.prog envX) (pv:Nat->Value):∀ cal A,Z57.C cal=some A->ArmOk Tryz.prog envX pv cal A:=by
 intro cal A h
 unfold Z57.C at h
 cases h
theorem Z57.good (hE:EnvOk Tryz.prog envX) (pv:Nat->Value) (a0:Int) {y:_} (h:Z57.F a0=some y):Meets Tryz.prog envX pv (.f 125) (tvals [(.int .u8)] (a0,())) (.t .bool y) :=
 fun_plain hE (Z57.G hE pv) (f:=125) (fn:=Tryz.f125) (by kernel_rfl) rfl (by kernel_rfl) (by kernel_rfl) ((Z57.run a0).trans h) (fun r hr=>wk_view1 hr)
def Z13.l0:Nat->ByteArray->Int->Option (Sum Bool Unit)
 | 0,_,_=>none
 | k+1,x0,x3=>bif (decide (x3<(x0.size:Int))) then (bif decide (0<=x3) then (bif decide (x3<(x0.size:Int)) then ((Z52.F (bt x0 (x3:Int).toNat)).bind fun r3=>bif (!r3) then (bif decide (0<=x3) then (bif decide (x3<(x0.size:Int)) then ((Z57.F (bt x0 (x3:Int).toNat)).bind fun r4=>bif (!r4) then (some (.inl false)) else (Z13.l0 k x0 (IntKind.wrap .i64 (x3+1)))) else none) else none) else (Z13.l0 k x0 (IntKind.wrap .i64 (x3+1)))) else none) else none) else (some (.inr ()))
def Z13.F (k:Nat) (a0:ByteArray):Option (Bool):=(Z49.F (a0.size:Int) 1 10).bind fun r1=>bif (!r1) then (some false) else (bif decide (0<=0) then (bif decide (0<(a0.size:Int)) then ((Z52.F (bt a0 (0:Int).toNat)).bind fun r2=>bif (!r2) then (some false) else ((Z13.l0 k a0 0).bind fun y5=>match y5 with | .inl z6=>some z6 | .inr z6=>some true)) else none) else none)
def Z13.C (k:Nat):Cal->Option CArm:=fun c=>match c with
 | .f 33=>some (.p [(.int .i64),(.int .i64),(.int .i64)] _ (fun x=>Z49.F x.1 x.2.1 x.2.2.1) (fun r=>(.t .bool r)))
 | .f 124=>some (.p [(.int .u8)] _ (fun x=>Z52.F x.1) (fun r=>(.t .bool r)))
 | .f 125=>some (.p [(.int .u8)] _ (fun x=>Z57.F x.1) (fun r=>(.t .bool r)))
 | _=>none
def Z13.sp0:List Sp:=[.t 0 .str,.t 3 (.int .i64)]
def Z13.sp0_0:List Sp:=[.t 2 .bool]
def Z13.sp0_1:List Sp:=[]
def Z13.A0:LArm:=.two Z13.sp0 Z13.sp0_0 Z13.sp0_1 (Bool) (Unit) (fun k x=>Z13.l0 k x.1 x.2.1) .ret (.exit 0) (fun y=>(y,())) (fun x=>x.1) (fun y=>()) (fun x=>())
def Z13.L:Nat->Option LArm:=fun b=>match b with
 | 0=>some Z13.A0
 | _=>none
theorem Z13.run (k:Nat) (a0:ByteArray):runF envX (tabC (Z13.C k)) (tabL 32 k Z13.L) Tryz.f79 [.t .str a0] (viewR1 (.t .bool))=Z13.F k a0:=by kernel_rfl
theorem Z13.step0 (k:Nat) (x0:ByteArray) (x3:Int):runC envX (tabC (Z13.C k)) (tabL 32 k Z13.L) 0 (loopAt Tryz.f79 0) (stOf 32 Z13.sp0 (x0,x3,())) (Z13.A0.cont 32 k)=Z13.l0 (k+1) x0 x3:=by kernel_rfl
theorem Z13.G (hE:EnvOk Tryz.prog envX) (pv:Nat->Value) (k:Nat):∀ cal A,Z13.C k cal=some A->ArmOk Tryz.prog envX pv cal A:=by
 intro cal A h
 unfold Z13.C at h
 split at h
 ·cases h; exact fun x y hy=>Z49.good hE pv x.1 x.2.1 x.2.2.1 hy
 ·cases h; exact fun x y hy=>Z52.good hE pv x.1 hy
 ·cases h; exact fun x y hy=>Z57.good hE pv x.1 hy
 ·cases h
theorem Z13.good (hE:EnvOk Tryz.prog envX) (pv:Nat->Value) (k:Nat) (a0:ByteArray) {y:_} (h:Z13.F k a0=some y):Meets Tryz.prog envX pv (.f 79) (tvals [.str] (a0,())) (.t .bool y) :=
 fun_loops hE (t:=Z13.C) k (fun k _=>Z13.G hE pv k) (f:=79) (fn:=Tryz.f79) (by kernel_rfl) rfl (by kernel_rfl) (by kernel_rfl) (lt:=Z13.L) (by kernel_rfl) (fun b A h=>by
  unfold Z13.L at h; split at h
  ·cases h; exact ⟨by kernel_rfl,by kernel_rfl,by kernel_rfl,fun _=>rfl,fun _=>rfl,fun _=>rfl⟩
  ·cases h) (fun b A h=>by
  unfold Z13.L at h; split at h
  ·cases h; exact fun k x=>Z13.step0 k x.1 x.2.1
  ·cases h) ((Z13.run k a0).trans h) (fun r hr=>wk_view1 hr)
def Z102.F (a0:Int):Option (Bool):=(Z49.F a0 1 4).bind fun r1=>some r1
def Z102.C:Cal->Option CArm:=fun c=>match c with
 | .f 33=>some (.p [(.int .i64),(.int .i64),(.int .i64)] _ (fun x=>Z49.F x.1 x.2.1 x.2.2.1) (fun r=>(.t .bool r)))
 | _=>none
theorem Z102.run (a0:Int):runF envX (tabC Z102.C) (tabL 5 0 (fun _=>none)) Tryz.f80 [.t (.int .i64) a0] (viewR1 (.t .bool))=Z102.F a0:=by kernel_rfl
theorem Z102.G (hE:EnvOk Tryz.prog envX) (pv:Nat->Value):∀ cal A,Z102.C cal=some A->ArmOk Tryz.prog envX pv cal A:=by
 intro cal A h
 unfold Z102.C at h
 split at h
 ·cases h; exact fun x y hy=>Z49.good hE pv x.1 x.2.1 x.2.2.1 hy
 ·cases h
theorem Z102.good (hE:EnvOk Tryz.prog envX) (pv:Nat->Value) (a0:Int) {y:_} (h:Z102.F a0=some y):Meets Tryz.prog envX pv (.f 80) (tvals [(.int .i64)] (a0,())) (.t .bool y) :=
 fun_plain hE (Z102.G hE pv) (f:=80) (fn:=Tryz.f80) (by kernel_rfl) rfl (by kernel_rfl) (by kernel_rfl) ((Z102.run a0).trans h) (fun r hr=>wk_view1 hr)
-- NO 153 slices.IndexFunc[[]loop.example/g00896/impl.Name,loop.example/g00896/impl.Name]: a parameter's type
-- NO 126 slices.ContainsFunc[[]loop.example/g00896/impl.Name,loop.example/g00896/impl.Name]: a parameter's type
-- NO 181 slices.IndexFunc[[]string,string]: a parameter's type
-- NO 154 slices.ContainsFunc[[]string,string]: a parameter's type
def Z53.F (a0:Int):Option (Bool):=bif (decide (a0 ≥ 65)) then (some (decide (a0<=90))) else (some false)
def Z53.C:Cal->Option CArm:=fun c=>match c with
 | _=>none
theorem Z53.run (a0:Int):runF envX (tabC Z53.C) (tabL 9 0 (fun _=>none)) Tryz.f88 [.t (.int .u8) a0] (viewR1 (.t .bool))=Z53.F a0:=by kernel_rfl
theorem Z53.G (hE:EnvOk Tryz.prog envX) (pv:Nat->Value):∀ cal A,Z53.C cal=some A->ArmOk Tryz.prog envX pv cal A:=by
 intro cal A h
 unfold Z53.C at h
 cases h
theorem Z53.good (hE:EnvOk Tryz.prog envX) (pv:Nat->Value) (a0:Int) {y:_} (h:Z53.F a0=some y):Meets Tryz.prog envX pv (.f 88) (tvals [(.int .u8)] (a0,())) (.t .bool y) :=
 fun_plain hE (Z53.G hE pv) (f:=88) (fn:=Tryz.f88) (by kernel_rfl) rfl (by kernel_rfl) (by kernel_rfl) ((Z53.run a0).trans h) (fun r hr=>wk_view1 hr)
def Z58.F (a0:Int):Option (Bool):=(Z53.F a0).bind fun r1=>bif r1 then (some true) else ((Z52.F a0).bind fun r2=>some r2)
def Z58.C:Cal->Option CArm:=fun c=>match c with
 | .f 88=>some (.p [(.int .u8)] _ (fun x=>Z53.F x.1) (fun r=>(.t .bool r)))
 | .f 124=>some (.p [(.int .u8)] _ (fun x=>Z52.F x.1) (fun r=>(.t .bool r)))
 | _=>none
theorem Z58.run (a0:Int):runF envX (tabC Z58.C) (tabL 9 0 (fun _=>none)) Tryz.f89 [.t (.int .u8) a0] (viewR1 (.t .bool))=Z58.F a0:=by kernel_rfl
theorem Z58.G (hE:EnvOk Tryz.prog envX) (pv:Nat->Value):∀ cal A,Z58.C cal=some A->ArmOk Tryz.prog envX pv cal A:=by
 intro cal A h
 unfold Z58.C at h
 split at h
 ·cases h; exact fun x y hy=>Z53.good hE pv x.1 hy
 ·cases h; exact fun x y hy=>Z52.good hE pv x.1 hy
 ·cases h
theorem Z58.good (hE:EnvOk Tryz.prog envX) (pv:Nat->Value) (a0:Int) {y:_} (h:Z58.F a0=some y):Meets Tryz.prog envX pv (.f 89) (tvals [(.int .u8)] (a0,())) (.t .bool y) :=
 fun_plain hE (Z58.G hE pv) (f:=89) (fn:=Tryz.f89) (by kernel_rfl) rfl (by kernel_rfl) (by kernel_rfl) ((Z58.run a0).trans h) (fun r hr=>wk_view1 hr)
def Z11.l0:Nat->ByteArray->Int->Option (Sum Bool Unit)
 | 0,_,_=>none
 | k+1,x0,x3=>bif (decide (x3<(x0.size:Int))) then (bif decide (0<=x3) then (bif decide (x3<(x0.size:Int)) then ((Z58.F (bt x0 (x3:Int).toNat)).bind fun r4=>bif (!r4) then (bif decide (0<=x3) then (bif decide (x3<(x0.size:Int)) then (bif ((bt x0 (x3:Int).toNat) != 45) then (bif decide (0<=x3) then (bif decide (x3<(x0.size:Int)) then (bif ((bt x0 (x3:Int).toNat) != 39) then (some (.inl false)) else (bif decide (0<=(IntKind.wrap .i64 (x3-1))) then (bif decide ((IntKind.wrap .i64 (x3-1))<(x0.size:Int)) then ((Z58.F (bt x0 ((IntKind.wrap .i64 (x3-1)):Int).toNat)).bind fun r5=>bif (!r5) then (some (.inl false)) else (Z11.l0 k x0 (IntKind.wrap .i64 (x3+1)))) else none) else none)) else none) else none) else (bif decide (0<=(IntKind.wrap .i64 (x3-1))) then (bif decide ((IntKind.wrap .i64 (x3-1))<(x0.size:Int)) then ((Z58.F (bt x0 ((IntKind.wrap .i64 (x3-1)):Int).toNat)).bind fun r6=>bif (!r6) then (some (.inl false)) else (Z11.l0 k x0 (IntKind.wrap .i64 (x3+1)))) else none) else none)) else none) else none) else (Z11.l0 k x0 (IntKind.wrap .i64 (x3+1)))) else none) else none) else (some (.inr ()))
def Z11.F (k:Nat) (a0:ByteArray):Option (Bool):=(Z49.F (a0.size:Int) 1 12).bind fun r1=>bif (!r1) then (some false) else (bif decide (0<=(IntKind.wrap .i64 ((a0.size:Int)-1))) then (bif decide ((IntKind.wrap .i64 ((a0.size:Int)-1))<(a0.size:Int)) then ((Z58.F (bt a0 ((IntKind.wrap .i64 ((a0.size:Int)-1)):Int).toNat)).bind fun r2=>bif (!r2) then (some false) else (bif decide (0<=0) then (bif decide (0<(a0.size:Int)) then ((Z58.F (bt a0 (0:Int).toNat)).bind fun r3=>bif (!r3) then (some false) else ((Z11.l0 k a0 0).bind fun y7=>match y7 with | .inl z8=>some z8 | .inr z8=>some true)) else none) else none)) else none) else none)
def Z11.C (k:Nat):Cal->Option CArm:=fun c=>match c with
 | .f 33=>some (.p [(.int .i64),(.int .i64),(.int .i64)] _ (fun x=>Z49.F x.1 x.2.1 x.2.2.1) (fun r=>(.t .bool r)))
 | .f 89=>some (.p [(.int .u8)] _ (fun x=>Z58.F x.1) (fun r=>(.t .bool r)))
 | _=>none
def Z11.sp0:List Sp:=[.t 0 .str,.t 3 (.int .i64)]
def Z11.sp0_0:List Sp:=[.t 2 .bool]
def Z11.sp0_1:List Sp:=[]
def Z11.A0:LArm:=.two Z11.sp0 Z11.sp0_0 Z11.sp0_1 (Bool) (Unit) (fun k x=>Z11.l0 k x.1 x.2.1) .ret (.exit 0) (fun y=>(y,())) (fun x=>x.1) (fun y=>()) (fun x=>())
def Z11.L:Nat->Option LArm:=fun b=>match b with
 | 0=>some Z11.A0
 | _=>none
theorem Z11.run (k:Nat) (a0:ByteArray):runF envX (tabC (Z11.C k)) (tabL 54 k Z11.L) Tryz.f158 [.t .str a0] (viewR1 (.t .bool))=Z11.F k a0:=by kernel_rfl
theorem Z11.step0 (k:Nat) (x0:ByteArray) (x3:Int):runC envX (tabC (Z11.C k)) (tabL 54 k Z11.L) 0 (loopAt Tryz.f158 0) (stOf 54 Z11.sp0 (x0,x3,())) (Z11.A0.cont 54 k)=Z11.l0 (k+1) x0 x3:=by kernel_rfl
theorem Z11.G (hE:EnvOk Tryz.prog envX) (pv:Nat->Value) (k:Nat):∀ cal A,Z11.C k cal=some A->ArmOk Tryz.prog envX pv cal A:=by
 intro cal A h
 unfold Z11.C at h
 split at h
 ·cases h; exact fun x y hy=>Z49.good hE pv x.1 x.2.1 x.2.2.1 hy
 ·cases h; exact fun x y hy=>Z58.good hE pv x.1 hy
 ·cases h
theorem Z11.good (hE:EnvOk Tryz.prog envX) (pv:Nat->Value) (k:Nat) (a0:ByteArray) {y:_} (h:Z11.F k a0=some y):Meets Tryz.prog envX pv (.f 158) (tvals [.str] (a0,())) (.t .bool y) :=
 fun_loops hE (t:=Z11.C) k (fun k _=>Z11.G hE pv k) (f:=158) (fn:=Tryz.f158) (by kernel_rfl) rfl (by kernel_rfl) (by kernel_rfl) (lt:=Z11.L) (by kernel_rfl) (fun b A h=>by
  unfold Z11.L at h; split at h
  ·cases h; exact ⟨by kernel_rfl,by kernel_rfl,by kernel_rfl,fun _=>rfl,fun _=>rfl,fun _=>rfl⟩
  ·cases h) (fun b A h=>by
  unfold Z11.L at h; split at h
  ·cases h; exact fun k x=>Z11.step0 k x.1 x.2.1
  ·cases h) ((Z11.run k a0).trans h) (fun r hr=>wk_view1 hr)
def Z62.F (k:Nat) (a0:ByteArray):Option (Bool):=(Z11.F k a0).bind fun r1=>bif r1 then (bif decide (0<=0) then (bif decide (0<(a0.size:Int)) then ((Z53.F (bt a0 (0:Int).toNat)).bind fun r2=>some r2) else none) else none) else (some false)
def Z62.C (k:Nat):Cal->Option CArm:=fun c=>match c with
 | .f 158=>some (.p [.str] _ (fun x=>Z11.F k x.1) (fun r=>(.t .bool r)))
 | .f 88=>some (.p [(.int .u8)] _ (fun x=>Z53.F x.1) (fun r=>(.t .bool r)))
 | _=>none
theorem Z62.run (k:Nat) (a0:ByteArray):runF envX (tabC (Z62.C k)) (tabL 10 0 (fun _=>none)) Tryz.f156 [.t .str a0] (viewR1 (.t .bool))=Z62.F k a0:=by kernel_rfl
theorem Z62.G (hE:EnvOk Tryz.prog envX) (pv:Nat->Value) (k:Nat):∀ cal A,Z62.C k cal=some A->ArmOk Tryz.prog envX pv cal A:=by
 intro cal A h
 unfold Z62.C at h
 split at h
 ·cases h; exact fun x y hy=>Z11.good hE pv k x.1 hy
 ·cases h; exact fun x y hy=>Z53.good hE pv x.1 hy
 ·cases h
theorem Z62.good (hE:EnvOk Tryz.prog envX) (pv:Nat->Value) (k:Nat) (a0:ByteArray) {y:_} (h:Z62.F k a0=some y):Meets Tryz.prog envX pv (.f 156) (tvals [.str] (a0,())) (.t .bool y) :=
 fun_plain hE (Z62.G hE pv k) (f:=156) (fn:=Tryz.f156) (by kernel_rfl) rfl (by kernel_rfl) (by kernel_rfl) ((Z62.run k a0).trans h) (fun r hr=>wk_view1 hr)
def Z73.F (k:Nat) (a0:ByteArray):Option (Bool):=(Z62.F k a0).bind fun r1=>some (!r1)
def Z73.C (k:Nat):Cal->Option CArm:=fun c=>match c with
 | .f 156=>some (.p [.str] _ (fun x=>Z62.F k x.1) (fun r=>(.t .bool r)))
 | _=>none
theorem Z73.run (k:Nat) (a0:ByteArray):runF envX (tabC (Z73.C k)) (tabL 6 0 (fun _=>none)) Tryz.f155 [.t .str a0] (viewR1 (.t .bool))=Z73.F k a0:=by kernel_rfl
theorem Z73.G (hE:EnvOk Tryz.prog envX) (pv:Nat->Value) (k:Nat):∀ cal A,Z73.C k cal=some A->ArmOk Tryz.prog envX pv cal A:=by
 intro cal A h
 unfold Z73.C at h
 split at h
 ·cases h; exact fun x y hy=>Z62.good hE pv k x.1 hy
 ·cases h
theorem Z73.good (hE:EnvOk Tryz.prog envX) (pv:Nat->Value) (k:Nat) (a0:ByteArray) {y:_} (h:Z73.F k a0=some y):Meets Tryz.prog envX pv (.f 155) (tvals [.str] (a0,())) (.t .bool y) :=
 fun_plain hE (Z73.G hE pv k) (f:=155) (fn:=Tryz.f155) (by kernel_rfl) rfl (by kernel_rfl) (by kernel_rfl) ((Z73.run k a0).trans h) (fun r hr=>wk_view1 hr)
def Z109.F (a0:ByteArray) (a1:ByteArray):Option (List ByteArray):=xSplit a0 a1
theorem Z109.good (hE:EnvOk Tryz.prog envX) (pv:Nat->Value) (a0:ByteArray) (a1:ByteArray) {y:_} (h:Z109.F a0 a1=some y):Meets Tryz.prog envX pv (.f 167) (tvals [.str,.str] (a0,a1,())) (.fr 9 .str y) :=
 ext_split (fn:=Tryz.f167) (by kernel_rfl) rfl (by kernel_rfl) (mx:=1) (by kernel_rfl) Tryz.strings_Split h
def Z5.l2:Nat->(List ByteArray)->ByteArray->Int->Int->Int->Option (Sum Bool ((List ByteArray) × Int × Int))
 | 0,_,_,_,_,_=>none
 | k+1,x3,x5,x6,x12,x13=>bif (decide (x6<(x5.size:Int))) then (bif decide (0<=x6) then (bif decide (x6<(x5.size:Int)) then ((Z52.F (bt x5 (x6:Int).toNat)).bind fun r3=>bif (!r3) then (some (.inl false)) else (Z5.l2 k x3 x5 (IntKind.wrap .i64 (x6+1)) x12 x13)) else none) else none) else (some (.inr (x3,x12,x13)))
def Z5.l0:Nat->(List ByteArray)->Int->Int->Option (Sum Bool (List ByteArray))
 | 0,_,_,_=>none
 | k+1,x3,x12,x13=>bif (decide (x13<x12)) then (bif decide (0<=x13) then (bif decide (x13<(x3.length:Int)) then ((Z49.F ((x3.getD ((x13:Int).toNat) (⟨#[]⟩:ByteArray)).size:Int) 1 12).bind fun r2=>bif (!r2) then (some (.inl false)) else ((Z5.l2 k x3 (x3.getD ((x13:Int).toNat) (⟨#[]⟩:ByteArray)) 0 x12 x13).bind fun y4=>match y4 with | .inl z5=>some (.inl z5) | .inr z5=>Z5.l0 k z5.1 z5.2.1 (IntKind.wrap .i64 (z5.2.2+1)))) else none) else none) else (some (.inr x3))
def Z5.F (k:Nat) (a0:ByteArray):Option (Bool):=bif (beqS a0 (⟨#[]⟩:ByteArray)) then (some true) else ((Z109.F a0 (⟨#[32]⟩:ByteArray)).bind fun r1=>(Z5.l0 k r1 (r1.length:Int) 0).bind fun y6=>match y6 with | .inl z7=>some z7 | .inr z7=>some (decide ((z7.length:Int)<=2)))
def Z5.C (k:Nat):Cal->Option CArm:=fun c=>match c with
 | .f 167=>some (.p [.str,.str] _ (fun x=>Z109.F x.1 x.2.1) (fun r=>(.fr 9 .str r)))
 | .f 33=>some (.p [(.int .i64),(.int .i64),(.int .i64)] _ (fun x=>Z49.F x.1 x.2.1 x.2.2.1) (fun r=>(.t .bool r)))
 | .f 124=>some (.p [(.int .u8)] _ (fun x=>Z52.F x.1) (fun r=>(.t .bool r)))
 | _=>none
def Z5.sp2:List Sp:=[.own 3 3076 9 .str false true,.t 5 .str,.t 6 (.int .i64),.con 11 (.own 3076),.t 12 (.int .i64),.t 13 (.int .i64)]
def Z5.sp2_0:List Sp:=[.t 2 .bool]
def Z5.sp2_1:List Sp:=[.own 3 3076 9 .str false true,.con 11 (.own 3076),.t 12 (.int .i64),.t 13 (.int .i64)]
def Z5.A2:LArm:=.two Z5.sp2 Z5.sp2_0 Z5.sp2_1 (Bool) ((List ByteArray) × Int × Int) (fun k x=>Z5.l2 k x.1 x.2.1 x.2.2.1 x.2.2.2.2.1 x.2.2.2.2.2.1) .ret (.exit 2) (fun y=>(y,())) (fun x=>x.1) (fun y=>(y.1,(),y.2.1,y.2.2,())) (fun x=>(x.1,x.2.2.1,x.2.2.2.1))
def Z5.sp0:List Sp:=[.own 3 3076 9 .str false true,.con 11 (.own 3076),.t 12 (.int .i64),.t 13 (.int .i64)]
def Z5.sp0_0:List Sp:=[.t 2 .bool]
def Z5.sp0_1:List Sp:=[.own 3 3076 9 .str false true]
def Z5.A0:LArm:=.two Z5.sp0 Z5.sp0_0 Z5.sp0_1 (Bool) ((List ByteArray)) (fun k x=>Z5.l0 k x.1 x.2.2.1 x.2.2.2.1) .ret (.exit 0) (fun y=>(y,())) (fun x=>x.1) (fun y=>(y,())) (fun x=>x.1)
def Z5.L:Nat->Option LArm:=fun b=>match b with
 | 2=>some Z5.A2
 | 0=>some Z5.A0
 | _=>none
theorem Z5.run (k:Nat) (a0:ByteArray):runF envX (tabC (Z5.C k)) (tabL 36 k Z5.L) Tryz.f157 [.t .str a0] (viewR1 (.t .bool))=Z5.F k a0:=by kernel_rfl
theorem Z5.step2 (k:Nat) (x3:List ByteArray) (x5:ByteArray) (x6:Int) (x12:Int) (x13:Int):runC envX (tabC (Z5.C k)) (tabL 36 k Z5.L) 2 (loopAt Tryz.f157 2) (stOf 36 Z5.sp2 (x3,x5,x6,(),x12,x13,())) (Z5.A2.cont 36 k)=Z5.l2 (k+1) x3 x5 x6 x12 x13:=by kernel_rfl
theorem Z5.step0 (k:Nat) (x3:List ByteArray) (x12:Int) (x13:Int):runC envX (tabC (Z5.C k)) (tabL 36 k Z5.L) 0 (loopAt Tryz.f157 0) (stOf 36 Z5.sp0 (x3,(),x12,x13,())) (Z5.A0.cont 36 k)=Z5.l0 (k+1) x3 x12 x13:=by kernel_rfl
theorem Z5.G (hE:EnvOk Tryz.prog envX) (pv:Nat->Value) (k:Nat):∀ cal A,Z5.C k cal=some A->ArmOk Tryz.prog envX pv cal A:=by
 intro cal A h
 unfold Z5.C at h
 split at h
 ·cases h; exact fun x y hy=>Z109.good hE pv x.1 x.2.1 hy
 ·cases h; exact fun x y hy=>Z49.good hE pv x.1 x.2.1 x.2.2.1 hy
 ·cases h; exact fun x y hy=>Z52.good hE pv x.1 hy
 ·cases h
theorem Z5.good (hE:EnvOk Tryz.prog envX) (pv:Nat->Value) (k:Nat) (a0:ByteArray) {y:_} (h:Z5.F k a0=some y):Meets Tryz.prog envX pv (.f 157) (tvals [.str] (a0,())) (.t .bool y) :=
 fun_loops hE (t:=Z5.C) k (fun k _=>Z5.G hE pv k) (f:=157) (fn:=Tryz.f157) (by kernel_rfl) rfl (by kernel_rfl) (by kernel_rfl) (lt:=Z5.L) (by kernel_rfl) (fun b A h=>by
  unfold Z5.L at h; split at h
  ·cases h; exact ⟨by kernel_rfl,by kernel_rfl,by kernel_rfl,fun _=>rfl,fun _=>rfl,fun _=>rfl⟩
  ·cases h; exact ⟨by kernel_rfl,by kernel_rfl,by kernel_rfl,fun _=>rfl,fun _=>rfl,fun _=>rfl⟩
  ·cases h) (fun b A h=>by
  unfold Z5.L at h; split at h
  ·cases h; exact fun k x=>Z5.step2 k x.1 x.2.1 x.2.2.1 x.2.2.2.2.1 x.2.2.2.2.2.1
  ·cases h; exact fun k x=>Z5.step0 k x.1 x.2.2.1 x.2.2.2.1
  ·cases h) ((Z5.run k a0).trans h) (fun r hr=>wk_view1 hr)
def Z40.l0:Nat->(List ByteArray)->Int->Int->Option (Sum Int Unit)
 | 0,_,_,_=>none
 | k+1,x0,x7,x8=>bif (decide (x8<x7)) then (bif decide (0<=x8) then (bif decide (x8<(x0.length:Int)) then ((Z73.F k (x0.getD (x8:Int).toNat (⟨#[]⟩:ByteArray))).bind fun r1=>bif r1 then (some (.inl x8)) else (Z40.l0 k x0 x7 (IntKind.wrap .i64 (x8+1)))) else none) else none) else (some (.inr ()))
def Z40.F (k:Nat) (a0:List ByteArray):Option (Int):=(Z40.l0 k a0 (a0.length:Int) 0).bind fun y2=>match y2 with | .inl z3=>some z3 | .inr z3=>some (-1)
def Z40.C (k:Nat):Cal->Option CArm:=fun c=>match c with
 | .f 155=>some (.p [.str] _ (fun x=>Z73.F k x.1) (fun r=>(.t .bool r)))
 | _=>none
def Z40.sp0:List Sp:=[.t 0 (.sl .str),.con 1 (.clo 155),.t 7 (.int .i64),.t 8 (.int .i64)]
def Z40.sp0_0:List Sp:=[.t 4 (.int .i64)]
def Z40.sp0_1:List Sp:=[]
def Z40.A0:LArm:=.two Z40.sp0 Z40.sp0_0 Z40.sp0_1 (Int) (Unit) (fun k x=>Z40.l0 k x.1 x.2.2.1 x.2.2.2.1) .ret (.exit 0) (fun y=>(y,())) (fun x=>x.1) (fun y=>()) (fun x=>())
def Z40.L:Nat->Option LArm:=fun b=>match b with
 | 0=>some Z40.A0
 | _=>none
theorem Z40.run (k:Nat) (a0:List ByteArray):runF envX (tabC (Z40.C k)) (tabL 19 k Z40.L) Tryz.f181 [.t (.sl .str) a0,.clo 155 []] (viewR1 (.t (.int .i64)))=Z40.F k a0:=by kernel_rfl
theorem Z40.step0 (k:Nat) (x0:List ByteArray) (x7:Int) (x8:Int):runC envX (tabC (Z40.C k)) (tabL 19 k Z40.L) 0 (loopAt Tryz.f181 0) (stOf 19 Z40.sp0 (x0,(),x7,x8,())) (Z40.A0.cont 19 k)=Z40.l0 (k+1) x0 x7 x8:=by kernel_rfl
theorem Z40.G (hE:EnvOk Tryz.prog envX) (pv:Nat->Value) (k:Nat):∀ cal A,Z40.C k cal=some A->ArmOk Tryz.prog envX pv cal A:=by
 intro cal A h
 unfold Z40.C at h
 split at h
 ·cases h; exact fun x y hy=>Z73.good hE pv k x.1 hy
 ·cases h
theorem Z40.good (hE:EnvOk Tryz.prog envX) (pv:Nat->Value) (k:Nat) (a0:List ByteArray) {y:_} (h:Z40.F k a0=some y):Meets Tryz.prog envX pv (.f 181) (pvals [.t (.sl .str),.clo 155 []] (a0,(()),())) (.t (.int .i64) y) :=
 fun_loops hE (t:=Z40.C) k (fun k _=>Z40.G hE pv k) (f:=181) (fn:=Tryz.f181) (by kernel_rfl) rfl (by kernel_rfl) (by kernel_rfl) (lt:=Z40.L) (by kernel_rfl) (fun b A h=>by
  unfold Z40.L at h; split at h
  ·cases h; exact ⟨by kernel_rfl,by kernel_rfl,by kernel_rfl,fun _=>rfl,fun _=>rfl,fun _=>rfl⟩
  ·cases h) (fun b A h=>by
  unfold Z40.L at h; split at h
  ·cases h; exact fun k x=>Z40.step0 k x.1 x.2.2.1 x.2.2.2.1
  ·cases h) ((Z40.run k a0).trans h) (fun r hr=>wk_view1 hr)
def Z103.F (k:Nat) (a0:List ByteArray):Option (Bool):=(Z40.F k a0).bind fun r1=>some (decide (r1 ≥ 0))
def Z103.C (k:Nat):Cal->Option CArm:=fun c=>match c with
 | .f 181=>some (.q [.t (.sl .str),.clo 155 []] _ (fun x=>Z40.F k x.1) (fun r=>(.t (.int .i64) r)))
 | _=>none
theorem Z103.run (k:Nat) (a0:List ByteArray):runF envX (tabC (Z103.C k)) (tabL 9 0 (fun _=>none)) Tryz.f154 [.t (.sl .str) a0,.clo 155 []] (viewR1 (.t .bool))=Z103.F k a0:=by kernel_rfl
theorem Z103.G (hE:EnvOk Tryz.prog envX) (pv:Nat->Value) (k:Nat):∀ cal A,Z103.C k cal=some A->ArmOk Tryz.prog envX pv cal A:=by
 intro cal A h
 unfold Z103.C at h
 split at h
 ·cases h; exact fun x y hy=>Z40.good hE pv k x.1 hy
 ·cases h
theorem Z103.good (hE:EnvOk Tryz.prog envX) (pv:Nat->Value) (k:Nat) (a0:List ByteArray) {y:_} (h:Z103.F k a0=some y):Meets Tryz.prog envX pv (.f 154) (pvals [.t (.sl .str),.clo 155 []] (a0,(()),())) (.t .bool y) :=
 fun_plain hE (Z103.G hE pv k) (f:=154) (fn:=Tryz.f154) (by kernel_rfl) rfl (by kernel_rfl) (by kernel_rfl) ((Z103.run k a0).trans h) (fun r hr=>wk_view1 hr)
def Z92.F (k:Nat) (a0:Name):Option (Bool):=bif (decide ((a0.given.length:Int) > 3)) then (some false) else ((Z103.F k a0.given).bind fun r1=>bif r1 then (some false) else ((Z5.F k a0.particle).bind fun r2=>bif r2 then ((Z62.F k a0.family).bind fun r3=>bif r3 then (bif (beqS a0.suffix (⟨#[]⟩:ByteArray)) then (some true) else ((Z11.F k a0.suffix).bind fun r4=>some r4)) else (some false)) else (some false)))
def Z92.C (k:Nat):Cal->Option CArm:=fun c=>match c with
 | .f 154=>some (.q [.t (.sl .str),.clo 155 []] _ (fun x=>Z103.F k x.1) (fun r=>(.t .bool r)))
 | .f 157=>some (.p [.str] _ (fun x=>Z5.F k x.1) (fun r=>(.t .bool r)))
 | .f 156=>some (.p [.str] _ (fun x=>Z62.F k x.1) (fun r=>(.t .bool r)))
 | .f 158=>some (.p [.str] _ (fun x=>Z11.F k x.1) (fun r=>(.t .bool r)))
 | _=>none
theorem Z92.run (k:Nat) (a0:Name):runF envX (tabC (Z92.C k)) (tabL 30 0 (fun _=>none)) Tryz.f128 [.t .name a0] (viewR1 (.t .bool))=Z92.F k a0:=by kernel_rfl
theorem Z92.G (hE:EnvOk Tryz.prog envX) (pv:Nat->Value) (k:Nat):∀ cal A,Z92.C k cal=some A->ArmOk Tryz.prog envX pv cal A:=by
 intro cal A h
 unfold Z92.C at h
 split at h
 ·cases h; exact fun x y hy=>Z103.good hE pv k x.1 hy
 ·cases h; exact fun x y hy=>Z5.good hE pv k x.1 hy
 ·cases h; exact fun x y hy=>Z62.good hE pv k x.1 hy
 ·cases h; exact fun x y hy=>Z11.good hE pv k x.1 hy
 ·cases h
theorem Z92.good (hE:EnvOk Tryz.prog envX) (pv:Nat->Value) (k:Nat) (a0:Name) {y:_} (h:Z92.F k a0=some y):Meets Tryz.prog envX pv (.f 128) (tvals [.name] (a0,())) (.t .bool y) :=
 fun_plain hE (Z92.G hE pv k) (f:=128) (fn:=Tryz.f128) (by kernel_rfl) rfl (by kernel_rfl) (by kernel_rfl) ((Z92.run k a0).trans h) (fun r hr=>wk_view1 hr)
def Z74.F (k:Nat) (a0:Name):Option (Bool):=(Z92.F k a0).bind fun r1=>some (!r1)
def Z74.C (k:Nat):Cal->Option CArm:=fun c=>match c with
 | .f 128=>some (.p [.name] _ (fun x=>Z92.F k x.1) (fun r=>(.t .bool r)))
 | _=>none
theorem Z74.run (k:Nat) (a0:Name):runF envX (tabC (Z74.C k)) (tabL 6 0 (fun _=>none)) Tryz.f127 [.t .name a0] (viewR1 (.t .bool))=Z74.F k a0:=by kernel_rfl
theorem Z74.G (hE:EnvOk Tryz.prog envX) (pv:Nat->Value) (k:Nat):∀ cal A,Z74.C k cal=some A->ArmOk Tryz.prog envX pv cal A:=by
 intro cal A h
 unfold Z74.C at h
 split at h
 ·cases h; exact fun x y hy=>Z92.good hE pv k x.1 hy
 ·cases h
theorem Z74.good (hE:EnvOk Tryz.prog envX) (pv:Nat->Value) (k:Nat) (a0:Name) {y:_} (h:Z74.F k a0=some y):Meets Tryz.prog envX pv (.f 127) (tvals [.name] (a0,())) (.t .bool y) :=
 fun_plain hE (Z74.G hE pv k) (f:=127) (fn:=Tryz.f127) (by kernel_rfl) rfl (by kernel_rfl) (by kernel_rfl) ((Z74.run k a0).trans h) (fun r hr=>wk_view1 hr)
def Z41.l0:Nat->(List Name)->Int->Int->Option (Sum Int Unit)
 | 0,_,_,_=>none
 | k+1,x0,x7,x8=>bif (decide (x8<x7)) then (bif decide (0<=x8) then (bif decide (x8<(x0.length:Int)) then ((Z74.F k (x0.getD (x8:Int).toNat (dflt .name))).bind fun r1=>bif r1 then (some (.inl x8)) else (Z41.l0 k x0 x7 (IntKind.wrap .i64 (x8+1)))) else none) else none) else (some (.inr ()))
def Z41.F (k:Nat) (a0:List Name):Option (Int):=(Z41.l0 k a0 (a0.length:Int) 0).bind fun y2=>match y2 with | .inl z3=>some z3 | .inr z3=>some (-1)
def Z41.C (k:Nat):Cal->Option CArm:=fun c=>match c with
 | .f 127=>some (.p [.name] _ (fun x=>Z74.F k x.1) (fun r=>(.t .bool r)))
 | _=>none
def Z41.sp0:List Sp:=[.t 0 (.sl .name),.con 1 (.clo 127),.t 7 (.int .i64),.t 8 (.int .i64)]
def Z41.sp0_0:List Sp:=[.t 4 (.int .i64)]
def Z41.sp0_1:List Sp:=[]
def Z41.A0:LArm:=.two Z41.sp0 Z41.sp0_0 Z41.sp0_1 (Int) (Unit) (fun k x=>Z41.l0 k x.1 x.2.2.1 x.2.2.2.1) .ret (.exit 0) (fun y=>(y,())) (fun x=>x.1) (fun y=>()) (fun x=>())
def Z41.L:Nat->Option LArm:=fun b=>match b with
 | 0=>some Z41.A0
 | _=>none
theorem Z41.run (k:Nat) (a0:List Name):runF envX (tabC (Z41.C k)) (tabL 19 k Z41.L) Tryz.f153 [.t (.sl .name) a0,.clo 127 []] (viewR1 (.t (.int .i64)))=Z41.F k a0:=by kernel_rfl
theorem Z41.step0 (k:Nat) (x0:List Name) (x7:Int) (x8:Int):runC envX (tabC (Z41.C k)) (tabL 19 k Z41.L) 0 (loopAt Tryz.f153 0) (stOf 19 Z41.sp0 (x0,(),x7,x8,())) (Z41.A0.cont 19 k)=Z41.l0 (k+1) x0 x7 x8:=by kernel_rfl
theorem Z41.G (hE:EnvOk Tryz.prog envX) (pv:Nat->Value) (k:Nat):∀ cal A,Z41.C k cal=some A->ArmOk Tryz.prog envX pv cal A:=by
 intro cal A h
 unfold Z41.C at h
 split at h
 ·cases h; exact fun x y hy=>Z74.good hE pv k x.1 hy
 ·cases h
theorem Z41.good (hE:EnvOk Tryz.prog envX) (pv:Nat->Value) (k:Nat) (a0:List Name) {y:_} (h:Z41.F k a0=some y):Meets Tryz.prog envX pv (.f 153) (pvals [.t (.sl .name),.clo 127 []] (a0,(()),())) (.t (.int .i64) y) :=
 fun_loops hE (t:=Z41.C) k (fun k _=>Z41.G hE pv k) (f:=153) (fn:=Tryz.f153) (by kernel_rfl) rfl (by kernel_rfl) (by kernel_rfl) (lt:=Z41.L) (by kernel_rfl) (fun b A h=>by
  unfold Z41.L at h; split at h
  ·cases h; exact ⟨by kernel_rfl,by kernel_rfl,by kernel_rfl,fun _=>rfl,fun _=>rfl,fun _=>rfl⟩
  ·cases h) (fun b A h=>by
  unfold Z41.L at h; split at h
  ·cases h; exact fun k x=>Z41.step0 k x.1 x.2.2.1 x.2.2.2.1
  ·cases h) ((Z41.run k a0).trans h) (fun r hr=>wk_view1 hr)
def Z104.F (k:Nat) (a0:List Name):Option (Bool):=(Z41.F k a0).bind fun r1=>some (decide (r1 ≥ 0))
def Z104.C (k:Nat):Cal->Option CArm:=fun c=>match c with
 | .f 153=>some (.q [.t (.sl .name),.clo 127 []] _ (fun x=>Z41.F k x.1) (fun r=>(.t (.int .i64) r)))
 | _=>none
theorem Z104.run (k:Nat) (a0:List Name):runF envX (tabC (Z104.C k)) (tabL 9 0 (fun _=>none)) Tryz.f126 [.t (.sl .name) a0,.clo 127 []] (viewR1 (.t .bool))=Z104.F k a0:=by kernel_rfl
theorem Z104.G (hE:EnvOk Tryz.prog envX) (pv:Nat->Value) (k:Nat):∀ cal A,Z104.C k cal=some A->ArmOk Tryz.prog envX pv cal A:=by
 intro cal A h
 unfold Z104.C at h
 split at h
 ·cases h; exact fun x y hy=>Z41.good hE pv k x.1 hy
 ·cases h
theorem Z104.good (hE:EnvOk Tryz.prog envX) (pv:Nat->Value) (k:Nat) (a0:List Name) {y:_} (h:Z104.F k a0=some y):Meets Tryz.prog envX pv (.f 126) (pvals [.t (.sl .name),.clo 127 []] (a0,(()),())) (.t .bool y) :=
 fun_plain hE (Z104.G hE pv k) (f:=126) (fn:=Tryz.f126) (by kernel_rfl) rfl (by kernel_rfl) (by kernel_rfl) ((Z104.run k a0).trans h) (fun r hr=>wk_view1 hr)
def Z75.F (k:Nat) (a0:List Name):Option (Bool):=bif (decide ((a0.length:Int)<=4)) then ((Z104.F k a0).bind fun r1=>some (!r1)) else (some false)
def Z75.C (k:Nat):Cal->Option CArm:=fun c=>match c with
 | .f 126=>some (.q [.t (.sl .name),.clo 127 []] _ (fun x=>Z104.F k x.1) (fun r=>(.t .bool r)))
 | _=>none
theorem Z75.run (k:Nat) (a0:List Name):runF envX (tabC (Z75.C k)) (tabL 11 0 (fun _=>none)) Tryz.f81 [.t (.sl .name) a0] (viewR1 (.t .bool))=Z75.F k a0:=by kernel_rfl
theorem Z75.G (hE:EnvOk Tryz.prog envX) (pv:Nat->Value) (k:Nat):∀ cal A,Z75.C k cal=some A->ArmOk Tryz.prog envX pv cal A:=by
 intro cal A h
 unfold Z75.C at h
 split at h
 ·cases h; exact fun x y hy=>Z104.good hE pv k x.1 hy
 ·cases h
theorem Z75.good (hE:EnvOk Tryz.prog envX) (pv:Nat->Value) (k:Nat) (a0:List Name) {y:_} (h:Z75.F k a0=some y):Meets Tryz.prog envX pv (.f 81) (tvals [(.sl .name)] (a0,())) (.t .bool y) :=
 fun_plain hE (Z75.G hE pv k) (f:=81) (fn:=Tryz.f81) (by kernel_rfl) rfl (by kernel_rfl) (by kernel_rfl) ((Z75.run k a0).trans h) (fun r hr=>wk_view1 hr)
def Z76.F (a0:Int) (a1:Int):Option (Int):=bif (a1==2) then (bif (4==0) then (none) else (bif ((Int.tmod a0 4)==0) then (bif (100==0) then (none) else (bif ((Int.tmod a0 100) != 0) then (some 29) else (bif (400==0) then (none) else (bif ((Int.tmod a0 400)==0) then (some 29) else (some 28))))) else (some 28))) else (bif (a1==4) then (bif (a1==4) then (some 30) else (some 31)) else (bif (a1==6) then (bif (a1==6) then (some 30) else (some 31)) else (bif (a1==9) then (bif (a1==9) then (some 30) else (some 31)) else (bif (a1==11) then (some 30) else (some 31)))))
def Z76.C:Cal->Option CArm:=fun c=>match c with
 | _=>none
theorem Z76.run (a0:Int) (a1:Int):runF envX (tabC Z76.C) (tabL 26 0 (fun _=>none)) Tryz.f129 [.t (.int .i64) a0,.t (.int .i64) a1] (viewR1 (.t (.int .i64)))=Z76.F a0 a1:=by kernel_rfl
theorem Z76.G (hE:EnvOk Tryz.prog envX) (pv:Nat->Value):∀ cal A,Z76.C cal=some A->ArmOk Tryz.prog envX pv cal A:=by
 intro cal A h
 unfold Z76.C at h
 cases h
theorem Z76.good (hE:EnvOk Tryz.prog envX) (pv:Nat->Value) (a0:Int) (a1:Int) {y:_} (h:Z76.F a0 a1=some y):Meets Tryz.prog envX pv (.f 129) (tvals [(.int .i64),(.int .i64)] (a0,a1,())) (.t (.int .i64) y) :=
 fun_plain hE (Z76.G hE pv) (f:=129) (fn:=Tryz.f129) (by kernel_rfl) rfl (by kernel_rfl) (by kernel_rfl) ((Z76.run a0 a1).trans h) (fun r hr=>wk_view1 hr)
def Z77.F (a0:Date):Option (Bool):=bif ((a0.y==0 && (a0.m==0 && (a0.d==0 && a0.c==false)))) then (some true) else ((Z49.F a0.y 1 2999).bind fun r1=>bif (!r1) then (some false) else ((Z49.F a0.m 0 12).bind fun r2=>bif (!r2) then (some false) else (bif a0.c then (bif (a0.m != 0) then (some false) else (bif (a0.m==0) then (some (a0.d==0)) else ((Z76.F a0.y a0.m).bind fun r3=>(Z49.F a0.d 0 r3).bind fun r4=>some r4))) else (bif (a0.m==0) then (some (a0.d==0)) else ((Z76.F a0.y a0.m).bind fun r5=>(Z49.F a0.d 0 r5).bind fun r6=>some r6)))))
def Z77.C:Cal->Option CArm:=fun c=>match c with
 | .f 33=>some (.p [(.int .i64),(.int .i64),(.int .i64)] _ (fun x=>Z49.F x.1 x.2.1 x.2.2.1) (fun r=>(.t .bool r)))
 | .f 129=>some (.p [(.int .i64),(.int .i64)] _ (fun x=>Z76.F x.1 x.2.1) (fun r=>(.t (.int .i64) r)))
 | _=>none
theorem Z77.run (a0:Date):runF envX (tabC Z77.C) (tabL 39 0 (fun _=>none)) Tryz.f82 [.t .date a0] (viewR1 (.t .bool))=Z77.F a0:=by kernel_rfl
theorem Z77.G (hE:EnvOk Tryz.prog envX) (pv:Nat->Value):∀ cal A,Z77.C cal=some A->ArmOk Tryz.prog envX pv cal A:=by
 intro cal A h
 unfold Z77.C at h
 split at h
 ·cases h; exact fun x y hy=>Z49.good hE pv x.1 x.2.1 x.2.2.1 hy
 ·cases h; exact fun x y hy=>Z76.good hE pv x.1 x.2.1 hy
 ·cases h
theorem Z77.good (hE:EnvOk Tryz.prog envX) (pv:Nat->Value) (a0:Date) {y:_} (h:Z77.F a0=some y):Meets Tryz.prog envX pv (.f 82) (tvals [.date] (a0,())) (.t .bool y) :=
 fun_plain hE (Z77.G hE pv) (f:=82) (fn:=Tryz.f82) (by kernel_rfl) rfl (by kernel_rfl) (by kernel_rfl) ((Z77.run a0).trans h) (fun r hr=>wk_view1 hr)
def Z78.F (k:Nat) (a0:Entry):Option (Bool):=(Z13.F k a0.key).bind fun r1=>bif (!r1) then (some false) else ((Z102.F a0.kind).bind fun r2=>bif (!r2) then (some false) else ((Z75.F k a0.authors).bind fun r3=>bif (!r3) then (some false) else ((Z75.F k a0.editors).bind fun r4=>bif (!r4) then (some false) else ((Z77.F a0.date).bind fun r5=>bif (!r5) then (some false) else ((Z49.F a0.volume 0 9999).bind fun r6=>bif (!r6) then (some false) else ((Z61.F k a0.title).bind fun r7=>bif r7 then ((Z61.F k a0.container).bind fun r8=>bif r8 then ((Z61.F k a0.publisher).bind fun r9=>bif r9 then ((Z61.F k a0.pages).bind fun r10=>bif r10 then (bif (beqS a0.cross (⟨#[]⟩:ByteArray)) then (some true) else ((Z13.F k a0.cross).bind fun r11=>bif r11 then (some (!beqS a0.cross a0.key)) else (some false))) else (some false)) else (some false)) else (some false)) else (some false)))))))
def Z78.C (k:Nat):Cal->Option CArm:=fun c=>match c with
 | .f 79=>some (.p [.str] _ (fun x=>Z13.F k x.1) (fun r=>(.t .bool r)))
 | .f 80=>some (.p [(.int .i64)] _ (fun x=>Z102.F x.1) (fun r=>(.t .bool r)))
 | .f 81=>some (.p [(.sl .name)] _ (fun x=>Z75.F k x.1) (fun r=>(.t .bool r)))
 | .f 82=>some (.p [.date] _ (fun x=>Z77.F x.1) (fun r=>(.t .bool r)))
 | .f 33=>some (.p [(.int .i64),(.int .i64),(.int .i64)] _ (fun x=>Z49.F x.1 x.2.1 x.2.2.1) (fun r=>(.t .bool r)))
 | .f 64=>some (.p [.str] _ (fun x=>Z61.F k x.1) (fun r=>(.t .bool r)))
 | _=>none
theorem Z78.run (k:Nat) (a0:Entry):runF envX (tabC (Z78.C k)) (tabL 72 0 (fun _=>none)) Tryz.f45 [.t .entry a0] (viewR1 (.t .bool))=Z78.F k a0:=by kernel_rfl
theorem Z78.G (hE:EnvOk Tryz.prog envX) (pv:Nat->Value) (k:Nat):∀ cal A,Z78.C k cal=some A->ArmOk Tryz.prog envX pv cal A:=by
 intro cal A h
 unfold Z78.C at h
 split at h
 ·cases h; exact fun x y hy=>Z13.good hE pv k x.1 hy
 ·cases h; exact fun x y hy=>Z102.good hE pv x.1 hy
 ·cases h; exact fun x y hy=>Z75.good hE pv k x.1 hy
 ·cases h; exact fun x y hy=>Z77.good hE pv x.1 hy
 ·cases h; exact fun x y hy=>Z49.good hE pv x.1 x.2.1 x.2.2.1 hy
 ·cases h; exact fun x y hy=>Z61.good hE pv k x.1 hy
 ·cases h
theorem Z78.good (hE:EnvOk Tryz.prog envX) (pv:Nat->Value) (k:Nat) (a0:Entry) {y:_} (h:Z78.F k a0=some y):Meets Tryz.prog envX pv (.f 45) (tvals [.entry] (a0,())) (.t .bool y) :=
 fun_plain hE (Z78.G hE pv k) (f:=45) (fn:=Tryz.f45) (by kernel_rfl) rfl (by kernel_rfl) (by kernel_rfl) ((Z78.run k a0).trans h) (fun r hr=>wk_view1 hr)
def Z14.l0:Nat->Library->(List Entry)->Int->Int->Option (Sum Bool Library)
 | 0,_,_,_,_=>none
 | k+1,x1,x6,x7,x8=>bif (decide (x8<x7)) then (bif decide (0<=x8) then (bif decide (x8<(x6.length:Int)) then ((Z78.F k (x6.getD (x8:Int).toNat (dflt .entry))).bind fun r1=>bif (!r1) then (some (.inl false)) else (bif (decide (x8 > 0)) then (bif decide (0<=(IntKind.wrap .i64 (x8-1))) then (bif decide ((IntKind.wrap .i64 (x8-1))<(x1.entries.length:Int)) then (bif (!ltS ((x1.entries.getD ((IntKind.wrap .i64 (x8-1)):Int).toNat (dflt .entry)).key) ((x6.getD (x8:Int).toNat (dflt .entry)).key)) then (some (.inl false)) else (Z14.l0 k x1 x6 x7 (IntKind.wrap .i64 (x8+1)))) else none) else none) else (Z14.l0 k x1 x6 x7 (IntKind.wrap .i64 (x8+1))))) else none) else none) else (some (.inr x1))
def Z14.F (k:Nat) (a0:Library):Option (Bool):=(Z14.l0 k a0 a0.entries (a0.entries.length:Int) 0).bind fun y2=>match y2 with | .inl z3=>some z3 | .inr z3=>some (decide ((z3.entries.length:Int)<=8))
def Z14.C (k:Nat):Cal->Option CArm:=fun c=>match c with
 | .f 45=>some (.p [.entry] _ (fun x=>Z78.F k x.1) (fun r=>(.t .bool r)))
 | _=>none
def Z14.sp0:List Sp:=[.boxT 1 0 .lib,.t 6 (.sl .entry),.t 7 (.int .i64),.t 8 (.int .i64)]
def Z14.sp0_0:List Sp:=[.t 2 .bool]
def Z14.sp0_1:List Sp:=[.boxT 1 0 .lib]
def Z14.A0:LArm:=.two Z14.sp0 Z14.sp0_0 Z14.sp0_1 (Bool) (Library) (fun k x=>Z14.l0 k x.1 x.2.1 x.2.2.1 x.2.2.2.1) .ret (.exit 0) (fun y=>(y,())) (fun x=>x.1) (fun y=>(y,())) (fun x=>x.1)
def Z14.L:Nat->Option LArm:=fun b=>match b with
 | 0=>some Z14.A0
 | _=>none
theorem Z14.run (k:Nat) (a0:Library):runF envX (tabC (Z14.C k)) (tabL 37 k Z14.L) Tryz.f32 [.t .lib a0] (viewR1 (.t .bool))=Z14.F k a0:=by kernel_rfl
theorem Z14.step0 (k:Nat) (x1:Library) (x6:List Entry) (x7:Int) (x8:Int):runC envX (tabC (Z14.C k)) (tabL 37 k Z14.L) 0 (loopAt Tryz.f32 0) (stOf 37 Z14.sp0 (x1,x6,x7,x8,())) (Z14.A0.cont 37 k)=Z14.l0 (k+1) x1 x6 x7 x8:=by kernel_rfl
theorem Z14.G (hE:EnvOk Tryz.prog envX) (pv:Nat->Value) (k:Nat):∀ cal A,Z14.C k cal=some A->ArmOk Tryz.prog envX pv cal A:=by
 intro cal A h
 unfold Z14.C at h
 split at h
 ·cases h; exact fun x y hy=>Z78.good hE pv k x.1 hy
 ·cases h
theorem Z14.good (hE:EnvOk Tryz.prog envX) (pv:Nat->Value) (k:Nat) (a0:Library) {y:_} (h:Z14.F k a0=some y):Meets Tryz.prog envX pv (.f 32) (tvals [.lib] (a0,())) (.t .bool y) :=
 fun_loops hE (t:=Z14.C) k (fun k _=>Z14.G hE pv k) (f:=32) (fn:=Tryz.f32) (by kernel_rfl) rfl (by kernel_rfl) (by kernel_rfl) (lt:=Z14.L) (by kernel_rfl) (fun b A h=>by
  unfold Z14.L at h; split at h
  ·cases h; exact ⟨by kernel_rfl,by kernel_rfl,by kernel_rfl,fun _=>rfl,fun _=>rfl,fun _=>rfl⟩
  ·cases h) (fun b A h=>by
  unfold Z14.L at h; split at h
  ·cases h; exact fun k x=>Z14.step0 k x.1 x.2.1 x.2.2.1 x.2.2.2.1
  ·cases h) ((Z14.run k a0).trans h) (fun r hr=>wk_view1 hr)
def Z32.l0:Nat->(List Int)->Int->Int->Int->Option (Sum Int Unit)
 | 0,_,_,_,_=>none
 | k+1,x0,x1,x7,x8=>bif (decide (x8<x7)) then (bif decide (0<=x8) then (bif decide (x8<(x0.length:Int)) then (bif (x1==(x0.getD (x8:Int).toNat 0)) then (some (.inl x8)) else (Z32.l0 k x0 x1 x7 (IntKind.wrap .i64 (x8+1)))) else none) else none) else (some (.inr ()))
def Z32.F (k:Nat) (a0:List Int) (a1:Int):Option (Int):=(Z32.l0 k a0 a1 (a0.length:Int) 0).bind fun y1=>match y1 with | .inl z2=>some z2 | .inr z2=>some (-1)
def Z32.C (k:Nat):Cal->Option CArm:=fun c=>match c with
 | _=>none
def Z32.sp0:List Sp:=[.t 0 (.sl (.int .i64)),.t 1 (.int .i64),.t 7 (.int .i64),.t 8 (.int .i64)]
def Z32.sp0_0:List Sp:=[.t 4 (.int .i64)]
def Z32.sp0_1:List Sp:=[]
def Z32.A0:LArm:=.two Z32.sp0 Z32.sp0_0 Z32.sp0_1 (Int) (Unit) (fun k x=>Z32.l0 k x.1 x.2.1 x.2.2.1 x.2.2.2.1) .ret (.exit 0) (fun y=>(y,())) (fun x=>x.1) (fun y=>()) (fun x=>())
def Z32.L:Nat->Option LArm:=fun b=>match b with
 | 0=>some Z32.A0
 | _=>none
theorem Z32.run (k:Nat) (a0:List Int) (a1:Int):runF envX (tabC (Z32.C k)) (tabL 19 k Z32.L) Tryz.f69 [.t (.sl (.int .i64)) a0,.t (.int .i64) a1] (viewR1 (.t (.int .i64)))=Z32.F k a0 a1:=by kernel_rfl
theorem Z32.step0 (k:Nat) (x0:List Int) (x1:Int) (x7:Int) (x8:Int):runC envX (tabC (Z32.C k)) (tabL 19 k Z32.L) 0 (loopAt Tryz.f69 0) (stOf 19 Z32.sp0 (x0,x1,x7,x8,())) (Z32.A0.cont 19 k)=Z32.l0 (k+1) x0 x1 x7 x8:=by kernel_rfl
theorem Z32.G (hE:EnvOk Tryz.prog envX) (pv:Nat->Value) (k:Nat):∀ cal A,Z32.C k cal=some A->ArmOk Tryz.prog envX pv cal A:=by
 intro cal A h
 unfold Z32.C at h
 cases h
theorem Z32.good (hE:EnvOk Tryz.prog envX) (pv:Nat->Value) (k:Nat) (a0:List Int) (a1:Int) {y:_} (h:Z32.F k a0 a1=some y):Meets Tryz.prog envX pv (.f 69) (tvals [(.sl (.int .i64)),(.int .i64)] (a0,a1,())) (.t (.int .i64) y) :=
 fun_loops hE (t:=Z32.C) k (fun k _=>Z32.G hE pv k) (f:=69) (fn:=Tryz.f69) (by kernel_rfl) rfl (by kernel_rfl) (by kernel_rfl) (lt:=Z32.L) (by kernel_rfl) (fun b A h=>by
  unfold Z32.L at h; split at h
  ·cases h; exact ⟨by kernel_rfl,by kernel_rfl,by kernel_rfl,fun _=>rfl,fun _=>rfl,fun _=>rfl⟩
  ·cases h) (fun b A h=>by
  unfold Z32.L at h; split at h
  ·cases h; exact fun k x=>Z32.step0 k x.1 x.2.1 x.2.2.1 x.2.2.2.1
  ·cases h) ((Z32.run k a0 a1).trans h) (fun r hr=>wk_view1 hr)
def Z69.F (k:Nat) (a0:List Int) (a1:Int):Option (Bool):=(Z32.F k a0 a1).bind fun r1=>some (decide (r1 ≥ 0))
def Z69.C (k:Nat):Cal->Option CArm:=fun c=>match c with
 | .f 69=>some (.p [(.sl (.int .i64)),(.int .i64)] _ (fun x=>Z32.F k x.1 x.2.1) (fun r=>(.t (.int .i64) r)))
 | _=>none
theorem Z69.run (k:Nat) (a0:List Int) (a1:Int):runF envX (tabC (Z69.C k)) (tabL 9 0 (fun _=>none)) Tryz.f34 [.t (.sl (.int .i64)) a0,.t (.int .i64) a1] (viewR1 (.t .bool))=Z69.F k a0 a1:=by kernel_rfl
theorem Z69.G (hE:EnvOk Tryz.prog envX) (pv:Nat->Value) (k:Nat):∀ cal A,Z69.C k cal=some A->ArmOk Tryz.prog envX pv cal A:=by
 intro cal A h
 unfold Z69.C at h
 split at h
 ·cases h; exact fun x y hy=>Z32.good hE pv k x.1 x.2.1 hy
 ·cases h
theorem Z69.good (hE:EnvOk Tryz.prog envX) (pv:Nat->Value) (k:Nat) (a0:List Int) (a1:Int) {y:_} (h:Z69.F k a0 a1=some y):Meets Tryz.prog envX pv (.f 34) (tvals [(.sl (.int .i64)),(.int .i64)] (a0,a1,())) (.t .bool y) :=
 fun_plain hE (Z69.G hE pv k) (f:=34) (fn:=Tryz.f34) (by kernel_rfl) rfl (by kernel_rfl) (by kernel_rfl) ((Z69.run k a0 a1).trans h) (fun r hr=>wk_view1 hr)
def Z37.l0:Nat->(List Int)->Int->Int->Option ((List Int))
 | 0,_,_,_=>none
 | k+1,x3,x9,x10=>bif (decide (x10<x9)) then (bif decide (0<=x10) then (bif decide (x10<(x3.length:Int)) then ((Z53.F (x3.getD ((x10:Int).toNat) 0)).bind fun r1=>bif r1 then (bif decide (0<=x10) then (bif decide (x10<(x3.length:Int)) then (Z37.l0 k (x3.set ((x10:Int).toNat) (IntKind.wrap .u8 ((IntKind.wrap .u8 ((x3.getD ((x10:Int).toNat) 0)+97))-65))) x9 (IntKind.wrap .i64 (x10+1))) else none) else none) else (Z37.l0 k x3 x9 (IntKind.wrap .i64 (x10+1)))) else none) else none) else (some x3)
def Z37.F (k:Nat) (a0:ByteArray):Option (ByteArray):=bif Nat.ble a0.size 9223372036854775807 then ((Z37.l0 k (bytesL a0) ((bytesL a0).length:Int) 0).bind fun y2=>some (strL y2)) else none
def Z37.C (k:Nat):Cal->Option CArm:=fun c=>match c with
 | .f 88=>some (.p [(.int .u8)] _ (fun x=>Z53.F x.1) (fun r=>(.t .bool r)))
 | _=>none
def Z37.sp0:List Sp:=[.own 3 1028 5 (.int .u8) false false,.con 8 (.own 1028),.t 9 (.int .i64),.t 10 (.int .i64)]
def Z37.sp0_0:List Sp:=[.own 3 1028 5 (.int .u8) false false]
def Z37.A0:LArm:=.one Z37.sp0 Z37.sp0_0 ((List Int)) (fun k x=>Z37.l0 k x.1 x.2.2.1 x.2.2.2.1) (.exit 0) (fun y=>(y,())) (fun x=>x.1)
def Z37.L:Nat->Option LArm:=fun b=>match b with
 | 0=>some Z37.A0
 | _=>none
theorem Z37.run (k:Nat) (a0:ByteArray):runF envX (tabC (Z37.C k)) (tabL 26 k Z37.L) Tryz.f52 [.t .str a0] (viewR1 (.t .str))=Z37.F k a0:=by kernel_rfl
theorem Z37.step0 (k:Nat) (x3:List Int) (x9:Int) (x10:Int):runC envX (tabC (Z37.C k)) (tabL 26 k Z37.L) 0 (loopAt Tryz.f52 0) (stOf 26 Z37.sp0 (x3,(),x9,x10,())) (Z37.A0.cont 26 k)=Z37.l0 (k+1) x3 x9 x10:=by kernel_rfl
theorem Z37.G (hE:EnvOk Tryz.prog envX) (pv:Nat->Value) (k:Nat):∀ cal A,Z37.C k cal=some A->ArmOk Tryz.prog envX pv cal A:=by
 intro cal A h
 unfold Z37.C at h
 split at h
 ·cases h; exact fun x y hy=>Z53.good hE pv x.1 hy
 ·cases h
theorem Z37.good (hE:EnvOk Tryz.prog envX) (pv:Nat->Value) (k:Nat) (a0:ByteArray) {y:_} (h:Z37.F k a0=some y):Meets Tryz.prog envX pv (.f 52) (tvals [.str] (a0,())) (.t .str y) :=
 fun_loops hE (t:=Z37.C) k (fun k _=>Z37.G hE pv k) (f:=52) (fn:=Tryz.f52) (by kernel_rfl) rfl (by kernel_rfl) (by kernel_rfl) (lt:=Z37.L) (by kernel_rfl) (fun b A h=>by
  unfold Z37.L at h; split at h
  ·cases h; exact ⟨by kernel_rfl,by kernel_rfl,fun _=>rfl,fun _=>rfl⟩
  ·cases h) (fun b A h=>by
  unfold Z37.L at h; split at h
  ·cases h; exact fun k x=>Z37.step0 k x.1 x.2.2.1 x.2.2.2.1
  ·cases h) ((Z37.run k a0).trans h) (fun r hr=>wk_view1 hr)
def Z112.F (a0:List ByteArray) (a1:ByteArray):Option (ByteArray):=xJoin a0 a1
theorem Z112.good (hE:EnvOk Tryz.prog envX) (pv:Nat->Value) (a0:List ByteArray) (a1:ByteArray) {y:_} (h:Z112.F a0 a1=some y):Meets Tryz.prog envX pv (.f 137) (tvals [(.sl .str),.str] (a0,a1,())) (.t .str y) :=
 ext_join (fn:=Tryz.f137) (by kernel_rfl) rfl (by kernel_rfl) Tryz.strings_Join_none Tryz.strings_Join h
-- NO 166 slices.DeleteFunc[[]string,string]: a parameter's type
def Z60.F (a0:ByteArray):Option (Bool):=some (beqS a0 (⟨#[]⟩:ByteArray))
def Z60.C:Cal->Option CArm:=fun c=>match c with
 | _=>none
theorem Z60.run (a0:ByteArray):runF envX (tabC Z60.C) (tabL 5 0 (fun _=>none)) Tryz.f168 [.t .str a0] (viewR1 (.t .bool))=Z60.F a0:=by kernel_rfl
theorem Z60.G (hE:EnvOk Tryz.prog envX) (pv:Nat->Value):∀ cal A,Z60.C cal=some A->ArmOk Tryz.prog envX pv cal A:=by
 intro cal A h
 unfold Z60.C at h
 cases h
theorem Z60.good (hE:EnvOk Tryz.prog envX) (pv:Nat->Value) (a0:ByteArray) {y:_} (h:Z60.F a0=some y):Meets Tryz.prog envX pv (.f 168) (tvals [.str] (a0,())) (.t .bool y) :=
 fun_plain hE (Z60.G hE pv) (f:=168) (fn:=Tryz.f168) (by kernel_rfl) rfl (by kernel_rfl) (by kernel_rfl) ((Z60.run a0).trans h) (fun r hr=>wk_view1 hr)
def Z42.l0:Nat->(List ByteArray)->Int->Int->Option (Sum Int Unit)
 | 0,_,_,_=>none
 | k+1,x0,x7,x8=>bif (decide (x8<x7)) then (bif decide (0<=x8) then (bif decide (x8<(x0.length:Int)) then ((Z60.F (x0.getD (x8:Int).toNat (⟨#[]⟩:ByteArray))).bind fun r1=>bif r1 then (some (.inl x8)) else (Z42.l0 k x0 x7 (IntKind.wrap .i64 (x8+1)))) else none) else none) else (some (.inr ()))
def Z42.F (k:Nat) (a0:List ByteArray):Option (Int):=(Z42.l0 k a0 (a0.length:Int) 0).bind fun y2=>match y2 with | .inl z3=>some z3 | .inr z3=>some (-1)
def Z42.C (k:Nat):Cal->Option CArm:=fun c=>match c with
 | .f 168=>some (.p [.str] _ (fun x=>Z60.F x.1) (fun r=>(.t .bool r)))
 | _=>none
def Z42.sp0:List Sp:=[.t 0 (.sl .str),.con 1 (.clo 168),.t 7 (.int .i64),.t 8 (.int .i64)]
def Z42.sp0_0:List Sp:=[.t 4 (.int .i64)]
def Z42.sp0_1:List Sp:=[]
def Z42.A0:LArm:=.two Z42.sp0 Z42.sp0_0 Z42.sp0_1 (Int) (Unit) (fun k x=>Z42.l0 k x.1 x.2.2.1 x.2.2.2.1) .ret (.exit 0) (fun y=>(y,())) (fun x=>x.1) (fun y=>()) (fun x=>())
def Z42.L:Nat->Option LArm:=fun b=>match b with
 | 0=>some Z42.A0
 | _=>none
theorem Z42.run (k:Nat) (a0:List ByteArray):runF envX (tabC (Z42.C k)) (tabL 19 k Z42.L) Tryz.f181 [.t (.sl .str) a0,.clo 168 []] (viewR1 (.t (.int .i64)))=Z42.F k a0:=by kernel_rfl
theorem Z42.step0 (k:Nat) (x0:List ByteArray) (x7:Int) (x8:Int):runC envX (tabC (Z42.C k)) (tabL 19 k Z42.L) 0 (loopAt Tryz.f181 0) (stOf 19 Z42.sp0 (x0,(),x7,x8,())) (Z42.A0.cont 19 k)=Z42.l0 (k+1) x0 x7 x8:=by kernel_rfl
theorem Z42.G (hE:EnvOk Tryz.prog envX) (pv:Nat->Value) (k:Nat):∀ cal A,Z42.C k cal=some A->ArmOk Tryz.prog envX pv cal A:=by
 intro cal A h
 unfold Z42.C at h
 split at h
 ·cases h; exact fun x y hy=>Z60.good hE pv x.1 hy
 ·cases h
theorem Z42.good (hE:EnvOk Tryz.prog envX) (pv:Nat->Value) (k:Nat) (a0:List ByteArray) {y:_} (h:Z42.F k a0=some y):Meets Tryz.prog envX pv (.f 181) (pvals [.t (.sl .str),.clo 168 []] (a0,(()),())) (.t (.int .i64) y) :=
 fun_loops hE (t:=Z42.C) k (fun k _=>Z42.G hE pv k) (f:=181) (fn:=Tryz.f181) (by kernel_rfl) rfl (by kernel_rfl) (by kernel_rfl) (lt:=Z42.L) (by kernel_rfl) (fun b A h=>by
  unfold Z42.L at h; split at h
  ·cases h; exact ⟨by kernel_rfl,by kernel_rfl,by kernel_rfl,fun _=>rfl,fun _=>rfl,fun _=>rfl⟩
  ·cases h) (fun b A h=>by
  unfold Z42.L at h; split at h
  ·cases h; exact fun k x=>Z42.step0 k x.1 x.2.2.1 x.2.2.2.1
  ·cases h) ((Z42.run k a0).trans h) (fun r hr=>wk_view1 hr)
def Z47.l0:Nat->(List ByteArray)->Int->Int->Option ((List ByteArray) × Int)
 | 0,_,_,_=>none
 | k+1,x0,x5,x6=>bif (decide (x6<(x0.length:Int))) then (bif decide (0<=x6) then (bif decide (x6<(x0.length:Int)) then ((Z60.F (x0.getD ((x6:Int).toNat) (⟨#[]⟩:ByteArray))).bind fun r2=>bif (!r2) then (bif decide (0<=x5) then (bif decide (x5<(x0.length:Int)) then (Z47.l0 k (x0.set ((x5:Int).toNat) (x0.getD ((x6:Int).toNat) (⟨#[]⟩:ByteArray))) (IntKind.wrap .i64 (x5+1)) (IntKind.wrap .i64 (x6+1))) else none) else none) else (Z47.l0 k x0 x5 (IntKind.wrap .i64 (x6+1)))) else none) else none) else (some (x0,x5))
def Z47.F (k:Nat) (a0:List ByteArray):Option (List ByteArray):=(Z42.F k a0).bind fun r1=>bif (r1==(-1)) then (some a0) else ((Z47.l0 k a0 r1 (IntKind.wrap .i64 (r1+1))).bind fun y3=>bif decide (0<=y3.2) then (bif decide (y3.2<=(y3.1.length:Int)) then (bif decide (0<=y3.2) then (bif decide (y3.2<=((y3.1.take ((y3.2:Int).toNat)++List.replicate (y3.1.length-((y3.2:Int).toNat)) (⟨#[]⟩:ByteArray)).length:Int)) then (some ((y3.1.take ((y3.2:Int).toNat)++List.replicate (y3.1.length-((y3.2:Int).toNat)) (⟨#[]⟩:ByteArray)).take (y3.2:Int).toNat)) else none) else none) else none) else none)
def Z47.C (k:Nat):Cal->Option CArm:=fun c=>match c with
 | .f 181=>some (.q [.t (.sl .str),.clo 168 []] _ (fun x=>Z42.F k x.1) (fun r=>(.t (.int .i64) r)))
 | .f 168=>some (.p [.str] _ (fun x=>Z60.F x.1) (fun r=>(.t .bool r)))
 | _=>none
def Z47.sp0:List Sp:=[.own 0 1099511627777 9 .str false true,.con 1 (.clo 168),.t 5 (.int .i64),.t 6 (.int .i64)]
def Z47.sp0_0:List Sp:=[.own 0 1099511627777 9 .str false true,.t 5 (.int .i64)]
def Z47.A0:LArm:=.one Z47.sp0 Z47.sp0_0 ((List ByteArray) × Int) (fun k x=>Z47.l0 k x.1 x.2.2.1 x.2.2.2.1) (.exit 0) (fun y=>(y.1,y.2,())) (fun x=>(x.1,x.2.1))
def Z47.L:Nat->Option LArm:=fun b=>match b with
 | 0=>some Z47.A0
 | _=>none
theorem Z47.run (k:Nat) (a0:List ByteArray):runM envX (tabC (Z47.C k)) (tabL 42 k Z47.L) Tryz.f166 mmove (.fr 9 .str a0) [.clo 168 []] (viewMov 9 .str)=Z47.F k a0:=by kernel_rfl
theorem Z47.step0 (k:Nat) (x0:List ByteArray) (x5:Int) (x6:Int):runC envX (tabC (Z47.C k)) (tabL 42 k Z47.L) 0 (loopAt Tryz.f166 0) (stOf 42 Z47.sp0 (x0,(),x5,x6,())) (Z47.A0.cont 42 k)=Z47.l0 (k+1) x0 x5 x6:=by kernel_rfl
theorem Z47.G (hE:EnvOk Tryz.prog envX) (pv:Nat->Value) (k:Nat):∀ cal A,Z47.C k cal=some A->ArmOk Tryz.prog envX pv cal A:=by
 intro cal A h
 unfold Z47.C at h
 split at h
 ·cases h; exact fun x y hy=>Z42.good hE pv k x.1 hy
 ·cases h; exact fun x y hy=>Z60.good hE pv x.1 hy
 ·cases h
theorem Z47.good (hE:EnvOk Tryz.prog envX) (pv:Nat->Value) (k:Nat) (a0:List ByteArray) {y:_} (h:Z47.F k a0=some y):MeetsM Tryz.prog envX pv 166 (.fr 9 .str a0) (pvals [.clo 168 []] ((()),())) (.mov 9 .str y) :=
 funM_loops hE (t:=Z47.C) k (fun k _=>Z47.G hE pv k) (f:=166) (fn:=Tryz.f166) (by kernel_rfl) rfl (by kernel_rfl) (.inr rfl) (by kernel_rfl) (lt:=Z47.L) (by kernel_rfl) (fun b A h=>by
  unfold Z47.L at h; split at h
  ·cases h; exact ⟨by kernel_rfl,by kernel_rfl,fun _=>rfl,fun _=>rfl⟩
  ·cases h) (fun b A h=>by
  unfold Z47.L at h; split at h
  ·cases h; exact fun k x=>Z47.step0 k x.1 x.2.2.1 x.2.2.2.1
  ·cases h) ((Z47.run k a0).trans h) (fun r hr=>wk_viewMov hr)
def Z93.F (k:Nat) (a0:ByteArray):Option (List ByteArray):=(Z109.F a0 (⟨#[32]⟩:ByteArray)).bind fun r1=>(Z47.F k r1).bind fun r2=>some r2
def Z93.C (k:Nat):Cal->Option CArm:=fun c=>match c with
 | .f 167=>some (.p [.str,.str] _ (fun x=>Z109.F x.1 x.2.1) (fun r=>(.fr 9 .str r)))
 | .f 166=>some (.mq (.fr 9 .str) [.clo 168 []] _ (fun x0 x=>Z47.F k x0) (fun r=> .mov 9 .str r))
 | _=>none
theorem Z93.run (k:Nat) (a0:ByteArray):runF envX (tabC (Z93.C k)) (tabL 6 0 (fun _=>none)) Tryz.f138 [.t .str a0] (viewR1 (.fr 9 .str))=Z93.F k a0:=by kernel_rfl
theorem Z93.G (hE:EnvOk Tryz.prog envX) (pv:Nat->Value) (k:Nat):∀ cal A,Z93.C k cal=some A->ArmOk Tryz.prog envX pv cal A:=by
 intro cal A h
 unfold Z93.C at h
 split at h
 ·cases h; exact fun x y hy=>Z109.good hE pv x.1 x.2.1 hy
 ·cases h; exact ⟨_,rfl,fun x0 x y hy=>Z47.good hE pv k x0 hy⟩
 ·cases h
theorem Z93.good (hE:EnvOk Tryz.prog envX) (pv:Nat->Value) (k:Nat) (a0:ByteArray) {y:_} (h:Z93.F k a0=some y):Meets Tryz.prog envX pv (.f 138) (tvals [.str] (a0,())) (.fr 9 .str y) :=
 fun_plain hE (Z93.G hE pv k) (f:=138) (fn:=Tryz.f138) (by kernel_rfl) rfl (by kernel_rfl) (by kernel_rfl) ((Z93.run k a0).trans h) (fun r hr=>wk_view1 hr)
def Z15.l0:Nat->(List Int)->(List Int)->Int->Int->Option ((List Int))
 | 0,_,_,_,_=>none
 | k+1,x3,x9,x10,x11=>bif (decide (x11<x10)) then (bif decide (0<=x11) then (bif decide (x11<(x9.length:Int)) then ((Z52.F (x9.getD ((x11:Int).toNat) 0)).bind fun r2=>bif r2 then (bif room (x3.length+([(x9.getD ((x11:Int).toNat) 0)]:List Int).length) (.int .u8) then (Z15.l0 k (x3++([(x9.getD ((x11:Int).toNat) 0)]:List Int)) x9 x10 (IntKind.wrap .i64 (x11+1))) else none) else ((Z57.F (x9.getD ((x11:Int).toNat) 0)).bind fun r3=>bif r3 then (bif room (x3.length+([(x9.getD ((x11:Int).toNat) 0)]:List Int).length) (.int .u8) then (Z15.l0 k (x3++([(x9.getD ((x11:Int).toNat) 0)]:List Int)) x9 x10 (IntKind.wrap .i64 (x11+1))) else none) else (bif ((x9.getD ((x11:Int).toNat) 0)==32) then (bif room (x3.length+([(x9.getD ((x11:Int).toNat) 0)]:List Int).length) (.int .u8) then (Z15.l0 k (x3++([(x9.getD ((x11:Int).toNat) 0)]:List Int)) x9 x10 (IntKind.wrap .i64 (x11+1))) else none) else (Z15.l0 k x3 x9 x10 (IntKind.wrap .i64 (x11+1)))))) else none) else none) else (some x3)
def Z15.F (k:Nat) (a0:ByteArray):Option (ByteArray):=(Z37.F k a0).bind fun r1=>bif Nat.ble r1.size 9223372036854775807 then ((Z15.l0 k ([]:List Int) (bytesL r1) ((bytesL r1).length:Int) 0).bind fun y4=>(Z93.F k (strL y4)).bind fun r5=>(Z112.F r5 (⟨#[32]⟩:ByteArray)).bind fun r6=>some r6) else none
def Z15.C (k:Nat):Cal->Option CArm:=fun c=>match c with
 | .f 52=>some (.p [.str] _ (fun x=>Z37.F k x.1) (fun r=>(.t .str r)))
 | .f 124=>some (.p [(.int .u8)] _ (fun x=>Z52.F x.1) (fun r=>(.t .bool r)))
 | .f 125=>some (.p [(.int .u8)] _ (fun x=>Z57.F x.1) (fun r=>(.t .bool r)))
 | .f 138=>some (.p [.str] _ (fun x=>Z93.F k x.1) (fun r=>(.fr 9 .str r)))
 | .f 137=>some (.p [(.sl .str),.str] _ (fun x=>Z112.F x.1 x.2.1) (fun r=>(.t .str r)))
 | _=>none
def Z15.sp0:List Sp:=[.own 3 1024 5 (.int .u8) false true,.own 9 2056 5 (.int .u8) false false,.t 10 (.int .i64),.t 11 (.int .i64)]
def Z15.sp0_0:List Sp:=[.own 3 1024 5 (.int .u8) false true]
def Z15.A0:LArm:=.one Z15.sp0 Z15.sp0_0 ((List Int)) (fun k x=>Z15.l0 k x.1 x.2.1 x.2.2.1 x.2.2.2.1) (.exit 0) (fun y=>(y,())) (fun x=>x.1)
def Z15.L:Nat->Option LArm:=fun b=>match b with
 | 0=>some Z15.A0
 | _=>none
theorem Z15.run (k:Nat) (a0:ByteArray):runF envX (tabC (Z15.C k)) (tabL 34 k Z15.L) Tryz.f101 [.t .str a0] (viewR1 (.t .str))=Z15.F k a0:=by kernel_rfl
theorem Z15.step0 (k:Nat) (x3:List Int) (x9:List Int) (x10:Int) (x11:Int):runC envX (tabC (Z15.C k)) (tabL 34 k Z15.L) 0 (loopAt Tryz.f101 0) (stOf 34 Z15.sp0 (x3,x9,x10,x11,())) (Z15.A0.cont 34 k)=Z15.l0 (k+1) x3 x9 x10 x11:=by kernel_rfl
theorem Z15.G (hE:EnvOk Tryz.prog envX) (pv:Nat->Value) (k:Nat):∀ cal A,Z15.C k cal=some A->ArmOk Tryz.prog envX pv cal A:=by
 intro cal A h
 unfold Z15.C at h
 split at h
 ·cases h; exact fun x y hy=>Z37.good hE pv k x.1 hy
 ·cases h; exact fun x y hy=>Z52.good hE pv x.1 hy
 ·cases h; exact fun x y hy=>Z57.good hE pv x.1 hy
 ·cases h; exact fun x y hy=>Z93.good hE pv k x.1 hy
 ·cases h; exact fun x y hy=>Z112.good hE pv x.1 x.2.1 hy
 ·cases h
theorem Z15.good (hE:EnvOk Tryz.prog envX) (pv:Nat->Value) (k:Nat) (a0:ByteArray) {y:_} (h:Z15.F k a0=some y):Meets Tryz.prog envX pv (.f 101) (tvals [.str] (a0,())) (.t .str y) :=
 fun_loops hE (t:=Z15.C) k (fun k _=>Z15.G hE pv k) (f:=101) (fn:=Tryz.f101) (by kernel_rfl) rfl (by kernel_rfl) (by kernel_rfl) (lt:=Z15.L) (by kernel_rfl) (fun b A h=>by
  unfold Z15.L at h; split at h
  ·cases h; exact ⟨by kernel_rfl,by kernel_rfl,fun _=>rfl,fun _=>rfl⟩
  ·cases h) (fun b A h=>by
  unfold Z15.L at h; split at h
  ·cases h; exact fun k x=>Z15.step0 k x.1 x.2.1 x.2.2.1 x.2.2.2.1
  ·cases h) ((Z15.run k a0).trans h) (fun r hr=>wk_view1 hr)
def Z2.l0:Nat->ByteArray->ByteArray->(List Int)->Int->Int->Option (ByteArray × ByteArray × (List Int))
 | 0,_,_,_,_,_=>none
 | k+1,x0,x1,x5,x18,x19=>bif (decide (x19<x18)) then (bif room (x5.length+([x19]:List Int).length) (.int .i64) then (Z2.l0 k x0 x1 (x5++([x19]:List Int)) x18 (IntKind.wrap .i64 (x19+1))) else none) else (some (x0,x1,x5))
def Z2.l4:Nat->ByteArray->ByteArray->(List Int)->Int->(List Int)->Int->Option (ByteArray × ByteArray × Int × (List Int))
 | 0,_,_,_,_,_,_=>none
 | k+1,x0,x1,x5,x7,x8,x9=>bif (decide (x9<=(x1.size:Int))) then (bif decide (0<=(IntKind.wrap .i64 (x7-1))) then (bif decide ((IntKind.wrap .i64 (x7-1))<(x0.size:Int)) then (bif decide (0<=(IntKind.wrap .i64 (x9-1))) then (bif decide ((IntKind.wrap .i64 (x9-1))<(x1.size:Int)) then (bif ((bt x0 ((IntKind.wrap .i64 (x7-1)):Int).toNat)==(bt x1 ((IntKind.wrap .i64 (x9-1)):Int).toNat)) then (bif decide (0<=x9) then (bif decide (x9<(x5.length:Int)) then (bif decide (0<=(IntKind.wrap .i64 (x9-1))) then (bif decide ((IntKind.wrap .i64 (x9-1))<(x8.length:Int)) then (bif decide (0<=(IntKind.wrap .i64 (x9-1))) then (bif decide ((IntKind.wrap .i64 (x9-1))<(x5.length:Int)) then (bif room (x8.length+([(if (IntKind.wrap .i64 ((x5.getD (((IntKind.wrap .i64 (x9-1)):Int).toNat) 0)+0))<(if (IntKind.wrap .i64 ((x8.getD (((IntKind.wrap .i64 (x9-1)):Int).toNat) 0)+1))<(IntKind.wrap .i64 ((x5.getD ((x9:Int).toNat) 0)+1)) then (IntKind.wrap .i64 ((x8.getD (((IntKind.wrap .i64 (x9-1)):Int).toNat) 0)+1)) else (IntKind.wrap .i64 ((x5.getD ((x9:Int).toNat) 0)+1))) then (IntKind.wrap .i64 ((x5.getD (((IntKind.wrap .i64 (x9-1)):Int).toNat) 0)+0)) else (if (IntKind.wrap .i64 ((x8.getD (((IntKind.wrap .i64 (x9-1)):Int).toNat) 0)+1))<(IntKind.wrap .i64 ((x5.getD ((x9:Int).toNat) 0)+1)) then (IntKind.wrap .i64 ((x8.getD (((IntKind.wrap .i64 (x9-1)):Int).toNat) 0)+1)) else (IntKind.wrap .i64 ((x5.getD ((x9:Int).toNat) 0)+1))))]:List Int).length) (.int .i64) then (Z2.l4 k x0 x1 x5 x7 (x8++([(if (IntKind.wrap .i64 ((x5.getD (((IntKind.wrap .i64 (x9-1)):Int).toNat) 0)+0))<(if (IntKind.wrap .i64 ((x8.getD (((IntKind.wrap .i64 (x9-1)):Int).toNat) 0)+1))<(IntKind.wrap .i64 ((x5.getD ((x9:Int).toNat) 0)+1)) then (IntKind.wrap .i64 ((x8.getD (((IntKind.wrap .i64 (x9-1)):Int).toNat) 0)+1)) else (IntKind.wrap .i64 ((x5.getD ((x9:Int).toNat) 0)+1))) then (IntKind.wrap .i64 ((x5.getD (((IntKind.wrap .i64 (x9-1)):Int).toNat) 0)+0)) else (if (IntKind.wrap .i64 ((x8.getD (((IntKind.wrap .i64 (x9-1)):Int).toNat) 0)+1))<(IntKind.wrap .i64 ((x5.getD ((x9:Int).toNat) 0)+1)) then (IntKind.wrap .i64 ((x8.getD (((IntKind.wrap .i64 (x9-1)):Int).toNat) 0)+1)) else (IntKind.wrap .i64 ((x5.getD ((x9:Int).toNat) 0)+1))))]:List Int)) (IntKind.wrap .i64 (x9+1))) else none) else none) else none) else none) else none) else none) else none) else (bif decide (0<=x9) then (bif decide (x9<(x5.length:Int)) then (bif decide (0<=(IntKind.wrap .i64 (x9-1))) then (bif decide ((IntKind.wrap .i64 (x9-1))<(x8.length:Int)) then (bif decide (0<=(IntKind.wrap .i64 (x9-1))) then (bif decide ((IntKind.wrap .i64 (x9-1))<(x5.length:Int)) then (bif room (x8.length+([(if (IntKind.wrap .i64 ((x5.getD (((IntKind.wrap .i64 (x9-1)):Int).toNat) 0)+1))<(if (IntKind.wrap .i64 ((x8.getD (((IntKind.wrap .i64 (x9-1)):Int).toNat) 0)+1))<(IntKind.wrap .i64 ((x5.getD ((x9:Int).toNat) 0)+1)) then (IntKind.wrap .i64 ((x8.getD (((IntKind.wrap .i64 (x9-1)):Int).toNat) 0)+1)) else (IntKind.wrap .i64 ((x5.getD ((x9:Int).toNat) 0)+1))) then (IntKind.wrap .i64 ((x5.getD (((IntKind.wrap .i64 (x9-1)):Int).toNat) 0)+1)) else (if (IntKind.wrap .i64 ((x8.getD (((IntKind.wrap .i64 (x9-1)):Int).toNat) 0)+1))<(IntKind.wrap .i64 ((x5.getD ((x9:Int).toNat) 0)+1)) then (IntKind.wrap .i64 ((x8.getD (((IntKind.wrap .i64 (x9-1)):Int).toNat) 0)+1)) else (IntKind.wrap .i64 ((x5.getD ((x9:Int).toNat) 0)+1))))]:List Int).length) (.int .i64) then (Z2.l4 k x0 x1 x5 x7 (x8++([(if (IntKind.wrap .i64 ((x5.getD (((IntKind.wrap .i64 (x9-1)):Int).toNat) 0)+1))<(if (IntKind.wrap .i64 ((x8.getD (((IntKind.wrap .i64 (x9-1)):Int).toNat) 0)+1))<(IntKind.wrap .i64 ((x5.getD ((x9:Int).toNat) 0)+1)) then (IntKind.wrap .i64 ((x8.getD (((IntKind.wrap .i64 (x9-1)):Int).toNat) 0)+1)) else (IntKind.wrap .i64 ((x5.getD ((x9:Int).toNat) 0)+1))) then (IntKind.wrap .i64 ((x5.getD (((IntKind.wrap .i64 (x9-1)):Int).toNat) 0)+1)) else (if (IntKind.wrap .i64 ((x8.getD (((IntKind.wrap .i64 (x9-1)):Int).toNat) 0)+1))<(IntKind.wrap .i64 ((x5.getD ((x9:Int).toNat) 0)+1)) then (IntKind.wrap .i64 ((x8.getD (((IntKind.wrap .i64 (x9-1)):Int).toNat) 0)+1)) else (IntKind.wrap .i64 ((x5.getD ((x9:Int).toNat) 0)+1))))]:List Int)) (IntKind.wrap .i64 (x9+1))) else none) else none) else none) else none) else none) else none) else none)) else none) else none) else none) else none) else (some (x0,x1,x7,x8))
def Z2.l2:Nat->ByteArray->ByteArray->(List Int)->Int->Option (ByteArray × (List Int))
 | 0,_,_,_,_=>none
 | k+1,x0,x1,x5,x7=>bif (decide (x7<=(x0.size:Int))) then ((Z2.l4 k x0 x1 x5 x7 ([x7]:List Int) 1).bind fun y4=>Z2.l2 k y4.1 y4.2.1 y4.2.2.2 (IntKind.wrap .i64 (y4.2.2.1+1))) else (some (x1,x5))
def Z2.F (k:Nat) (a0:ByteArray) (a1:ByteArray):Option (Int):=(Z15.F k a0).bind fun r1=>(Z15.F k a1).bind fun r2=>(Z2.l0 k r1 r2 ([]:List Int) (IntKind.wrap .i64 ((r2.size:Int)+1)) 0).bind fun y3=>(Z2.l2 k y3.1 y3.2.1 y3.2.2 1).bind fun y5=>bif decide (0<=(y5.1.size:Int)) then (bif decide ((y5.1.size:Int)<(y5.2.length:Int)) then (some (y5.2.getD (((y5.1.size:Int):Int).toNat) 0)) else none) else none
def Z2.C (k:Nat):Cal->Option CArm:=fun c=>match c with
 | .f 101=>some (.p [.str] _ (fun x=>Z15.F k x.1) (fun r=>(.t .str r)))
 | _=>none
def Z2.sp0:List Sp:=[.t 0 .str,.t 1 .str,.own 5 2048 3 (.int .i64) false true,.t 18 (.int .i64),.t 19 (.int .i64)]
def Z2.sp0_0:List Sp:=[.t 0 .str,.t 1 .str,.own 5 2048 3 (.int .i64) false true]
def Z2.A0:LArm:=.one Z2.sp0 Z2.sp0_0 (ByteArray × ByteArray × (List Int)) (fun k x=>Z2.l0 k x.1 x.2.1 x.2.2.1 x.2.2.2.1 x.2.2.2.2.1) (.exit 0) (fun y=>(y.1,y.2.1,y.2.2,())) (fun x=>(x.1,x.2.1,x.2.2.1))
def Z2.sp4:List Sp:=[.t 0 .str,.t 1 .str,.own 5 2048 3 (.int .i64) false true,.t 7 (.int .i64),.own 8 11268 3 (.int .i64) false true,.t 9 (.int .i64)]
def Z2.sp4_0:List Sp:=[.t 0 .str,.t 1 .str,.t 7 (.int .i64),.own 8 11268 3 (.int .i64) false true]
def Z2.A4:LArm:=.one Z2.sp4 Z2.sp4_0 (ByteArray × ByteArray × Int × (List Int)) (fun k x=>Z2.l4 k x.1 x.2.1 x.2.2.1 x.2.2.2.1 x.2.2.2.2.1 x.2.2.2.2.2.1) (.exit 4) (fun y=>(y.1,y.2.1,y.2.2.1,y.2.2.2,())) (fun x=>(x.1,x.2.1,x.2.2.1,x.2.2.2.1))
def Z2.sp2:List Sp:=[.t 0 .str,.t 1 .str,.own 5 2048 3 (.int .i64) false true,.t 7 (.int .i64)]
def Z2.sp2_0:List Sp:=[.t 1 .str,.own 5 2048 3 (.int .i64) false true]
def Z2.A2:LArm:=.one Z2.sp2 Z2.sp2_0 (ByteArray × (List Int)) (fun k x=>Z2.l2 k x.1 x.2.1 x.2.2.1 x.2.2.2.1) (.exit 2) (fun y=>(y.1,y.2,())) (fun x=>(x.1,x.2.1))
def Z2.L:Nat->Option LArm:=fun b=>match b with
 | 0=>some Z2.A0
 | 4=>some Z2.A4
 | 2=>some Z2.A2
 | _=>none
theorem Z2.run (k:Nat) (a0:ByteArray) (a1:ByteArray):runF envX (tabC (Z2.C k)) (tabL 78 k Z2.L) Tryz.f62 [.t .str a0,.t .str a1] (viewR1 (.t (.int .i64)))=Z2.F k a0 a1:=by kernel_rfl
theorem Z2.step0 (k:Nat) (x0:ByteArray) (x1:ByteArray) (x5:List Int) (x18:Int) (x19:Int):runC envX (tabC (Z2.C k)) (tabL 78 k Z2.L) 0 (loopAt Tryz.f62 0) (stOf 78 Z2.sp0 (x0,x1,x5,x18,x19,())) (Z2.A0.cont 78 k)=Z2.l0 (k+1) x0 x1 x5 x18 x19:=by kernel_rfl
theorem Z2.step4 (k:Nat) (x0:ByteArray) (x1:ByteArray) (x5:List Int) (x7:Int) (x8:List Int) (x9:Int):runC envX (tabC (Z2.C k)) (tabL 78 k Z2.L) 4 (loopAt Tryz.f62 4) (stOf 78 Z2.sp4 (x0,x1,x5,x7,x8,x9,())) (Z2.A4.cont 78 k)=Z2.l4 (k+1) x0 x1 x5 x7 x8 x9:=by kernel_rfl
theorem Z2.step2 (k:Nat) (x0:ByteArray) (x1:ByteArray) (x5:List Int) (x7:Int):runC envX (tabC (Z2.C k)) (tabL 78 k Z2.L) 2 (loopAt Tryz.f62 2) (stOf 78 Z2.sp2 (x0,x1,x5,x7,())) (Z2.A2.cont 78 k)=Z2.l2 (k+1) x0 x1 x5 x7:=by kernel_rfl
theorem Z2.G (hE:EnvOk Tryz.prog envX) (pv:Nat->Value) (k:Nat):∀ cal A,Z2.C k cal=some A->ArmOk Tryz.prog envX pv cal A:=by
 intro cal A h
 unfold Z2.C at h
 split at h
 ·cases h; exact fun x y hy=>Z15.good hE pv k x.1 hy
 ·cases h
theorem Z2.good (hE:EnvOk Tryz.prog envX) (pv:Nat->Value) (k:Nat) (a0:ByteArray) (a1:ByteArray) {y:_} (h:Z2.F k a0 a1=some y):Meets Tryz.prog envX pv (.f 62) (tvals [.str,.str] (a0,a1,())) (.t (.int .i64) y) :=
 fun_loops hE (t:=Z2.C) k (fun k _=>Z2.G hE pv k) (f:=62) (fn:=Tryz.f62) (by kernel_rfl) rfl (by kernel_rfl) (by kernel_rfl) (lt:=Z2.L) (by kernel_rfl) (fun b A h=>by
  unfold Z2.L at h; split at h
  ·cases h; exact ⟨by kernel_rfl,by kernel_rfl,fun _=>rfl,fun _=>rfl⟩
  ·cases h; exact ⟨by kernel_rfl,by kernel_rfl,fun _=>rfl,fun _=>rfl⟩
  ·cases h; exact ⟨by kernel_rfl,by kernel_rfl,fun _=>rfl,fun _=>rfl⟩
  ·cases h) (fun b A h=>by
  unfold Z2.L at h; split at h
  ·cases h; exact fun k x=>Z2.step0 k x.1 x.2.1 x.2.2.1 x.2.2.2.1 x.2.2.2.2.1
  ·cases h; exact fun k x=>Z2.step4 k x.1 x.2.1 x.2.2.1 x.2.2.2.1 x.2.2.2.2.1 x.2.2.2.2.2.1
  ·cases h; exact fun k x=>Z2.step2 k x.1 x.2.1 x.2.2.1 x.2.2.2.1
  ·cases h) ((Z2.run k a0 a1).trans h) (fun r hr=>wk_view1 hr)
def Z105.F (a0:ByteArray) (a1:ByteArray):Option (Bool):=bif (decide ((a0.size:Int) ≥ (a1.size:Int))) then (bif decide (0<=(a1.size:Int)) then (bif decide ((a1.size:Int)<=(a0.size:Int)) then (some (beqS (a0.extract 0 ((a1.size:Int):Int).toNat) a1)) else none) else none) else (some false)
def Z105.C:Cal->Option CArm:=fun c=>match c with
 | _=>none
theorem Z105.run (a0:ByteArray) (a1:ByteArray):runF envX (tabC Z105.C) (tabL 18 0 (fun _=>none)) Tryz.f179 [.t .str a0,.t .str a1] (viewR1 (.t .bool))=Z105.F a0 a1:=by kernel_rfl
theorem Z105.G (hE:EnvOk Tryz.prog envX) (pv:Nat->Value):∀ cal A,Z105.C cal=some A->ArmOk Tryz.prog envX pv cal A:=by
 intro cal A h
 unfold Z105.C at h
 cases h
theorem Z105.good (hE:EnvOk Tryz.prog envX) (pv:Nat->Value) (a0:ByteArray) (a1:ByteArray) {y:_} (h:Z105.F a0 a1=some y):Meets Tryz.prog envX pv (.f 179) (tvals [.str,.str] (a0,a1,())) (.t .bool y) :=
 fun_plain hE (Z105.G hE pv) (f:=179) (fn:=Tryz.f179) (by kernel_rfl) rfl (by kernel_rfl) (by kernel_rfl) ((Z105.run a0 a1).trans h) (fun r hr=>wk_view1 hr)
def Z63.F (a0:ByteArray) (a1:ByteArray):Option (Bool):=(Z105.F a0 a1).bind fun r1=>some r1
def Z63.C:Cal->Option CArm:=fun c=>match c with
 | .f 179=>some (.p [.str,.str] _ (fun x=>Z105.F x.1 x.2.1) (fun r=>(.t .bool r)))
 | _=>none
theorem Z63.run (a0:ByteArray) (a1:ByteArray):runF envX (tabC Z63.C) (tabL 8 0 (fun _=>none)) Tryz.f145 [.t .str a0,.t .str a1] (viewR1 (.t .bool))=Z63.F a0 a1:=by kernel_rfl
theorem Z63.G (hE:EnvOk Tryz.prog envX) (pv:Nat->Value):∀ cal A,Z63.C cal=some A->ArmOk Tryz.prog envX pv cal A:=by
 intro cal A h
 unfold Z63.C at h
 split at h
 ·cases h; exact fun x y hy=>Z105.good hE pv x.1 x.2.1 hy
 ·cases h
theorem Z63.good (hE:EnvOk Tryz.prog envX) (pv:Nat->Value) (a0:ByteArray) (a1:ByteArray) {y:_} (h:Z63.F a0 a1=some y):Meets Tryz.prog envX pv (.f 145) (tvals [.str,.str] (a0,a1,())) (.t .bool y) :=
 fun_plain hE (Z63.G hE pv) (f:=145) (fn:=Tryz.f145) (by kernel_rfl) rfl (by kernel_rfl) (by kernel_rfl) ((Z63.run a0 a1).trans h) (fun r hr=>wk_view1 hr)
def Z9.l0:Nat->Name->Name->Int->Option (Sum Bool Unit)
 | 0,_,_,_=>none
 | k+1,x2,x3,x5=>bif (decide (x5<(if (x3.given.length:Int)<(x2.given.length:Int) then (x3.given.length:Int) else (x2.given.length:Int)))) then (bif decide (0<=x5) then (bif decide (x5<(x2.given.length:Int)) then (bif decide (0<=x5) then (bif decide (x5<(x3.given.length:Int)) then (bif (!beqS (x2.given.getD (x5:Int).toNat (⟨#[]⟩:ByteArray)) (x3.given.getD (x5:Int).toNat (⟨#[]⟩:ByteArray))) then (bif (((x2.given.getD (x5:Int).toNat (⟨#[]⟩:ByteArray)).size:Int)==1) then ((Z63.F (x3.given.getD (x5:Int).toNat (⟨#[]⟩:ByteArray)) (x2.given.getD (x5:Int).toNat (⟨#[]⟩:ByteArray))).bind fun r1=>bif (!r1) then (bif (((x3.given.getD (x5:Int).toNat (⟨#[]⟩:ByteArray)).size:Int)==1) then ((Z63.F (x2.given.getD (x5:Int).toNat (⟨#[]⟩:ByteArray)) (x3.given.getD (x5:Int).toNat (⟨#[]⟩:ByteArray))).bind fun r2=>bif (!r2) then (some (.inl false)) else (Z9.l0 k x2 x3 (IntKind.wrap .i64 (x5+1)))) else (some (.inl false))) else (Z9.l0 k x2 x3 (IntKind.wrap .i64 (x5+1)))) else (bif (((x3.given.getD (x5:Int).toNat (⟨#[]⟩:ByteArray)).size:Int)==1) then ((Z63.F (x2.given.getD (x5:Int).toNat (⟨#[]⟩:ByteArray)) (x3.given.getD (x5:Int).toNat (⟨#[]⟩:ByteArray))).bind fun r3=>bif (!r3) then (some (.inl false)) else (Z9.l0 k x2 x3 (IntKind.wrap .i64 (x5+1)))) else (some (.inl false)))) else (Z9.l0 k x2 x3 (IntKind.wrap .i64 (x5+1)))) else none) else none) else none) else none) else (some (.inr ()))
def Z9.F (k:Nat) (a0:Name) (a1:Name):Option (Bool):=bif (!beqS a0.particle a1.particle) then (some false) else (bif (!beqS a0.family a1.family) then (some false) else (bif (!beqS a0.suffix a1.suffix) then (some false) else ((Z9.l0 k a0 a1 0).bind fun y4=>match y4 with | .inl z5=>some z5 | .inr z5=>some true)))
def Z9.C (k:Nat):Cal->Option CArm:=fun c=>match c with
 | .f 145=>some (.p [.str,.str] _ (fun x=>Z63.F x.1 x.2.1) (fun r=>(.t .bool r)))
 | _=>none
def Z9.sp0:List Sp:=[.boxT 2 0 .name,.boxT 3 4 .name,.t 5 (.int .i64)]
def Z9.sp0_0:List Sp:=[.t 4 .bool]
def Z9.sp0_1:List Sp:=[]
def Z9.A0:LArm:=.two Z9.sp0 Z9.sp0_0 Z9.sp0_1 (Bool) (Unit) (fun k x=>Z9.l0 k x.1 x.2.1 x.2.2.1) .ret (.exit 0) (fun y=>(y,())) (fun x=>x.1) (fun y=>()) (fun x=>())
def Z9.L:Nat->Option LArm:=fun b=>match b with
 | 0=>some Z9.A0
 | _=>none
theorem Z9.run (k:Nat) (a0:Name) (a1:Name):runF envX (tabC (Z9.C k)) (tabL 73 k Z9.L) Tryz.f110 [.t .name a0,.t .name a1] (viewR1 (.t .bool))=Z9.F k a0 a1:=by kernel_rfl
theorem Z9.step0 (k:Nat) (x2:Name) (x3:Name) (x5:Int):runC envX (tabC (Z9.C k)) (tabL 73 k Z9.L) 0 (loopAt Tryz.f110 0) (stOf 73 Z9.sp0 (x2,x3,x5,())) (Z9.A0.cont 73 k)=Z9.l0 (k+1) x2 x3 x5:=by kernel_rfl
theorem Z9.G (hE:EnvOk Tryz.prog envX) (pv:Nat->Value) (k:Nat):∀ cal A,Z9.C k cal=some A->ArmOk Tryz.prog envX pv cal A:=by
 intro cal A h
 unfold Z9.C at h
 split at h
 ·cases h; exact fun x y hy=>Z63.good hE pv x.1 x.2.1 hy
 ·cases h
theorem Z9.good (hE:EnvOk Tryz.prog envX) (pv:Nat->Value) (k:Nat) (a0:Name) (a1:Name) {y:_} (h:Z9.F k a0 a1=some y):Meets Tryz.prog envX pv (.f 110) (tvals [.name,.name] (a0,a1,())) (.t .bool y) :=
 fun_loops hE (t:=Z9.C) k (fun k _=>Z9.G hE pv k) (f:=110) (fn:=Tryz.f110) (by kernel_rfl) rfl (by kernel_rfl) (by kernel_rfl) (lt:=Z9.L) (by kernel_rfl) (fun b A h=>by
  unfold Z9.L at h; split at h
  ·cases h; exact ⟨by kernel_rfl,by kernel_rfl,by kernel_rfl,fun _=>rfl,fun _=>rfl,fun _=>rfl⟩
  ·cases h) (fun b A h=>by
  unfold Z9.L at h; split at h
  ·cases h; exact fun k x=>Z9.step0 k x.1 x.2.1 x.2.2.1
  ·cases h) ((Z9.run k a0 a1).trans h) (fun r hr=>wk_view1 hr)
def Z16.l0:Nat->(List Name)->(List Name)->Int->Int->Option (Sum Bool ((List Name) × (List Name)))
 | 0,_,_,_,_=>none
 | k+1,x0,x1,x7,x8=>bif (decide (x8<x7)) then (bif ((x1.length:Int) != (x0.length:Int)) then (some (.inl false)) else (bif decide (0<=x8) then (bif decide (x8<(x0.length:Int)) then (bif decide (0<=x8) then (bif decide (x8<(x1.length:Int)) then ((Z9.F k (x0.getD (x8:Int).toNat (dflt .name)) (x1.getD (x8:Int).toNat (dflt .name))).bind fun r1=>bif (!r1) then (some (.inl false)) else (Z16.l0 k x0 x1 x7 (IntKind.wrap .i64 (x8+1)))) else none) else none) else none) else none)) else (some (.inr (x0,x1)))
def Z16.F (k:Nat) (a0:List Name) (a1:List Name):Option (Bool):=(Z16.l0 k a0 a1 (a0.length:Int) 0).bind fun y2=>match y2 with | .inl z3=>some z3 | .inr z3=>some ((z3.1.length:Int)==(z3.2.length:Int))
def Z16.C (k:Nat):Cal->Option CArm:=fun c=>match c with
 | .f 110=>some (.p [.name,.name] _ (fun x=>Z9.F k x.1 x.2.1) (fun r=>(.t .bool r)))
 | _=>none
def Z16.sp0:List Sp:=[.t 0 (.sl .name),.t 1 (.sl .name),.t 7 (.int .i64),.t 8 (.int .i64)]
def Z16.sp0_0:List Sp:=[.t 4 .bool]
def Z16.sp0_1:List Sp:=[.t 0 (.sl .name),.t 1 (.sl .name)]
def Z16.A0:LArm:=.two Z16.sp0 Z16.sp0_0 Z16.sp0_1 (Bool) ((List Name) × (List Name)) (fun k x=>Z16.l0 k x.1 x.2.1 x.2.2.1 x.2.2.2.1) .ret (.exit 0) (fun y=>(y,())) (fun x=>x.1) (fun y=>(y.1,y.2,())) (fun x=>(x.1,x.2.1))
def Z16.L:Nat->Option LArm:=fun b=>match b with
 | 0=>some Z16.A0
 | _=>none
theorem Z16.run (k:Nat) (a0:List Name) (a1:List Name):runF envX (tabC (Z16.C k)) (tabL 34 k Z16.L) Tryz.f70 [.t (.sl .name) a0,.t (.sl .name) a1] (viewR1 (.t .bool))=Z16.F k a0 a1:=by kernel_rfl
theorem Z16.step0 (k:Nat) (x0:List Name) (x1:List Name) (x7:Int) (x8:Int):runC envX (tabC (Z16.C k)) (tabL 34 k Z16.L) 0 (loopAt Tryz.f70 0) (stOf 34 Z16.sp0 (x0,x1,x7,x8,())) (Z16.A0.cont 34 k)=Z16.l0 (k+1) x0 x1 x7 x8:=by kernel_rfl
theorem Z16.G (hE:EnvOk Tryz.prog envX) (pv:Nat->Value) (k:Nat):∀ cal A,Z16.C k cal=some A->ArmOk Tryz.prog envX pv cal A:=by
 intro cal A h
 unfold Z16.C at h
 split at h
 ·cases h; exact fun x y hy=>Z9.good hE pv k x.1 x.2.1 hy
 ·cases h
theorem Z16.good (hE:EnvOk Tryz.prog envX) (pv:Nat->Value) (k:Nat) (a0:List Name) (a1:List Name) {y:_} (h:Z16.F k a0 a1=some y):Meets Tryz.prog envX pv (.f 70) (tvals [(.sl .name),(.sl .name)] (a0,a1,())) (.t .bool y) :=
 fun_loops hE (t:=Z16.C) k (fun k _=>Z16.G hE pv k) (f:=70) (fn:=Tryz.f70) (by kernel_rfl) rfl (by kernel_rfl) (by kernel_rfl) (lt:=Z16.L) (by kernel_rfl) (fun b A h=>by
  unfold Z16.L at h; split at h
  ·cases h; exact ⟨by kernel_rfl,by kernel_rfl,by kernel_rfl,fun _=>rfl,fun _=>rfl,fun _=>rfl⟩
  ·cases h) (fun b A h=>by
  unfold Z16.L at h; split at h
  ·cases h; exact fun k x=>Z16.step0 k x.1 x.2.1 x.2.2.1 x.2.2.2.1
  ·cases h) ((Z16.run k a0 a1).trans h) (fun r hr=>wk_view1 hr)
def Z94.F (a0:Date) (a1:Date):Option (Bool):=bif (a0.y==0) then (some true) else (bif (a1.y==0) then (some true) else (bif (a0.y != a1.y) then (some false) else (bif (a0.m==0) then (some true) else (bif (a1.m==0) then (some true) else (bif (a0.m==a1.m) then (bif (a0.d==a1.d) then (some true) else (bif (a0.d==0) then (some true) else (some (a1.d==0)))) else (some false))))))
def Z94.C:Cal->Option CArm:=fun c=>match c with
 | _=>none
theorem Z94.run (a0:Date) (a1:Date):runF envX (tabC Z94.C) (tabL 48 0 (fun _=>none)) Tryz.f71 [.t .date a0,.t .date a1] (viewR1 (.t .bool))=Z94.F a0 a1:=by kernel_rfl
theorem Z94.G (hE:EnvOk Tryz.prog envX) (pv:Nat->Value):∀ cal A,Z94.C cal=some A->ArmOk Tryz.prog envX pv cal A:=by
 intro cal A h
 unfold Z94.C at h
 cases h
theorem Z94.good (hE:EnvOk Tryz.prog envX) (pv:Nat->Value) (a0:Date) (a1:Date) {y:_} (h:Z94.F a0 a1=some y):Meets Tryz.prog envX pv (.f 71) (tvals [.date,.date] (a0,a1,())) (.t .bool y) :=
 fun_plain hE (Z94.G hE pv) (f:=71) (fn:=Tryz.f71) (by kernel_rfl) rfl (by kernel_rfl) (by kernel_rfl) ((Z94.run a0 a1).trans h) (fun r hr=>wk_view1 hr)
def Z64.F (k:Nat) (a0:Entry) (a1:Entry) (a2:Int):Option (Bool):=bif (a0.kind==a1.kind) then ((Z16.F k a0.authors a1.authors).bind fun r1=>bif r1 then ((Z94.F a0.date a1.date).bind fun r2=>bif r2 then ((Z2.F k a0.title a1.title).bind fun r3=>some (decide (r3<=a2))) else (some false)) else (some false)) else (some false)
def Z64.C (k:Nat):Cal->Option CArm:=fun c=>match c with
 | .f 70=>some (.p [(.sl .name),(.sl .name)] _ (fun x=>Z16.F k x.1 x.2.1) (fun r=>(.t .bool r)))
 | .f 71=>some (.p [.date,.date] _ (fun x=>Z94.F x.1 x.2.1) (fun r=>(.t .bool r)))
 | .f 62=>some (.p [.str,.str] _ (fun x=>Z2.F k x.1 x.2.1) (fun r=>(.t (.int .i64) r)))
 | _=>none
theorem Z64.run (k:Nat) (a0:Entry) (a1:Entry) (a2:Int):runF envX (tabC (Z64.C k)) (tabL 35 0 (fun _=>none)) Tryz.f35 [.t .entry a0,.t .entry a1,.t (.int .i64) a2] (viewR1 (.t .bool))=Z64.F k a0 a1 a2:=by kernel_rfl
theorem Z64.G (hE:EnvOk Tryz.prog envX) (pv:Nat->Value) (k:Nat):∀ cal A,Z64.C k cal=some A->ArmOk Tryz.prog envX pv cal A:=by
 intro cal A h
 unfold Z64.C at h
 split at h
 ·cases h; exact fun x y hy=>Z16.good hE pv k x.1 x.2.1 hy
 ·cases h; exact fun x y hy=>Z94.good hE pv x.1 x.2.1 hy
 ·cases h; exact fun x y hy=>Z2.good hE pv k x.1 x.2.1 hy
 ·cases h
theorem Z64.good (hE:EnvOk Tryz.prog envX) (pv:Nat->Value) (k:Nat) (a0:Entry) (a1:Entry) (a2:Int) {y:_} (h:Z64.F k a0 a1 a2=some y):Meets Tryz.prog envX pv (.f 35) (tvals [.entry,.entry,(.int .i64)] (a0,a1,a2,())) (.t .bool y) :=
 fun_plain hE (Z64.G hE pv k) (f:=35) (fn:=Tryz.f35) (by kernel_rfl) rfl (by kernel_rfl) (by kernel_rfl) ((Z64.run k a0 a1 a2).trans h) (fun r hr=>wk_view1 hr)
def Z95.F (a0:Int):Option (Bool):=some (a0 != a0)
def Z95.C:Cal->Option CArm:=fun c=>match c with
 | _=>none
theorem Z95.run (a0:Int):runF envX (tabC Z95.C) (tabL 6 0 (fun _=>none)) Tryz.f151 [.t (.int .i64) a0] (viewR1 (.t .bool))=Z95.F a0:=by kernel_rfl
theorem Z95.G (hE:EnvOk Tryz.prog envX) (pv:Nat->Value):∀ cal A,Z95.C cal=some A->ArmOk Tryz.prog envX pv cal A:=by
 intro cal A h
 unfold Z95.C at h
 cases h
theorem Z95.good (hE:EnvOk Tryz.prog envX) (pv:Nat->Value) (a0:Int) {y:_} (h:Z95.F a0=some y):Meets Tryz.prog envX pv (.f 151) (tvals [(.int .i64)] (a0,())) (.t .bool y) :=
 fun_plain hE (Z95.G hE pv) (f:=151) (fn:=Tryz.f151) (by kernel_rfl) rfl (by kernel_rfl) (by kernel_rfl) ((Z95.run a0).trans h) (fun r hr=>wk_view1 hr)
def Z96.F (a0:Int) (a1:Int):Option (Bool):=(Z95.F a0).bind fun r1=>bif r1 then ((Z95.F a1).bind fun r2=>bif (!r2) then (some true) else (some (decide (a0<a1)))) else (some (decide (a0<a1)))
def Z96.C:Cal->Option CArm:=fun c=>match c with
 | .f 151=>some (.p [(.int .i64)] _ (fun x=>Z95.F x.1) (fun r=>(.t .bool r)))
 | _=>none
theorem Z96.run (a0:Int) (a1:Int):runF envX (tabC Z96.C) (tabL 17 0 (fun _=>none)) Tryz.f117 [.t (.int .i64) a0,.t (.int .i64) a1] (viewR1 (.t .bool))=Z96.F a0 a1:=by kernel_rfl
theorem Z96.G (hE:EnvOk Tryz.prog envX) (pv:Nat->Value):∀ cal A,Z96.C cal=some A->ArmOk Tryz.prog envX pv cal A:=by
 intro cal A h
 unfold Z96.C at h
 split at h
 ·cases h; exact fun x y hy=>Z95.good hE pv x.1 hy
 ·cases h
theorem Z96.good (hE:EnvOk Tryz.prog envX) (pv:Nat->Value) (a0:Int) (a1:Int) {y:_} (h:Z96.F a0 a1=some y):Meets Tryz.prog envX pv (.f 117) (tvals [(.int .i64),(.int .i64)] (a0,a1,())) (.t .bool y) :=
 fun_plain hE (Z96.G hE pv) (f:=117) (fn:=Tryz.f117) (by kernel_rfl) rfl (by kernel_rfl) (by kernel_rfl) ((Z96.run a0 a1).trans h) (fun r hr=>wk_view1 hr)
def Z7.l2:Nat->(List Int)->Int->Int->Int->Int->Option ((List Int) × Int × Int × Int)
 | 0,_,_,_,_,_=>none
 | k+1,x0,x1,x2,x6,x7=>bif (decide (x7 > x1)) then (bif decide (0<=x7) then (bif decide (x7<(x0.length:Int)) then (bif decide (0<=(IntKind.wrap .i64 (x7-1))) then (bif decide ((IntKind.wrap .i64 (x7-1))<(x0.length:Int)) then ((Z96.F (x0.getD ((x7:Int).toNat) 0) (x0.getD (((IntKind.wrap .i64 (x7-1)):Int).toNat) 0)).bind fun r1=>bif r1 then (bif decide (0<=(IntKind.wrap .i64 (x7-1))) then (bif decide ((IntKind.wrap .i64 (x7-1))<(x0.length:Int)) then (bif decide (0<=x7) then (bif decide (x7<(x0.length:Int)) then (bif decide (0<=x7) then (bif decide (x7<(x0.length:Int)) then (bif decide (0<=(IntKind.wrap .i64 (x7-1))) then (bif decide ((IntKind.wrap .i64 (x7-1))<((x0.set ((x7:Int).toNat) (x0.getD (((IntKind.wrap .i64 (x7-1)):Int).toNat) 0)).length:Int)) then (Z7.l2 k ((x0.set ((x7:Int).toNat) (x0.getD (((IntKind.wrap .i64 (x7-1)):Int).toNat) 0)).set (((IntKind.wrap .i64 (x7-1)):Int).toNat) (x0.getD ((x7:Int).toNat) 0)) x1 x2 x6 (IntKind.wrap .i64 (x7-1))) else none) else none) else none) else none) else none) else none) else none) else none) else (some (x0,x1,x2,x6))) else none) else none) else none) else none) else (some (x0,x1,x2,x6))
def Z7.l0:Nat->(List Int)->Int->Int->Int->Option ((List Int))
 | 0,_,_,_,_=>none
 | k+1,x0,x1,x2,x6=>bif (decide (x6<x2)) then ((Z7.l2 k x0 x1 x2 x6 x6).bind fun y2=>Z7.l0 k y2.1 y2.2.1 y2.2.2.1 (IntKind.wrap .i64 (y2.2.2.2+1))) else (some x0)
def Z7.F (k:Nat) (a0:List Int) (a1:Int) (a2:Int):Option (List Int):=(Z7.l0 k a0 a1 a2 (IntKind.wrap .i64 (a1+1))).bind fun y3=>bif Nat.beq (y3).length a0.length then (some y3) else none
def Z7.C (k:Nat):Cal->Option CArm:=fun c=>match c with
 | .f 117=>some (.p [(.int .i64),(.int .i64)] _ (fun x=>Z96.F x.1 x.2.1) (fun r=>(.t .bool r)))
 | _=>none
def Z7.sp2:List Sp:=[.own 0 1099511627776 3 (.int .i64) false true,.t 1 (.int .i64),.t 2 (.int .i64),.t 6 (.int .i64),.t 7 (.int .i64)]
def Z7.sp2_0:List Sp:=[.own 0 1099511627776 3 (.int .i64) false true,.t 1 (.int .i64),.t 2 (.int .i64),.t 6 (.int .i64)]
def Z7.A2:LArm:=.one Z7.sp2 Z7.sp2_0 ((List Int) × Int × Int × Int) (fun k x=>Z7.l2 k x.1 x.2.1 x.2.2.1 x.2.2.2.1 x.2.2.2.2.1) (.exit 2) (fun y=>(y.1,y.2.1,y.2.2.1,y.2.2.2,())) (fun x=>(x.1,x.2.1,x.2.2.1,x.2.2.2.1))
def Z7.sp0:List Sp:=[.own 0 1099511627776 3 (.int .i64) false true,.t 1 (.int .i64),.t 2 (.int .i64),.t 6 (.int .i64)]
def Z7.sp0_0:List Sp:=[.own 0 1099511627776 3 (.int .i64) false true]
def Z7.A0:LArm:=.one Z7.sp0 Z7.sp0_0 ((List Int)) (fun k x=>Z7.l0 k x.1 x.2.1 x.2.2.1 x.2.2.2.1) (.exit 0) (fun y=>(y,())) (fun x=>x.1)
def Z7.L:Nat->Option LArm:=fun b=>match b with
 | 2=>some Z7.A2
 | 0=>some Z7.A0
 | _=>none
theorem Z7.run (k:Nat) (a0:List Int) (a1:Int) (a2:Int):runM envX (tabC (Z7.C k)) (tabL 49 k Z7.L) Tryz.f111 mbase (.fr 3 (.int .i64) a0) [.t (.int .i64) a1,.t (.int .i64) a2] (viewK0 (.fr 3 (.int .i64)))=Z7.F k a0 a1 a2:=by kernel_rfl
theorem Z7.step2 (k:Nat) (x0:List Int) (x1:Int) (x2:Int) (x6:Int) (x7:Int):runC envX (tabC (Z7.C k)) (tabL 49 k Z7.L) 2 (loopAt Tryz.f111 2) (stOf 49 Z7.sp2 (x0,x1,x2,x6,x7,())) (Z7.A2.cont 49 k)=Z7.l2 (k+1) x0 x1 x2 x6 x7:=by kernel_rfl
theorem Z7.step0 (k:Nat) (x0:List Int) (x1:Int) (x2:Int) (x6:Int):runC envX (tabC (Z7.C k)) (tabL 49 k Z7.L) 0 (loopAt Tryz.f111 0) (stOf 49 Z7.sp0 (x0,x1,x2,x6,())) (Z7.A0.cont 49 k)=Z7.l0 (k+1) x0 x1 x2 x6:=by kernel_rfl
theorem Z7.G (hE:EnvOk Tryz.prog envX) (pv:Nat->Value) (k:Nat):∀ cal A,Z7.C k cal=some A->ArmOk Tryz.prog envX pv cal A:=by
 intro cal A h
 unfold Z7.C at h
 split at h
 ·cases h; exact fun x y hy=>Z96.good hE pv x.1 x.2.1 hy
 ·cases h
theorem Z7.good (hE:EnvOk Tryz.prog envX) (pv:Nat->Value) (k:Nat) (a0:List Int) (a1:Int) (a2:Int) {y:_} (h:Z7.F k a0 a1 a2=some y):MeetsM Tryz.prog envX pv 111 (.fr 3 (.int .i64) a0) (tvals [(.int .i64),(.int .i64)] (a1,a2,())) (.kep (.fr 3 (.int .i64) y) (.tup [])) :=
 funM_loops hE (t:=Z7.C) k (fun k _=>Z7.G hE pv k) (f:=111) (fn:=Tryz.f111) (by kernel_rfl) rfl (by kernel_rfl) (.inl rfl) (by kernel_rfl) (lt:=Z7.L) (by kernel_rfl) (fun b A h=>by
  unfold Z7.L at h; split at h
  ·cases h; exact ⟨by kernel_rfl,by kernel_rfl,fun _=>rfl,fun _=>rfl⟩
  ·cases h; exact ⟨by kernel_rfl,by kernel_rfl,fun _=>rfl,fun _=>rfl⟩
  ·cases h) (fun b A h=>by
  unfold Z7.L at h; split at h
  ·cases h; exact fun k x=>Z7.step2 k x.1 x.2.1 x.2.2.1 x.2.2.2.1 x.2.2.2.2.1
  ·cases h; exact fun k x=>Z7.step0 k x.1 x.2.1 x.2.2.1 x.2.2.2.1
  ·cases h) ((Z7.run k a0 a1 a2).trans h) (fun r hr=>wk_viewK0 hr)
def Z50.l0:Nat->(List Int)->Int->Int->Int->Bool->Bool->Option ((List Int))
 | 0,_,_,_,_,_,_=>none
 | k+1,x0,x1,x2,x3,x8,x9=>bif (decide ((IntKind.wrap .i64 (x2-x1))<=12)) then ((Z7.F k x0 x1 x2).bind fun r1=>some r1) else (bif (x3==0) then (none) else (bif (!x8) then (none) else none))
def Z50.F (k:Nat) (a0:List Int) (a1:Int) (a2:Int) (a3:Int):Option (List Int):=(Z50.l0 k a0 a1 a2 a3 true true).bind fun y2=>bif Nat.beq (y2).length a0.length then (some y2) else none
def Z50.C (k:Nat):Cal->Option CArm:=fun c=>match c with
 | .f 111=>some (.m (.fr 3 (.int .i64)) [(.int .i64),(.int .i64)] _ (fun x0 x=>Z7.F k x0 x.1 x.2.1) (fun r=> .kep (.fr 3 (.int .i64) r) (.tup [])))
 | _=>none
def Z50.sp0:List Sp:=[.own 0 1099511627776 3 (.int .i64) false true,.t 1 (.int .i64),.t 2 (.int .i64),.t 3 (.int .i64),.t 8 .bool,.t 9 .bool]
def Z50.sp0_0:List Sp:=[.own 0 1099511627776 3 (.int .i64) false true]
def Z50.A0:LArm:=.one Z50.sp0 Z50.sp0_0 ((List Int)) (fun k x=>Z50.l0 k x.1 x.2.1 x.2.2.1 x.2.2.2.1 x.2.2.2.2.1 x.2.2.2.2.2.1) .ret (fun y=>(y,())) (fun x=>x.1)
def Z50.L:Nat->Option LArm:=fun b=>match b with
 | 0=>some Z50.A0
 | _=>none
theorem Z50.run (k:Nat) (a0:List Int) (a1:Int) (a2:Int) (a3:Int):runM envX (tabC (Z50.C k)) (tabL 134 k Z50.L) Tryz.f72 mbase (.fr 3 (.int .i64) a0) [.t (.int .i64) a1,.t (.int .i64) a2,.t (.int .i64) a3] (viewK0 (.fr 3 (.int .i64)))=Z50.F k a0 a1 a2 a3:=by kernel_rfl
theorem Z50.step0 (k:Nat) (x0:List Int) (x1:Int) (x2:Int) (x3:Int) (x8:Bool) (x9:Bool):runC envX (tabC (Z50.C k)) (tabL 134 k Z50.L) 0 (loopAt Tryz.f72 0) (stOf 134 Z50.sp0 (x0,x1,x2,x3,x8,x9,())) (Z50.A0.cont 134 k)=Z50.l0 (k+1) x0 x1 x2 x3 x8 x9:=by kernel_rfl
theorem Z50.G (hE:EnvOk Tryz.prog envX) (pv:Nat->Value) (k:Nat):∀ cal A,Z50.C k cal=some A->ArmOk Tryz.prog envX pv cal A:=by
 intro cal A h
 unfold Z50.C at h
 split at h
 ·cases h; exact ⟨_,rfl,fun x0 x y hy=>Z7.good hE pv k x0 x.1 x.2.1 hy⟩
 ·cases h
theorem Z50.good (hE:EnvOk Tryz.prog envX) (pv:Nat->Value) (k:Nat) (a0:List Int) (a1:Int) (a2:Int) (a3:Int) {y:_} (h:Z50.F k a0 a1 a2 a3=some y):MeetsM Tryz.prog envX pv 72 (.fr 3 (.int .i64) a0) (tvals [(.int .i64),(.int .i64),(.int .i64)] (a1,a2,a3,())) (.kep (.fr 3 (.int .i64) y) (.tup [])) :=
 funM_loops hE (t:=Z50.C) k (fun k _=>Z50.G hE pv k) (f:=72) (fn:=Tryz.f72) (by kernel_rfl) rfl (by kernel_rfl) (.inl rfl) (by kernel_rfl) (lt:=Z50.L) (by kernel_rfl) (fun b A h=>by
  unfold Z50.L at h; split at h
  ·cases h; exact ⟨by kernel_rfl,by kernel_rfl,fun _=>rfl,fun _=>rfl⟩
  ·cases h) (fun b A h=>by
  unfold Z50.L at h; split at h
  ·cases h; exact fun k x=>Z50.step0 k x.1 x.2.1 x.2.2.1 x.2.2.2.1 x.2.2.2.2.1 x.2.2.2.2.2.1
  ·cases h) ((Z50.run k a0 a1 a2 a3).trans h) (fun r hr=>wk_viewK0 hr)
def Z108.F (a0:Int):Option (Int):=bif (decide (a0 ≥ 4294967296)) then (bif decide (0<=32) then (bif (decide ((Int.fdiv a0 (2 ^ min (32:Int).toNat (IntKind.bits .u64))) ≥ 65536)) then (bif decide (0<=16) then (bif (decide ((Int.fdiv (Int.fdiv a0 (2 ^ min (32:Int).toNat (IntKind.bits .u64))) (2 ^ min (16:Int).toNat (IntKind.bits .u64))) ≥ 256)) then (bif decide (0<=8) then (bif decide (0<=(IntKind.wrap .u8 (Int.fdiv (Int.fdiv (Int.fdiv a0 (2 ^ min (32:Int).toNat (IntKind.bits .u64))) (2 ^ min (16:Int).toNat (IntKind.bits .u64))) (2 ^ min (8:Int).toNat (IntKind.bits .u64))))) then (bif decide ((IntKind.wrap .u8 (Int.fdiv (Int.fdiv (Int.fdiv a0 (2 ^ min (32:Int).toNat (IntKind.bits .u64))) (2 ^ min (16:Int).toNat (IntKind.bits .u64))) (2 ^ min (8:Int).toNat (IntKind.bits .u64))))<(strV0.size:Int)) then (some (IntKind.wrap .i64 ((IntKind.wrap .i64 ((IntKind.wrap .i64 (32+16))+8))+(IntKind.wrap .i64 (bt strV0 ((IntKind.wrap .u8 (Int.fdiv (Int.fdiv (Int.fdiv a0 (2 ^ min (32:Int).toNat (IntKind.bits .u64))) (2 ^ min (16:Int).toNat (IntKind.bits .u64))) (2 ^ min (8:Int).toNat (IntKind.bits .u64)))):Int).toNat))))) else none) else none) else none) else (bif decide (0<=(IntKind.wrap .u8 (Int.fdiv (Int.fdiv a0 (2 ^ min (32:Int).toNat (IntKind.bits .u64))) (2 ^ min (16:Int).toNat (IntKind.bits .u64))))) then (bif decide ((IntKind.wrap .u8 (Int.fdiv (Int.fdiv a0 (2 ^ min (32:Int).toNat (IntKind.bits .u64))) (2 ^ min (16:Int).toNat (IntKind.bits .u64))))<(strV0.size:Int)) then (some (IntKind.wrap .i64 ((IntKind.wrap .i64 (32+16))+(IntKind.wrap .i64 (bt strV0 ((IntKind.wrap .u8 (Int.fdiv (Int.fdiv a0 (2 ^ min (32:Int).toNat (IntKind.bits .u64))) (2 ^ min (16:Int).toNat (IntKind.bits .u64)))):Int).toNat))))) else none) else none)) else none) else (bif (decide ((Int.fdiv a0 (2 ^ min (32:Int).toNat (IntKind.bits .u64))) ≥ 256)) then (bif decide (0<=8) then (bif decide (0<=(IntKind.wrap .u8 (Int.fdiv (Int.fdiv a0 (2 ^ min (32:Int).toNat (IntKind.bits .u64))) (2 ^ min (8:Int).toNat (IntKind.bits .u64))))) then (bif decide ((IntKind.wrap .u8 (Int.fdiv (Int.fdiv a0 (2 ^ min (32:Int).toNat (IntKind.bits .u64))) (2 ^ min (8:Int).toNat (IntKind.bits .u64))))<(strV0.size:Int)) then (some (IntKind.wrap .i64 ((IntKind.wrap .i64 (32+8))+(IntKind.wrap .i64 (bt strV0 ((IntKind.wrap .u8 (Int.fdiv (Int.fdiv a0 (2 ^ min (32:Int).toNat (IntKind.bits .u64))) (2 ^ min (8:Int).toNat (IntKind.bits .u64)))):Int).toNat))))) else none) else none) else none) else (bif decide (0<=(IntKind.wrap .u8 (Int.fdiv a0 (2 ^ min (32:Int).toNat (IntKind.bits .u64))))) then (bif decide ((IntKind.wrap .u8 (Int.fdiv a0 (2 ^ min (32:Int).toNat (IntKind.bits .u64))))<(strV0.size:Int)) then (some (IntKind.wrap .i64 (32+(IntKind.wrap .i64 (bt strV0 ((IntKind.wrap .u8 (Int.fdiv a0 (2 ^ min (32:Int).toNat (IntKind.bits .u64)))):Int).toNat))))) else none) else none))) else none) else (bif (decide (a0 ≥ 65536)) then (bif decide (0<=16) then (bif (decide ((Int.fdiv a0 (2 ^ min (16:Int).toNat (IntKind.bits .u64))) ≥ 256)) then (bif decide (0<=8) then (bif decide (0<=(IntKind.wrap .u8 (Int.fdiv (Int.fdiv a0 (2 ^ min (16:Int).toNat (IntKind.bits .u64))) (2 ^ min (8:Int).toNat (IntKind.bits .u64))))) then (bif decide ((IntKind.wrap .u8 (Int.fdiv (Int.fdiv a0 (2 ^ min (16:Int).toNat (IntKind.bits .u64))) (2 ^ min (8:Int).toNat (IntKind.bits .u64))))<(strV0.size:Int)) then (some (IntKind.wrap .i64 ((IntKind.wrap .i64 ((IntKind.wrap .i64 (0+16))+8))+(IntKind.wrap .i64 (bt strV0 ((IntKind.wrap .u8 (Int.fdiv (Int.fdiv a0 (2 ^ min (16:Int).toNat (IntKind.bits .u64))) (2 ^ min (8:Int).toNat (IntKind.bits .u64)))):Int).toNat))))) else none) else none) else none) else (bif decide (0<=(IntKind.wrap .u8 (Int.fdiv a0 (2 ^ min (16:Int).toNat (IntKind.bits .u64))))) then (bif decide ((IntKind.wrap .u8 (Int.fdiv a0 (2 ^ min (16:Int).toNat (IntKind.bits .u64))))<(strV0.size:Int)) then (some (IntKind.wrap .i64 ((IntKind.wrap .i64 (0+16))+(IntKind.wrap .i64 (bt strV0 ((IntKind.wrap .u8 (Int.fdiv a0 (2 ^ min (16:Int).toNat (IntKind.bits .u64)))):Int).toNat))))) else none) else none)) else none) else (bif (decide (a0 ≥ 256)) then (bif decide (0<=8) then (bif decide (0<=(IntKind.wrap .u8 (Int.fdiv a0 (2 ^ min (8:Int).toNat (IntKind.bits .u64))))) then (bif decide ((IntKind.wrap .u8 (Int.fdiv a0 (2 ^ min (8:Int).toNat (IntKind.bits .u64))))<(strV0.size:Int)) then (some (IntKind.wrap .i64 ((IntKind.wrap .i64 (0+8))+(IntKind.wrap .i64 (bt strV0 ((IntKind.wrap .u8 (Int.fdiv a0 (2 ^ min (8:Int).toNat (IntKind.bits .u64)))):Int).toNat))))) else none) else none) else none) else (bif decide (0<=(IntKind.wrap .u8 a0)) then (bif decide ((IntKind.wrap .u8 a0)<(strV0.size:Int)) then (some (IntKind.wrap .i64 (0+(IntKind.wrap .i64 (bt strV0 ((IntKind.wrap .u8 a0):Int).toNat))))) else none) else none)))
def Z108.C:Cal->Option CArm:=fun c=>match c with
 | _=>none
theorem Z108.run (a0:Int):runF envX (tabC Z108.C) (tabL 25 0 (fun _=>none)) Tryz.f121 [.t (.int .u64) a0] (viewR1 (.t (.int .i64)))=Z108.F a0:=by kernel_rfl
theorem Z108.G (hE:EnvOk Tryz.prog envX) (pv:Nat->Value):∀ cal A,Z108.C cal=some A->ArmOk Tryz.prog envX pv cal A:=by
 intro cal A h
 unfold Z108.C at h
 cases h
theorem Z108.good (hE:EnvOk Tryz.prog envX) (pv:Nat->Value) (a0:Int) {y:_} (h:Z108.F a0=some y):Meets Tryz.prog envX pv (.f 121) (tvals [(.int .u64)] (a0,())) (.t (.int .i64) y) :=
 fun_plain hE (Z108.G hE pv) (f:=121) (fn:=Tryz.f121) (by kernel_rfl) rfl (by kernel_rfl) (by kernel_rfl) ((Z108.run a0).trans h) (fun r hr=>wk_view1 hr)
end Go.Proofs.YtoojiikgbopeiaaGreatDoor
end
section
namespace Go.Proofs.YtoojiikgbopeiaaGreatDoor
open Go.Gx
def Z79.F (a0:Int):Option (Int):=(Z108.F a0).bind fun r1=>some r1
def Z79.C:Cal->Option CArm:=fun c=>match c with
 | .f 121=>some (.p [(.int .u64)] _ (fun x=>Z108.F x.1) (fun r=>(.t (.int .i64) r)))
 | _=>none
theorem Z79.run (a0:Int):runF envX (tabC Z79.C) (tabL 8 0 (fun _=>none)) Tryz.f73 [.t (.int .u64) a0] (viewR1 (.t (.int .i64)))=Z79.F a0:=by kernel_rfl
theorem Z79.G (hE:EnvOk Tryz.prog envX) (pv:Nat->Value):∀ cal A,Z79.C cal=some A->ArmOk Tryz.prog envX pv cal A:=by
 intro cal A h
 unfold Z79.C at h
 split at h
 ·cases h; exact fun x y hy=>Z108.good hE pv x.1 hy
 ·cases h
theorem Z79.good (hE:EnvOk Tryz.prog envX) (pv:Nat->Value) (a0:Int) {y:_} (h:Z79.F a0=some y):Meets Tryz.prog envX pv (.f 73) (tvals [(.int .u64)] (a0,())) (.t (.int .i64) y) :=
 fun_plain hE (Z79.G hE pv) (f:=73) (fn:=Tryz.f73) (by kernel_rfl) rfl (by kernel_rfl) (by kernel_rfl) ((Z79.run a0).trans h) (fun r hr=>wk_view1 hr)
def Z70.F (k:Nat) (a0:List Int):Option (List Int):=(Z79.F (IntKind.wrap .u64 (a0.length:Int))).bind fun r1=>(Z50.F k a0 0 (a0.length:Int) r1).bind fun r2=>bif Nat.beq (r2).length a0.length then (some r2) else none
def Z70.C (k:Nat):Cal->Option CArm:=fun c=>match c with
 | .f 73=>some (.p [(.int .u64)] _ (fun x=>Z79.F x.1) (fun r=>(.t (.int .i64) r)))
 | .f 72=>some (.m (.fr 3 (.int .i64)) [(.int .i64),(.int .i64),(.int .i64)] _ (fun x0 x=>Z50.F k x0 x.1 x.2.1 x.2.2.1) (fun r=> .kep (.fr 3 (.int .i64) r) (.tup [])))
 | _=>none
theorem Z70.run (k:Nat) (a0:List Int):runM envX (tabC (Z70.C k)) (tabL 11 0 (fun _=>none)) Tryz.f36 mbase (.fr 3 (.int .i64) a0) [] (viewK0 (.fr 3 (.int .i64)))=Z70.F k a0:=by kernel_rfl
theorem Z70.G (hE:EnvOk Tryz.prog envX) (pv:Nat->Value) (k:Nat):∀ cal A,Z70.C k cal=some A->ArmOk Tryz.prog envX pv cal A:=by
 intro cal A h
 unfold Z70.C at h
 split at h
 ·cases h; exact fun x y hy=>Z79.good hE pv x.1 hy
 ·cases h; exact ⟨_,rfl,fun x0 x y hy=>Z50.good hE pv k x0 x.1 x.2.1 x.2.2.1 hy⟩
 ·cases h
theorem Z70.good (hE:EnvOk Tryz.prog envX) (pv:Nat->Value) (k:Nat) (a0:List Int) {y:_} (h:Z70.F k a0=some y):MeetsM Tryz.prog envX pv 36 (.fr 3 (.int .i64) a0) (tvals [] (())) (.kep (.fr 3 (.int .i64) y) (.tup [])) :=
 funM_plain hE (Z70.G hE pv k) (f:=36) (fn:=Tryz.f36) (by kernel_rfl) rfl (by kernel_rfl) (.inl rfl) (by kernel_rfl) ((Z70.run k a0).trans h) (fun r hr=>wk_viewK0 hr)
def impl_DuplicateGroups.l4:Nat->Int->Library->(List (List ByteArray))->Int->(List Int)->Int->Int->Int->(List Entry)->Int->Int->Option (Int × Library × (List (List ByteArray)) × Int × (List Int) × Int × Int × Int)
 | 0,_,_,_,_,_,_,_,_,_,_,_=>none
 | k+1,x1,x2,x6,x7,x8,x9,x26,x27,x39,x40,x41=>bif (decide (x41<x40)) then (bif decide (0<=x41) then (bif decide (x41<(x39.length:Int)) then ((Z69.F k x8 x41).bind fun r3=>bif (!r3) then (bif decide (0<=x9) then (bif decide (x9<(x8.length:Int)) then (bif decide (0<=(x8.getD ((x9:Int).toNat) 0)) then (bif decide ((x8.getD ((x9:Int).toNat) 0)<(x2.entries.length:Int)) then ((Z64.F k (x2.entries.getD ((x8.getD ((x9:Int).toNat) 0):Int).toNat (dflt .entry)) (x39.getD (x41:Int).toNat (dflt .entry)) x1).bind fun r4=>bif r4 then (bif room (x8.length+([x41]:List Int).length) (.int .i64) then (impl_DuplicateGroups.l4 k x1 x2 x6 x7 (x8++([x41]:List Int)) x9 x26 x27 x39 x40 (IntKind.wrap .i64 (x41+1))) else none) else (impl_DuplicateGroups.l4 k x1 x2 x6 x7 x8 x9 x26 x27 x39 x40 (IntKind.wrap .i64 (x41+1)))) else none) else none) else none) else none) else (impl_DuplicateGroups.l4 k x1 x2 x6 x7 x8 x9 x26 x27 x39 x40 (IntKind.wrap .i64 (x41+1)))) else none) else none) else (some (x1,x2,x6,x7,x8,x9,x26,x27))
def impl_DuplicateGroups.l2:Nat->Int->Library->(List (List ByteArray))->Int->(List Int)->Int->Int->Int->Option (Int × Library × (List (List ByteArray)) × Int × (List Int) × Int × Int)
 | 0,_,_,_,_,_,_,_,_=>none
 | k+1,x1,x2,x6,x7,x8,x9,x26,x27=>bif (decide (x9<(x8.length:Int))) then ((impl_DuplicateGroups.l4 k x1 x2 x6 x7 x8 x9 x26 x27 x2.entries (x2.entries.length:Int) 0).bind fun y5=>impl_DuplicateGroups.l2 k y5.1 y5.2.1 y5.2.2.1 y5.2.2.2.1 y5.2.2.2.2.1 (IntKind.wrap .i64 (y5.2.2.2.2.2.1+1)) y5.2.2.2.2.2.2.1 y5.2.2.2.2.2.2.2) else (some (x1,x2,x6,x7,x8,x26,x27))
def impl_DuplicateGroups.l6:Nat->Int->Library->(List (List ByteArray))->(List ByteArray)->Int->Int->(List Int)->Int->Int->Option (Int × Library × (List (List ByteArray)) × (List ByteArray) × Int × Int)
 | 0,_,_,_,_,_,_,_,_,_=>none
 | k+1,x1,x2,x6,x12,x26,x27,x81,x82,x83=>bif (decide (x83<x82)) then (bif decide (0<=x83) then (bif decide (x83<(x81.length:Int)) then (bif decide (0<=(x81.getD ((x83:Int).toNat) 0)) then (bif decide ((x81.getD ((x83:Int).toNat) 0)<(x2.entries.length:Int)) then (bif room (x12.length+([(x2.entries.getD ((x81.getD ((x83:Int).toNat) 0):Int).toNat (dflt .entry)).key]:List ByteArray).length) .str then (impl_DuplicateGroups.l6 k x1 x2 x6 (x12++([(x2.entries.getD ((x81.getD ((x83:Int).toNat) 0):Int).toNat (dflt .entry)).key]:List ByteArray)) x26 x27 x81 x82 (IntKind.wrap .i64 (x83+1))) else none) else none) else none) else none) else none) else (some (x1,x2,x6,x12,x26,x27))
def impl_DuplicateGroups.l0:Nat->Int->Library->(List (List ByteArray))->Int->Int->Option ((List (List ByteArray)))
 | 0,_,_,_,_,_=>none
 | k+1,x1,x2,x6,x26,x27=>bif (decide (x27<x26)) then ((impl_DuplicateGroups.l2 k x1 x2 x6 x27 ([x27]:List Int) 0 x26 x27).bind fun y6=>(Z70.F k y6.2.2.2.2.1).bind fun r7=>bif (decide ((r7.length:Int)<2)) then (impl_DuplicateGroups.l0 k y6.1 y6.2.1 y6.2.2.1 y6.2.2.2.2.2.1 (IntKind.wrap .i64 (y6.2.2.2.2.2.2+1))) else (bif decide (0<=0) then (bif decide (0<(r7.length:Int)) then (bif ((r7.getD ((0:Int).toNat) 0) != y6.2.2.2.1) then (impl_DuplicateGroups.l0 k y6.1 y6.2.1 y6.2.2.1 y6.2.2.2.2.2.1 (IntKind.wrap .i64 (y6.2.2.2.2.2.2+1))) else ((impl_DuplicateGroups.l6 k y6.1 y6.2.1 y6.2.2.1 ([]:List ByteArray) y6.2.2.2.2.2.1 y6.2.2.2.2.2.2 r7 (r7.length:Int) 0).bind fun y8=>bif room (y8.2.2.1.length+([y8.2.2.2.1]:List (List ByteArray)).length) (.sl .str) then (impl_DuplicateGroups.l0 k y8.1 y8.2.1 (y8.2.2.1++([y8.2.2.2.1]:List (List ByteArray))) y8.2.2.2.2.1 (IntKind.wrap .i64 (y8.2.2.2.2.2+1))) else none)) else none) else none)) else (some x6)
def impl_DuplicateGroups.C (k:Nat):Cal->Option CArm:=fun c=>match c with
 | .f 32=>some (.p [.lib] _ (fun x=>Z14.F k x.1) (fun r=>(.t .bool r)))
 | .f 33=>some (.p [(.int .i64),(.int .i64),(.int .i64)] _ (fun x=>Z49.F x.1 x.2.1 x.2.2.1) (fun r=>(.t .bool r)))
 | .f 34=>some (.p [(.sl (.int .i64)),(.int .i64)] _ (fun x=>Z69.F k x.1 x.2.1) (fun r=>(.t .bool r)))
 | .f 35=>some (.p [.entry,.entry,(.int .i64)] _ (fun x=>Z64.F k x.1 x.2.1 x.2.2.1) (fun r=>(.t .bool r)))
 | .f 36=>some (.m (.fr 3 (.int .i64)) [] _ (fun x0 x=>Z70.F k x0) (fun r=> .kep (.fr 3 (.int .i64) r) (.tup [])))
 | _=>none
def impl_DuplicateGroups.sp4:List Sp:=[.t 1 (.int .i64),.boxT 2 0 .lib,.own 6 3072 65 (.sl .str) false true,.t 7 (.int .i64),.own 8 7172 3 (.int .i64) false true,.t 9 (.int .i64),.t 26 (.int .i64),.t 27 (.int .i64),.t 39 (.sl .entry),.t 40 (.int .i64),.t 41 (.int .i64)]
def impl_DuplicateGroups.sp4_0:List Sp:=[.t 1 (.int .i64),.boxT 2 0 .lib,.own 6 3072 65 (.sl .str) false true,.t 7 (.int .i64),.own 8 7172 3 (.int .i64) false true,.t 9 (.int .i64),.t 26 (.int .i64),.t 27 (.int .i64)]
def impl_DuplicateGroups.A4:LArm:=.one impl_DuplicateGroups.sp4 impl_DuplicateGroups.sp4_0 (Int × Library × (List (List ByteArray)) × Int × (List Int) × Int × Int × Int) (fun k x=>impl_DuplicateGroups.l4 k x.1 x.2.1 x.2.2.1 x.2.2.2.1 x.2.2.2.2.1 x.2.2.2.2.2.1 x.2.2.2.2.2.2.1 x.2.2.2.2.2.2.2.1 x.2.2.2.2.2.2.2.2.1 x.2.2.2.2.2.2.2.2.2.1 x.2.2.2.2.2.2.2.2.2.2.1) (.exit 4) (fun y=>(y.1,y.2.1,y.2.2.1,y.2.2.2.1,y.2.2.2.2.1,y.2.2.2.2.2.1,y.2.2.2.2.2.2.1,y.2.2.2.2.2.2.2,())) (fun x=>(x.1,x.2.1,x.2.2.1,x.2.2.2.1,x.2.2.2.2.1,x.2.2.2.2.2.1,x.2.2.2.2.2.2.1,x.2.2.2.2.2.2.2.1))
def impl_DuplicateGroups.sp2:List Sp:=[.t 1 (.int .i64),.boxT 2 0 .lib,.own 6 3072 65 (.sl .str) false true,.t 7 (.int .i64),.own 8 7172 3 (.int .i64) false true,.t 9 (.int .i64),.t 26 (.int .i64),.t 27 (.int .i64)]
def impl_DuplicateGroups.sp2_0:List Sp:=[.t 1 (.int .i64),.boxT 2 0 .lib,.own 6 3072 65 (.sl .str) false true,.t 7 (.int .i64),.own 8 7172 3 (.int .i64) false true,.t 26 (.int .i64),.t 27 (.int .i64)]
def impl_DuplicateGroups.A2:LArm:=.one impl_DuplicateGroups.sp2 impl_DuplicateGroups.sp2_0 (Int × Library × (List (List ByteArray)) × Int × (List Int) × Int × Int) (fun k x=>impl_DuplicateGroups.l2 k x.1 x.2.1 x.2.2.1 x.2.2.2.1 x.2.2.2.2.1 x.2.2.2.2.2.1 x.2.2.2.2.2.2.1 x.2.2.2.2.2.2.2.1) (.exit 2) (fun y=>(y.1,y.2.1,y.2.2.1,y.2.2.2.1,y.2.2.2.2.1,y.2.2.2.2.2.1,y.2.2.2.2.2.2,())) (fun x=>(x.1,x.2.1,x.2.2.1,x.2.2.2.1,x.2.2.2.2.1,x.2.2.2.2.2.1,x.2.2.2.2.2.2.1))
def impl_DuplicateGroups.sp6:List Sp:=[.t 1 (.int .i64),.boxT 2 0 .lib,.own 6 3072 65 (.sl .str) false true,.own 12 19456 9 .str false true,.t 26 (.int .i64),.t 27 (.int .i64),.own 81 7172 3 (.int .i64) false true,.t 82 (.int .i64),.t 83 (.int .i64)]
def impl_DuplicateGroups.sp6_0:List Sp:=[.t 1 (.int .i64),.boxT 2 0 .lib,.own 6 3072 65 (.sl .str) false true,.own 12 19456 9 .str false true,.t 26 (.int .i64),.t 27 (.int .i64)]
def impl_DuplicateGroups.A6:LArm:=.one impl_DuplicateGroups.sp6 impl_DuplicateGroups.sp6_0 (Int × Library × (List (List ByteArray)) × (List ByteArray) × Int × Int) (fun k x=>impl_DuplicateGroups.l6 k x.1 x.2.1 x.2.2.1 x.2.2.2.1 x.2.2.2.2.1 x.2.2.2.2.2.1 x.2.2.2.2.2.2.1 x.2.2.2.2.2.2.2.1 x.2.2.2.2.2.2.2.2.1) (.exit 6) (fun y=>(y.1,y.2.1,y.2.2.1,y.2.2.2.1,y.2.2.2.2.1,y.2.2.2.2.2,())) (fun x=>(x.1,x.2.1,x.2.2.1,x.2.2.2.1,x.2.2.2.2.1,x.2.2.2.2.2.1))
def impl_DuplicateGroups.sp0:List Sp:=[.t 1 (.int .i64),.boxT 2 0 .lib,.own 6 3072 65 (.sl .str) false true,.t 26 (.int .i64),.t 27 (.int .i64)]
def impl_DuplicateGroups.sp0_0:List Sp:=[.own 6 3072 65 (.sl .str) false true]
def impl_DuplicateGroups.A0:LArm:=.one impl_DuplicateGroups.sp0 impl_DuplicateGroups.sp0_0 ((List (List ByteArray))) (fun k x=>impl_DuplicateGroups.l0 k x.1 x.2.1 x.2.2.1 x.2.2.2.1 x.2.2.2.2.1) (.exit 0) (fun y=>(y,())) (fun x=>x.1)
def impl_DuplicateGroups.L:Nat->Option LArm:=fun b=>match b with
 | 4=>some impl_DuplicateGroups.A4
 | 2=>some impl_DuplicateGroups.A2
 | 6=>some impl_DuplicateGroups.A6
 | 0=>some impl_DuplicateGroups.A0
 | _=>none
def Z21.l0:Nat->(List ByteArray)->(List ByteArray)->Int->Option (Sum Bool Unit)
 | 0,_,_,_=>none
 | k+1,x0,x1,x5=>bif (decide (x5<(x0.length:Int))) then (bif decide (0<=x5) then (bif decide (x5<(x0.length:Int)) then (bif decide (0<=x5) then (bif decide (x5<(x1.length:Int)) then (bif (!beqS (x0.getD (x5:Int).toNat (⟨#[]⟩:ByteArray)) (x1.getD (x5:Int).toNat (⟨#[]⟩:ByteArray))) then (some (.inl false)) else (Z21.l0 k x0 x1 (IntKind.wrap .i64 (x5+1)))) else none) else none) else none) else none) else (some (.inr ()))
def Z21.F (k:Nat) (a0:List ByteArray) (a1:List ByteArray):Option (Bool):=bif ((a0.length:Int) != (a1.length:Int)) then (some false) else ((Z21.l0 k a0 a1 0).bind fun y1=>match y1 with | .inl z2=>some z2 | .inr z2=>some true)
def Z21.C (k:Nat):Cal->Option CArm:=fun c=>match c with
 | _=>none
def Z21.sp0:List Sp:=[.t 0 (.sl .str),.t 1 (.sl .str),.t 5 (.int .i64)]
def Z21.sp0_0:List Sp:=[.t 4 .bool]
def Z21.sp0_1:List Sp:=[]
def Z21.A0:LArm:=.two Z21.sp0 Z21.sp0_0 Z21.sp0_1 (Bool) (Unit) (fun k x=>Z21.l0 k x.1 x.2.1 x.2.2.1) .ret (.exit 0) (fun y=>(y,())) (fun x=>x.1) (fun y=>()) (fun x=>())
def Z21.L:Nat->Option LArm:=fun b=>match b with
 | 0=>some Z21.A0
 | _=>none
theorem Z21.run (k:Nat) (a0:List ByteArray) (a1:List ByteArray):runF envX (tabC (Z21.C k)) (tabL 26 k Z21.L) Tryz.f37 [.t (.sl .str) a0,.t (.sl .str) a1] (viewR1 (.t .bool))=Z21.F k a0 a1:=by kernel_rfl
theorem Z21.step0 (k:Nat) (x0:List ByteArray) (x1:List ByteArray) (x5:Int):runC envX (tabC (Z21.C k)) (tabL 26 k Z21.L) 0 (loopAt Tryz.f37 0) (stOf 26 Z21.sp0 (x0,x1,x5,())) (Z21.A0.cont 26 k)=Z21.l0 (k+1) x0 x1 x5:=by kernel_rfl
theorem Z21.G (hE:EnvOk Tryz.prog envX) (pv:Nat->Value) (k:Nat):∀ cal A,Z21.C k cal=some A->ArmOk Tryz.prog envX pv cal A:=by
 intro cal A h
 unfold Z21.C at h
 cases h
theorem Z21.good (hE:EnvOk Tryz.prog envX) (pv:Nat->Value) (k:Nat) (a0:List ByteArray) (a1:List ByteArray) {y:_} (h:Z21.F k a0 a1=some y):Meets Tryz.prog envX pv (.f 37) (tvals [(.sl .str),(.sl .str)] (a0,a1,())) (.t .bool y) :=
 fun_loops hE (t:=Z21.C) k (fun k _=>Z21.G hE pv k) (f:=37) (fn:=Tryz.f37) (by kernel_rfl) rfl (by kernel_rfl) (by kernel_rfl) (lt:=Z21.L) (by kernel_rfl) (fun b A h=>by
  unfold Z21.L at h; split at h
  ·cases h; exact ⟨by kernel_rfl,by kernel_rfl,by kernel_rfl,fun _=>rfl,fun _=>rfl,fun _=>rfl⟩
  ·cases h) (fun b A h=>by
  unfold Z21.L at h; split at h
  ·cases h; exact fun k x=>Z21.step0 k x.1 x.2.1 x.2.2.1
  ·cases h) ((Z21.run k a0 a1).trans h) (fun r hr=>wk_view1 hr)
def Z25.l0:Nat->(List (List ByteArray))->(List (List ByteArray))->Int->Option (Sum Bool Unit)
 | 0,_,_,_=>none
 | k+1,x0,x1,x5=>bif (decide (x5<(x0.length:Int))) then (bif decide (0<=x5) then (bif decide (x5<(x0.length:Int)) then (bif decide (0<=x5) then (bif decide (x5<(x1.length:Int)) then ((Z21.F k (x0.getD (x5:Int).toNat []) (x1.getD (x5:Int).toNat [])).bind fun r1=>bif (!r1) then (some (.inl false)) else (Z25.l0 k x0 x1 (IntKind.wrap .i64 (x5+1)))) else none) else none) else none) else none) else (some (.inr ()))
def Z25.F (k:Nat) (a0:List (List ByteArray)) (a1:List (List ByteArray)):Option (Bool):=bif ((a0.length:Int) != (a1.length:Int)) then (some false) else ((Z25.l0 k a0 a1 0).bind fun y2=>match y2 with | .inl z3=>some z3 | .inr z3=>some true)
def Z25.C (k:Nat):Cal->Option CArm:=fun c=>match c with
 | .f 37=>some (.p [(.sl .str),(.sl .str)] _ (fun x=>Z21.F k x.1 x.2.1) (fun r=>(.t .bool r)))
 | _=>none
def Z25.sp0:List Sp:=[.t 0 (.sl (.sl .str)),.t 1 (.sl (.sl .str)),.t 5 (.int .i64)]
def Z25.sp0_0:List Sp:=[.t 4 .bool]
def Z25.sp0_1:List Sp:=[]
def Z25.A0:LArm:=.two Z25.sp0 Z25.sp0_0 Z25.sp0_1 (Bool) (Unit) (fun k x=>Z25.l0 k x.1 x.2.1 x.2.2.1) .ret (.exit 0) (fun y=>(y,())) (fun x=>x.1) (fun y=>()) (fun x=>())
def Z25.L:Nat->Option LArm:=fun b=>match b with
 | 0=>some Z25.A0
 | _=>none
theorem Z25.run (k:Nat) (a0:List (List ByteArray)) (a1:List (List ByteArray)):runF envX (tabC (Z25.C k)) (tabL 27 k Z25.L) Tryz.f9 [.t (.sl (.sl .str)) a0,.t (.sl (.sl .str)) a1] (viewR1 (.t .bool))=Z25.F k a0 a1:=by kernel_rfl
theorem Z25.step0 (k:Nat) (x0:List (List ByteArray)) (x1:List (List ByteArray)) (x5:Int):runC envX (tabC (Z25.C k)) (tabL 27 k Z25.L) 0 (loopAt Tryz.f9 0) (stOf 27 Z25.sp0 (x0,x1,x5,())) (Z25.A0.cont 27 k)=Z25.l0 (k+1) x0 x1 x5:=by kernel_rfl
theorem Z25.G (hE:EnvOk Tryz.prog envX) (pv:Nat->Value) (k:Nat):∀ cal A,Z25.C k cal=some A->ArmOk Tryz.prog envX pv cal A:=by
 intro cal A h
 unfold Z25.C at h
 split at h
 ·cases h; exact fun x y hy=>Z21.good hE pv k x.1 x.2.1 hy
 ·cases h
theorem Z25.good (hE:EnvOk Tryz.prog envX) (pv:Nat->Value) (k:Nat) (a0:List (List ByteArray)) (a1:List (List ByteArray)) {y:_} (h:Z25.F k a0 a1=some y):Meets Tryz.prog envX pv (.f 9) (tvals [(.sl (.sl .str)),(.sl (.sl .str))] (a0,a1,())) (.t .bool y) :=
 fun_loops hE (t:=Z25.C) k (fun k _=>Z25.G hE pv k) (f:=9) (fn:=Tryz.f9) (by kernel_rfl) rfl (by kernel_rfl) (by kernel_rfl) (lt:=Z25.L) (by kernel_rfl) (fun b A h=>by
  unfold Z25.L at h; split at h
  ·cases h; exact ⟨by kernel_rfl,by kernel_rfl,by kernel_rfl,fun _=>rfl,fun _=>rfl,fun _=>rfl⟩
  ·cases h) (fun b A h=>by
  unfold Z25.L at h; split at h
  ·cases h; exact fun k x=>Z25.step0 k x.1 x.2.1 x.2.2.1
  ·cases h) ((Z25.run k a0 a1).trans h) (fun r hr=>wk_view1 hr)
def Z97.F (k:Nat) (a0:Name) (a1:Name):Option (Bool):=(Z21.F k a0.given a1.given).bind fun r1=>bif (!r1) then (some false) else (bif (!beqS a0.particle a1.particle) then (some false) else (bif (!beqS a0.family a1.family) then (some false) else (bif (!beqS a0.suffix a1.suffix) then (some false) else (some true))))
def Z97.C (k:Nat):Cal->Option CArm:=fun c=>match c with
 | .f 37=>some (.p [(.sl .str),(.sl .str)] _ (fun x=>Z21.F k x.1 x.2.1) (fun r=>(.t .bool r)))
 | _=>none
theorem Z97.run (k:Nat) (a0:Name) (a1:Name):runF envX (tabC (Z97.C k)) (tabL 26 0 (fun _=>none)) Tryz.f152 [.t .name a0,.t .name a1] (viewR1 (.t .bool))=Z97.F k a0 a1:=by kernel_rfl
theorem Z97.G (hE:EnvOk Tryz.prog envX) (pv:Nat->Value) (k:Nat):∀ cal A,Z97.C k cal=some A->ArmOk Tryz.prog envX pv cal A:=by
 intro cal A h
 unfold Z97.C at h
 split at h
 ·cases h; exact fun x y hy=>Z21.good hE pv k x.1 x.2.1 hy
 ·cases h
theorem Z97.good (hE:EnvOk Tryz.prog envX) (pv:Nat->Value) (k:Nat) (a0:Name) (a1:Name) {y:_} (h:Z97.F k a0 a1=some y):Meets Tryz.prog envX pv (.f 152) (tvals [.name,.name] (a0,a1,())) (.t .bool y) :=
 fun_plain hE (Z97.G hE pv k) (f:=152) (fn:=Tryz.f152) (by kernel_rfl) rfl (by kernel_rfl) (by kernel_rfl) ((Z97.run k a0 a1).trans h) (fun r hr=>wk_view1 hr)
def Z27.l0:Nat->(List Name)->(List Name)->Int->Option (Sum Bool Unit)
 | 0,_,_,_=>none
 | k+1,x0,x1,x5=>bif (decide (x5<(x0.length:Int))) then (bif decide (0<=x5) then (bif decide (x5<(x0.length:Int)) then (bif decide (0<=x5) then (bif decide (x5<(x1.length:Int)) then ((Z97.F k (x0.getD (x5:Int).toNat (dflt .name)) (x1.getD (x5:Int).toNat (dflt .name))).bind fun r1=>bif (!r1) then (some (.inl false)) else (Z27.l0 k x0 x1 (IntKind.wrap .i64 (x5+1)))) else none) else none) else none) else none) else (some (.inr ()))
def Z27.F (k:Nat) (a0:List Name) (a1:List Name):Option (Bool):=bif ((a0.length:Int) != (a1.length:Int)) then (some false) else ((Z27.l0 k a0 a1 0).bind fun y2=>match y2 with | .inl z3=>some z3 | .inr z3=>some true)
def Z27.C (k:Nat):Cal->Option CArm:=fun c=>match c with
 | .f 152=>some (.p [.name,.name] _ (fun x=>Z97.F k x.1 x.2.1) (fun r=>(.t .bool r)))
 | _=>none
def Z27.sp0:List Sp:=[.t 0 (.sl .name),.t 1 (.sl .name),.t 5 (.int .i64)]
def Z27.sp0_0:List Sp:=[.t 4 .bool]
def Z27.sp0_1:List Sp:=[]
def Z27.A0:LArm:=.two Z27.sp0 Z27.sp0_0 Z27.sp0_1 (Bool) (Unit) (fun k x=>Z27.l0 k x.1 x.2.1 x.2.2.1) .ret (.exit 0) (fun y=>(y,())) (fun x=>x.1) (fun y=>()) (fun x=>())
def Z27.L:Nat->Option LArm:=fun b=>match b with
 | 0=>some Z27.A0
 | _=>none
theorem Z27.run (k:Nat) (a0:List Name) (a1:List Name):runF envX (tabC (Z27.C k)) (tabL 27 k Z27.L) Tryz.f122 [.t (.sl .name) a0,.t (.sl .name) a1] (viewR1 (.t .bool))=Z27.F k a0 a1:=by kernel_rfl
theorem Z27.step0 (k:Nat) (x0:List Name) (x1:List Name) (x5:Int):runC envX (tabC (Z27.C k)) (tabL 27 k Z27.L) 0 (loopAt Tryz.f122 0) (stOf 27 Z27.sp0 (x0,x1,x5,())) (Z27.A0.cont 27 k)=Z27.l0 (k+1) x0 x1 x5:=by kernel_rfl
theorem Z27.G (hE:EnvOk Tryz.prog envX) (pv:Nat->Value) (k:Nat):∀ cal A,Z27.C k cal=some A->ArmOk Tryz.prog envX pv cal A:=by
 intro cal A h
 unfold Z27.C at h
 split at h
 ·cases h; exact fun x y hy=>Z97.good hE pv k x.1 x.2.1 hy
 ·cases h
theorem Z27.good (hE:EnvOk Tryz.prog envX) (pv:Nat->Value) (k:Nat) (a0:List Name) (a1:List Name) {y:_} (h:Z27.F k a0 a1=some y):Meets Tryz.prog envX pv (.f 122) (tvals [(.sl .name),(.sl .name)] (a0,a1,())) (.t .bool y) :=
 fun_loops hE (t:=Z27.C) k (fun k _=>Z27.G hE pv k) (f:=122) (fn:=Tryz.f122) (by kernel_rfl) rfl (by kernel_rfl) (by kernel_rfl) (lt:=Z27.L) (by kernel_rfl) (fun b A h=>by
  unfold Z27.L at h; split at h
  ·cases h; exact ⟨by kernel_rfl,by kernel_rfl,by kernel_rfl,fun _=>rfl,fun _=>rfl,fun _=>rfl⟩
  ·cases h) (fun b A h=>by
  unfold Z27.L at h; split at h
  ·cases h; exact fun k x=>Z27.step0 k x.1 x.2.1 x.2.2.1
  ·cases h) ((Z27.run k a0 a1).trans h) (fun r hr=>wk_view1 hr)
def Z98.F (a0:Date) (a1:Date):Option (Bool):=bif (a0.y != a1.y) then (some false) else (bif (a0.m != a1.m) then (some false) else (bif (a0.d != a1.d) then (some false) else (bif (!(a0.c==a1.c)) then (some false) else (some true))))
def Z98.C:Cal->Option CArm:=fun c=>match c with
 | _=>none
theorem Z98.run (a0:Date) (a1:Date):runF envX (tabC Z98.C) (tabL 25 0 (fun _=>none)) Tryz.f123 [.t .date a0,.t .date a1] (viewR1 (.t .bool))=Z98.F a0 a1:=by kernel_rfl
theorem Z98.G (hE:EnvOk Tryz.prog envX) (pv:Nat->Value):∀ cal A,Z98.C cal=some A->ArmOk Tryz.prog envX pv cal A:=by
 intro cal A h
 unfold Z98.C at h
 cases h
theorem Z98.good (hE:EnvOk Tryz.prog envX) (pv:Nat->Value) (a0:Date) (a1:Date) {y:_} (h:Z98.F a0 a1=some y):Meets Tryz.prog envX pv (.f 123) (tvals [.date,.date] (a0,a1,())) (.t .bool y) :=
 fun_plain hE (Z98.G hE pv) (f:=123) (fn:=Tryz.f123) (by kernel_rfl) rfl (by kernel_rfl) (by kernel_rfl) ((Z98.run a0 a1).trans h) (fun r hr=>wk_view1 hr)
def Z99.F (k:Nat) (a0:Entry) (a1:Entry):Option (Bool):=bif (!beqS a0.key a1.key) then (some false) else (bif (a0.kind != a1.kind) then (some false) else ((Z27.F k a0.authors a1.authors).bind fun r1=>bif (!r1) then (some false) else ((Z27.F k a0.editors a1.editors).bind fun r2=>bif (!r2) then (some false) else (bif (!beqS a0.title a1.title) then (some false) else (bif (!beqS a0.container a1.container) then (some false) else (bif (!beqS a0.publisher a1.publisher) then (some false) else ((Z98.F a0.date a1.date).bind fun r3=>bif (!r3) then (some false) else (bif (a0.volume != a1.volume) then (some false) else (bif (!beqS a0.pages a1.pages) then (some false) else (bif (!beqS a0.cross a1.cross) then (some false) else (some true)))))))))))
def Z99.C (k:Nat):Cal->Option CArm:=fun c=>match c with
 | .f 122=>some (.p [(.sl .name),(.sl .name)] _ (fun x=>Z27.F k x.1 x.2.1) (fun r=>(.t .bool r)))
 | .f 123=>some (.p [.date,.date] _ (fun x=>Z98.F x.1 x.2.1) (fun r=>(.t .bool r)))
 | _=>none
theorem Z99.run (k:Nat) (a0:Entry) (a1:Entry):runF envX (tabC (Z99.C k)) (tabL 63 0 (fun _=>none)) Tryz.f74 [.t .entry a0,.t .entry a1] (viewR1 (.t .bool))=Z99.F k a0 a1:=by kernel_rfl
theorem Z99.G (hE:EnvOk Tryz.prog envX) (pv:Nat->Value) (k:Nat):∀ cal A,Z99.C k cal=some A->ArmOk Tryz.prog envX pv cal A:=by
 intro cal A h
 unfold Z99.C at h
 split at h
 ·cases h; exact fun x y hy=>Z27.good hE pv k x.1 x.2.1 hy
 ·cases h; exact fun x y hy=>Z98.good hE pv x.1 x.2.1 hy
 ·cases h
theorem Z99.good (hE:EnvOk Tryz.prog envX) (pv:Nat->Value) (k:Nat) (a0:Entry) (a1:Entry) {y:_} (h:Z99.F k a0 a1=some y):Meets Tryz.prog envX pv (.f 74) (tvals [.entry,.entry] (a0,a1,())) (.t .bool y) :=
 fun_plain hE (Z99.G hE pv k) (f:=74) (fn:=Tryz.f74) (by kernel_rfl) rfl (by kernel_rfl) (by kernel_rfl) ((Z99.run k a0 a1).trans h) (fun r hr=>wk_view1 hr)
def Z33.l0:Nat->(List Entry)->(List Entry)->Int->Option (Sum Bool Unit)
 | 0,_,_,_=>none
 | k+1,x0,x1,x5=>bif (decide (x5<(x0.length:Int))) then (bif decide (0<=x5) then (bif decide (x5<(x0.length:Int)) then (bif decide (0<=x5) then (bif decide (x5<(x1.length:Int)) then ((Z99.F k (x0.getD (x5:Int).toNat (dflt .entry)) (x1.getD (x5:Int).toNat (dflt .entry))).bind fun r1=>bif (!r1) then (some (.inl false)) else (Z33.l0 k x0 x1 (IntKind.wrap .i64 (x5+1)))) else none) else none) else none) else none) else (some (.inr ()))
def Z33.F (k:Nat) (a0:List Entry) (a1:List Entry):Option (Bool):=bif ((a0.length:Int) != (a1.length:Int)) then (some false) else ((Z33.l0 k a0 a1 0).bind fun y2=>match y2 with | .inl z3=>some z3 | .inr z3=>some true)
def Z33.C (k:Nat):Cal->Option CArm:=fun c=>match c with
 | .f 74=>some (.p [.entry,.entry] _ (fun x=>Z99.F k x.1 x.2.1) (fun r=>(.t .bool r)))
 | _=>none
def Z33.sp0:List Sp:=[.t 0 (.sl .entry),.t 1 (.sl .entry),.t 5 (.int .i64)]
def Z33.sp0_0:List Sp:=[.t 4 .bool]
def Z33.sp0_1:List Sp:=[]
def Z33.A0:LArm:=.two Z33.sp0 Z33.sp0_0 Z33.sp0_1 (Bool) (Unit) (fun k x=>Z33.l0 k x.1 x.2.1 x.2.2.1) .ret (.exit 0) (fun y=>(y,())) (fun x=>x.1) (fun y=>()) (fun x=>())
def Z33.L:Nat->Option LArm:=fun b=>match b with
 | 0=>some Z33.A0
 | _=>none
theorem Z33.run (k:Nat) (a0:List Entry) (a1:List Entry):runF envX (tabC (Z33.C k)) (tabL 27 k Z33.L) Tryz.f38 [.t (.sl .entry) a0,.t (.sl .entry) a1] (viewR1 (.t .bool))=Z33.F k a0 a1:=by kernel_rfl
theorem Z33.step0 (k:Nat) (x0:List Entry) (x1:List Entry) (x5:Int):runC envX (tabC (Z33.C k)) (tabL 27 k Z33.L) 0 (loopAt Tryz.f38 0) (stOf 27 Z33.sp0 (x0,x1,x5,())) (Z33.A0.cont 27 k)=Z33.l0 (k+1) x0 x1 x5:=by kernel_rfl
theorem Z33.G (hE:EnvOk Tryz.prog envX) (pv:Nat->Value) (k:Nat):∀ cal A,Z33.C k cal=some A->ArmOk Tryz.prog envX pv cal A:=by
 intro cal A h
 unfold Z33.C at h
 split at h
 ·cases h; exact fun x y hy=>Z99.good hE pv k x.1 x.2.1 hy
 ·cases h
theorem Z33.good (hE:EnvOk Tryz.prog envX) (pv:Nat->Value) (k:Nat) (a0:List Entry) (a1:List Entry) {y:_} (h:Z33.F k a0 a1=some y):Meets Tryz.prog envX pv (.f 38) (tvals [(.sl .entry),(.sl .entry)] (a0,a1,())) (.t .bool y) :=
 fun_loops hE (t:=Z33.C) k (fun k _=>Z33.G hE pv k) (f:=38) (fn:=Tryz.f38) (by kernel_rfl) rfl (by kernel_rfl) (by kernel_rfl) (lt:=Z33.L) (by kernel_rfl) (fun b A h=>by
  unfold Z33.L at h; split at h
  ·cases h; exact ⟨by kernel_rfl,by kernel_rfl,by kernel_rfl,fun _=>rfl,fun _=>rfl,fun _=>rfl⟩
  ·cases h) (fun b A h=>by
  unfold Z33.L at h; split at h
  ·cases h; exact fun k x=>Z33.step0 k x.1 x.2.1 x.2.2.1
  ·cases h) ((Z33.run k a0 a1).trans h) (fun r hr=>wk_view1 hr)
def Z100.F (k:Nat) (a0:Library) (a1:Library):Option (Bool):=(Z33.F k a0.entries a1.entries).bind fun r1=>bif (!r1) then (some false) else (some true)
def Z100.C (k:Nat):Cal->Option CArm:=fun c=>match c with
 | .f 38=>some (.p [(.sl .entry),(.sl .entry)] _ (fun x=>Z33.F k x.1 x.2.1) (fun r=>(.t .bool r)))
 | _=>none
theorem Z100.run (k:Nat) (a0:Library) (a1:Library):runF envX (tabC (Z100.C k)) (tabL 11 0 (fun _=>none)) Tryz.f10 [.t .lib a0,.t .lib a1] (viewR1 (.t .bool))=Z100.F k a0 a1:=by kernel_rfl
theorem Z100.G (hE:EnvOk Tryz.prog envX) (pv:Nat->Value) (k:Nat):∀ cal A,Z100.C k cal=some A->ArmOk Tryz.prog envX pv cal A:=by
 intro cal A h
 unfold Z100.C at h
 split at h
 ·cases h; exact fun x y hy=>Z33.good hE pv k x.1 x.2.1 hy
 ·cases h
theorem Z100.good (hE:EnvOk Tryz.prog envX) (pv:Nat->Value) (k:Nat) (a0:Library) (a1:Library) {y:_} (h:Z100.F k a0 a1=some y):Meets Tryz.prog envX pv (.f 10) (tvals [.lib,.lib] (a0,a1,())) (.t .bool y) :=
 fun_plain hE (Z100.G hE pv k) (f:=10) (fn:=Tryz.f10) (by kernel_rfl) rfl (by kernel_rfl) (by kernel_rfl) ((Z100.run k a0 a1).trans h) (fun r hr=>wk_view1 hr)
def Z6.l0:Nat->Int->ByteArray->Option (ByteArray)
 | 0,_,_=>none
 | k+1,x0,x3=>bif (decide (x0 > 0)) then (bif (10==0) then (none) else (bif Nat.ble ((strL ([(IntKind.wrap .u8 (IntKind.wrap .i64 (48+(Int.tmod x0 10))))]:List Int)).size+x3.size) 9223372036854775807 then (bif (10==0) then (none) else (Z6.l0 k (IntKind.wrap .i64 (Int.tdiv x0 10)) ((strL ([(IntKind.wrap .u8 (IntKind.wrap .i64 (48+(Int.tmod x0 10))))]:List Int))++x3))) else none)) else (some x3)
def Z6.F (k:Nat) (a0:Int):Option (ByteArray):=bif (decide (a0<=0)) then (some (⟨#[109,48]⟩:ByteArray)) else ((Z6.l0 k a0 (⟨#[]⟩:ByteArray)).bind fun y1=>bif Nat.ble ((⟨#[109]⟩:ByteArray).size+y1.size) 9223372036854775807 then (some ((⟨#[109]⟩:ByteArray)++y1)) else none)
def Z6.C (k:Nat):Cal->Option CArm:=fun c=>match c with
 | _=>none
def Z6.sp0:List Sp:=[.t 0 (.int .i64),.t 3 .str]
def Z6.sp0_0:List Sp:=[.t 3 .str]
def Z6.A0:LArm:=.one Z6.sp0 Z6.sp0_0 (ByteArray) (fun k x=>Z6.l0 k x.1 x.2.1) (.exit 0) (fun y=>(y,())) (fun x=>x.1)
def Z6.L:Nat->Option LArm:=fun b=>match b with
 | 0=>some Z6.A0
 | _=>none
theorem Z6.run (k:Nat) (a0:Int):runF envX (tabC (Z6.C k)) (tabL 20 k Z6.L) Tryz.f75 [.t (.int .i64) a0] (viewR1 (.t .str))=Z6.F k a0:=by kernel_rfl
theorem Z6.step0 (k:Nat) (x0:Int) (x3:ByteArray):runC envX (tabC (Z6.C k)) (tabL 20 k Z6.L) 0 (loopAt Tryz.f75 0) (stOf 20 Z6.sp0 (x0,x3,())) (Z6.A0.cont 20 k)=Z6.l0 (k+1) x0 x3:=by kernel_rfl
theorem Z6.G (hE:EnvOk Tryz.prog envX) (pv:Nat->Value) (k:Nat):∀ cal A,Z6.C k cal=some A->ArmOk Tryz.prog envX pv cal A:=by
 intro cal A h
 unfold Z6.C at h
 cases h
theorem Z6.good (hE:EnvOk Tryz.prog envX) (pv:Nat->Value) (k:Nat) (a0:Int) {y:_} (h:Z6.F k a0=some y):Meets Tryz.prog envX pv (.f 75) (tvals [(.int .i64)] (a0,())) (.t .str y) :=
 fun_loops hE (t:=Z6.C) k (fun k _=>Z6.G hE pv k) (f:=75) (fn:=Tryz.f75) (by kernel_rfl) rfl (by kernel_rfl) (by kernel_rfl) (lt:=Z6.L) (by kernel_rfl) (fun b A h=>by
  unfold Z6.L at h; split at h
  ·cases h; exact ⟨by kernel_rfl,by kernel_rfl,fun _=>rfl,fun _=>rfl⟩
  ·cases h) (fun b A h=>by
  unfold Z6.L at h; split at h
  ·cases h; exact fun k x=>Z6.step0 k x.1 x.2.1
  ·cases h) ((Z6.run k a0).trans h) (fun r hr=>wk_view1 hr)
def laws_markStringS.l0:Nat->(List ByteArray)->Int->Int->Option ((List ByteArray) × Int)
 | 0,_,_,_=>none
 | k+1,x0,x1,x5=>bif (decide (x5<(x0.length:Int))) then ((Z6.F k x1).bind fun r1=>bif decide (0<=x5) then (bif decide (x5<(x0.length:Int)) then (laws_markStringS.l0 k (x0.set ((x5:Int).toNat) r1) (IntKind.wrap .i64 (x1+1)) (IntKind.wrap .i64 (x5+1))) else none) else none) else (some (x0,x1))
def laws_markStringS.C (k:Nat):Cal->Option CArm:=fun c=>match c with
 | .f 75=>some (.p [(.int .i64)] _ (fun x=>Z6.F k x.1) (fun r=>(.t .str r)))
 | _=>none
def Z34.l0:Nat->(List ByteArray)->Int->Int->Option (Sum Int Int)
 | 0,_,_,_=>none
 | k+1,x0,x1,x5=>bif (decide (x5<(x0.length:Int))) then (bif decide (0<=x5) then (bif decide (x5<(x0.length:Int)) then ((Z6.F k x1).bind fun r1=>bif (!beqS (x0.getD (x5:Int).toNat (⟨#[]⟩:ByteArray)) r1) then (some (.inl (-1))) else (Z34.l0 k x0 (IntKind.wrap .i64 (x1+1)) (IntKind.wrap .i64 (x5+1)))) else none) else none) else (some (.inr x1))
def Z34.F (k:Nat) (a0:List ByteArray) (a1:Int):Option (Int):=(Z34.l0 k a0 a1 0).bind fun y2=>match y2 with | .inl z3=>some z3 | .inr z3=>some z3
def Z34.C (k:Nat):Cal->Option CArm:=fun c=>match c with
 | .f 75=>some (.p [(.int .i64)] _ (fun x=>Z6.F k x.1) (fun r=>(.t .str r)))
 | _=>none
def Z34.sp0:List Sp:=[.t 0 (.sl .str),.t 1 (.int .i64),.t 5 (.int .i64)]
def Z34.sp0_0:List Sp:=[.t 4 (.int .i64)]
def Z34.sp0_1:List Sp:=[.t 1 (.int .i64)]
def Z34.A0:LArm:=.two Z34.sp0 Z34.sp0_0 Z34.sp0_1 (Int) (Int) (fun k x=>Z34.l0 k x.1 x.2.1 x.2.2.1) .ret (.exit 0) (fun y=>(y,())) (fun x=>x.1) (fun y=>(y,())) (fun x=>x.1)
def Z34.L:Nat->Option LArm:=fun b=>match b with
 | 0=>some Z34.A0
 | _=>none
theorem Z34.run (k:Nat) (a0:List ByteArray) (a1:Int):runF envX (tabC (Z34.C k)) (tabL 22 k Z34.L) Tryz.f41 [.t (.sl .str) a0,.t (.int .i64) a1] (viewR1 (.t (.int .i64)))=Z34.F k a0 a1:=by kernel_rfl
theorem Z34.step0 (k:Nat) (x0:List ByteArray) (x1:Int) (x5:Int):runC envX (tabC (Z34.C k)) (tabL 22 k Z34.L) 0 (loopAt Tryz.f41 0) (stOf 22 Z34.sp0 (x0,x1,x5,())) (Z34.A0.cont 22 k)=Z34.l0 (k+1) x0 x1 x5:=by kernel_rfl
theorem Z34.G (hE:EnvOk Tryz.prog envX) (pv:Nat->Value) (k:Nat):∀ cal A,Z34.C k cal=some A->ArmOk Tryz.prog envX pv cal A:=by
 intro cal A h
 unfold Z34.C at h
 split at h
 ·cases h; exact fun x y hy=>Z6.good hE pv k x.1 hy
 ·cases h
theorem Z34.good (hE:EnvOk Tryz.prog envX) (pv:Nat->Value) (k:Nat) (a0:List ByteArray) (a1:Int) {y:_} (h:Z34.F k a0 a1=some y):Meets Tryz.prog envX pv (.f 41) (tvals [(.sl .str),(.int .i64)] (a0,a1,())) (.t (.int .i64) y) :=
 fun_loops hE (t:=Z34.C) k (fun k _=>Z34.G hE pv k) (f:=41) (fn:=Tryz.f41) (by kernel_rfl) rfl (by kernel_rfl) (by kernel_rfl) (lt:=Z34.L) (by kernel_rfl) (fun b A h=>by
  unfold Z34.L at h; split at h
  ·cases h; exact ⟨by kernel_rfl,by kernel_rfl,by kernel_rfl,fun _=>rfl,fun _=>rfl,fun _=>rfl⟩
  ·cases h) (fun b A h=>by
  unfold Z34.L at h; split at h
  ·cases h; exact fun k x=>Z34.step0 k x.1 x.2.1 x.2.2.1
  ·cases h) ((Z34.run k a0 a1).trans h) (fun r hr=>wk_view1 hr)
def Z28.l0:Nat->(List (List ByteArray))->Int->Int->Option (Sum Int Int)
 | 0,_,_,_=>none
 | k+1,x0,x1,x5=>bif (decide (x5<(x0.length:Int))) then (bif decide (0<=x5) then (bif decide (x5<(x0.length:Int)) then ((Z34.F k (x0.getD (x5:Int).toNat []) x1).bind fun r1=>bif (decide (r1<0)) then (some (.inl (-1))) else (Z28.l0 k x0 r1 (IntKind.wrap .i64 (x5+1)))) else none) else none) else (some (.inr x1))
def Z28.F (k:Nat) (a0:List (List ByteArray)) (a1:Int):Option (Int):=(Z28.l0 k a0 a1 0).bind fun y2=>match y2 with | .inl z3=>some z3 | .inr z3=>some z3
def Z28.C (k:Nat):Cal->Option CArm:=fun c=>match c with
 | .f 41=>some (.p [(.sl .str),(.int .i64)] _ (fun x=>Z34.F k x.1 x.2.1) (fun r=>(.t (.int .i64) r)))
 | _=>none
def Z28.sp0:List Sp:=[.t 0 (.sl (.sl .str)),.t 1 (.int .i64),.t 5 (.int .i64)]
def Z28.sp0_0:List Sp:=[.t 4 (.int .i64)]
def Z28.sp0_1:List Sp:=[.t 1 (.int .i64)]
def Z28.A0:LArm:=.two Z28.sp0 Z28.sp0_0 Z28.sp0_1 (Int) (Int) (fun k x=>Z28.l0 k x.1 x.2.1 x.2.2.1) .ret (.exit 0) (fun y=>(y,())) (fun x=>x.1) (fun y=>(y,())) (fun x=>x.1)
def Z28.L:Nat->Option LArm:=fun b=>match b with
 | 0=>some Z28.A0
 | _=>none
theorem Z28.run (k:Nat) (a0:List (List ByteArray)) (a1:Int):runF envX (tabC (Z28.C k)) (tabL 21 k Z28.L) Tryz.f13 [.t (.sl (.sl .str)) a0,.t (.int .i64) a1] (viewR1 (.t (.int .i64)))=Z28.F k a0 a1:=by kernel_rfl
theorem Z28.step0 (k:Nat) (x0:List (List ByteArray)) (x1:Int) (x5:Int):runC envX (tabC (Z28.C k)) (tabL 21 k Z28.L) 0 (loopAt Tryz.f13 0) (stOf 21 Z28.sp0 (x0,x1,x5,())) (Z28.A0.cont 21 k)=Z28.l0 (k+1) x0 x1 x5:=by kernel_rfl
theorem Z28.G (hE:EnvOk Tryz.prog envX) (pv:Nat->Value) (k:Nat):∀ cal A,Z28.C k cal=some A->ArmOk Tryz.prog envX pv cal A:=by
 intro cal A h
 unfold Z28.C at h
 split at h
 ·cases h; exact fun x y hy=>Z34.good hE pv k x.1 x.2.1 hy
 ·cases h
theorem Z28.good (hE:EnvOk Tryz.prog envX) (pv:Nat->Value) (k:Nat) (a0:List (List ByteArray)) (a1:Int) {y:_} (h:Z28.F k a0 a1=some y):Meets Tryz.prog envX pv (.f 13) (tvals [(.sl (.sl .str)),(.int .i64)] (a0,a1,())) (.t (.int .i64) y) :=
 fun_loops hE (t:=Z28.C) k (fun k _=>Z28.G hE pv k) (f:=13) (fn:=Tryz.f13) (by kernel_rfl) rfl (by kernel_rfl) (by kernel_rfl) (lt:=Z28.L) (by kernel_rfl) (fun b A h=>by
  unfold Z28.L at h; split at h
  ·cases h; exact ⟨by kernel_rfl,by kernel_rfl,by kernel_rfl,fun _=>rfl,fun _=>rfl,fun _=>rfl⟩
  ·cases h) (fun b A h=>by
  unfold Z28.L at h; split at h
  ·cases h; exact fun k x=>Z28.step0 k x.1 x.2.1 x.2.2.1
  ·cases h) ((Z28.run k a0 a1).trans h) (fun r hr=>wk_view1 hr)
def Z43.l0:Nat->(List Entry)->(List Entry)->Int->Option ((List Entry))
 | 0,_,_,_=>none
 | k+1,x0,x3,x4=>bif (decide (x4<(x0.length:Int))) then (bif decide (0<=x4) then (bif decide (x4<(x0.length:Int)) then ((Z91.F k (x0.getD (x4:Int).toNat (dflt .entry))).bind fun r1=>bif decide (0<=x4) then (bif decide (x4<(x3.length:Int)) then (Z43.l0 k x0 (x3.set ((x4:Int).toNat) r1) (IntKind.wrap .i64 (x4+1))) else none) else none) else none) else none) else (some x3)
def Z43.F (k:Nat) (a0:List Entry):Option (List Entry):=bif ((a0.length:Int)==(a0.length:Int)) then (bif decide (0<=(a0.length:Int)) then (bif Nat.ble (((a0.length:Int):Int).toNat * nb .entry) 140737488355328 then ((Z43.l0 k a0 (List.replicate ((a0.length:Int):Int).toNat (dflt .entry)) 0).bind fun y2=>some y2) else none) else none) else none
def Z43.C (k:Nat):Cal->Option CArm:=fun c=>match c with
 | .f 68=>some (.p [.entry] _ (fun x=>Z91.F k x.1) (fun r=>(.pc true .entry r)))
 | _=>none
def Z43.sp0:List Sp:=[.t 0 (.sl .entry),.own 3 1032 48 .entry false true,.t 4 (.int .i64)]
def Z43.sp0_0:List Sp:=[.own 3 1032 48 .entry false true]
def Z43.A0:LArm:=.one Z43.sp0 Z43.sp0_0 ((List Entry)) (fun k x=>Z43.l0 k x.1 x.2.1 x.2.2.1) (.exit 0) (fun y=>(y,())) (fun x=>x.1)
def Z43.L:Nat->Option LArm:=fun b=>match b with
 | 0=>some Z43.A0
 | _=>none
theorem Z43.run (k:Nat) (a0:List Entry):runF envP (tabC (Z43.C k)) (tabL 23 k Z43.L) Tryz.f31 [.t (.sl .entry) a0] (viewR1 (.fr 48 .entry))=Z43.F k a0:=by kernel_rfl
theorem Z43.step0 (k:Nat) (x0:List Entry) (x3:List Entry) (x4:Int):runC envP (tabC (Z43.C k)) (tabL 23 k Z43.L) 0 (loopAt Tryz.f31 0) (stOf 23 Z43.sp0 (x0,x3,x4,())) (Z43.A0.cont 23 k)=Z43.l0 (k+1) x0 x3 x4:=by kernel_rfl
theorem Z43.G (hE:EnvOk Tryz.prog envP) (pv:Nat->Value) (n:Nat) (k:Nat):∀ cal A,Z43.C k cal=some A->ArmOk Tryz.prog envP (mpv pv n) cal A:=by
 intro cal A h
 unfold Z43.C at h
 split at h
 ·cases h; exact fun x y hy=>Z91.good hE pv n k x.1 hy
 ·cases h
theorem Z43.good (hE:EnvOk Tryz.prog envP) (pv:Nat->Value) (n:Nat) (k:Nat) (a0:List Entry) {y:_} (h:Z43.F k a0=some y):Meets Tryz.prog envP (mpv pv n) (.f 31) (tvals [(.sl .entry)] (a0,())) (.fr 48 .entry y) :=
 fun_loops hE (t:=Z43.C) k (fun k _=>Z43.G hE pv n k) (f:=31) (fn:=Tryz.f31) (by kernel_rfl) rfl (by kernel_rfl) (by kernel_rfl) (lt:=Z43.L) (by kernel_rfl) (fun b A h=>by
  unfold Z43.L at h; split at h
  ·cases h; exact ⟨by kernel_rfl,by kernel_rfl,fun _=>rfl,fun _=>rfl⟩
  ·cases h) (fun b A h=>by
  unfold Z43.L at h; split at h
  ·cases h; exact fun k x=>Z43.step0 k x.1 x.2.1 x.2.2.1
  ·cases h) ((Z43.run k a0).trans h) (fun r hr=>wk_view1 hr)
def Z65.F (k:Nat) (a0:Library):Option (Library):=(Z43.F k a0.entries).bind fun r1=>some (⟨r1⟩:Library)
def Z65.C (k:Nat):Cal->Option CArm:=fun c=>match c with
 | .f 31=>some (.p [(.sl .entry)] _ (fun x=>Z43.F k x.1) (fun r=>(.fr 48 .entry r)))
 | _=>none
theorem Z65.run (k:Nat) (a0:Library):runPc envP (tabC (Z65.C k)) (tabL 9 0 (fun _=>none)) Tryz.f7 [.t .lib a0] (viewR1 (.pc .lib))=Z65.F k a0:=by kernel_rfl
theorem Z65.G (hE:EnvOk Tryz.prog envP) (pv:Nat->Value) (n:Nat) (k:Nat):∀ cal A,Z65.C k cal=some A->ArmOk Tryz.prog envP (mpv pv n) cal A:=by
 intro cal A h
 unfold Z65.C at h
 split at h
 ·cases h; exact fun x y hy=>Z43.good hE pv n k x.1 hy
 ·cases h
theorem Z65.good (hE:EnvOk Tryz.prog envP) (pv:Nat->Value) (n:Nat) (k:Nat) (a0:Library) {y:_} (h:Z65.F k a0=some y):Meets Tryz.prog envP (mpv pv n) (.f 7) (tvals [.lib] (a0,())) (.pc true .lib y) :=
 funPc_plain hE (mpv_O pv n) (mpv_Q pv n) (Z65.G hE pv n k) (f:=7) (fn:=Tryz.f7) (by kernel_rfl) rfl (by kernel_rfl) (by kernel_rfl) ((Z65.run k a0).trans h) (fun r hr=>wk_view1 hr)
def Z1.l4:Nat->Int->Library->(List (List ByteArray))->Int->(List Int)->Int->Int->Int->(List Entry)->Int->Int->Option (Int × Library × (List (List ByteArray)) × Int × (List Int) × Int × Int × Int)
 | 0,_,_,_,_,_,_,_,_,_,_,_=>none
 | k+1,x1,x2,x6,x7,x8,x9,x26,x27,x39,x40,x41=>bif (decide (x41<x40)) then (bif decide (0<=x41) then (bif decide (x41<(x39.length:Int)) then ((Z69.F k x8 x41).bind fun r3=>bif (!r3) then (bif decide (0<=x9) then (bif decide (x9<(x8.length:Int)) then (bif decide (0<=(x8.getD ((x9:Int).toNat) 0)) then (bif decide ((x8.getD ((x9:Int).toNat) 0)<(x2.entries.length:Int)) then ((Z64.F k (x2.entries.getD ((x8.getD ((x9:Int).toNat) 0):Int).toNat (dflt .entry)) (x39.getD (x41:Int).toNat (dflt .entry)) x1).bind fun r4=>bif r4 then (bif room (x8.length+([x41]:List Int).length) (.int .i64) then (Z1.l4 k x1 x2 x6 x7 (x8++([x41]:List Int)) x9 x26 x27 x39 x40 (IntKind.wrap .i64 (x41+1))) else none) else (Z1.l4 k x1 x2 x6 x7 x8 x9 x26 x27 x39 x40 (IntKind.wrap .i64 (x41+1)))) else none) else none) else none) else none) else (Z1.l4 k x1 x2 x6 x7 x8 x9 x26 x27 x39 x40 (IntKind.wrap .i64 (x41+1)))) else none) else none) else (some (x1,x2,x6,x7,x8,x9,x26,x27))
def Z1.l2:Nat->Int->Library->(List (List ByteArray))->Int->(List Int)->Int->Int->Int->Option (Int × Library × (List (List ByteArray)) × Int × (List Int) × Int × Int)
 | 0,_,_,_,_,_,_,_,_=>none
 | k+1,x1,x2,x6,x7,x8,x9,x26,x27=>bif (decide (x9<(x8.length:Int))) then ((Z1.l4 k x1 x2 x6 x7 x8 x9 x26 x27 x2.entries (x2.entries.length:Int) 0).bind fun y5=>Z1.l2 k y5.1 y5.2.1 y5.2.2.1 y5.2.2.2.1 y5.2.2.2.2.1 (IntKind.wrap .i64 (y5.2.2.2.2.2.1+1)) y5.2.2.2.2.2.2.1 y5.2.2.2.2.2.2.2) else (some (x1,x2,x6,x7,x8,x26,x27))
def Z1.l6:Nat->Int->Library->(List (List ByteArray))->(List ByteArray)->Int->Int->(List Int)->Int->Int->Option (Int × Library × (List (List ByteArray)) × (List ByteArray) × Int × Int)
 | 0,_,_,_,_,_,_,_,_,_=>none
 | k+1,x1,x2,x6,x12,x26,x27,x81,x82,x83=>bif (decide (x83<x82)) then (bif decide (0<=x83) then (bif decide (x83<(x81.length:Int)) then (bif decide (0<=(x81.getD ((x83:Int).toNat) 0)) then (bif decide ((x81.getD ((x83:Int).toNat) 0)<(x2.entries.length:Int)) then (bif room (x12.length+([(x2.entries.getD ((x81.getD ((x83:Int).toNat) 0):Int).toNat (dflt .entry)).key]:List ByteArray).length) .str then (Z1.l6 k x1 x2 x6 (x12++([(x2.entries.getD ((x81.getD ((x83:Int).toNat) 0):Int).toNat (dflt .entry)).key]:List ByteArray)) x26 x27 x81 x82 (IntKind.wrap .i64 (x83+1))) else none) else none) else none) else none) else none) else (some (x1,x2,x6,x12,x26,x27))
def Z1.l0:Nat->Int->Library->(List (List ByteArray))->Int->Int->Option ((List (List ByteArray)))
 | 0,_,_,_,_,_=>none
 | k+1,x1,x2,x6,x26,x27=>bif (decide (x27<x26)) then ((Z1.l2 k x1 x2 x6 x27 ([x27]:List Int) 0 x26 x27).bind fun y6=>(Z70.F k y6.2.2.2.2.1).bind fun r7=>bif (decide ((r7.length:Int)<2)) then (Z1.l0 k y6.1 y6.2.1 y6.2.2.1 y6.2.2.2.2.2.1 (IntKind.wrap .i64 (y6.2.2.2.2.2.2+1))) else (bif decide (0<=0) then (bif decide (0<(r7.length:Int)) then (bif ((r7.getD ((0:Int).toNat) 0) != y6.2.2.2.1) then (Z1.l0 k y6.1 y6.2.1 y6.2.2.1 y6.2.2.2.2.2.1 (IntKind.wrap .i64 (y6.2.2.2.2.2.2+1))) else ((Z1.l6 k y6.1 y6.2.1 y6.2.2.1 ([]:List ByteArray) y6.2.2.2.2.2.1 y6.2.2.2.2.2.2 r7 (r7.length:Int) 0).bind fun y8=>bif room (y8.2.2.1.length+([y8.2.2.2.1]:List (List ByteArray)).length) (.sl .str) then (Z1.l0 k y8.1 y8.2.1 (y8.2.2.1++([y8.2.2.2.1]:List (List ByteArray))) y8.2.2.2.2.1 (IntKind.wrap .i64 (y8.2.2.2.2.2+1))) else none)) else none) else none)) else (some x6)
def Z1.F (k:Nat) (a0:Library) (a1:Int):Option ((List (List ByteArray)) × Bool):=(Z14.F k a0).bind fun r1=>bif (!r1) then (some ([],false)) else ((Z49.F a1 0 40).bind fun r2=>bif (!r2) then (some ([],false)) else ((Z1.l0 k a1 a0 ([]:List (List ByteArray)) (a0.entries.length:Int) 0).bind fun y9=>some (y9,true)))
def Z1.C (k:Nat):Cal->Option CArm:=fun c=>match c with
 | .f 32=>some (.p [.lib] _ (fun x=>Z14.F k x.1) (fun r=>(.t .bool r)))
 | .f 33=>some (.p [(.int .i64),(.int .i64),(.int .i64)] _ (fun x=>Z49.F x.1 x.2.1 x.2.2.1) (fun r=>(.t .bool r)))
 | .f 34=>some (.p [(.sl (.int .i64)),(.int .i64)] _ (fun x=>Z69.F k x.1 x.2.1) (fun r=>(.t .bool r)))
 | .f 35=>some (.p [.entry,.entry,(.int .i64)] _ (fun x=>Z64.F k x.1 x.2.1 x.2.2.1) (fun r=>(.t .bool r)))
 | .f 36=>some (.m (.fr 3 (.int .i64)) [] _ (fun x0 x=>Z70.F k x0) (fun r=> .kep (.fr 3 (.int .i64) r) (.tup [])))
 | _=>none
def Z1.sp4:List Sp:=[.t 1 (.int .i64),.boxT 2 0 .lib,.tv 6 3072 65 (.sl (.sl .str)) true,.t 7 (.int .i64),.own 8 7172 3 (.int .i64) false true,.t 9 (.int .i64),.t 26 (.int .i64),.t 27 (.int .i64),.t 39 (.sl .entry),.t 40 (.int .i64),.t 41 (.int .i64)]
def Z1.sp4_0:List Sp:=[.t 1 (.int .i64),.boxT 2 0 .lib,.tv 6 3072 65 (.sl (.sl .str)) true,.t 7 (.int .i64),.own 8 7172 3 (.int .i64) false true,.t 9 (.int .i64),.t 26 (.int .i64),.t 27 (.int .i64)]
def Z1.A4:LArm:=.one Z1.sp4 Z1.sp4_0 (Int × Library × (List (List ByteArray)) × Int × (List Int) × Int × Int × Int) (fun k x=>Z1.l4 k x.1 x.2.1 x.2.2.1 x.2.2.2.1 x.2.2.2.2.1 x.2.2.2.2.2.1 x.2.2.2.2.2.2.1 x.2.2.2.2.2.2.2.1 x.2.2.2.2.2.2.2.2.1 x.2.2.2.2.2.2.2.2.2.1 x.2.2.2.2.2.2.2.2.2.2.1) (.exit 4) (fun y=>(y.1,y.2.1,y.2.2.1,y.2.2.2.1,y.2.2.2.2.1,y.2.2.2.2.2.1,y.2.2.2.2.2.2.1,y.2.2.2.2.2.2.2,())) (fun x=>(x.1,x.2.1,x.2.2.1,x.2.2.2.1,x.2.2.2.2.1,x.2.2.2.2.2.1,x.2.2.2.2.2.2.1,x.2.2.2.2.2.2.2.1))
def Z1.sp2:List Sp:=[.t 1 (.int .i64),.boxT 2 0 .lib,.tv 6 3072 65 (.sl (.sl .str)) true,.t 7 (.int .i64),.own 8 7172 3 (.int .i64) false true,.t 9 (.int .i64),.t 26 (.int .i64),.t 27 (.int .i64)]
def Z1.sp2_0:List Sp:=[.t 1 (.int .i64),.boxT 2 0 .lib,.tv 6 3072 65 (.sl (.sl .str)) true,.t 7 (.int .i64),.own 8 7172 3 (.int .i64) false true,.t 26 (.int .i64),.t 27 (.int .i64)]
def Z1.A2:LArm:=.one Z1.sp2 Z1.sp2_0 (Int × Library × (List (List ByteArray)) × Int × (List Int) × Int × Int) (fun k x=>Z1.l2 k x.1 x.2.1 x.2.2.1 x.2.2.2.1 x.2.2.2.2.1 x.2.2.2.2.2.1 x.2.2.2.2.2.2.1 x.2.2.2.2.2.2.2.1) (.exit 2) (fun y=>(y.1,y.2.1,y.2.2.1,y.2.2.2.1,y.2.2.2.2.1,y.2.2.2.2.2.1,y.2.2.2.2.2.2,())) (fun x=>(x.1,x.2.1,x.2.2.1,x.2.2.2.1,x.2.2.2.2.1,x.2.2.2.2.2.1,x.2.2.2.2.2.2.1))
def Z1.sp6:List Sp:=[.t 1 (.int .i64),.boxT 2 0 .lib,.tv 6 3072 65 (.sl (.sl .str)) true,.own 12 19456 9 .str false true,.t 26 (.int .i64),.t 27 (.int .i64),.own 81 7172 3 (.int .i64) false true,.t 82 (.int .i64),.t 83 (.int .i64)]
def Z1.sp6_0:List Sp:=[.t 1 (.int .i64),.boxT 2 0 .lib,.tv 6 3072 65 (.sl (.sl .str)) true,.own 12 19456 9 .str false true,.t 26 (.int .i64),.t 27 (.int .i64)]
def Z1.A6:LArm:=.one Z1.sp6 Z1.sp6_0 (Int × Library × (List (List ByteArray)) × (List ByteArray) × Int × Int) (fun k x=>Z1.l6 k x.1 x.2.1 x.2.2.1 x.2.2.2.1 x.2.2.2.2.1 x.2.2.2.2.2.1 x.2.2.2.2.2.2.1 x.2.2.2.2.2.2.2.1 x.2.2.2.2.2.2.2.2.1) (.exit 6) (fun y=>(y.1,y.2.1,y.2.2.1,y.2.2.2.1,y.2.2.2.2.1,y.2.2.2.2.2,())) (fun x=>(x.1,x.2.1,x.2.2.1,x.2.2.2.1,x.2.2.2.2.1,x.2.2.2.2.2.1))
def Z1.sp0:List Sp:=[.t 1 (.int .i64),.boxT 2 0 .lib,.tv 6 3072 65 (.sl (.sl .str)) true,.t 26 (.int .i64),.t 27 (.int .i64)]
def Z1.sp0_0:List Sp:=[.tv 6 3072 65 (.sl (.sl .str)) true]
def Z1.A0:LArm:=.one Z1.sp0 Z1.sp0_0 ((List (List ByteArray))) (fun k x=>Z1.l0 k x.1 x.2.1 x.2.2.1 x.2.2.2.1 x.2.2.2.2.1) (.exit 0) (fun y=>(y,())) (fun x=>x.1)
def Z1.L:Nat->Option LArm:=fun b=>match b with
 | 4=>some Z1.A4
 | 2=>some Z1.A2
 | 6=>some Z1.A6
 | 0=>some Z1.A0
 | _=>none
theorem Z1.run (k:Nat) (a0:Library) (a1:Int):Gx.runT envT (tabC (Z1.C k)) (tabL 103 k Z1.L) Tryz.f8 [.t .lib a0,.t (.int .i64) a1] (viewK2 (.tr (.sl (.sl .str))) (.t .bool))=Z1.F k a0 a1:=by kernel_rfl
theorem Z1.step4 (k:Nat) (x1:Int) (x2:Library) (x6:List (List ByteArray)) (x7:Int) (x8:List Int) (x9:Int) (x26:Int) (x27:Int) (x39:List Entry) (x40:Int) (x41:Int):runC envT (tabC (Z1.C k)) (tabL 103 k Z1.L) 4 (loopAt Tryz.f8 4) (stOf 103 Z1.sp4 (x1,x2,x6,x7,x8,x9,x26,x27,x39,x40,x41,())) (Z1.A4.cont 103 k)=Z1.l4 (k+1) x1 x2 x6 x7 x8 x9 x26 x27 x39 x40 x41:=by kernel_rfl
theorem Z1.step2 (k:Nat) (x1:Int) (x2:Library) (x6:List (List ByteArray)) (x7:Int) (x8:List Int) (x9:Int) (x26:Int) (x27:Int):runC envT (tabC (Z1.C k)) (tabL 103 k Z1.L) 2 (loopAt Tryz.f8 2) (stOf 103 Z1.sp2 (x1,x2,x6,x7,x8,x9,x26,x27,())) (Z1.A2.cont 103 k)=Z1.l2 (k+1) x1 x2 x6 x7 x8 x9 x26 x27:=by kernel_rfl
theorem Z1.step6 (k:Nat) (x1:Int) (x2:Library) (x6:List (List ByteArray)) (x12:List ByteArray) (x26:Int) (x27:Int) (x81:List Int) (x82:Int) (x83:Int):runC envT (tabC (Z1.C k)) (tabL 103 k Z1.L) 6 (loopAt Tryz.f8 6) (stOf 103 Z1.sp6 (x1,x2,x6,x12,x26,x27,x81,x82,x83,())) (Z1.A6.cont 103 k)=Z1.l6 (k+1) x1 x2 x6 x12 x26 x27 x81 x82 x83:=by kernel_rfl
theorem Z1.step0 (k:Nat) (x1:Int) (x2:Library) (x6:List (List ByteArray)) (x26:Int) (x27:Int):runC envT (tabC (Z1.C k)) (tabL 103 k Z1.L) 0 (loopAt Tryz.f8 0) (stOf 103 Z1.sp0 (x1,x2,x6,x26,x27,())) (Z1.A0.cont 103 k)=Z1.l0 (k+1) x1 x2 x6 x26 x27:=by kernel_rfl
theorem Z1.G (hE:EnvOk Tryz.prog envT) (pv:Nat->Value) (k:Nat):∀ cal A,Z1.C k cal=some A->ArmOk Tryz.prog envT pv cal A:=by
 intro cal A h
 unfold Z1.C at h
 split at h
 ·cases h; exact fun x y hy=>Z14.good envOk pv k x.1 hy
 ·cases h; exact fun x y hy=>Z49.good envOk pv x.1 x.2.1 x.2.2.1 hy
 ·cases h; exact fun x y hy=>Z69.good envOk pv k x.1 x.2.1 hy
 ·cases h; exact fun x y hy=>Z64.good envOk pv k x.1 x.2.1 x.2.2.1 hy
 ·cases h; exact ⟨_,rfl,fun x0 x y hy=>Z70.good envOk pv k x0 hy⟩
 ·cases h
theorem Z1.good (hE:EnvOk Tryz.prog envT) (pv:Nat->Value) (k:Nat) (a0:Library) (a1:Int) {y:_} (h:Z1.F k a0 a1=some y):MeetsT Tryz.prog envT pv 8 (tvals [.lib,(.int .i64)] (a0,a1,())) (.tup [.tr (.sl (.sl .str)) y.1,.t .bool y.2]) :=
 funT_loops hE (t:=Z1.C) k (fun k _=>Z1.G hE pv k) (f:=8) (fn:=Tryz.f8) (by kernel_rfl) rfl (by kernel_rfl) (by kernel_rfl) (lt:=Z1.L) (by kernel_rfl) (fun b A h=>by
  unfold Z1.L at h; split at h
  ·cases h; exact ⟨by kernel_rfl,by kernel_rfl,fun _=>rfl,fun _=>rfl⟩
  ·cases h; exact ⟨by kernel_rfl,by kernel_rfl,fun _=>rfl,fun _=>rfl⟩
  ·cases h; exact ⟨by kernel_rfl,by kernel_rfl,fun _=>rfl,fun _=>rfl⟩
  ·cases h; exact ⟨by kernel_rfl,by kernel_rfl,fun _=>rfl,fun _=>rfl⟩
  ·cases h) (fun b A h=>by
  unfold Z1.L at h; split at h
  ·cases h; exact fun k x=>Z1.step4 k x.1 x.2.1 x.2.2.1 x.2.2.2.1 x.2.2.2.2.1 x.2.2.2.2.2.1 x.2.2.2.2.2.2.1 x.2.2.2.2.2.2.2.1 x.2.2.2.2.2.2.2.2.1 x.2.2.2.2.2.2.2.2.2.1 x.2.2.2.2.2.2.2.2.2.2.1
  ·cases h; exact fun k x=>Z1.step2 k x.1 x.2.1 x.2.2.1 x.2.2.2.1 x.2.2.2.2.1 x.2.2.2.2.2.1 x.2.2.2.2.2.2.1 x.2.2.2.2.2.2.2.1
  ·cases h; exact fun k x=>Z1.step6 k x.1 x.2.1 x.2.2.1 x.2.2.2.1 x.2.2.2.2.1 x.2.2.2.2.2.1 x.2.2.2.2.2.2.1 x.2.2.2.2.2.2.2.1 x.2.2.2.2.2.2.2.2.1
  ·cases h; exact fun k x=>Z1.step0 k x.1 x.2.1 x.2.2.1 x.2.2.2.1 x.2.2.2.2.1
  ·cases h) ((Z1.run k a0 a1).trans h) (fun r hr=>kt_view2 (k:=(.tr (.sl (.sl .str)))) (l:=(.t .bool)) hr)
def Z44.l0:Nat->(List ByteArray)->Int->Int->Option ((List ByteArray) × Int)
 | 0,_,_,_=>none
 | k+1,x0,x1,x5=>bif (decide (x5<(x0.length:Int))) then ((Z6.F k x1).bind fun r1=>bif decide (0<=x5) then (bif decide (x5<(x0.length:Int)) then (Z44.l0 k x0 (IntKind.wrap .i64 (x1+1)) (IntKind.wrap .i64 (x5+1))) else none) else none) else (some (x0,x1))
def Z44.F (k:Nat) (a0:List ByteArray) (a1:Int):Option (Int):=(Z44.l0 k a0 a1 0).bind fun y2=>some y2.2
def Z44.C (k:Nat):Cal->Option CArm:=fun c=>match c with
 | .f 75=>some (.p [(.int .i64)] _ (fun x=>Z6.F k x.1) (fun r=>(.t .str r)))
 | _=>none
def Z44.sp0:List Sp:=[.ds 0 1099511627776 (.sl .str) (.sl .str),.t 1 (.int .i64),.t 5 (.int .i64)]
def Z44.sp0_0:List Sp:=[.ds 0 1099511627776 (.sl .str) (.sl .str),.t 1 (.int .i64)]
def Z44.A0:LArm:=.one Z44.sp0 Z44.sp0_0 ((List ByteArray) × Int) (fun k x=>Z44.l0 k x.1 x.2.1 x.2.2.1) (.exit 0) (fun y=>(y.1,y.2,())) (fun x=>(x.1,x.2.1))
def Z44.L:Nat->Option LArm:=fun b=>match b with
 | 0=>some Z44.A0
 | _=>none
theorem Z44.run (k:Nat) (a0:List ByteArray) (a1:Int):runD envX (tabC (Z44.C k)) (tabL 20 k Z44.L) Tryz.f40 (.sl .str) a0 a1 (viewR1 (.t (.int .i64)))=Z44.F k a0 a1:=by kernel_rfl
theorem Z44.step0 (k:Nat) (x0:List ByteArray) (x1:Int) (x5:Int):runC envX (tabC (Z44.C k)) (tabL 20 k Z44.L) 0 (loopAt Tryz.f40 0) (stOf 20 Z44.sp0 (x0,x1,x5,())) (Z44.A0.cont 20 k)=Z44.l0 (k+1) x0 x1 x5:=by kernel_rfl
theorem Z44.G (hE:EnvOk Tryz.prog envX) (pv:Nat->Value) (k:Nat):∀ cal A,Z44.C k cal=some A->ArmOk Tryz.prog envX pv cal A:=by
 intro cal A h
 unfold Z44.C at h
 split at h
 ·cases h; exact fun x y hy=>Z6.good hE pv k x.1 hy
 ·cases h
theorem Z44.good (hE:EnvOk Tryz.prog envX) (pv:Nat->Value) (k:Nat) (a0:List ByteArray) (a1:Int) {y:_} (h:Z44.F k a0 a1=some y):MeetsD Tryz.prog envX pv 40 (.sl .str) a0 a1 y :=
 funD_loops hE (t:=Z44.C) k (fun k _=>Z44.G hE pv k) (f:=40) (fn:=Tryz.f40) (by kernel_rfl) rfl (by kernel_rfl) (by kernel_rfl) (lt:=Z44.L) (by kernel_rfl) (fun b A h=>by
  unfold Z44.L at h; split at h
  ·cases h; exact ⟨by kernel_rfl,by kernel_rfl,fun _=>rfl,fun _=>rfl⟩
  ·cases h) (fun b A h=>by
  unfold Z44.L at h; split at h
  ·cases h; exact fun k x=>Z44.step0 k x.1 x.2.1 x.2.2.1
  ·cases h) rfl ((Z44.run k a0 a1).trans h) (fun r hr=>view_int hr)
def Z38.l0:Nat->(List Name)->Int->Int->Option ((List Name) × Int)
 | 0,_,_,_=>none
 | k+1,x0,x1,x5=>bif (decide (x5<(x0.length:Int))) then (bif decide (0<=x5) then (bif decide (x5<(x0.length:Int)) then ((Z44.F k ((x0.getD (x5:Int).toNat (dflt .name)).given) x1).bind fun r1=>(Z6.F k r1).bind fun r2=>bif decide (0<=x5) then (bif decide (x5<(x0.length:Int)) then ((Z6.F k (IntKind.wrap .i64 (r1+1))).bind fun r3=>bif decide (0<=x5) then (bif decide (x5<(x0.length:Int)) then ((Z6.F k (IntKind.wrap .i64 ((IntKind.wrap .i64 (r1+1))+1))).bind fun r4=>bif decide (0<=x5) then (bif decide (x5<(x0.length:Int)) then (Z38.l0 k x0 (IntKind.wrap .i64 ((IntKind.wrap .i64 ((IntKind.wrap .i64 (r1+1))+1))+1)) (IntKind.wrap .i64 (x5+1))) else none) else none) else none) else none) else none) else none) else none) else none) else (some (x0,x1))
def Z38.F (k:Nat) (a0:List Name) (a1:Int):Option (Int):=(Z38.l0 k a0 a1 0).bind fun y5=>some y5.2
def Z38.C (k:Nat):Cal->Option CArm:=fun c=>match c with
 | .f 40=>some (.d (.sl .str) (fun x q=>Z44.F k x q))
 | .f 75=>some (.p [(.int .i64)] _ (fun x=>Z6.F k x.1) (fun r=>(.t .str r)))
 | _=>none
def Z38.sp0:List Sp:=[.ds 0 1099511627776 (.sl .name) (.sl .name),.t 1 (.int .i64),.t 5 (.int .i64)]
def Z38.sp0_0:List Sp:=[.ds 0 1099511627776 (.sl .name) (.sl .name),.t 1 (.int .i64)]
def Z38.A0:LArm:=.one Z38.sp0 Z38.sp0_0 ((List Name) × Int) (fun k x=>Z38.l0 k x.1 x.2.1 x.2.2.1) (.exit 0) (fun y=>(y.1,y.2,())) (fun x=>(x.1,x.2.1))
def Z38.L:Nat->Option LArm:=fun b=>match b with
 | 0=>some Z38.A0
 | _=>none
theorem Z38.run (k:Nat) (a0:List Name) (a1:Int):runD envX (tabC (Z38.C k)) (tabL 44 k Z38.L) Tryz.f76 (.sl .name) a0 a1 (viewR1 (.t (.int .i64)))=Z38.F k a0 a1:=by kernel_rfl
theorem Z38.step0 (k:Nat) (x0:List Name) (x1:Int) (x5:Int):runC envX (tabC (Z38.C k)) (tabL 44 k Z38.L) 0 (loopAt Tryz.f76 0) (stOf 44 Z38.sp0 (x0,x1,x5,())) (Z38.A0.cont 44 k)=Z38.l0 (k+1) x0 x1 x5:=by kernel_rfl
theorem Z38.G (hE:EnvOk Tryz.prog envX) (pv:Nat->Value) (k:Nat):∀ cal A,Z38.C k cal=some A->ArmOk Tryz.prog envX pv cal A:=by
 intro cal A h
 unfold Z38.C at h
 split at h
 ·cases h; exact ⟨_,rfl,fun x q y hy=>Z44.good hE pv k x q hy⟩
 ·cases h; exact fun x y hy=>Z6.good hE pv k x.1 hy
 ·cases h
theorem Z38.good (hE:EnvOk Tryz.prog envX) (pv:Nat->Value) (k:Nat) (a0:List Name) (a1:Int) {y:_} (h:Z38.F k a0 a1=some y):MeetsD Tryz.prog envX pv 76 (.sl .name) a0 a1 y :=
 funD_loops hE (t:=Z38.C) k (fun k _=>Z38.G hE pv k) (f:=76) (fn:=Tryz.f76) (by kernel_rfl) rfl (by kernel_rfl) (by kernel_rfl) (lt:=Z38.L) (by kernel_rfl) (fun b A h=>by
  unfold Z38.L at h; split at h
  ·cases h; exact ⟨by kernel_rfl,by kernel_rfl,fun _=>rfl,fun _=>rfl⟩
  ·cases h) (fun b A h=>by
  unfold Z38.L at h; split at h
  ·cases h; exact fun k x=>Z38.step0 k x.1 x.2.1 x.2.2.1
  ·cases h) rfl ((Z38.run k a0 a1).trans h) (fun r hr=>view_int hr)
def Z48.l0:Nat->(List Entry)->Int->Int->Option ((List Entry) × Int)
 | 0,_,_,_=>none
 | k+1,x0,x1,x5=>bif (decide (x5<(x0.length:Int))) then ((Z6.F k x1).bind fun r1=>bif decide (0<=x5) then (bif decide (x5<(x0.length:Int)) then (bif decide (0<=x5) then (bif decide (x5<(x0.length:Int)) then (bif decide (0<=x5) then (bif decide (x5<(x0.length:Int)) then ((Z38.F k ((x0.getD (x5:Int).toNat (dflt .entry)).authors) (IntKind.wrap .i64 ((IntKind.wrap .i64 (x1+1))+1))).bind fun r2=>bif decide (0<=x5) then (bif decide (x5<(x0.length:Int)) then ((Z38.F k ((x0.getD (x5:Int).toNat (dflt .entry)).editors) r2).bind fun r3=>(Z6.F k r3).bind fun r4=>bif decide (0<=x5) then (bif decide (x5<(x0.length:Int)) then ((Z6.F k (IntKind.wrap .i64 (r3+1))).bind fun r5=>bif decide (0<=x5) then (bif decide (x5<(x0.length:Int)) then ((Z6.F k (IntKind.wrap .i64 ((IntKind.wrap .i64 (r3+1))+1))).bind fun r6=>bif decide (0<=x5) then (bif decide (x5<(x0.length:Int)) then (bif decide (0<=x5) then (bif decide (x5<(x0.length:Int)) then (bif decide (0<=x5) then (bif decide (x5<(x0.length:Int)) then (bif decide (0<=x5) then (bif decide (x5<(x0.length:Int)) then (bif (3==0) then (none) else (bif decide (0<=x5) then (bif decide (x5<(x0.length:Int)) then (bif decide (0<=x5) then (bif decide (x5<(x0.length:Int)) then ((Z6.F k (IntKind.wrap .i64 ((IntKind.wrap .i64 ((IntKind.wrap .i64 ((IntKind.wrap .i64 ((IntKind.wrap .i64 ((IntKind.wrap .i64 ((IntKind.wrap .i64 ((IntKind.wrap .i64 (r3+1))+1))+1))+1))+1))+1))+1))+1))).bind fun r7=>bif decide (0<=x5) then (bif decide (x5<(x0.length:Int)) then ((Z6.F k (IntKind.wrap .i64 ((IntKind.wrap .i64 ((IntKind.wrap .i64 ((IntKind.wrap .i64 ((IntKind.wrap .i64 ((IntKind.wrap .i64 ((IntKind.wrap .i64 ((IntKind.wrap .i64 ((IntKind.wrap .i64 (r3+1))+1))+1))+1))+1))+1))+1))+1))+1))).bind fun r8=>bif decide (0<=x5) then (bif decide (x5<(x0.length:Int)) then (Z48.l0 k x0 (IntKind.wrap .i64 ((IntKind.wrap .i64 ((IntKind.wrap .i64 ((IntKind.wrap .i64 ((IntKind.wrap .i64 ((IntKind.wrap .i64 ((IntKind.wrap .i64 ((IntKind.wrap .i64 ((IntKind.wrap .i64 ((IntKind.wrap .i64 (r3+1))+1))+1))+1))+1))+1))+1))+1))+1))+1)) (IntKind.wrap .i64 (x5+1))) else none) else none) else none) else none) else none) else none) else none) else none)) else none) else none) else none) else none) else none) else none) else none) else none) else none) else none) else none) else none) else none) else none) else none) else none) else none) else none) else none) else none) else (some (x0,x1))
def Z48.F (k:Nat) (a0:List Entry) (a1:Int):Option (Int):=(Z48.l0 k a0 a1 0).bind fun y9=>some y9.2
def Z48.C (k:Nat):Cal->Option CArm:=fun c=>match c with
 | .f 76=>some (.d (.sl .name) (fun x q=>Z38.F k x q))
 | .f 75=>some (.p [(.int .i64)] _ (fun x=>Z6.F k x.1) (fun r=>(.t .str r)))
 | _=>none
def Z48.sp0:List Sp:=[.ds 0 1099511627776 (.sl .entry) (.sl .entry),.t 1 (.int .i64),.t 5 (.int .i64)]
def Z48.sp0_0:List Sp:=[.ds 0 1099511627776 (.sl .entry) (.sl .entry),.t 1 (.int .i64)]
def Z48.A0:LArm:=.one Z48.sp0 Z48.sp0_0 ((List Entry) × Int) (fun k x=>Z48.l0 k x.1 x.2.1 x.2.2.1) (.exit 0) (fun y=>(y.1,y.2,())) (fun x=>(x.1,x.2.1))
def Z48.L:Nat->Option LArm:=fun b=>match b with
 | 0=>some Z48.A0
 | _=>none
theorem Z48.run (k:Nat) (a0:List Entry) (a1:Int):runD envX (tabC (Z48.C k)) (tabL 123 k Z48.L) Tryz.f39 (.sl .entry) a0 a1 (viewR1 (.t (.int .i64)))=Z48.F k a0 a1:=by kernel_rfl
theorem Z48.step0 (k:Nat) (x0:List Entry) (x1:Int) (x5:Int):runC envX (tabC (Z48.C k)) (tabL 123 k Z48.L) 0 (loopAt Tryz.f39 0) (stOf 123 Z48.sp0 (x0,x1,x5,())) (Z48.A0.cont 123 k)=Z48.l0 (k+1) x0 x1 x5:=by kernel_rfl
theorem Z48.G (hE:EnvOk Tryz.prog envX) (pv:Nat->Value) (k:Nat):∀ cal A,Z48.C k cal=some A->ArmOk Tryz.prog envX pv cal A:=by
 intro cal A h
 unfold Z48.C at h
 split at h
 ·cases h; exact ⟨_,rfl,fun x q y hy=>Z38.good hE pv k x q hy⟩
 ·cases h; exact fun x y hy=>Z6.good hE pv k x.1 hy
 ·cases h
theorem Z48.good (hE:EnvOk Tryz.prog envX) (pv:Nat->Value) (k:Nat) (a0:List Entry) (a1:Int) {y:_} (h:Z48.F k a0 a1=some y):MeetsD Tryz.prog envX pv 39 (.sl .entry) a0 a1 y :=
 funD_loops hE (t:=Z48.C) k (fun k _=>Z48.G hE pv k) (f:=39) (fn:=Tryz.f39) (by kernel_rfl) rfl (by kernel_rfl) (by kernel_rfl) (lt:=Z48.L) (by kernel_rfl) (fun b A h=>by
  unfold Z48.L at h; split at h
  ·cases h; exact ⟨by kernel_rfl,by kernel_rfl,fun _=>rfl,fun _=>rfl⟩
  ·cases h) (fun b A h=>by
  unfold Z48.L at h; split at h
  ·cases h; exact fun k x=>Z48.step0 k x.1 x.2.1 x.2.2.1
  ·cases h) rfl ((Z48.run k a0 a1).trans h) (fun r hr=>view_int hr)
def Z101.F (k:Nat) (a0:Library) (a1:Int):Option (Int):=(Z48.F k a0.entries a1).bind fun r1=>some r1
def Z101.C (k:Nat):Cal->Option CArm:=fun c=>match c with
 | .f 39=>some (.d (.sl .entry) (fun x q=>Z48.F k x q))
 | _=>none
theorem Z101.run (k:Nat) (a0:Library) (a1:Int):runD envX (tabC (Z101.C k)) (tabL 10 0 (fun _=>none)) Tryz.f11 .lib a0 a1 (viewR1 (.t (.int .i64)))=Z101.F k a0 a1:=by kernel_rfl
theorem Z101.G (hE:EnvOk Tryz.prog envX) (pv:Nat->Value) (k:Nat):∀ cal A,Z101.C k cal=some A->ArmOk Tryz.prog envX pv cal A:=by
 intro cal A h
 unfold Z101.C at h
 split at h
 ·cases h; exact ⟨_,rfl,fun x q y hy=>Z48.good hE pv k x q hy⟩
 ·cases h
theorem Z101.good (hE:EnvOk Tryz.prog envX) (pv:Nat->Value) (k:Nat) (a0:Library) (a1:Int) {y:_} (h:Z101.F k a0 a1=some y):MeetsD Tryz.prog envX pv 11 .lib a0 a1 y :=
 funD_plain hE (Z101.G hE pv k) (f:=11) (fn:=Tryz.f11) (by kernel_rfl) rfl (by kernel_rfl) (by kernel_rfl) rfl ((Z101.run k a0 a1).trans h) (fun r hr=>view_int hr)
def Z45.l0:Nat->(List ByteArray)->Int->Int->Option ((List ByteArray) × Int)
 | 0,_,_,_=>none
 | k+1,x0,x1,x5=>bif (decide (x5<(x0.length:Int))) then ((Z6.F k x1).bind fun r1=>bif decide (0<=x5) then (bif decide (x5<(x0.length:Int)) then ((some (x0.set ((x5:Int).toNat) r1)).bind fun w2=>Z45.l0 k w2 (IntKind.wrap .i64 (x1+1)) (IntKind.wrap .i64 (x5+1))) else none) else none) else (some (x0,x1))
def Z45.F (k:Nat) (a0:List ByteArray) (a1:Int):Option ((List ByteArray) × Int):=(Z45.l0 k a0 a1 0).bind fun y3=>some (y3.1,y3.2)
def Z45.C (k:Nat):Cal->Option CArm:=fun c=>match c with
 | .f 75=>some (.p [(.int .i64)] _ (fun x=>Z6.F k x.1) (fun r=>(.t .str r)))
 | _=>none
def Z45.sp0:List Sp:=[.tv 0 1099511627776 0 (.sl .str) false,.t 1 (.int .i64),.t 5 (.int .i64)]
def Z45.sp0_0:List Sp:=[.tv 0 1099511627776 0 (.sl .str) false,.t 1 (.int .i64)]
def Z45.A0:LArm:=.one Z45.sp0 Z45.sp0_0 ((List ByteArray) × Int) (fun k x=>Z45.l0 k x.1 x.2.1 x.2.2.1) (.exit 0) (fun y=>(y.1,y.2,())) (fun x=>(x.1,x.2.1))
def Z45.L:Nat->Option LArm:=fun b=>match b with
 | 0=>some Z45.A0
 | _=>none
theorem Z45.run (k:Nat) (a0:List ByteArray) (a1:Int):Gx.runX envX (tabC (Z45.C k)) (tabL 20 k Z45.L) Tryz.f40 (.sl .str) a0 a1 (viewKep (.sl .str))=Z45.F k a0 a1:=by kernel_rfl
theorem Z45.step0 (k:Nat) (x0:List ByteArray) (x1:Int) (x5:Int):runC envX (tabC (Z45.C k)) (tabL 20 k Z45.L) 0 (loopAt Tryz.f40 0) (stOf 20 Z45.sp0 (x0,x1,x5,())) (Z45.A0.cont 20 k)=Z45.l0 (k+1) x0 x1 x5:=by kernel_rfl
theorem Z45.G (hE:EnvOk Tryz.prog envX) (pv:Nat->Value) (k:Nat):∀ cal A,Z45.C k cal=some A->ArmOk Tryz.prog envX pv cal A:=by
 intro cal A h
 unfold Z45.C at h
 split at h
 ·cases h; exact fun x y hy=>Z6.good hE pv k x.1 hy
 ·cases h
theorem Z45.good (hE:EnvOk Tryz.prog envX) (pv:Nat->Value) (k:Nat) (a0:List ByteArray) (a1:Int) {y:_} (h:Z45.F k a0 a1=some y):MeetsX Tryz.prog envX pv 40 (.sl .str) a0 a1 y.1 y.2 :=
 funX_loops hE (t:=Z45.C) k (fun k _=>Z45.G hE pv k) (f:=40) (fn:=Tryz.f40) (by kernel_rfl) rfl (by kernel_rfl) (by kernel_rfl) (lt:=Z45.L) (by kernel_rfl) (fun b A h=>by
  unfold Z45.L at h; split at h
  ·cases h; exact ⟨by kernel_rfl,by kernel_rfl,fun _=>rfl,fun _=>rfl⟩
  ·cases h) (fun b A h=>by
  unfold Z45.L at h; split at h
  ·cases h; exact fun k x=>Z45.step0 k x.1 x.2.1 x.2.2.1
  ·cases h) rfl ((Z45.run k a0 a1).trans h)
def Z46.l0:Nat->(List (List ByteArray))->Int->Int->Option ((List (List ByteArray)) × Int)
 | 0,_,_,_=>none
 | k+1,x0,x1,x5=>bif (decide (x5<(x0.length:Int))) then (bif decide (0<=x5) then (bif decide (x5<(x0.length:Int)) then ((Z45.F k (x0.getD ((x5:Int).toNat) []) x1).bind fun r1=>(some (x0.set ((x5:Int).toNat) r1.1)).bind fun w2=>Z46.l0 k w2 r1.2 (IntKind.wrap .i64 (x5+1))) else none) else none) else (some (x0,x1))
def Z46.F (k:Nat) (a0:List (List ByteArray)) (a1:Int):Option ((List (List ByteArray)) × Int):=(Z46.l0 k a0 a1 0).bind fun y3=>some (y3.1,y3.2)
def Z46.C (k:Nat):Cal->Option CArm:=fun c=>match c with
 | .f 40=>some (.x (.sl .str) (fun x q=>Z45.F k x q))
 | _=>none
def Z46.sp0:List Sp:=[.tv 0 1099511627776 0 (.sl (.sl .str)) false,.t 1 (.int .i64),.t 5 (.int .i64)]
def Z46.sp0_0:List Sp:=[.tv 0 1099511627776 0 (.sl (.sl .str)) false,.t 1 (.int .i64)]
def Z46.A0:LArm:=.one Z46.sp0 Z46.sp0_0 ((List (List ByteArray)) × Int) (fun k x=>Z46.l0 k x.1 x.2.1 x.2.2.1) (.exit 0) (fun y=>(y.1,y.2,())) (fun x=>(x.1,x.2.1))
def Z46.L:Nat->Option LArm:=fun b=>match b with
 | 0=>some Z46.A0
 | _=>none
theorem Z46.run (k:Nat) (a0:List (List ByteArray)) (a1:Int):Gx.runX envX (tabC (Z46.C k)) (tabL 19 k Z46.L) Tryz.f12 (.sl (.sl .str)) a0 a1 (viewKep (.sl (.sl .str)))=Z46.F k a0 a1:=by kernel_rfl
theorem Z46.step0 (k:Nat) (x0:List (List ByteArray)) (x1:Int) (x5:Int):runC envX (tabC (Z46.C k)) (tabL 19 k Z46.L) 0 (loopAt Tryz.f12 0) (stOf 19 Z46.sp0 (x0,x1,x5,())) (Z46.A0.cont 19 k)=Z46.l0 (k+1) x0 x1 x5:=by kernel_rfl
theorem Z46.G (hE:EnvOk Tryz.prog envX) (pv:Nat->Value) (k:Nat):∀ cal A,Z46.C k cal=some A->ArmOk Tryz.prog envX pv cal A:=by
 intro cal A h
 unfold Z46.C at h
 split at h
 ·cases h; exact ⟨rfl,_,rfl,fun x q y hy=>Z45.good hE pv k x q hy⟩
 ·cases h
theorem Z46.good (hE:EnvOk Tryz.prog envX) (pv:Nat->Value) (k:Nat) (a0:List (List ByteArray)) (a1:Int) {y:_} (h:Z46.F k a0 a1=some y):MeetsX Tryz.prog envX pv 12 (.sl (.sl .str)) a0 a1 y.1 y.2 :=
 funX_loops hE (t:=Z46.C) k (fun k _=>Z46.G hE pv k) (f:=12) (fn:=Tryz.f12) (by kernel_rfl) rfl (by kernel_rfl) (by kernel_rfl) (lt:=Z46.L) (by kernel_rfl) (fun b A h=>by
  unfold Z46.L at h; split at h
  ·cases h; exact ⟨by kernel_rfl,by kernel_rfl,fun _=>rfl,fun _=>rfl⟩
  ·cases h) (fun b A h=>by
  unfold Z46.L at h; split at h
  ·cases h; exact fun k x=>Z46.step0 k x.1 x.2.1 x.2.2.1
  ·cases h) rfl ((Z46.run k a0 a1).trans h)
def Z106.F (k:Nat) (a0:Library) (a1:Int):Option (Bool):=(Z82.F k a0 1048576).bind fun r1=>bif (decide (r1<0)) then (some true) else ((Z65.F k a0).bind fun r2=>(Z0.F k r2 a1).bind fun r3=>(Z65.F k a0).bind fun r4=>(Z1.F k r4 a1).bind fun r5=>(Z25.F k r5.1 r3.1).bind fun r6=>bif (!r6) then (some false) else (bif (!(r5.2==r3.2)) then (some false) else ((Z65.F k a0).bind fun r7=>(Z100.F k r4 r7).bind fun r8=>bif (!r8) then (some false) else ((Z101.F k r4 1).bind fun r9=>bif (decide (r9<0)) then (some false) else ((Z25.F k r5.1 r3.1).bind fun r10=>bif (!r10) then (some false) else (bif (!(r5.2==r3.2)) then (some false) else ((Z46.F k r5.1 1).bind fun r11=>(Z28.F k r11.1 1).bind fun r12=>bif (decide (r12<0)) then (some false) else (bif (r12 != r11.2) then (some false) else ((Z65.F k a0).bind fun r13=>(Z1.F k r13 a1).bind fun r14=>(Z25.F k r14.1 r3.1).bind fun r15=>bif (!r15) then (some false) else (bif (!(r14.2==r3.2)) then (some false) else ((Z28.F k r11.1 1).bind fun r16=>bif (decide (r16<0)) then (some false) else (bif (r16 != r11.2) then (some false) else (some true)))))))))))))
def Z106.C (k:Nat):Cal->Option CArm:=fun c=>match c with
 | .f 7=>some (.pp [.lib] .lib (fun x=>Z65.F k x.1))
 | .f 8=>some (.tt [.lib,(.int .i64)] _ (fun x=>Z1.F k x.1 x.2.1) (fun r=>(.tup [.tr (.sl (.sl .str)) r.1,.t .bool r.2])))
 | .f 11=>some (.d .lib (fun x q=>Z101.F k x q))
 | .f 12=>some (.x (.sl (.sl .str)) (fun x q=>Z46.F k x q))
 | .f 5=>some (.p [.lib,(.int .i64)] _ (fun x=>Z82.F k x.1 x.2.1) (fun r=>(.t (.int .i64) r)))
 | .f 6=>some (.p [.lib,(.int .i64)] _ (fun x=>Z0.F k x.1 x.2.1) (fun r=>(.tup [.fr 65 (.sl .str) r.1,.t .bool r.2])))
 | .f 9=>some (.p [(.sl (.sl .str)),(.sl (.sl .str))] _ (fun x=>Z25.F k x.1 x.2.1) (fun r=>(.t .bool r)))
 | .f 10=>some (.p [.lib,.lib] _ (fun x=>Z100.F k x.1 x.2.1) (fun r=>(.t .bool r)))
 | .f 13=>some (.p [(.sl (.sl .str)),(.int .i64)] _ (fun x=>Z28.F k x.1 x.2.1) (fun r=>(.t (.int .i64) r)))
 | _=>none
theorem Z106.run (k:Nat) (a0:Library) (a1:Int):runF envX (tabC (Z106.C k)) (tabL 101 0 (fun _=>none)) Tryz.f3 [.t .lib a0,.t (.int .i64) a1] (viewR1 (.t .bool))=Z106.F k a0 a1:=by kernel_rfl
theorem Z106.G (hE:EnvOk Tryz.prog envX) (pv:Nat->Value) (k:Nat):∀ cal A,Z106.C k cal=some A->ArmOk Tryz.prog envX pv cal A:=by
 intro cal A h
 unfold Z106.C at h
 split at h
 ·cases h; exact ⟨_,rfl,fun x y hy=>meetsP_of (E:=envX) (E':=envP) rfl rfl rfl fun n=>Z65.good envOkP pv n k x.1 hy⟩
 ·cases h; exact ⟨_,rfl,fun x y hy=>Z1.good envOkT pv k x.1 x.2.1 hy⟩
 ·cases h; exact ⟨_,rfl,fun x q y hy=>Z101.good hE pv k x q hy⟩
 ·cases h; exact ⟨rfl,_,rfl,fun x q y hy=>Z46.good hE pv k x q hy⟩
 ·cases h; exact fun x y hy=>Z82.good hE pv k x.1 x.2.1 hy
 ·cases h; exact fun x y hy=>Z0.good hE pv k x.1 x.2.1 hy
 ·cases h; exact fun x y hy=>Z25.good hE pv k x.1 x.2.1 hy
 ·cases h; exact fun x y hy=>Z100.good hE pv k x.1 x.2.1 hy
 ·cases h; exact fun x y hy=>Z28.good hE pv k x.1 x.2.1 hy
 ·cases h
theorem Z106.good (hE:EnvOk Tryz.prog envX) (pv:Nat->Value) (k:Nat) (a0:Library) (a1:Int) {y:_} (h:Z106.F k a0 a1=some y):Meets Tryz.prog envX pv (.f 3) (tvals [.lib,(.int .i64)] (a0,a1,())) (.t .bool y) :=
 fun_plain hE (Z106.G hE pv k) (f:=3) (fn:=Tryz.f3) (by kernel_rfl) rfl (by kernel_rfl) (by kernel_rfl) ((Z106.run k a0 a1).trans h) (fun r hr=>wk_view1 hr)
end Go.Proofs.YtoojiikgbopeiaaGreatDoor
end
