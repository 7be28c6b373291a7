/- Library functions: their contracts,proved once for any program,as what a callee keeps to. By an AI agent's session. -/
import Derived.Test.YtehijcmhhkchiaaGreatDoorMrl4
import Derived.Shelf.Vars
import Derived.Below
import Derived.Lib.IndexMore
import Derived.Lib.Split
import Derived.Lib.SplitLaws
import Derived.Lib.Repeat
import Derived.Deep.Draws
import Derived.Lib.Join
import Derived.Lib.SlTrimSet
import Derived.Lib.IndexAny
import Derived.Lib.TrimByte
import Derived.Laws.AppendOwn
import Derived.Test.YtehijcmhhkchiaaGreatDoorMrl5
import Derived.Test.YtehijcmhhkchiaaGreatDoorProg
import Derived.KernelRfl
set_option linter.unusedVariables false
set_option linter.unusedSimpArgs false
set_option maxRecDepth 100000
section
namespace Go.Gx
open Go.RowKit Go.Lib
theorem ext_goes {P:Program} {f:FuncId} {fn:Func} {c:Code} (hf:P.funcs[f]? = some fn) (hb:fn.body=some c) (hname:(fn.name == "runtime.NumGoroutine")=false) {args:Array Value} {w:World} {R:Value->World->Prop}
  (h:Calls P f args w fun e w'=>∃ v,e = .returned v/\R v w'):Goes P f args w R:=by
 have hcall:(callFunc f args).run P w = .ok (.enter f args) w:=by
  have hn':fn.name ≠ "runtime.NumGoroutine":= by simpa using hname
  simp [callFunc,hf,hn',hb]
 unfold Goes
 rw [hcall]
 exact h
theorem args_nil {S:Nat->Prop} {w:World} {pv:Nat->Value} {vs:List Value} (h:ArgsOk S w pv [] vs):vs=[]:=List.eq_nil_of_length_eq_zero h.1
theorem args_cons {S:Nat->Prop} {w:World} {pv:Nat->Value} {a:AV} {al:List AV} {vs:List Value} (h:ArgsOk S w pv (a :: al) vs):∃ cs vs',AR S w (fun _=>none) (fun _=>none) pv a cs/\vs=valOf a cs :: vs'/\ArgsOk S w pv al vs':=by
 match vs,h with
 | [],h=>cases h.1
 | v :: vs',⟨h1,h2⟩=>
  obtain ⟨cs,hc,rfl⟩:=h2 0 a v rfl rfl
  exact ⟨cs,vs',hc,rfl,by simpa using h1,fun i b u hb hu=>h2 (i+1) b u (by simpa using hb) (by simpa using hu)⟩
theorem args_str {S:Nat->Prop} {w:World} {pv:Nat->Value} {s:ByteArray} {al:List AV} {vs:List Value} (h:ArgsOk S w pv (.t .str s :: al) vs):∃ vs',vs = .string s :: vs'/\ArgsOk S w pv al vs':=by
 obtain ⟨cs,vs',hc,rfl,h'⟩:=args_cons h
 cases hc with | t _ _ _ hc=>cases hc; exact ⟨vs',rfl,h'⟩
section
variable {P:Program} {E:Env} {pv:Nat->Value} {f:FuncId} {fn:Func} {c:Code}
theorem ext_flat (hf:P.funcs[f]? = some fn) (hb:fn.body=some c) (hname:(fn.name == "runtime.NumGoroutine")=false) {args:List AV} {τ:Ty} {y:den τ} {v:Value} (hy:∀ S w,∃ cs,CR S w τ y cs/\v=valOf (.t τ y) cs)
  (h:∀ S w vs,(∀ b,S b->b<w.heap.size)->GlOk E pv S w->ArgsOk S w pv args vs->Calls P f vs.toArray w fun e w'=>e = .returned v/\Below w.heap.size w w'):Meets P E pv (.f f) args (.t τ y):=by
 intro S w vs hS hgl hargs
 refine ext_goes hf hb hname ((h S w vs hS hgl hargs).mono fun e w' ⟨he,hbl⟩=>⟨v,he,hbl,S,fun b hb=>hb,fun b hb=> .inl hb,?_⟩)
 obtain ⟨cs,hc,rfl⟩:=hy S w'
 exact ⟨none,.plain _ _ (.t _ _ _ hc)⟩
theorem ext_strs (hf:P.funcs[f]? = some fn) (hb:fn.body=some c) (hname:(fn.name == "runtime.NumGoroutine")=false) {args:List AV} {te:Nat} {xs:List ByteArray} (hx:xs.length<=maxLen)
  (h:∀ S w vs,(∀ b,S b->b<w.heap.size)->GlOk E pv S w->ArgsOk S w pv args vs->Calls P f vs.toArray w fun e w'=>e = .returned (.slice (some ⟨w.heap.size,0,none⟩) xs.length xs.length)/\w'=w.alloc (.cells (xs.map Value.string).toArray te)):Meets P E pv (.f f) args (.fr te .str xs):=by
 intro S w vs hS hgl hargs
 refine ext_goes hf hb hname ((h S w vs hS hgl hargs).mono fun e w' ⟨he,hw⟩=>⟨_,he,?_⟩)
 subst hw
 refine ⟨(Below.refl _ w).alloc (Nat.le_refl _) _,S,fun b hb=>hb,fun b hb=> .inl hb,some w.heap.size,.fr te .str xs w.heap.size xs.length (Nat.le_refl _) (fun hs=>absurd (hS _ hs) (Nat.lt_irrefl _)) ⟨(xs.map Value.string).toArray,(0,0),?_,?_,Nat.le_refl _,hx,fun _=>rfl,.inl (Nat.le_refl _),by decide,fun i hi=>⟨[.string xs[i]],.str _,fun j v hj=> ?_⟩⟩⟩
 ·show (w.heap.push _)[w.heap.size]? = _
  simp
 ·simp [nc]
 ·cases j with
  | zero=>
   simp only [List.getElem?_cons_zero,Option.some.injEq] at hj
   subst hj
   simp [nc,hi]
  | succ j=>simp at hj
end
def xSplit (s sep:ByteArray):Option (List ByteArray):=bif Nat.ble s.size 4294967280 && Nat.ble 1 sep.size then some (Lib.splitB sep 0 (Lib.countB s sep) s) else none
theorem ext_split {P:Program} {E:Env} {pv:Nat->Value} {f:FuncId} {fn:Func} {c:Code} (hf:P.funcs[f]? = some fn) (hb:fn.body=some c) (hname:(fn.name == "runtime.NumGoroutine")=false) {mx:Nat} (hmx:E.gi mx=true) {te:Nat}
  (hc:∀ (s sep:ByteArray) (m:Int) (w:World),s.size<4294967281->w.cell? ⟨mx,0,none⟩=some (.int .i64 m)->1<=sep.size->Calls P f #[.string s,.string sep] w fun e w'=>
   e = .returned (.slice (some ⟨w.heap.size,0,none⟩) (Lib.countB s sep+1) (Lib.countB s sep+1))/\w'=w.alloc (.cells ((Lib.splitB sep 0 (Lib.countB s sep) s).map Value.string).toArray te))
  {s sep:ByteArray} {y:List ByteArray} (h:xSplit s sep=some y):Meets P E pv (.f f) (tvals [.str,.str] (s,sep,())) (.fr te .str y):=by
 unfold xSplit at h
 cases hs:Nat.ble s.size 4294967280 && Nat.ble 1 sep.size with
 | false=>rw [hs] at h; cases h
 | true=>
  rw [hs] at h
  cases h
  rw [Bool.and_eq_true] at hs
  have h1:=Nat.le_of_ble_eq_true hs.1
  have h2:=Nat.le_of_ble_eq_true hs.2
  have hl:=Lib.splitB_all sep h2 0 _ s rfl
  have hle:=Lib.countB_le sep h2 s.size s (Nat.le_refl _)
  have hm:maxLen=9223372036854775807:=by decide
  refine ext_strs hf hb hname (by rw [hl,hm]; omega) fun S w vs hS hgl ha=> ?_
  obtain ⟨_,rfl,ha1⟩:=args_str ha
  obtain ⟨_,rfl,ha2⟩:=args_str ha1
  obtain rfl:=args_nil ha2
  obtain ⟨_,m,hm⟩:=hgl.2.1 mx hmx
  rw [hl]
  exact hc s sep m w (by omega) hm h2
def xTrim1 (s cs:ByteArray):Option ByteArray:=match cs with
 | ⟨⟨[c]⟩⟩=>bif Nat.ble s.size 9223372036854775807 && Nat.blt c.toNat 128 then some ⟨(Lib.trimB s.data.toList c).toArray⟩ else none
 | _=>none
theorem ext_trim1 {P:Program} {E:Env} {pv:Nat->Value} {f:FuncId} {fn:Func} {c:Code} (hf:P.funcs[f]? = some fn) (hb:fn.body=some c) (hname:(fn.name == "runtime.NumGoroutine")=false)
  (hc:∀ (s:ByteArray) (c:UInt8),c.toNat<128->∀ (w:World),s.size<=9223372036854775807->Calls P f #[.string s,.string ⟨#[c]⟩] w fun e w'=>e = .returned (.string ⟨(Lib.trimB s.data.toList c).toArray⟩)/\(w'=w\/w'=w.drew))
  {s cs:ByteArray} {y:ByteArray} (h:xTrim1 s cs=some y):Meets P E pv (.f f) (tvals [.str,.str] (s,cs,())) (.t .str y):=by
 unfold xTrim1 at h
 split at h
 ·rename_i c0
  cases hs:Nat.ble s.size 9223372036854775807 && Nat.blt c0.toNat 128 with
  | false=>rw [hs] at h; cases h
  | true=>
   rw [hs] at h
   cases h
   rw [Bool.and_eq_true] at hs
   refine ext_flat hf hb hname (v:=.string _) (fun S w=>⟨_,.str _,rfl⟩) fun S w vs hS hgl ha=> ?_
   obtain ⟨_,rfl,ha1⟩:=args_str ha
   obtain ⟨_,rfl,ha2⟩:=args_str ha1
   obtain rfl:=args_nil ha2
   refine (hc s c0 (Nat.le_of_ble_eq_true hs.2) w (Nat.le_of_ble_eq_true hs.1)).mono fun e w' ⟨he,hw⟩=>⟨he,?_⟩
   rcases hw with rfl | rfl
   ·exact Below.refl _ _
   ·exact (Below.refl _ _).drew
 ·cases h
end Go.Gx
end
section
namespace Go.Proofs.YtehijcmhhkchiaaGreatDoor
open Go.Gx
def tyT (t:Nat):Option Ty:=match t with
 | 2=>some (.int .i64)
 | 3=>some (.int .i64)
 | 4=>some .bool
 | 5=>some (.int .u8)
 | 6=>some (.int .u8)
 | 9=>some .str
 | 10=>some .str
 | 11=>some .str
 | 21=>some (.int .i32)
 | 22=>some (.sl .name)
 | 24=>some .date
 | 26=>some .entry
 | 28=>some (.sl .name)
 | 29=>some .date
 | 31=>some .entry
 | 38=>some (.sl .entry)
 | 40=>some .lib
 | 42=>some (.sl (.sl .str))
 | 45=>some (.sl .entry)
 | 47=>some .lib
 | 68=>some (.sl (.int .i64))
 | 71=>some (.sl .str)
 | 84=>some .name
 | 92=>some .name
 | 106=>some (.sl (.int .u8))
 | 115=>some (.arr 256 .bool)
 | 129=>some (.arr 256 (.int .u8))
 | 130=>some (.int .u64)
 | 136=>some (.int .u32)
 | 147=>some (.int .u8)
 | _=>none
def elT (t:Nat):Nat:=match t with
 | 22=>84
 | 28=>92
 | 38=>26
 | 42=>71
 | 45=>31
 | 68=>3
 | 71=>9
 | 106=>5
 | _=>0
def mdT (f:Nat):Bool:=match f with
 | 21=>true
 | 37=>true
 | 51=>true
 | 52=>true
 | _=>false
def glT (g:Nat):Option AV:=match g with
 | _=>none
def giT (g:Nat):Bool:=match g with
 | 2=>true
 | _=>false
def dmT (f:Nat):Bool:=match f with
 | 12=>true
 | 20=>true
 | 21=>true
 | 37=>true
 | 51=>true
 | 52=>true
 | _=>false
def pmT (f:Nat):Bool:=match f with
 | 9=>true
 | 16=>true
 | 69=>true
 | _=>false
def tmX (f:Nat):Bool:=match f with
 | 17=>true
 | 24=>true
 | 26=>true
 | _=>false
def tmT (f:Nat):Bool:=match f with
 | 17=>true
 | 24=>true
 | 26=>true
 | 45=>true
 | 48=>true
 | 58=>true
 | 76=>true
 | 87=>true
 | 101=>true
 | _=>false
def vmT (f:Nat):Bool:=match f with
 | 88=>true
 | _=>false
def mdTT (f:Nat):Bool:=match f with
 | 21=>true
 | 37=>true
 | 51=>true
 | 52=>true
 | 88=>true
 | _=>false
def envX:Env:={ ty:=tyT,el:=elT,gl:=glT,md:=mdT,gi:=giT,dm:=dmT,pm:=pmT,tm:=tmX }
def envT:Env:={ ty:=tyT,el:=elT,gl:=glT,md:=mdTT,gi:=giT,tm:=tmT,vm:=vmT,tr:=true }
def envP:Env:={ ty:=tyT,el:=elT,gl:=glT,md:=mdT,gi:=giT,on:=true }
theorem env_ty:∀ T τ,envX.ty T=some τ->TyOk Tryz.prog envX T τ:=fun T τ h=>by
 dsimp only [envX,tyT] at h
 split at h <;> first
  | (cases h; done)
  | (cases h; exact tyOk_of (by kernel_rfl) (by kernel_rfl))
theorem envOk:EnvOk Tryz.prog envX:=⟨env_ty,by kernel_rfl,fun T h=>by
 dsimp only [envX,tyT] at h
 split at h <;> first
  | (cases h; done)
  | exact date_eq env_ty rfl (by kernel_rfl) (by kernel_rfl) (by kernel_rfl),fun T h=>by
 dsimp only [envX,tyT] at h
 split at h <;> first
  | (cases h; done)
  | exact abbr_eq env_ty rfl (by kernel_rfl) (by kernel_rfl) (by kernel_rfl)⟩
theorem env_tyT:∀ T τ,envT.ty T=some τ->TyOk Tryz.prog envT T τ:=fun T τ h=>by
 dsimp only [envT,tyT] at h
 split at h <;> first
  | (cases h; done)
  | (cases h; exact tyOk_of (by kernel_rfl) (by kernel_rfl))
theorem envOkT:EnvOk Tryz.prog envT:=⟨env_tyT,by kernel_rfl,fun T h=>by
 dsimp only [envT,tyT] at h
 split at h <;> first
  | (cases h; done)
  | exact date_eq env_tyT rfl (by kernel_rfl) (by kernel_rfl) (by kernel_rfl),fun T h=>by
 dsimp only [envT,tyT] at h
 split at h <;> first
  | (cases h; done)
  | exact abbr_eq env_tyT rfl (by kernel_rfl) (by kernel_rfl) (by kernel_rfl)⟩
theorem env_tyP:∀ T τ,envP.ty T=some τ->TyOk Tryz.prog envP T τ:=fun T τ h=>by
 dsimp only [envP,tyT] at h
 split at h <;> first
  | (cases h; done)
  | (cases h; exact tyOk_of (by kernel_rfl) (by kernel_rfl))
theorem envOkP:EnvOk Tryz.prog envP:=⟨env_tyP,by kernel_rfl,fun T h=>by
 dsimp only [envP,tyT] at h
 split at h <;> first
  | (cases h; done)
  | exact date_eq env_tyP rfl (by kernel_rfl) (by kernel_rfl) (by kernel_rfl),fun T h=>by
 dsimp only [envP,tyT] at h
 split at h <;> first
  | (cases h; done)
  | exact abbr_eq env_tyP rfl (by kernel_rfl) (by kernel_rfl) (by kernel_rfl)⟩
def laws_eqStringS.l0:Nat->(List ByteArray)->(List ByteArray)->Int->Option (Sum Bool Unit)
 | 0,_,_,_=>none
 | k+1,x0,x1,x5=>bif (decide (x5<(x0.length:Int))) then (bif decide (0<=x5) then (bif decide (x5<(x0.length:Int)) then (bif decide (0<=x5) then (bif decide (x5<(x1.length:Int)) then (bif (!beqS (x0.getD (x5:Int).toNat (⟨#[]⟩:ByteArray)) (x1.getD (x5:Int).toNat (⟨#[]⟩:ByteArray))) then (some (.inl false)) else (laws_eqStringS.l0 k x0 x1 (IntKind.wrap .i64 (x5+1)))) else none) else none) else none) else none) else (some (.inr ()))
def laws_eqStringS.F (k:Nat) (a0:List ByteArray) (a1:List ByteArray):Option (Bool):=bif ((a0.length:Int) != (a1.length:Int)) then (some false) else ((laws_eqStringS.l0 k a0 a1 0).bind fun y1=>match y1 with | .inl z2=>some z2 | .inr z2=>some true)
def laws_eqStringS.C (k:Nat):Cal->Option CArm:=fun c=>match c with
 | _=>none
def laws_eqStringS.sp0:List Sp:=[.t 0 (.sl .str),.t 1 (.sl .str),.t 5 (.int .i64)]
def laws_eqStringS.sp0_0:List Sp:=[.t 4 .bool]
def laws_eqStringS.sp0_1:List Sp:=[]
def laws_eqStringS.A0:LArm:=.two laws_eqStringS.sp0 laws_eqStringS.sp0_0 laws_eqStringS.sp0_1 (Bool) (Unit) (fun k x=>laws_eqStringS.l0 k x.1 x.2.1 x.2.2.1) .ret (.exit 0) (fun y=>(y,())) (fun x=>x.1) (fun y=>()) (fun x=>())
def laws_eqStringS.L:Nat->Option LArm:=fun b=>match b with
 | 0=>some laws_eqStringS.A0
 | _=>none
theorem laws_eqStringS.run (k:Nat) (a0:List ByteArray) (a1:List ByteArray):runF envX (tabC (laws_eqStringS.C k)) (tabL 26 k laws_eqStringS.L) Tryz.f49 [.t (.sl .str) a0,.t (.sl .str) a1] (viewR1 (.t .bool))=laws_eqStringS.F k a0 a1:=by kernel_rfl
theorem laws_eqStringS.step0 (k:Nat) (x0:List ByteArray) (x1:List ByteArray) (x5:Int):runC envX (tabC (laws_eqStringS.C k)) (tabL 26 k laws_eqStringS.L) 0 (loopAt Tryz.f49 0) (stOf 26 laws_eqStringS.sp0 (x0,x1,x5,())) (laws_eqStringS.A0.cont 26 k)=laws_eqStringS.l0 (k+1) x0 x1 x5:=by kernel_rfl
theorem laws_eqStringS.G (hE:EnvOk Tryz.prog envX) (pv:Nat->Value) (k:Nat):∀ cal A,laws_eqStringS.C k cal=some A->ArmOk Tryz.prog envX pv cal A:=by
 intro cal A h
 unfold laws_eqStringS.C at h
 cases h
theorem laws_eqStringS.good (hE:EnvOk Tryz.prog envX) (pv:Nat->Value) (k:Nat) (a0:List ByteArray) (a1:List ByteArray) {y:_} (h:laws_eqStringS.F k a0 a1=some y):Meets Tryz.prog envX pv (.f 49) (tvals [(.sl .str),(.sl .str)] (a0,a1,())) (.t .bool y) :=
 fun_loops hE (t:=laws_eqStringS.C) k (fun k _=>laws_eqStringS.G hE pv k) (f:=49) (fn:=Tryz.f49) (by kernel_rfl) rfl (by kernel_rfl) (by kernel_rfl) (lt:=laws_eqStringS.L) (by kernel_rfl) (fun b A h=>by
  unfold laws_eqStringS.L at h; split at h
  ·cases h; exact ⟨by kernel_rfl,by kernel_rfl,by kernel_rfl,fun _=>rfl,fun _=>rfl,fun _=>rfl⟩
  ·cases h) (fun b A h=>by
  unfold laws_eqStringS.L at h; split at h
  ·cases h; exact fun k x=>laws_eqStringS.step0 k x.1 x.2.1 x.2.2.1
  ·cases h) ((laws_eqStringS.run k a0 a1).trans h) (fun r hr=>wk_view1 hr)
def laws_eqName.F (k:Nat) (a0:Name) (a1:Name):Option (Bool):=(laws_eqStringS.F k a0.given a1.given).bind fun r1=>bif (!r1) then (some false) else (bif (!beqS a0.particle a1.particle) then (some false) else (bif (!beqS a0.family a1.family) then (some false) else (bif (!beqS a0.suffix a1.suffix) then (some false) else (some true))))
def laws_eqName.C (k:Nat):Cal->Option CArm:=fun c=>match c with
 | .f 49=>some (.p [(.sl .str),(.sl .str)] _ (fun x=>laws_eqStringS.F k x.1 x.2.1) (fun r=>(.t .bool r)))
 | _=>none
theorem laws_eqName.run (k:Nat) (a0:Name) (a1:Name):runF envX (tabC (laws_eqName.C k)) (tabL 26 0 (fun _=>none)) Tryz.f80 [.t .name a0,.t .name a1] (viewR1 (.t .bool))=laws_eqName.F k a0 a1:=by kernel_rfl
theorem laws_eqName.G (hE:EnvOk Tryz.prog envX) (pv:Nat->Value) (k:Nat):∀ cal A,laws_eqName.C k cal=some A->ArmOk Tryz.prog envX pv cal A:=by
 intro cal A h
 unfold laws_eqName.C at h
 split at h
 ·cases h; exact fun x y hy=>laws_eqStringS.good hE pv k x.1 x.2.1 hy
 ·cases h
theorem laws_eqName.good (hE:EnvOk Tryz.prog envX) (pv:Nat->Value) (k:Nat) (a0:Name) (a1:Name) {y:_} (h:laws_eqName.F k a0 a1=some y):Meets Tryz.prog envX pv (.f 80) (tvals [.name,.name] (a0,a1,())) (.t .bool y) :=
 fun_plain hE (laws_eqName.G hE pv k) (f:=80) (fn:=Tryz.f80) (by kernel_rfl) rfl (by kernel_rfl) (by kernel_rfl) ((laws_eqName.run k a0 a1).trans h) (fun r hr=>wk_view1 hr)
def laws_eqNameS.l0:Nat->(List Name)->(List Name)->Int->Option (Sum Bool Unit)
 | 0,_,_,_=>none
 | k+1,x0,x1,x5=>bif (decide (x5<(x0.length:Int))) then (bif decide (0<=x5) then (bif decide (x5<(x0.length:Int)) then (bif decide (0<=x5) then (bif decide (x5<(x1.length:Int)) then ((laws_eqName.F k (x0.getD (x5:Int).toNat (dflt .name)) (x1.getD (x5:Int).toNat (dflt .name))).bind fun r1=>bif (!r1) then (some (.inl false)) else (laws_eqNameS.l0 k x0 x1 (IntKind.wrap .i64 (x5+1)))) else none) else none) else none) else none) else (some (.inr ()))
def laws_eqNameS.F (k:Nat) (a0:List Name) (a1:List Name):Option (Bool):=bif ((a0.length:Int) != (a1.length:Int)) then (some false) else ((laws_eqNameS.l0 k a0 a1 0).bind fun y2=>match y2 with | .inl z3=>some z3 | .inr z3=>some true)
def laws_eqNameS.C (k:Nat):Cal->Option CArm:=fun c=>match c with
 | .f 80=>some (.p [.name,.name] _ (fun x=>laws_eqName.F k x.1 x.2.1) (fun r=>(.t .bool r)))
 | _=>none
def laws_eqNameS.sp0:List Sp:=[.t 0 (.sl .name),.t 1 (.sl .name),.t 5 (.int .i64)]
def laws_eqNameS.sp0_0:List Sp:=[.t 4 .bool]
def laws_eqNameS.sp0_1:List Sp:=[]
def laws_eqNameS.A0:LArm:=.two laws_eqNameS.sp0 laws_eqNameS.sp0_0 laws_eqNameS.sp0_1 (Bool) (Unit) (fun k x=>laws_eqNameS.l0 k x.1 x.2.1 x.2.2.1) .ret (.exit 0) (fun y=>(y,())) (fun x=>x.1) (fun y=>()) (fun x=>())
def laws_eqNameS.L:Nat->Option LArm:=fun b=>match b with
 | 0=>some laws_eqNameS.A0
 | _=>none
theorem laws_eqNameS.run (k:Nat) (a0:List Name) (a1:List Name):runF envX (tabC (laws_eqNameS.C k)) (tabL 27 k laws_eqNameS.L) Tryz.f35 [.t (.sl .name) a0,.t (.sl .name) a1] (viewR1 (.t .bool))=laws_eqNameS.F k a0 a1:=by kernel_rfl
theorem laws_eqNameS.step0 (k:Nat) (x0:List Name) (x1:List Name) (x5:Int):runC envX (tabC (laws_eqNameS.C k)) (tabL 27 k laws_eqNameS.L) 0 (loopAt Tryz.f35 0) (stOf 27 laws_eqNameS.sp0 (x0,x1,x5,())) (laws_eqNameS.A0.cont 27 k)=laws_eqNameS.l0 (k+1) x0 x1 x5:=by kernel_rfl
theorem laws_eqNameS.G (hE:EnvOk Tryz.prog envX) (pv:Nat->Value) (k:Nat):∀ cal A,laws_eqNameS.C k cal=some A->ArmOk Tryz.prog envX pv cal A:=by
 intro cal A h
 unfold laws_eqNameS.C at h
 split at h
 ·cases h; exact fun x y hy=>laws_eqName.good hE pv k x.1 x.2.1 hy
 ·cases h
theorem laws_eqNameS.good (hE:EnvOk Tryz.prog envX) (pv:Nat->Value) (k:Nat) (a0:List Name) (a1:List Name) {y:_} (h:laws_eqNameS.F k a0 a1=some y):Meets Tryz.prog envX pv (.f 35) (tvals [(.sl .name),(.sl .name)] (a0,a1,())) (.t .bool y) :=
 fun_loops hE (t:=laws_eqNameS.C) k (fun k _=>laws_eqNameS.G hE pv k) (f:=35) (fn:=Tryz.f35) (by kernel_rfl) rfl (by kernel_rfl) (by kernel_rfl) (lt:=laws_eqNameS.L) (by kernel_rfl) (fun b A h=>by
  unfold laws_eqNameS.L at h; split at h
  ·cases h; exact ⟨by kernel_rfl,by kernel_rfl,by kernel_rfl,fun _=>rfl,fun _=>rfl,fun _=>rfl⟩
  ·cases h) (fun b A h=>by
  unfold laws_eqNameS.L at h; split at h
  ·cases h; exact fun k x=>laws_eqNameS.step0 k x.1 x.2.1 x.2.2.1
  ·cases h) ((laws_eqNameS.run k a0 a1).trans h) (fun r hr=>wk_view1 hr)
def laws_eqDate.F (a0:Date) (a1:Date):Option (Bool):=bif (a0.y != a1.y) then (some false) else (bif (a0.m != a1.m) then (some false) else (bif (a0.d != a1.d) then (some false) else (bif (!(a0.c==a1.c)) then (some false) else (some true))))
def laws_eqDate.C:Cal->Option CArm:=fun c=>match c with
 | _=>none
theorem laws_eqDate.run (a0:Date) (a1:Date):runF envX (tabC laws_eqDate.C) (tabL 25 0 (fun _=>none)) Tryz.f36 [.t .date a0,.t .date a1] (viewR1 (.t .bool))=laws_eqDate.F a0 a1:=by kernel_rfl
theorem laws_eqDate.G (hE:EnvOk Tryz.prog envX) (pv:Nat->Value):∀ cal A,laws_eqDate.C cal=some A->ArmOk Tryz.prog envX pv cal A:=by
 intro cal A h
 unfold laws_eqDate.C at h
 cases h
theorem laws_eqDate.good (hE:EnvOk Tryz.prog envX) (pv:Nat->Value) (a0:Date) (a1:Date) {y:_} (h:laws_eqDate.F a0 a1=some y):Meets Tryz.prog envX pv (.f 36) (tvals [.date,.date] (a0,a1,())) (.t .bool y) :=
 fun_plain hE (laws_eqDate.G hE pv) (f:=36) (fn:=Tryz.f36) (by kernel_rfl) rfl (by kernel_rfl) (by kernel_rfl) ((laws_eqDate.run a0 a1).trans h) (fun r hr=>wk_view1 hr)
def laws_eqEntry.F (k:Nat) (a0:Entry) (a1:Entry):Option (Bool):=bif (!beqS a0.key a1.key) then (some false) else (bif (a0.kind != a1.kind) then (some false) else ((laws_eqNameS.F k a0.authors a1.authors).bind fun r1=>bif (!r1) then (some false) else ((laws_eqNameS.F k a0.editors a1.editors).bind fun r2=>bif (!r2) then (some false) else (bif (!beqS a0.title a1.title) then (some false) else (bif (!beqS a0.container a1.container) then (some false) else (bif (!beqS a0.publisher a1.publisher) then (some false) else ((laws_eqDate.F a0.date a1.date).bind fun r3=>bif (!r3) then (some false) else (bif (a0.volume != a1.volume) then (some false) else (bif (!beqS a0.pages a1.pages) then (some false) else (bif (!beqS a0.cross a1.cross) then (some false) else (some true)))))))))))
def laws_eqEntry.C (k:Nat):Cal->Option CArm:=fun c=>match c with
 | .f 35=>some (.p [(.sl .name),(.sl .name)] _ (fun x=>laws_eqNameS.F k x.1 x.2.1) (fun r=>(.t .bool r)))
 | .f 36=>some (.p [.date,.date] _ (fun x=>laws_eqDate.F x.1 x.2.1) (fun r=>(.t .bool r)))
 | _=>none
theorem laws_eqEntry.run (k:Nat) (a0:Entry) (a1:Entry):runF envX (tabC (laws_eqEntry.C k)) (tabL 63 0 (fun _=>none)) Tryz.f11 [.t .entry a0,.t .entry a1] (viewR1 (.t .bool))=laws_eqEntry.F k a0 a1:=by kernel_rfl
theorem laws_eqEntry.G (hE:EnvOk Tryz.prog envX) (pv:Nat->Value) (k:Nat):∀ cal A,laws_eqEntry.C k cal=some A->ArmOk Tryz.prog envX pv cal A:=by
 intro cal A h
 unfold laws_eqEntry.C at h
 split at h
 ·cases h; exact fun x y hy=>laws_eqNameS.good hE pv k x.1 x.2.1 hy
 ·cases h; exact fun x y hy=>laws_eqDate.good hE pv x.1 x.2.1 hy
 ·cases h
theorem laws_eqEntry.good (hE:EnvOk Tryz.prog envX) (pv:Nat->Value) (k:Nat) (a0:Entry) (a1:Entry) {y:_} (h:laws_eqEntry.F k a0 a1=some y):Meets Tryz.prog envX pv (.f 11) (tvals [.entry,.entry] (a0,a1,())) (.t .bool y) :=
 fun_plain hE (laws_eqEntry.G hE pv k) (f:=11) (fn:=Tryz.f11) (by kernel_rfl) rfl (by kernel_rfl) (by kernel_rfl) ((laws_eqEntry.run k a0 a1).trans h) (fun r hr=>wk_view1 hr)
def laws_markText.l0:Nat->Int->ByteArray->Option (ByteArray)
 | 0,_,_=>none
 | k+1,x0,x3=>bif (decide (x0 > 0)) then (bif (10==0) then (none) else (bif Nat.ble ((strL ([(IntKind.wrap .u8 (IntKind.wrap .i64 (48+(Int.tmod x0 10))))]:List Int)).size+x3.size) 9223372036854775807 then (bif (10==0) then (none) else (laws_markText.l0 k (IntKind.wrap .i64 (Int.tdiv x0 10)) ((strL ([(IntKind.wrap .u8 (IntKind.wrap .i64 (48+(Int.tmod x0 10))))]:List Int))++x3))) else none)) else (some x3)
def laws_markText.F (k:Nat) (a0:Int):Option (ByteArray):=bif (decide (a0<=0)) then (some (⟨#[109,48]⟩:ByteArray)) else ((laws_markText.l0 k a0 (⟨#[]⟩:ByteArray)).bind fun y1=>bif Nat.ble ((⟨#[109]⟩:ByteArray).size+y1.size) 9223372036854775807 then (some ((⟨#[109]⟩:ByteArray)++y1)) else none)
def laws_markText.C (k:Nat):Cal->Option CArm:=fun c=>match c with
 | _=>none
def laws_markText.sp0:List Sp:=[.t 0 (.int .i64),.t 3 .str]
def laws_markText.sp0_0:List Sp:=[.t 3 .str]
def laws_markText.A0:LArm:=.one laws_markText.sp0 laws_markText.sp0_0 (ByteArray) (fun k x=>laws_markText.l0 k x.1 x.2.1) (.exit 0) (fun y=>(y,())) (fun x=>x.1)
def laws_markText.L:Nat->Option LArm:=fun b=>match b with
 | 0=>some laws_markText.A0
 | _=>none
theorem laws_markText.run (k:Nat) (a0:Int):runF envX (tabC (laws_markText.C k)) (tabL 20 k laws_markText.L) Tryz.f81 [.t (.int .i64) a0] (viewR1 (.t .str))=laws_markText.F k a0:=by kernel_rfl
theorem laws_markText.step0 (k:Nat) (x0:Int) (x3:ByteArray):runC envX (tabC (laws_markText.C k)) (tabL 20 k laws_markText.L) 0 (loopAt Tryz.f81 0) (stOf 20 laws_markText.sp0 (x0,x3,())) (laws_markText.A0.cont 20 k)=laws_markText.l0 (k+1) x0 x3:=by kernel_rfl
theorem laws_markText.G (hE:EnvOk Tryz.prog envX) (pv:Nat->Value) (k:Nat):∀ cal A,laws_markText.C k cal=some A->ArmOk Tryz.prog envX pv cal A:=by
 intro cal A h
 unfold laws_markText.C at h
 cases h
theorem laws_markText.good (hE:EnvOk Tryz.prog envX) (pv:Nat->Value) (k:Nat) (a0:Int) {y:_} (h:laws_markText.F k a0=some y):Meets Tryz.prog envX pv (.f 81) (tvals [(.int .i64)] (a0,())) (.t .str y) :=
 fun_loops hE (t:=laws_markText.C) k (fun k _=>laws_markText.G hE pv k) (f:=81) (fn:=Tryz.f81) (by kernel_rfl) rfl (by kernel_rfl) (by kernel_rfl) (lt:=laws_markText.L) (by kernel_rfl) (fun b A h=>by
  unfold laws_markText.L at h; split at h
  ·cases h; exact ⟨by kernel_rfl,by kernel_rfl,fun _=>rfl,fun _=>rfl⟩
  ·cases h) (fun b A h=>by
  unfold laws_markText.L at h; split at h
  ·cases h; exact fun k x=>laws_markText.step0 k x.1 x.2.1
  ·cases h) ((laws_markText.run k a0).trans h) (fun r hr=>wk_view1 hr)
def laws_markStringS.l0:Nat->(List ByteArray)->Int->Int->Option ((List ByteArray) × Int)
 | 0,_,_,_=>none
 | k+1,x0,x1,x5=>bif (decide (x5<(x0.length:Int))) then ((laws_markText.F k x1).bind fun r1=>bif decide (0<=x5) then (bif decide (x5<(x0.length:Int)) then (laws_markStringS.l0 k (x0.set ((x5:Int).toNat) r1) (IntKind.wrap .i64 (x1+1)) (IntKind.wrap .i64 (x5+1))) else none) else none) else (some (x0,x1))
def laws_markStringS.C (k:Nat):Cal->Option CArm:=fun c=>match c with
 | .f 81=>some (.p [(.int .i64)] _ (fun x=>laws_markText.F k x.1) (fun r=>(.t .str r)))
 | _=>none
def laws_heldStringS.l0:Nat->(List ByteArray)->Int->Int->Option (Sum Int Int)
 | 0,_,_,_=>none
 | k+1,x0,x1,x5=>bif (decide (x5<(x0.length:Int))) then (bif decide (0<=x5) then (bif decide (x5<(x0.length:Int)) then ((laws_markText.F k x1).bind fun r1=>bif (!beqS (x0.getD (x5:Int).toNat (⟨#[]⟩:ByteArray)) r1) then (some (.inl (-1))) else (laws_heldStringS.l0 k x0 (IntKind.wrap .i64 (x1+1)) (IntKind.wrap .i64 (x5+1)))) else none) else none) else (some (.inr x1))
def laws_heldStringS.F (k:Nat) (a0:List ByteArray) (a1:Int):Option (Int):=(laws_heldStringS.l0 k a0 a1 0).bind fun y2=>match y2 with | .inl z3=>some z3 | .inr z3=>some z3
def laws_heldStringS.C (k:Nat):Cal->Option CArm:=fun c=>match c with
 | .f 81=>some (.p [(.int .i64)] _ (fun x=>laws_markText.F k x.1) (fun r=>(.t .str r)))
 | _=>none
def laws_heldStringS.sp0:List Sp:=[.t 0 (.sl .str),.t 1 (.int .i64),.t 5 (.int .i64)]
def laws_heldStringS.sp0_0:List Sp:=[.t 4 (.int .i64)]
def laws_heldStringS.sp0_1:List Sp:=[.t 1 (.int .i64)]
def laws_heldStringS.A0:LArm:=.two laws_heldStringS.sp0 laws_heldStringS.sp0_0 laws_heldStringS.sp0_1 (Int) (Int) (fun k x=>laws_heldStringS.l0 k x.1 x.2.1 x.2.2.1) .ret (.exit 0) (fun y=>(y,())) (fun x=>x.1) (fun y=>(y,())) (fun x=>x.1)
def laws_heldStringS.L:Nat->Option LArm:=fun b=>match b with
 | 0=>some laws_heldStringS.A0
 | _=>none
theorem laws_heldStringS.run (k:Nat) (a0:List ByteArray) (a1:Int):runF envX (tabC (laws_heldStringS.C k)) (tabL 22 k laws_heldStringS.L) Tryz.f53 [.t (.sl .str) a0,.t (.int .i64) a1] (viewR1 (.t (.int .i64)))=laws_heldStringS.F k a0 a1:=by kernel_rfl
theorem laws_heldStringS.step0 (k:Nat) (x0:List ByteArray) (x1:Int) (x5:Int):runC envX (tabC (laws_heldStringS.C k)) (tabL 22 k laws_heldStringS.L) 0 (loopAt Tryz.f53 0) (stOf 22 laws_heldStringS.sp0 (x0,x1,x5,())) (laws_heldStringS.A0.cont 22 k)=laws_heldStringS.l0 (k+1) x0 x1 x5:=by kernel_rfl
theorem laws_heldStringS.G (hE:EnvOk Tryz.prog envX) (pv:Nat->Value) (k:Nat):∀ cal A,laws_heldStringS.C k cal=some A->ArmOk Tryz.prog envX pv cal A:=by
 intro cal A h
 unfold laws_heldStringS.C at h
 split at h
 ·cases h; exact fun x y hy=>laws_markText.good hE pv k x.1 hy
 ·cases h
theorem laws_heldStringS.good (hE:EnvOk Tryz.prog envX) (pv:Nat->Value) (k:Nat) (a0:List ByteArray) (a1:Int) {y:_} (h:laws_heldStringS.F k a0 a1=some y):Meets Tryz.prog envX pv (.f 53) (tvals [(.sl .str),(.int .i64)] (a0,a1,())) (.t (.int .i64) y) :=
 fun_loops hE (t:=laws_heldStringS.C) k (fun k _=>laws_heldStringS.G hE pv k) (f:=53) (fn:=Tryz.f53) (by kernel_rfl) rfl (by kernel_rfl) (by kernel_rfl) (lt:=laws_heldStringS.L) (by kernel_rfl) (fun b A h=>by
  unfold laws_heldStringS.L at h; split at h
  ·cases h; exact ⟨by kernel_rfl,by kernel_rfl,by kernel_rfl,fun _=>rfl,fun _=>rfl,fun _=>rfl⟩
  ·cases h) (fun b A h=>by
  unfold laws_heldStringS.L at h; split at h
  ·cases h; exact fun k x=>laws_heldStringS.step0 k x.1 x.2.1 x.2.2.1
  ·cases h) ((laws_heldStringS.run k a0 a1).trans h) (fun r hr=>wk_view1 hr)
def laws_heldNameS.l0:Nat->(List Name)->Int->Int->Option (Sum Int Int)
 | 0,_,_,_=>none
 | k+1,x0,x1,x5=>bif (decide (x5<(x0.length:Int))) then (bif decide (0<=x5) then (bif decide (x5<(x0.length:Int)) then ((laws_heldStringS.F k ((x0.getD (x5:Int).toNat (dflt .name)).given) x1).bind fun r1=>bif (decide (r1<0)) then (some (.inl (-1))) else (bif decide (0<=x5) then (bif decide (x5<(x0.length:Int)) then ((laws_markText.F k r1).bind fun r2=>bif (!beqS ((x0.getD (x5:Int).toNat (dflt .name)).particle) r2) then (some (.inl (-1))) else (bif decide (0<=x5) then (bif decide (x5<(x0.length:Int)) then ((laws_markText.F k (IntKind.wrap .i64 (r1+1))).bind fun r3=>bif (!beqS ((x0.getD (x5:Int).toNat (dflt .name)).family) r3) then (some (.inl (-1))) else (bif decide (0<=x5) then (bif decide (x5<(x0.length:Int)) then ((laws_markText.F k (IntKind.wrap .i64 ((IntKind.wrap .i64 (r1+1))+1))).bind fun r4=>bif (!beqS ((x0.getD (x5:Int).toNat (dflt .name)).suffix) r4) then (some (.inl (-1))) else (laws_heldNameS.l0 k x0 (IntKind.wrap .i64 ((IntKind.wrap .i64 ((IntKind.wrap .i64 (r1+1))+1))+1)) (IntKind.wrap .i64 (x5+1)))) else none) else none)) else none) else none)) else none) else none)) else none) else none) else (some (.inr x1))
def laws_heldNameS.F (k:Nat) (a0:List Name) (a1:Int):Option (Int):=(laws_heldNameS.l0 k a0 a1 0).bind fun y5=>match y5 with | .inl z6=>some z6 | .inr z6=>some z6
def laws_heldNameS.C (k:Nat):Cal->Option CArm:=fun c=>match c with
 | .f 53=>some (.p [(.sl .str),(.int .i64)] _ (fun x=>laws_heldStringS.F k x.1 x.2.1) (fun r=>(.t (.int .i64) r)))
 | .f 81=>some (.p [(.int .i64)] _ (fun x=>laws_markText.F k x.1) (fun r=>(.t .str r)))
 | _=>none
def laws_heldNameS.sp0:List Sp:=[.t 0 (.sl .name),.t 1 (.int .i64),.t 5 (.int .i64)]
def laws_heldNameS.sp0_0:List Sp:=[.t 4 (.int .i64)]
def laws_heldNameS.sp0_1:List Sp:=[.t 1 (.int .i64)]
def laws_heldNameS.A0:LArm:=.two laws_heldNameS.sp0 laws_heldNameS.sp0_0 laws_heldNameS.sp0_1 (Int) (Int) (fun k x=>laws_heldNameS.l0 k x.1 x.2.1 x.2.2.1) .ret (.exit 0) (fun y=>(y,())) (fun x=>x.1) (fun y=>(y,())) (fun x=>x.1)
def laws_heldNameS.L:Nat->Option LArm:=fun b=>match b with
 | 0=>some laws_heldNameS.A0
 | _=>none
theorem laws_heldNameS.run (k:Nat) (a0:List Name) (a1:Int):runF envX (tabC (laws_heldNameS.C k)) (tabL 52 k laws_heldNameS.L) Tryz.f38 [.t (.sl .name) a0,.t (.int .i64) a1] (viewR1 (.t (.int .i64)))=laws_heldNameS.F k a0 a1:=by kernel_rfl
theorem laws_heldNameS.step0 (k:Nat) (x0:List Name) (x1:Int) (x5:Int):runC envX (tabC (laws_heldNameS.C k)) (tabL 52 k laws_heldNameS.L) 0 (loopAt Tryz.f38 0) (stOf 52 laws_heldNameS.sp0 (x0,x1,x5,())) (laws_heldNameS.A0.cont 52 k)=laws_heldNameS.l0 (k+1) x0 x1 x5:=by kernel_rfl
theorem laws_heldNameS.G (hE:EnvOk Tryz.prog envX) (pv:Nat->Value) (k:Nat):∀ cal A,laws_heldNameS.C k cal=some A->ArmOk Tryz.prog envX pv cal A:=by
 intro cal A h
 unfold laws_heldNameS.C at h
 split at h
 ·cases h; exact fun x y hy=>laws_heldStringS.good hE pv k x.1 x.2.1 hy
 ·cases h; exact fun x y hy=>laws_markText.good hE pv k x.1 hy
 ·cases h
theorem laws_heldNameS.good (hE:EnvOk Tryz.prog envX) (pv:Nat->Value) (k:Nat) (a0:List Name) (a1:Int) {y:_} (h:laws_heldNameS.F k a0 a1=some y):Meets Tryz.prog envX pv (.f 38) (tvals [(.sl .name),(.int .i64)] (a0,a1,())) (.t (.int .i64) y) :=
 fun_loops hE (t:=laws_heldNameS.C) k (fun k _=>laws_heldNameS.G hE pv k) (f:=38) (fn:=Tryz.f38) (by kernel_rfl) rfl (by kernel_rfl) (by kernel_rfl) (lt:=laws_heldNameS.L) (by kernel_rfl) (fun b A h=>by
  unfold laws_heldNameS.L at h; split at h
  ·cases h; exact ⟨by kernel_rfl,by kernel_rfl,by kernel_rfl,fun _=>rfl,fun _=>rfl,fun _=>rfl⟩
  ·cases h) (fun b A h=>by
  unfold laws_heldNameS.L at h; split at h
  ·cases h; exact fun k x=>laws_heldNameS.step0 k x.1 x.2.1 x.2.2.1
  ·cases h) ((laws_heldNameS.run k a0 a1).trans h) (fun r hr=>wk_view1 hr)
def laws_szStringS.l0:Nat->(List ByteArray)->Int->Int->Option (Sum Int Int)
 | 0,_,_,_=>none
 | k+1,x0,x1,x5=>bif (decide (x5<(x0.length:Int))) then (bif decide (0<=x5) then (bif decide (x5<(x0.length:Int)) then (bif (decide ((IntKind.wrap .i64 (x1-((x0.getD (x5:Int).toNat (⟨#[]⟩:ByteArray)).size:Int)))<0)) then (some (.inl (-1))) else (laws_szStringS.l0 k x0 (IntKind.wrap .i64 (x1-((x0.getD (x5:Int).toNat (⟨#[]⟩:ByteArray)).size:Int))) (IntKind.wrap .i64 (x5+1)))) else none) else none) else (some (.inr x1))
def laws_szStringS.F (k:Nat) (a0:List ByteArray) (a1:Int):Option (Int):=bif (decide ((IntKind.wrap .i64 (a1-(a0.length:Int)))<0)) then (some (-1)) else ((laws_szStringS.l0 k a0 (IntKind.wrap .i64 (a1-(a0.length:Int))) 0).bind fun y1=>match y1 with | .inl z2=>some z2 | .inr z2=>some z2)
def laws_szStringS.C (k:Nat):Cal->Option CArm:=fun c=>match c with
 | _=>none
def laws_szStringS.sp0:List Sp:=[.t 0 (.sl .str),.t 1 (.int .i64),.t 5 (.int .i64)]
def laws_szStringS.sp0_0:List Sp:=[.t 4 (.int .i64)]
def laws_szStringS.sp0_1:List Sp:=[.t 1 (.int .i64)]
def laws_szStringS.A0:LArm:=.two laws_szStringS.sp0 laws_szStringS.sp0_0 laws_szStringS.sp0_1 (Int) (Int) (fun k x=>laws_szStringS.l0 k x.1 x.2.1 x.2.2.1) .ret (.exit 0) (fun y=>(y,())) (fun x=>x.1) (fun y=>(y,())) (fun x=>x.1)
def laws_szStringS.L:Nat->Option LArm:=fun b=>match b with
 | 0=>some laws_szStringS.A0
 | _=>none
theorem laws_szStringS.run (k:Nat) (a0:List ByteArray) (a1:Int):runF envX (tabC (laws_szStringS.C k)) (tabL 28 k laws_szStringS.L) Tryz.f89 [.t (.sl .str) a0,.t (.int .i64) a1] (viewR1 (.t (.int .i64)))=laws_szStringS.F k a0 a1:=by kernel_rfl
theorem laws_szStringS.step0 (k:Nat) (x0:List ByteArray) (x1:Int) (x5:Int):runC envX (tabC (laws_szStringS.C k)) (tabL 28 k laws_szStringS.L) 0 (loopAt Tryz.f89 0) (stOf 28 laws_szStringS.sp0 (x0,x1,x5,())) (laws_szStringS.A0.cont 28 k)=laws_szStringS.l0 (k+1) x0 x1 x5:=by kernel_rfl
theorem laws_szStringS.G (hE:EnvOk Tryz.prog envX) (pv:Nat->Value) (k:Nat):∀ cal A,laws_szStringS.C k cal=some A->ArmOk Tryz.prog envX pv cal A:=by
 intro cal A h
 unfold laws_szStringS.C at h
 cases h
theorem laws_szStringS.good (hE:EnvOk Tryz.prog envX) (pv:Nat->Value) (k:Nat) (a0:List ByteArray) (a1:Int) {y:_} (h:laws_szStringS.F k a0 a1=some y):Meets Tryz.prog envX pv (.f 89) (tvals [(.sl .str),(.int .i64)] (a0,a1,())) (.t (.int .i64) y) :=
 fun_loops hE (t:=laws_szStringS.C) k (fun k _=>laws_szStringS.G hE pv k) (f:=89) (fn:=Tryz.f89) (by kernel_rfl) rfl (by kernel_rfl) (by kernel_rfl) (lt:=laws_szStringS.L) (by kernel_rfl) (fun b A h=>by
  unfold laws_szStringS.L at h; split at h
  ·cases h; exact ⟨by kernel_rfl,by kernel_rfl,by kernel_rfl,fun _=>rfl,fun _=>rfl,fun _=>rfl⟩
  ·cases h) (fun b A h=>by
  unfold laws_szStringS.L at h; split at h
  ·cases h; exact fun k x=>laws_szStringS.step0 k x.1 x.2.1 x.2.2.1
  ·cases h) ((laws_szStringS.run k a0 a1).trans h) (fun r hr=>wk_view1 hr)
def laws_szName.F (k:Nat) (a0:Name) (a1:Int):Option (Int):=(laws_szStringS.F k a0.given a1).bind fun r1=>bif (decide (r1<0)) then (some (-1)) else (bif (decide ((IntKind.wrap .i64 (r1-(a0.particle.size:Int)))<0)) then (some (-1)) else (bif (decide ((IntKind.wrap .i64 ((IntKind.wrap .i64 (r1-(a0.particle.size:Int)))-(a0.family.size:Int)))<0)) then (some (-1)) else (bif (decide ((IntKind.wrap .i64 ((IntKind.wrap .i64 ((IntKind.wrap .i64 (r1-(a0.particle.size:Int)))-(a0.family.size:Int)))-(a0.suffix.size:Int)))<0)) then (some (-1)) else (some (IntKind.wrap .i64 ((IntKind.wrap .i64 ((IntKind.wrap .i64 (r1-(a0.particle.size:Int)))-(a0.family.size:Int)))-(a0.suffix.size:Int)))))))
def laws_szName.C (k:Nat):Cal->Option CArm:=fun c=>match c with
 | .f 89=>some (.p [(.sl .str),(.int .i64)] _ (fun x=>laws_szStringS.F k x.1 x.2.1) (fun r=>(.t (.int .i64) r)))
 | _=>none
theorem laws_szName.run (k:Nat) (a0:Name) (a1:Int):runF envX (tabC (laws_szName.C k)) (tabL 33 0 (fun _=>none)) Tryz.f60 [.t .name a0,.t (.int .i64) a1] (viewR1 (.t (.int .i64)))=laws_szName.F k a0 a1:=by kernel_rfl
theorem laws_szName.G (hE:EnvOk Tryz.prog envX) (pv:Nat->Value) (k:Nat):∀ cal A,laws_szName.C k cal=some A->ArmOk Tryz.prog envX pv cal A:=by
 intro cal A h
 unfold laws_szName.C at h
 split at h
 ·cases h; exact fun x y hy=>laws_szStringS.good hE pv k x.1 x.2.1 hy
 ·cases h
theorem laws_szName.good (hE:EnvOk Tryz.prog envX) (pv:Nat->Value) (k:Nat) (a0:Name) (a1:Int) {y:_} (h:laws_szName.F k a0 a1=some y):Meets Tryz.prog envX pv (.f 60) (tvals [.name,(.int .i64)] (a0,a1,())) (.t (.int .i64) y) :=
 fun_plain hE (laws_szName.G hE pv k) (f:=60) (fn:=Tryz.f60) (by kernel_rfl) rfl (by kernel_rfl) (by kernel_rfl) ((laws_szName.run k a0 a1).trans h) (fun r hr=>wk_view1 hr)
def laws_szNameS.l0:Nat->(List Name)->Int->Int->Option (Sum Int Int)
 | 0,_,_,_=>none
 | k+1,x0,x1,x5=>bif (decide (x5<(x0.length:Int))) then (bif decide (0<=x5) then (bif decide (x5<(x0.length:Int)) then ((laws_szName.F k (x0.getD (x5:Int).toNat (dflt .name)) x1).bind fun r1=>bif (decide (r1<0)) then (some (.inl (-1))) else (laws_szNameS.l0 k x0 r1 (IntKind.wrap .i64 (x5+1)))) else none) else none) else (some (.inr x1))
def laws_szNameS.F (k:Nat) (a0:List Name) (a1:Int):Option (Int):=bif (decide ((IntKind.wrap .i64 (a1-(a0.length:Int)))<0)) then (some (-1)) else ((laws_szNameS.l0 k a0 (IntKind.wrap .i64 (a1-(a0.length:Int))) 0).bind fun y2=>match y2 with | .inl z3=>some z3 | .inr z3=>some z3)
def laws_szNameS.C (k:Nat):Cal->Option CArm:=fun c=>match c with
 | .f 60=>some (.p [.name,(.int .i64)] _ (fun x=>laws_szName.F k x.1 x.2.1) (fun r=>(.t (.int .i64) r)))
 | _=>none
def laws_szNameS.sp0:List Sp:=[.t 0 (.sl .name),.t 1 (.int .i64),.t 5 (.int .i64)]
def laws_szNameS.sp0_0:List Sp:=[.t 4 (.int .i64)]
def laws_szNameS.sp0_1:List Sp:=[.t 1 (.int .i64)]
def laws_szNameS.A0:LArm:=.two laws_szNameS.sp0 laws_szNameS.sp0_0 laws_szNameS.sp0_1 (Int) (Int) (fun k x=>laws_szNameS.l0 k x.1 x.2.1 x.2.2.1) .ret (.exit 0) (fun y=>(y,())) (fun x=>x.1) (fun y=>(y,())) (fun x=>x.1)
def laws_szNameS.L:Nat->Option LArm:=fun b=>match b with
 | 0=>some laws_szNameS.A0
 | _=>none
theorem laws_szNameS.run (k:Nat) (a0:List Name) (a1:Int):runF envX (tabC (laws_szNameS.C k)) (tabL 27 k laws_szNameS.L) Tryz.f28 [.t (.sl .name) a0,.t (.int .i64) a1] (viewR1 (.t (.int .i64)))=laws_szNameS.F k a0 a1:=by kernel_rfl
theorem laws_szNameS.step0 (k:Nat) (x0:List Name) (x1:Int) (x5:Int):runC envX (tabC (laws_szNameS.C k)) (tabL 27 k laws_szNameS.L) 0 (loopAt Tryz.f28 0) (stOf 27 laws_szNameS.sp0 (x0,x1,x5,())) (laws_szNameS.A0.cont 27 k)=laws_szNameS.l0 (k+1) x0 x1 x5:=by kernel_rfl
theorem laws_szNameS.G (hE:EnvOk Tryz.prog envX) (pv:Nat->Value) (k:Nat):∀ cal A,laws_szNameS.C k cal=some A->ArmOk Tryz.prog envX pv cal A:=by
 intro cal A h
 unfold laws_szNameS.C at h
 split at h
 ·cases h; exact fun x y hy=>laws_szName.good hE pv k x.1 x.2.1 hy
 ·cases h
theorem laws_szNameS.good (hE:EnvOk Tryz.prog envX) (pv:Nat->Value) (k:Nat) (a0:List Name) (a1:Int) {y:_} (h:laws_szNameS.F k a0 a1=some y):Meets Tryz.prog envX pv (.f 28) (tvals [(.sl .name),(.int .i64)] (a0,a1,())) (.t (.int .i64) y) :=
 fun_loops hE (t:=laws_szNameS.C) k (fun k _=>laws_szNameS.G hE pv k) (f:=28) (fn:=Tryz.f28) (by kernel_rfl) rfl (by kernel_rfl) (by kernel_rfl) (lt:=laws_szNameS.L) (by kernel_rfl) (fun b A h=>by
  unfold laws_szNameS.L at h; split at h
  ·cases h; exact ⟨by kernel_rfl,by kernel_rfl,by kernel_rfl,fun _=>rfl,fun _=>rfl,fun _=>rfl⟩
  ·cases h) (fun b A h=>by
  unfold laws_szNameS.L at h; split at h
  ·cases h; exact fun k x=>laws_szNameS.step0 k x.1 x.2.1 x.2.2.1
  ·cases h) ((laws_szNameS.run k a0 a1).trans h) (fun r hr=>wk_view1 hr)
def laws_szEntry.F (k:Nat) (a0:Entry) (a1:Int):Option (Int):=bif (decide ((IntKind.wrap .i64 (a1-(a0.key.size:Int)))<0)) then (some (-1)) else ((laws_szNameS.F k a0.authors (IntKind.wrap .i64 (a1-(a0.key.size:Int)))).bind fun r1=>bif (decide (r1<0)) then (some (-1)) else ((laws_szNameS.F k a0.editors r1).bind fun r2=>bif (decide (r2<0)) then (some (-1)) else (bif (decide ((IntKind.wrap .i64 (r2-(a0.title.size:Int)))<0)) then (some (-1)) else (bif (decide ((IntKind.wrap .i64 ((IntKind.wrap .i64 (r2-(a0.title.size:Int)))-(a0.container.size:Int)))<0)) then (some (-1)) else (bif (decide ((IntKind.wrap .i64 ((IntKind.wrap .i64 ((IntKind.wrap .i64 (r2-(a0.title.size:Int)))-(a0.container.size:Int)))-(a0.publisher.size:Int)))<0)) then (some (-1)) else (bif (decide ((IntKind.wrap .i64 ((IntKind.wrap .i64 ((IntKind.wrap .i64 ((IntKind.wrap .i64 (r2-(a0.title.size:Int)))-(a0.container.size:Int)))-(a0.publisher.size:Int)))-(a0.pages.size:Int)))<0)) then (some (-1)) else (bif (decide ((IntKind.wrap .i64 ((IntKind.wrap .i64 ((IntKind.wrap .i64 ((IntKind.wrap .i64 ((IntKind.wrap .i64 (r2-(a0.title.size:Int)))-(a0.container.size:Int)))-(a0.publisher.size:Int)))-(a0.pages.size:Int)))-(a0.cross.size:Int)))<0)) then (some (-1)) else (some (IntKind.wrap .i64 ((IntKind.wrap .i64 ((IntKind.wrap .i64 ((IntKind.wrap .i64 ((IntKind.wrap .i64 (r2-(a0.title.size:Int)))-(a0.container.size:Int)))-(a0.publisher.size:Int)))-(a0.pages.size:Int)))-(a0.cross.size:Int)))))))))))
def laws_szEntry.C (k:Nat):Cal->Option CArm:=fun c=>match c with
 | .f 28=>some (.p [(.sl .name),(.int .i64)] _ (fun x=>laws_szNameS.F k x.1 x.2.1) (fun r=>(.t (.int .i64) r)))
 | _=>none
theorem laws_szEntry.run (k:Nat) (a0:Entry) (a1:Int):runF envX (tabC (laws_szEntry.C k)) (tabL 60 0 (fun _=>none)) Tryz.f7 [.t .entry a0,.t (.int .i64) a1] (viewR1 (.t (.int .i64)))=laws_szEntry.F k a0 a1:=by kernel_rfl
theorem laws_szEntry.G (hE:EnvOk Tryz.prog envX) (pv:Nat->Value) (k:Nat):∀ cal A,laws_szEntry.C k cal=some A->ArmOk Tryz.prog envX pv cal A:=by
 intro cal A h
 unfold laws_szEntry.C at h
 split at h
 ·cases h; exact fun x y hy=>laws_szNameS.good hE pv k x.1 x.2.1 hy
 ·cases h
theorem laws_szEntry.good (hE:EnvOk Tryz.prog envX) (pv:Nat->Value) (k:Nat) (a0:Entry) (a1:Int) {y:_} (h:laws_szEntry.F k a0 a1=some y):Meets Tryz.prog envX pv (.f 7) (tvals [.entry,(.int .i64)] (a0,a1,())) (.t (.int .i64) y) :=
 fun_plain hE (laws_szEntry.G hE pv k) (f:=7) (fn:=Tryz.f7) (by kernel_rfl) rfl (by kernel_rfl) (by kernel_rfl) ((laws_szEntry.run k a0 a1).trans h) (fun r hr=>wk_view1 hr)
def laws_szEntryS.l0:Nat->(List Entry)->Int->Int->Option (Sum Int Int)
 | 0,_,_,_=>none
 | k+1,x0,x1,x5=>bif (decide (x5<(x0.length:Int))) then (bif decide (0<=x5) then (bif decide (x5<(x0.length:Int)) then ((laws_szEntry.F k (x0.getD (x5:Int).toNat (dflt .entry)) x1).bind fun r1=>bif (decide (r1<0)) then (some (.inl (-1))) else (laws_szEntryS.l0 k x0 r1 (IntKind.wrap .i64 (x5+1)))) else none) else none) else (some (.inr x1))
def laws_szEntryS.F (k:Nat) (a0:List Entry) (a1:Int):Option (Int):=bif (decide ((IntKind.wrap .i64 (a1-(a0.length:Int)))<0)) then (some (-1)) else ((laws_szEntryS.l0 k a0 (IntKind.wrap .i64 (a1-(a0.length:Int))) 0).bind fun y2=>match y2 with | .inl z3=>some z3 | .inr z3=>some z3)
def laws_szEntryS.C (k:Nat):Cal->Option CArm:=fun c=>match c with
 | .f 7=>some (.p [.entry,(.int .i64)] _ (fun x=>laws_szEntry.F k x.1 x.2.1) (fun r=>(.t (.int .i64) r)))
 | _=>none
def laws_szEntryS.sp0:List Sp:=[.t 0 (.sl .entry),.t 1 (.int .i64),.t 5 (.int .i64)]
def laws_szEntryS.sp0_0:List Sp:=[.t 4 (.int .i64)]
def laws_szEntryS.sp0_1:List Sp:=[.t 1 (.int .i64)]
def laws_szEntryS.A0:LArm:=.two laws_szEntryS.sp0 laws_szEntryS.sp0_0 laws_szEntryS.sp0_1 (Int) (Int) (fun k x=>laws_szEntryS.l0 k x.1 x.2.1 x.2.2.1) .ret (.exit 0) (fun y=>(y,())) (fun x=>x.1) (fun y=>(y,())) (fun x=>x.1)
def laws_szEntryS.L:Nat->Option LArm:=fun b=>match b with
 | 0=>some laws_szEntryS.A0
 | _=>none
theorem laws_szEntryS.run (k:Nat) (a0:List Entry) (a1:Int):runF envX (tabC (laws_szEntryS.C k)) (tabL 27 k laws_szEntryS.L) Tryz.f39 [.t (.sl .entry) a0,.t (.int .i64) a1] (viewR1 (.t (.int .i64)))=laws_szEntryS.F k a0 a1:=by kernel_rfl
theorem laws_szEntryS.step0 (k:Nat) (x0:List Entry) (x1:Int) (x5:Int):runC envX (tabC (laws_szEntryS.C k)) (tabL 27 k laws_szEntryS.L) 0 (loopAt Tryz.f39 0) (stOf 27 laws_szEntryS.sp0 (x0,x1,x5,())) (laws_szEntryS.A0.cont 27 k)=laws_szEntryS.l0 (k+1) x0 x1 x5:=by kernel_rfl
theorem laws_szEntryS.G (hE:EnvOk Tryz.prog envX) (pv:Nat->Value) (k:Nat):∀ cal A,laws_szEntryS.C k cal=some A->ArmOk Tryz.prog envX pv cal A:=by
 intro cal A h
 unfold laws_szEntryS.C at h
 split at h
 ·cases h; exact fun x y hy=>laws_szEntry.good hE pv k x.1 x.2.1 hy
 ·cases h
theorem laws_szEntryS.good (hE:EnvOk Tryz.prog envX) (pv:Nat->Value) (k:Nat) (a0:List Entry) (a1:Int) {y:_} (h:laws_szEntryS.F k a0 a1=some y):Meets Tryz.prog envX pv (.f 39) (tvals [(.sl .entry),(.int .i64)] (a0,a1,())) (.t (.int .i64) y) :=
 fun_loops hE (t:=laws_szEntryS.C) k (fun k _=>laws_szEntryS.G hE pv k) (f:=39) (fn:=Tryz.f39) (by kernel_rfl) rfl (by kernel_rfl) (by kernel_rfl) (lt:=laws_szEntryS.L) (by kernel_rfl) (fun b A h=>by
  unfold laws_szEntryS.L at h; split at h
  ·cases h; exact ⟨by kernel_rfl,by kernel_rfl,by kernel_rfl,fun _=>rfl,fun _=>rfl,fun _=>rfl⟩
  ·cases h) (fun b A h=>by
  unfold laws_szEntryS.L at h; split at h
  ·cases h; exact fun k x=>laws_szEntryS.step0 k x.1 x.2.1 x.2.2.1
  ·cases h) ((laws_szEntryS.run k a0 a1).trans h) (fun r hr=>wk_view1 hr)
def laws_szLibrary.F (k:Nat) (a0:Library) (a1:Int):Option (Int):=(laws_szEntryS.F k a0.entries a1).bind fun r1=>bif (decide (r1<0)) then (some (-1)) else (some r1)
def laws_szLibrary.C (k:Nat):Cal->Option CArm:=fun c=>match c with
 | .f 39=>some (.p [(.sl .entry),(.int .i64)] _ (fun x=>laws_szEntryS.F k x.1 x.2.1) (fun r=>(.t (.int .i64) r)))
 | _=>none
theorem laws_szLibrary.run (k:Nat) (a0:Library) (a1:Int):runF envX (tabC (laws_szLibrary.C k)) (tabL 12 0 (fun _=>none)) Tryz.f14 [.t .lib a0,.t (.int .i64) a1] (viewR1 (.t (.int .i64)))=laws_szLibrary.F k a0 a1:=by kernel_rfl
theorem laws_szLibrary.G (hE:EnvOk Tryz.prog envX) (pv:Nat->Value) (k:Nat):∀ cal A,laws_szLibrary.C k cal=some A->ArmOk Tryz.prog envX pv cal A:=by
 intro cal A h
 unfold laws_szLibrary.C at h
 split at h
 ·cases h; exact fun x y hy=>laws_szEntryS.good hE pv k x.1 x.2.1 hy
 ·cases h
theorem laws_szLibrary.good (hE:EnvOk Tryz.prog envX) (pv:Nat->Value) (k:Nat) (a0:Library) (a1:Int) {y:_} (h:laws_szLibrary.F k a0 a1=some y):Meets Tryz.prog envX pv (.f 14) (tvals [.lib,(.int .i64)] (a0,a1,())) (.t (.int .i64) y) :=
 fun_plain hE (laws_szLibrary.G hE pv k) (f:=14) (fn:=Tryz.f14) (by kernel_rfl) rfl (by kernel_rfl) (by kernel_rfl) ((laws_szLibrary.run k a0 a1).trans h) (fun r hr=>wk_view1 hr)
def laws_toStringS.l0:Nat->(List ByteArray)->(List ByteArray)->Int->Option ((List ByteArray))
 | 0,_,_,_=>none
 | k+1,x0,x3,x4=>bif (decide (x4<(x0.length:Int))) then (bif decide (0<=x4) then (bif decide (x4<(x0.length:Int)) then (bif decide (0<=x4) then (bif decide (x4<(x3.length:Int)) then (laws_toStringS.l0 k x0 (x3.set ((x4:Int).toNat) (x0.getD (x4:Int).toNat (⟨#[]⟩:ByteArray))) (IntKind.wrap .i64 (x4+1))) else none) else none) else none) else none) else (some x3)
def laws_toStringS.F (k:Nat) (a0:List ByteArray):Option (List ByteArray):=bif ((a0.length:Int)==(a0.length:Int)) then (bif decide (0<=(a0.length:Int)) then (bif Nat.ble (((a0.length:Int):Int).toNat * nb .str) 140737488355328 then ((laws_toStringS.l0 k a0 (List.replicate ((a0.length:Int):Int).toNat (⟨#[]⟩:ByteArray)) 0).bind fun y1=>some y1) else none) else none) else none
def laws_toName.C (k:Nat):Cal->Option CArm:=fun c=>match c with
 | .f 93=>some (.p [(.sl .str)] _ (fun x=>laws_toStringS.F k x.1) (fun r=>(.fr 9 .str r)))
 | _=>none
def laws_toStringS_p.l0:Nat->(List ByteArray)->(List ByteArray)->Int->Option ((List ByteArray))
 | 0,_,_,_=>none
 | k+1,x0,x3,x4=>bif (decide (x4<(x0.length:Int))) then (bif decide (0<=x4) then (bif decide (x4<(x0.length:Int)) then (bif decide (0<=x4) then (bif decide (x4<(x3.length:Int)) then (laws_toStringS_p.l0 k x0 (x3.set ((x4:Int).toNat) (x0.getD (x4:Int).toNat (⟨#[]⟩:ByteArray))) (IntKind.wrap .i64 (x4+1))) else none) else none) else none) else none) else (some x3)
def laws_toStringS_p.F (k:Nat) (a0:List ByteArray):Option (List ByteArray):=bif ((a0.length:Int)==(a0.length:Int)) then (bif decide (0<=(a0.length:Int)) then (bif Nat.ble (((a0.length:Int):Int).toNat * nb .str) 140737488355328 then ((laws_toStringS_p.l0 k a0 (List.replicate ((a0.length:Int):Int).toNat (⟨#[]⟩:ByteArray)) 0).bind fun y1=>some y1) else none) else none) else none
def laws_toStringS_p.C (k:Nat):Cal->Option CArm:=fun c=>match c with
 | _=>none
def laws_toStringS_p.sp0:List Sp:=[.t 0 (.sl .str),.own 3 1032 9 .str false true,.t 4 (.int .i64)]
def laws_toStringS_p.sp0_0:List Sp:=[.own 3 1032 9 .str false true]
def laws_toStringS_p.A0:LArm:=.one laws_toStringS_p.sp0 laws_toStringS_p.sp0_0 ((List ByteArray)) (fun k x=>laws_toStringS_p.l0 k x.1 x.2.1 x.2.2.1) (.exit 0) (fun y=>(y,())) (fun x=>x.1)
def laws_toStringS_p.L:Nat->Option LArm:=fun b=>match b with
 | 0=>some laws_toStringS_p.A0
 | _=>none
theorem laws_toStringS_p.run (k:Nat) (a0:List ByteArray):runF envP (tabC (laws_toStringS_p.C k)) (tabL 22 k laws_toStringS_p.L) Tryz.f93 [.t (.sl .str) a0] (viewR1 (.fr 9 .str))=laws_toStringS_p.F k a0:=by kernel_rfl
theorem laws_toStringS_p.step0 (k:Nat) (x0:List ByteArray) (x3:List ByteArray) (x4:Int):runC envP (tabC (laws_toStringS_p.C k)) (tabL 22 k laws_toStringS_p.L) 0 (loopAt Tryz.f93 0) (stOf 22 laws_toStringS_p.sp0 (x0,x3,x4,())) (laws_toStringS_p.A0.cont 22 k)=laws_toStringS_p.l0 (k+1) x0 x3 x4:=by kernel_rfl
theorem laws_toStringS_p.G (hE:EnvOk Tryz.prog envP) (pv:Nat->Value) (n:Nat) (k:Nat):∀ cal A,laws_toStringS_p.C k cal=some A->ArmOk Tryz.prog envP (mpv pv n) cal A:=by
 intro cal A h
 unfold laws_toStringS_p.C at h
 cases h
theorem laws_toStringS_p.good (hE:EnvOk Tryz.prog envP) (pv:Nat->Value) (n:Nat) (k:Nat) (a0:List ByteArray) {y:_} (h:laws_toStringS_p.F k a0=some y):Meets Tryz.prog envP (mpv pv n) (.f 93) (tvals [(.sl .str)] (a0,())) (.fr 9 .str y) :=
 fun_loops hE (t:=laws_toStringS_p.C) k (fun k _=>laws_toStringS_p.G hE pv n k) (f:=93) (fn:=Tryz.f93) (by kernel_rfl) rfl (by kernel_rfl) (by kernel_rfl) (lt:=laws_toStringS_p.L) (by kernel_rfl) (fun b A h=>by
  unfold laws_toStringS_p.L at h; split at h
  ·cases h; exact ⟨by kernel_rfl,by kernel_rfl,fun _=>rfl,fun _=>rfl⟩
  ·cases h) (fun b A h=>by
  unfold laws_toStringS_p.L at h; split at h
  ·cases h; exact fun k x=>laws_toStringS_p.step0 k x.1 x.2.1 x.2.2.1
  ·cases h) ((laws_toStringS_p.run k a0).trans h) (fun r hr=>wk_view1 hr)
def laws_toName_p.F (k:Nat) (a0:Name):Option (Name):=(laws_toStringS_p.F k a0.given).bind fun r1=>some (⟨r1,a0.particle,a0.family,a0.suffix⟩:Name)
def laws_toName_p.C (k:Nat):Cal->Option CArm:=fun c=>match c with
 | .f 93=>some (.p [(.sl .str)] _ (fun x=>laws_toStringS_p.F k x.1) (fun r=>(.fr 9 .str r)))
 | _=>none
theorem laws_toName_p.run (k:Nat) (a0:Name):runPc envP (tabC (laws_toName_p.C k)) (tabL 18 0 (fun _=>none)) Tryz.f69 [.t .name a0] (viewR1 (.pc .name))=laws_toName_p.F k a0:=by kernel_rfl
theorem laws_toName_p.G (hE:EnvOk Tryz.prog envP) (pv:Nat->Value) (n:Nat) (k:Nat):∀ cal A,laws_toName_p.C k cal=some A->ArmOk Tryz.prog envP (mpv pv n) cal A:=by
 intro cal A h
 unfold laws_toName_p.C at h
 split at h
 ·cases h; exact fun x y hy=>laws_toStringS_p.good hE pv n k x.1 hy
 ·cases h
theorem laws_toName_p.good (hE:EnvOk Tryz.prog envP) (pv:Nat->Value) (n:Nat) (k:Nat) (a0:Name) {y:_} (h:laws_toName_p.F k a0=some y):Meets Tryz.prog envP (mpv pv n) (.f 69) (tvals [.name] (a0,())) (.pc true .name y) :=
 funPc_plain hE (mpv_O pv n) (mpv_Q pv n) (laws_toName_p.G hE pv n k) (f:=69) (fn:=Tryz.f69) (by kernel_rfl) rfl (by kernel_rfl) (by kernel_rfl) ((laws_toName_p.run k a0).trans h) (fun r hr=>wk_view1 hr)
def laws_toNameS.l0:Nat->(List Name)->(List Name)->Int->Option ((List Name))
 | 0,_,_,_=>none
 | k+1,x0,x3,x4=>bif (decide (x4<(x0.length:Int))) then (bif decide (0<=x4) then (bif decide (x4<(x0.length:Int)) then ((laws_toName_p.F k (x0.getD (x4:Int).toNat (dflt .name))).bind fun r1=>bif decide (0<=x4) then (bif decide (x4<(x3.length:Int)) then (laws_toNameS.l0 k x0 (x3.set ((x4:Int).toNat) r1) (IntKind.wrap .i64 (x4+1))) else none) else none) else none) else none) else (some x3)
def laws_toNameS.F (k:Nat) (a0:List Name):Option (List Name):=bif ((a0.length:Int)==(a0.length:Int)) then (bif decide (0<=(a0.length:Int)) then (bif Nat.ble (((a0.length:Int):Int).toNat * nb .name) 140737488355328 then ((laws_toNameS.l0 k a0 (List.replicate ((a0.length:Int):Int).toNat (dflt .name)) 0).bind fun y2=>some y2) else none) else none) else none
def laws_toNameS.C (k:Nat):Cal->Option CArm:=fun c=>match c with
 | .f 69=>some (.pp [.name] .name (fun x=>laws_toName_p.F k x.1))
 | _=>none
def laws_toDate.F (a0:Date):Option (Date):=some (⟨a0.y,a0.m,a0.d,a0.c⟩:Date)
def laws_toEntry.C (k:Nat):Cal->Option CArm:=fun c=>match c with
 | .f 31=>some (.p [(.sl .name)] _ (fun x=>laws_toNameS.F k x.1) (fun r=>(.fr 92 .name r)))
 | .f 32=>some (.p [.date] _ (fun x=>laws_toDate.F x.1) (fun r=>(.t .date r)))
 | _=>none
def laws_toNameS_p.l0:Nat->(List Name)->(List Name)->Int->Option ((List Name))
 | 0,_,_,_=>none
 | k+1,x0,x3,x4=>bif (decide (x4<(x0.length:Int))) then (bif decide (0<=x4) then (bif decide (x4<(x0.length:Int)) then ((laws_toName_p.F k (x0.getD (x4:Int).toNat (dflt .name))).bind fun r1=>bif decide (0<=x4) then (bif decide (x4<(x3.length:Int)) then (laws_toNameS_p.l0 k x0 (x3.set ((x4:Int).toNat) r1) (IntKind.wrap .i64 (x4+1))) else none) else none) else none) else none) else (some x3)
def laws_toNameS_p.F (k:Nat) (a0:List Name):Option (List Name):=bif ((a0.length:Int)==(a0.length:Int)) then (bif decide (0<=(a0.length:Int)) then (bif Nat.ble (((a0.length:Int):Int).toNat * nb .name) 140737488355328 then ((laws_toNameS_p.l0 k a0 (List.replicate ((a0.length:Int):Int).toNat (dflt .name)) 0).bind fun y2=>some y2) else none) else none) else none
def laws_toNameS_p.C (k:Nat):Cal->Option CArm:=fun c=>match c with
 | .f 69=>some (.p [.name] _ (fun x=>laws_toName_p.F k x.1) (fun r=>(.pc true .name r)))
 | _=>none
def laws_toNameS_p.sp0:List Sp:=[.t 0 (.sl .name),.own 3 1032 92 .name false true,.t 4 (.int .i64)]
def laws_toNameS_p.sp0_0:List Sp:=[.own 3 1032 92 .name false true]
def laws_toNameS_p.A0:LArm:=.one laws_toNameS_p.sp0 laws_toNameS_p.sp0_0 ((List Name)) (fun k x=>laws_toNameS_p.l0 k x.1 x.2.1 x.2.2.1) (.exit 0) (fun y=>(y,())) (fun x=>x.1)
def laws_toNameS_p.L:Nat->Option LArm:=fun b=>match b with
 | 0=>some laws_toNameS_p.A0
 | _=>none
theorem laws_toNameS_p.run (k:Nat) (a0:List Name):runF envP (tabC (laws_toNameS_p.C k)) (tabL 23 k laws_toNameS_p.L) Tryz.f31 [.t (.sl .name) a0] (viewR1 (.fr 92 .name))=laws_toNameS_p.F k a0:=by kernel_rfl
theorem laws_toNameS_p.step0 (k:Nat) (x0:List Name) (x3:List Name) (x4:Int):runC envP (tabC (laws_toNameS_p.C k)) (tabL 23 k laws_toNameS_p.L) 0 (loopAt Tryz.f31 0) (stOf 23 laws_toNameS_p.sp0 (x0,x3,x4,())) (laws_toNameS_p.A0.cont 23 k)=laws_toNameS_p.l0 (k+1) x0 x3 x4:=by kernel_rfl
theorem laws_toNameS_p.G (hE:EnvOk Tryz.prog envP) (pv:Nat->Value) (n:Nat) (k:Nat):∀ cal A,laws_toNameS_p.C k cal=some A->ArmOk Tryz.prog envP (mpv pv n) cal A:=by
 intro cal A h
 unfold laws_toNameS_p.C at h
 split at h
 ·cases h; exact fun x y hy=>laws_toName_p.good hE pv n k x.1 hy
 ·cases h
theorem laws_toNameS_p.good (hE:EnvOk Tryz.prog envP) (pv:Nat->Value) (n:Nat) (k:Nat) (a0:List Name) {y:_} (h:laws_toNameS_p.F k a0=some y):Meets Tryz.prog envP (mpv pv n) (.f 31) (tvals [(.sl .name)] (a0,())) (.fr 92 .name y) :=
 fun_loops hE (t:=laws_toNameS_p.C) k (fun k _=>laws_toNameS_p.G hE pv n k) (f:=31) (fn:=Tryz.f31) (by kernel_rfl) rfl (by kernel_rfl) (by kernel_rfl) (lt:=laws_toNameS_p.L) (by kernel_rfl) (fun b A h=>by
  unfold laws_toNameS_p.L at h; split at h
  ·cases h; exact ⟨by kernel_rfl,by kernel_rfl,fun _=>rfl,fun _=>rfl⟩
  ·cases h) (fun b A h=>by
  unfold laws_toNameS_p.L at h; split at h
  ·cases h; exact fun k x=>laws_toNameS_p.step0 k x.1 x.2.1 x.2.2.1
  ·cases h) ((laws_toNameS_p.run k a0).trans h) (fun r hr=>wk_view1 hr)
def laws_toDate_p.F (a0:Date):Option (Date):=some (⟨a0.y,a0.m,a0.d,a0.c⟩:Date)
def laws_toDate_p.C:Cal->Option CArm:=fun c=>match c with
 | _=>none
theorem laws_toDate_p.run (a0:Date):runF envP (tabC laws_toDate_p.C) (tabL 17 0 (fun _=>none)) Tryz.f32 [.t .date a0] (viewR1 (.t .date))=laws_toDate_p.F a0:=by kernel_rfl
theorem laws_toDate_p.G (hE:EnvOk Tryz.prog envP) (pv:Nat->Value) (n:Nat):∀ cal A,laws_toDate_p.C cal=some A->ArmOk Tryz.prog envP (mpv pv n) cal A:=by
 intro cal A h
 unfold laws_toDate_p.C at h
 cases h
theorem laws_toDate_p.good (hE:EnvOk Tryz.prog envP) (pv:Nat->Value) (n:Nat) (a0:Date) {y:_} (h:laws_toDate_p.F a0=some y):Meets Tryz.prog envP (mpv pv n) (.f 32) (tvals [.date] (a0,())) (.t .date y) :=
 fun_plain hE (laws_toDate_p.G hE pv n) (f:=32) (fn:=Tryz.f32) (by kernel_rfl) rfl (by kernel_rfl) (by kernel_rfl) ((laws_toDate_p.run a0).trans h) (fun r hr=>wk_view1 hr)
def laws_toEntry_p.F (k:Nat) (a0:Entry):Option (Entry):=(laws_toNameS_p.F k a0.authors).bind fun r1=>(laws_toNameS_p.F k a0.editors).bind fun r2=>(laws_toDate_p.F a0.date).bind fun r3=>some (⟨a0.key,a0.kind,r1,r2,a0.title,a0.container,a0.publisher,r3,a0.volume,a0.pages,a0.cross⟩:Entry)
def laws_toEntry_p.C (k:Nat):Cal->Option CArm:=fun c=>match c with
 | .f 31=>some (.p [(.sl .name)] _ (fun x=>laws_toNameS_p.F k x.1) (fun r=>(.fr 92 .name r)))
 | .f 32=>some (.p [.date] _ (fun x=>laws_toDate_p.F x.1) (fun r=>(.t .date r)))
 | _=>none
theorem laws_toEntry_p.run (k:Nat) (a0:Entry):runPc envP (tabC (laws_toEntry_p.C k)) (tabL 41 0 (fun _=>none)) Tryz.f9 [.t .entry a0] (viewR1 (.pc .entry))=laws_toEntry_p.F k a0:=by kernel_rfl
theorem laws_toEntry_p.G (hE:EnvOk Tryz.prog envP) (pv:Nat->Value) (n:Nat) (k:Nat):∀ cal A,laws_toEntry_p.C k cal=some A->ArmOk Tryz.prog envP (mpv pv n) cal A:=by
 intro cal A h
 unfold laws_toEntry_p.C at h
 split at h
 ·cases h; exact fun x y hy=>laws_toNameS_p.good hE pv n k x.1 hy
 ·cases h; exact fun x y hy=>laws_toDate_p.good hE pv n x.1 hy
 ·cases h
theorem laws_toEntry_p.good (hE:EnvOk Tryz.prog envP) (pv:Nat->Value) (n:Nat) (k:Nat) (a0:Entry) {y:_} (h:laws_toEntry_p.F k a0=some y):Meets Tryz.prog envP (mpv pv n) (.f 9) (tvals [.entry] (a0,())) (.pc true .entry y) :=
 funPc_plain hE (mpv_O pv n) (mpv_Q pv n) (laws_toEntry_p.G hE pv n k) (f:=9) (fn:=Tryz.f9) (by kernel_rfl) rfl (by kernel_rfl) (by kernel_rfl) ((laws_toEntry_p.run k a0).trans h) (fun r hr=>wk_view1 hr)
def laws_toEntryS.l0:Nat->(List Entry)->(List Entry)->Int->Option ((List Entry))
 | 0,_,_,_=>none
 | k+1,x0,x3,x4=>bif (decide (x4<(x0.length:Int))) then (bif decide (0<=x4) then (bif decide (x4<(x0.length:Int)) then ((laws_toEntry_p.F k (x0.getD (x4:Int).toNat (dflt .entry))).bind fun r1=>bif decide (0<=x4) then (bif decide (x4<(x3.length:Int)) then (laws_toEntryS.l0 k x0 (x3.set ((x4:Int).toNat) r1) (IntKind.wrap .i64 (x4+1))) else none) else none) else none) else none) else (some x3)
def laws_toEntryS.F (k:Nat) (a0:List Entry):Option (List Entry):=bif ((a0.length:Int)==(a0.length:Int)) then (bif decide (0<=(a0.length:Int)) then (bif Nat.ble (((a0.length:Int):Int).toNat * nb .entry) 140737488355328 then ((laws_toEntryS.l0 k a0 (List.replicate ((a0.length:Int):Int).toNat (dflt .entry)) 0).bind fun y2=>some y2) else none) else none) else none
def laws_toEntryS.C (k:Nat):Cal->Option CArm:=fun c=>match c with
 | .f 9=>some (.pp [.entry] .entry (fun x=>laws_toEntry_p.F k x.1))
 | _=>none
def laws_toLibrary.C (k:Nat):Cal->Option CArm:=fun c=>match c with
 | .f 43=>some (.p [(.sl .entry)] _ (fun x=>laws_toEntryS.F k x.1) (fun r=>(.fr 31 .entry r)))
 | _=>none
def laws_eqEntryS.l0:Nat->(List Entry)->(List Entry)->Int->Option (Sum Bool Unit)
 | 0,_,_,_=>none
 | k+1,x0,x1,x5=>bif (decide (x5<(x0.length:Int))) then (bif decide (0<=x5) then (bif decide (x5<(x0.length:Int)) then (bif decide (0<=x5) then (bif decide (x5<(x1.length:Int)) then ((laws_eqEntry.F k (x0.getD (x5:Int).toNat (dflt .entry)) (x1.getD (x5:Int).toNat (dflt .entry))).bind fun r1=>bif (!r1) then (some (.inl false)) else (laws_eqEntryS.l0 k x0 x1 (IntKind.wrap .i64 (x5+1)))) else none) else none) else none) else none) else (some (.inr ()))
def laws_eqEntryS.F (k:Nat) (a0:List Entry) (a1:List Entry):Option (Bool):=bif ((a0.length:Int) != (a1.length:Int)) then (some false) else ((laws_eqEntryS.l0 k a0 a1 0).bind fun y2=>match y2 with | .inl z3=>some z3 | .inr z3=>some true)
def laws_eqEntryS.C (k:Nat):Cal->Option CArm:=fun c=>match c with
 | .f 11=>some (.p [.entry,.entry] _ (fun x=>laws_eqEntry.F k x.1 x.2.1) (fun r=>(.t .bool r)))
 | _=>none
def laws_eqEntryS.sp0:List Sp:=[.t 0 (.sl .entry),.t 1 (.sl .entry),.t 5 (.int .i64)]
def laws_eqEntryS.sp0_0:List Sp:=[.t 4 .bool]
def laws_eqEntryS.sp0_1:List Sp:=[]
def laws_eqEntryS.A0:LArm:=.two laws_eqEntryS.sp0 laws_eqEntryS.sp0_0 laws_eqEntryS.sp0_1 (Bool) (Unit) (fun k x=>laws_eqEntryS.l0 k x.1 x.2.1 x.2.2.1) .ret (.exit 0) (fun y=>(y,())) (fun x=>x.1) (fun y=>()) (fun x=>())
def laws_eqEntryS.L:Nat->Option LArm:=fun b=>match b with
 | 0=>some laws_eqEntryS.A0
 | _=>none
theorem laws_eqEntryS.run (k:Nat) (a0:List Entry) (a1:List Entry):runF envX (tabC (laws_eqEntryS.C k)) (tabL 27 k laws_eqEntryS.L) Tryz.f50 [.t (.sl .entry) a0,.t (.sl .entry) a1] (viewR1 (.t .bool))=laws_eqEntryS.F k a0 a1:=by kernel_rfl
theorem laws_eqEntryS.step0 (k:Nat) (x0:List Entry) (x1:List Entry) (x5:Int):runC envX (tabC (laws_eqEntryS.C k)) (tabL 27 k laws_eqEntryS.L) 0 (loopAt Tryz.f50 0) (stOf 27 laws_eqEntryS.sp0 (x0,x1,x5,())) (laws_eqEntryS.A0.cont 27 k)=laws_eqEntryS.l0 (k+1) x0 x1 x5:=by kernel_rfl
theorem laws_eqEntryS.G (hE:EnvOk Tryz.prog envX) (pv:Nat->Value) (k:Nat):∀ cal A,laws_eqEntryS.C k cal=some A->ArmOk Tryz.prog envX pv cal A:=by
 intro cal A h
 unfold laws_eqEntryS.C at h
 split at h
 ·cases h; exact fun x y hy=>laws_eqEntry.good hE pv k x.1 x.2.1 hy
 ·cases h
theorem laws_eqEntryS.good (hE:EnvOk Tryz.prog envX) (pv:Nat->Value) (k:Nat) (a0:List Entry) (a1:List Entry) {y:_} (h:laws_eqEntryS.F k a0 a1=some y):Meets Tryz.prog envX pv (.f 50) (tvals [(.sl .entry),(.sl .entry)] (a0,a1,())) (.t .bool y) :=
 fun_loops hE (t:=laws_eqEntryS.C) k (fun k _=>laws_eqEntryS.G hE pv k) (f:=50) (fn:=Tryz.f50) (by kernel_rfl) rfl (by kernel_rfl) (by kernel_rfl) (lt:=laws_eqEntryS.L) (by kernel_rfl) (fun b A h=>by
  unfold laws_eqEntryS.L at h; split at h
  ·cases h; exact ⟨by kernel_rfl,by kernel_rfl,by kernel_rfl,fun _=>rfl,fun _=>rfl,fun _=>rfl⟩
  ·cases h) (fun b A h=>by
  unfold laws_eqEntryS.L at h; split at h
  ·cases h; exact fun k x=>laws_eqEntryS.step0 k x.1 x.2.1 x.2.2.1
  ·cases h) ((laws_eqEntryS.run k a0 a1).trans h) (fun r hr=>wk_view1 hr)
def laws_eqLibrary.F (k:Nat) (a0:Library) (a1:Library):Option (Bool):=(laws_eqEntryS.F k a0.entries a1.entries).bind fun r1=>bif (!r1) then (some false) else (some true)
def laws_eqLibrary.C (k:Nat):Cal->Option CArm:=fun c=>match c with
 | .f 50=>some (.p [(.sl .entry),(.sl .entry)] _ (fun x=>laws_eqEntryS.F k x.1 x.2.1) (fun r=>(.t .bool r)))
 | _=>none
theorem laws_eqLibrary.run (k:Nat) (a0:Library) (a1:Library):runF envX (tabC (laws_eqLibrary.C k)) (tabL 11 0 (fun _=>none)) Tryz.f19 [.t .lib a0,.t .lib a1] (viewR1 (.t .bool))=laws_eqLibrary.F k a0 a1:=by kernel_rfl
theorem laws_eqLibrary.G (hE:EnvOk Tryz.prog envX) (pv:Nat->Value) (k:Nat):∀ cal A,laws_eqLibrary.C k cal=some A->ArmOk Tryz.prog envX pv cal A:=by
 intro cal A h
 unfold laws_eqLibrary.C at h
 split at h
 ·cases h; exact fun x y hy=>laws_eqEntryS.good hE pv k x.1 x.2.1 hy
 ·cases h
theorem laws_eqLibrary.good (hE:EnvOk Tryz.prog envX) (pv:Nat->Value) (k:Nat) (a0:Library) (a1:Library) {y:_} (h:laws_eqLibrary.F k a0 a1=some y):Meets Tryz.prog envX pv (.f 19) (tvals [.lib,.lib] (a0,a1,())) (.t .bool y) :=
 fun_plain hE (laws_eqLibrary.G hE pv k) (f:=19) (fn:=Tryz.f19) (by kernel_rfl) rfl (by kernel_rfl) (by kernel_rfl) ((laws_eqLibrary.run k a0 a1).trans h) (fun r hr=>wk_view1 hr)
-- NO 51 loop.example/g00896/laws.markEntryS: a call of loop.example/g00896/laws.markNameS
-- NO 20 loop.example/g00896/laws.markLibrary: a call of loop.example/g00896/laws.markEntryS
def spec_l1In.F (a0:Int) (a1:Int) (a2:Int):Option (Bool):=bif (decide (a0 ≥ a1)) then (some (decide (a0<=a2))) else (some false)
def spec_l1In.C:Cal->Option CArm:=fun c=>match c with
 | _=>none
theorem spec_l1In.run (a0:Int) (a1:Int) (a2:Int):runF envX (tabC spec_l1In.C) (tabL 15 0 (fun _=>none)) Tryz.f62 [.t (.int .i64) a0,.t (.int .i64) a1,.t (.int .i64) a2] (viewR1 (.t .bool))=spec_l1In.F a0 a1 a2:=by kernel_rfl
theorem spec_l1In.G (hE:EnvOk Tryz.prog envX) (pv:Nat->Value):∀ cal A,spec_l1In.C cal=some A->ArmOk Tryz.prog envX pv cal A:=by
 intro cal A h
 unfold spec_l1In.C at h
 cases h
theorem spec_l1In.good (hE:EnvOk Tryz.prog envX) (pv:Nat->Value) (a0:Int) (a1:Int) (a2:Int) {y:_} (h:spec_l1In.F a0 a1 a2=some y):Meets Tryz.prog envX pv (.f 62) (tvals [(.int .i64),(.int .i64),(.int .i64)] (a0,a1,a2,())) (.t .bool y) :=
 fun_plain hE (spec_l1In.G hE pv) (f:=62) (fn:=Tryz.f62) (by kernel_rfl) rfl (by kernel_rfl) (by kernel_rfl) ((spec_l1In.run a0 a1 a2).trans h) (fun r hr=>wk_view1 hr)
def spec_l2Lower.F (a0:Int):Option (Bool):=bif (decide (a0 ≥ 97)) then (some (decide (a0<=122))) else (some false)
def spec_l2Lower.C:Cal->Option CArm:=fun c=>match c with
 | _=>none
theorem spec_l2Lower.run (a0:Int):runF envX (tabC spec_l2Lower.C) (tabL 9 0 (fun _=>none)) Tryz.f90 [.t (.int .u8) a0] (viewR1 (.t .bool))=spec_l2Lower.F a0:=by kernel_rfl
theorem spec_l2Lower.G (hE:EnvOk Tryz.prog envX) (pv:Nat->Value):∀ cal A,spec_l2Lower.C cal=some A->ArmOk Tryz.prog envX pv cal A:=by
 intro cal A h
 unfold spec_l2Lower.C at h
 cases h
theorem spec_l2Lower.good (hE:EnvOk Tryz.prog envX) (pv:Nat->Value) (a0:Int) {y:_} (h:spec_l2Lower.F a0=some y):Meets Tryz.prog envX pv (.f 90) (tvals [(.int .u8)] (a0,())) (.t .bool y) :=
 fun_plain hE (spec_l2Lower.G hE pv) (f:=90) (fn:=Tryz.f90) (by kernel_rfl) rfl (by kernel_rfl) (by kernel_rfl) ((spec_l2Lower.run a0).trans h) (fun r hr=>wk_view1 hr)
def spec_l4Key.l0:Nat->ByteArray->Int->Option (Sum Bool Unit)
 | 0,_,_=>none
 | k+1,x0,x3=>bif (decide (x3<(x0.size:Int))) then (bif decide (0<=x3) then (bif decide (x3<(x0.size:Int)) then ((spec_l2Lower.F (bt x0 (x3:Int).toNat)).bind fun r3=>bif (!r3) then (bif decide (0<=x3) then (bif decide (x3<(x0.size:Int)) then (bif (decide ((bt x0 (x3:Int).toNat)<48)) then (some (.inl false)) else (bif decide (0<=x3) then (bif decide (x3<(x0.size:Int)) then (bif (decide ((bt x0 (x3:Int).toNat) > 57)) then (some (.inl false)) else (spec_l4Key.l0 k x0 (IntKind.wrap .i64 (x3+1)))) else none) else none)) else none) else none) else (spec_l4Key.l0 k x0 (IntKind.wrap .i64 (x3+1)))) else none) else none) else (some (.inr ()))
def spec_l4Key.F (k:Nat) (a0:ByteArray):Option (Bool):=(spec_l1In.F (a0.size:Int) 1 10).bind fun r1=>bif (!r1) then (some false) else (bif decide (0<=0) then (bif decide (0<(a0.size:Int)) then ((spec_l2Lower.F (bt a0 (0:Int).toNat)).bind fun r2=>bif (!r2) then (some false) else ((spec_l4Key.l0 k a0 0).bind fun y4=>match y4 with | .inl z5=>some z5 | .inr z5=>some true)) else none) else none)
def spec_l4Key.C (k:Nat):Cal->Option CArm:=fun c=>match c with
 | .f 62=>some (.p [(.int .i64),(.int .i64),(.int .i64)] _ (fun x=>spec_l1In.F x.1 x.2.1 x.2.2.1) (fun r=>(.t .bool r)))
 | .f 90=>some (.p [(.int .u8)] _ (fun x=>spec_l2Lower.F x.1) (fun r=>(.t .bool r)))
 | _=>none
def spec_l4Key.sp0:List Sp:=[.t 0 .str,.t 3 (.int .i64)]
def spec_l4Key.sp0_0:List Sp:=[.t 2 .bool]
def spec_l4Key.sp0_1:List Sp:=[]
def spec_l4Key.A0:LArm:=.two spec_l4Key.sp0 spec_l4Key.sp0_0 spec_l4Key.sp0_1 (Bool) (Unit) (fun k x=>spec_l4Key.l0 k x.1 x.2.1) .ret (.exit 0) (fun y=>(y,())) (fun x=>x.1) (fun y=>()) (fun x=>())
def spec_l4Key.L:Nat->Option LArm:=fun b=>match b with
 | 0=>some spec_l4Key.A0
 | _=>none
theorem spec_l4Key.run (k:Nat) (a0:ByteArray):runF envX (tabC (spec_l4Key.C k)) (tabL 37 k spec_l4Key.L) Tryz.f61 [.t .str a0] (viewR1 (.t .bool))=spec_l4Key.F k a0:=by kernel_rfl
theorem spec_l4Key.step0 (k:Nat) (x0:ByteArray) (x3:Int):runC envX (tabC (spec_l4Key.C k)) (tabL 37 k spec_l4Key.L) 0 (loopAt Tryz.f61 0) (stOf 37 spec_l4Key.sp0 (x0,x3,())) (spec_l4Key.A0.cont 37 k)=spec_l4Key.l0 (k+1) x0 x3:=by kernel_rfl
theorem spec_l4Key.G (hE:EnvOk Tryz.prog envX) (pv:Nat->Value) (k:Nat):∀ cal A,spec_l4Key.C k cal=some A->ArmOk Tryz.prog envX pv cal A:=by
 intro cal A h
 unfold spec_l4Key.C at h
 split at h
 ·cases h; exact fun x y hy=>spec_l1In.good hE pv x.1 x.2.1 x.2.2.1 hy
 ·cases h; exact fun x y hy=>spec_l2Lower.good hE pv x.1 hy
 ·cases h
theorem spec_l4Key.good (hE:EnvOk Tryz.prog envX) (pv:Nat->Value) (k:Nat) (a0:ByteArray) {y:_} (h:spec_l4Key.F k a0=some y):Meets Tryz.prog envX pv (.f 61) (tvals [.str] (a0,())) (.t .bool y) :=
 fun_loops hE (t:=spec_l4Key.C) k (fun k _=>spec_l4Key.G hE pv k) (f:=61) (fn:=Tryz.f61) (by kernel_rfl) rfl (by kernel_rfl) (by kernel_rfl) (lt:=spec_l4Key.L) (by kernel_rfl) (fun b A h=>by
  unfold spec_l4Key.L at h; split at h
  ·cases h; exact ⟨by kernel_rfl,by kernel_rfl,by kernel_rfl,fun _=>rfl,fun _=>rfl,fun _=>rfl⟩
  ·cases h) (fun b A h=>by
  unfold spec_l4Key.L at h; split at h
  ·cases h; exact fun k x=>spec_l4Key.step0 k x.1 x.2.1
  ·cases h) ((spec_l4Key.run k a0).trans h) (fun r hr=>wk_view1 hr)
def spec_l2Upper.F (a0:Int):Option (Bool):=bif (decide (a0 ≥ 65)) then (some (decide (a0<=90))) else (some false)
def spec_l2Upper.C:Cal->Option CArm:=fun c=>match c with
 | _=>none
theorem spec_l2Upper.run (a0:Int):runF envX (tabC spec_l2Upper.C) (tabL 9 0 (fun _=>none)) Tryz.f104 [.t (.int .u8) a0] (viewR1 (.t .bool))=spec_l2Upper.F a0:=by kernel_rfl
theorem spec_l2Upper.G (hE:EnvOk Tryz.prog envX) (pv:Nat->Value):∀ cal A,spec_l2Upper.C cal=some A->ArmOk Tryz.prog envX pv cal A:=by
 intro cal A h
 unfold spec_l2Upper.C at h
 cases h
theorem spec_l2Upper.good (hE:EnvOk Tryz.prog envX) (pv:Nat->Value) (a0:Int) {y:_} (h:spec_l2Upper.F a0=some y):Meets Tryz.prog envX pv (.f 104) (tvals [(.int .u8)] (a0,())) (.t .bool y) :=
 fun_plain hE (spec_l2Upper.G hE pv) (f:=104) (fn:=Tryz.f104) (by kernel_rfl) rfl (by kernel_rfl) (by kernel_rfl) ((spec_l2Upper.run a0).trans h) (fun r hr=>wk_view1 hr)
def spec_l2Letter.F (a0:Int):Option (Bool):=(spec_l2Upper.F a0).bind fun r1=>bif r1 then (some true) else ((spec_l2Lower.F a0).bind fun r2=>some r2)
def spec_l2Letter.C:Cal->Option CArm:=fun c=>match c with
 | .f 104=>some (.p [(.int .u8)] _ (fun x=>spec_l2Upper.F x.1) (fun r=>(.t .bool r)))
 | .f 90=>some (.p [(.int .u8)] _ (fun x=>spec_l2Lower.F x.1) (fun r=>(.t .bool r)))
 | _=>none
theorem spec_l2Letter.run (a0:Int):runF envX (tabC spec_l2Letter.C) (tabL 9 0 (fun _=>none)) Tryz.f113 [.t (.int .u8) a0] (viewR1 (.t .bool))=spec_l2Letter.F a0:=by kernel_rfl
theorem spec_l2Letter.G (hE:EnvOk Tryz.prog envX) (pv:Nat->Value):∀ cal A,spec_l2Letter.C cal=some A->ArmOk Tryz.prog envX pv cal A:=by
 intro cal A h
 unfold spec_l2Letter.C at h
 split at h
 ·cases h; exact fun x y hy=>spec_l2Upper.good hE pv x.1 hy
 ·cases h; exact fun x y hy=>spec_l2Lower.good hE pv x.1 hy
 ·cases h
theorem spec_l2Letter.good (hE:EnvOk Tryz.prog envX) (pv:Nat->Value) (a0:Int) {y:_} (h:spec_l2Letter.F a0=some y):Meets Tryz.prog envX pv (.f 113) (tvals [(.int .u8)] (a0,())) (.t .bool y) :=
 fun_plain hE (spec_l2Letter.G hE pv) (f:=113) (fn:=Tryz.f113) (by kernel_rfl) rfl (by kernel_rfl) (by kernel_rfl) ((spec_l2Letter.run a0).trans h) (fun r hr=>wk_view1 hr)
def spec_l2Word.l0:Nat->ByteArray->Int->Option (Sum Bool Unit)
 | 0,_,_=>none
 | k+1,x0,x3=>bif (decide (x3<(x0.size:Int))) then (bif decide (0<=x3) then (bif decide (x3<(x0.size:Int)) then ((spec_l2Letter.F (bt x0 (x3:Int).toNat)).bind fun r4=>bif (!r4) then (bif decide (0<=x3) then (bif decide (x3<(x0.size:Int)) then (bif ((bt x0 (x3:Int).toNat) != 45) then (bif decide (0<=x3) then (bif decide (x3<(x0.size:Int)) then (bif ((bt x0 (x3:Int).toNat) != 39) then (some (.inl false)) else (bif decide (0<=(IntKind.wrap .i64 (x3-1))) then (bif decide ((IntKind.wrap .i64 (x3-1))<(x0.size:Int)) then ((spec_l2Letter.F (bt x0 ((IntKind.wrap .i64 (x3-1)):Int).toNat)).bind fun r5=>bif (!r5) then (some (.inl false)) else (spec_l2Word.l0 k x0 (IntKind.wrap .i64 (x3+1)))) else none) else none)) else none) else none) else (bif decide (0<=(IntKind.wrap .i64 (x3-1))) then (bif decide ((IntKind.wrap .i64 (x3-1))<(x0.size:Int)) then ((spec_l2Letter.F (bt x0 ((IntKind.wrap .i64 (x3-1)):Int).toNat)).bind fun r6=>bif (!r6) then (some (.inl false)) else (spec_l2Word.l0 k x0 (IntKind.wrap .i64 (x3+1)))) else none) else none)) else none) else none) else (spec_l2Word.l0 k x0 (IntKind.wrap .i64 (x3+1)))) else none) else none) else (some (.inr ()))
def spec_l2Word.F (k:Nat) (a0:ByteArray):Option (Bool):=(spec_l1In.F (a0.size:Int) 1 12).bind fun r1=>bif (!r1) then (some false) else (bif decide (0<=0) then (bif decide (0<(a0.size:Int)) then ((spec_l2Letter.F (bt a0 (0:Int).toNat)).bind fun r2=>bif (!r2) then (some false) else (bif decide (0<=(IntKind.wrap .i64 ((a0.size:Int)-1))) then (bif decide ((IntKind.wrap .i64 ((a0.size:Int)-1))<(a0.size:Int)) then ((spec_l2Letter.F (bt a0 ((IntKind.wrap .i64 ((a0.size:Int)-1)):Int).toNat)).bind fun r3=>bif (!r3) then (some false) else ((spec_l2Word.l0 k a0 1).bind fun y7=>match y7 with | .inl z8=>some z8 | .inr z8=>some true)) else none) else none)) else none) else none)
def spec_l2Word.C (k:Nat):Cal->Option CArm:=fun c=>match c with
 | .f 62=>some (.p [(.int .i64),(.int .i64),(.int .i64)] _ (fun x=>spec_l1In.F x.1 x.2.1 x.2.2.1) (fun r=>(.t .bool r)))
 | .f 113=>some (.p [(.int .u8)] _ (fun x=>spec_l2Letter.F x.1) (fun r=>(.t .bool r)))
 | _=>none
def spec_l2Word.sp0:List Sp:=[.t 0 .str,.t 3 (.int .i64)]
def spec_l2Word.sp0_0:List Sp:=[.t 2 .bool]
def spec_l2Word.sp0_1:List Sp:=[]
def spec_l2Word.A0:LArm:=.two spec_l2Word.sp0 spec_l2Word.sp0_0 spec_l2Word.sp0_1 (Bool) (Unit) (fun k x=>spec_l2Word.l0 k x.1 x.2.1) .ret (.exit 0) (fun y=>(y,())) (fun x=>x.1) (fun y=>()) (fun x=>())
def spec_l2Word.L:Nat->Option LArm:=fun b=>match b with
 | 0=>some spec_l2Word.A0
 | _=>none
theorem spec_l2Word.run (k:Nat) (a0:ByteArray):runF envX (tabC (spec_l2Word.C k)) (tabL 54 k spec_l2Word.L) Tryz.f103 [.t .str a0] (viewR1 (.t .bool))=spec_l2Word.F k a0:=by kernel_rfl
theorem spec_l2Word.step0 (k:Nat) (x0:ByteArray) (x3:Int):runC envX (tabC (spec_l2Word.C k)) (tabL 54 k spec_l2Word.L) 0 (loopAt Tryz.f103 0) (stOf 54 spec_l2Word.sp0 (x0,x3,())) (spec_l2Word.A0.cont 54 k)=spec_l2Word.l0 (k+1) x0 x3:=by kernel_rfl
theorem spec_l2Word.G (hE:EnvOk Tryz.prog envX) (pv:Nat->Value) (k:Nat):∀ cal A,spec_l2Word.C k cal=some A->ArmOk Tryz.prog envX pv cal A:=by
 intro cal A h
 unfold spec_l2Word.C at h
 split at h
 ·cases h; exact fun x y hy=>spec_l1In.good hE pv x.1 x.2.1 x.2.2.1 hy
 ·cases h; exact fun x y hy=>spec_l2Letter.good hE pv x.1 hy
 ·cases h
theorem spec_l2Word.good (hE:EnvOk Tryz.prog envX) (pv:Nat->Value) (k:Nat) (a0:ByteArray) {y:_} (h:spec_l2Word.F k a0=some y):Meets Tryz.prog envX pv (.f 103) (tvals [.str] (a0,())) (.t .bool y) :=
 fun_loops hE (t:=spec_l2Word.C) k (fun k _=>spec_l2Word.G hE pv k) (f:=103) (fn:=Tryz.f103) (by kernel_rfl) rfl (by kernel_rfl) (by kernel_rfl) (lt:=spec_l2Word.L) (by kernel_rfl) (fun b A h=>by
  unfold spec_l2Word.L at h; split at h
  ·cases h; exact ⟨by kernel_rfl,by kernel_rfl,by kernel_rfl,fun _=>rfl,fun _=>rfl,fun _=>rfl⟩
  ·cases h) (fun b A h=>by
  unfold spec_l2Word.L at h; split at h
  ·cases h; exact fun k x=>spec_l2Word.step0 k x.1 x.2.1
  ·cases h) ((spec_l2Word.run k a0).trans h) (fun r hr=>wk_view1 hr)
def spec_l1Split.l0:Nat->ByteArray->Int->(List ByteArray)->Int->Int->Option (ByteArray × (List ByteArray) × Int)
 | 0,_,_,_,_,_=>none
 | k+1,x0,x1,x5,x6,x7=>bif (decide (x7<(x0.size:Int))) then (bif decide (0<=x7) then (bif decide (x7<(x0.size:Int)) then (bif ((bt x0 (x7:Int).toNat)==x1) then (bif decide (0<=x7) then (bif decide (x7<=(x0.size:Int)) then (bif decide (0<=x6) then (bif decide (x6<=x7) then (bif room (x5.length+([(x0.extract (x6:Int).toNat (x7:Int).toNat)]:List ByteArray).length) .str then (spec_l1Split.l0 k x0 x1 (x5++([(x0.extract (x6:Int).toNat (x7:Int).toNat)]:List ByteArray)) (IntKind.wrap .i64 (x7+1)) (IntKind.wrap .i64 (x7+1))) else none) else none) else none) else none) else none) else (spec_l1Split.l0 k x0 x1 x5 x6 (IntKind.wrap .i64 (x7+1)))) else none) else none) else (some (x0,x5,x6))
def spec_l1Split.F (k:Nat) (a0:ByteArray) (a1:Int):Option (List ByteArray):=(spec_l1Split.l0 k a0 a1 ([]:List ByteArray) 0 0).bind fun y1=>bif decide (0<=y1.2.2) then (bif decide (y1.2.2<=(y1.1.size:Int)) then (bif room (y1.2.1.length+([(y1.1.extract (y1.2.2:Int).toNat y1.1.size)]:List ByteArray).length) .str then (some (y1.2.1++([(y1.1.extract (y1.2.2:Int).toNat y1.1.size)]:List ByteArray))) else none) else none) else none
def spec_l1Split.C (k:Nat):Cal->Option CArm:=fun c=>match c with
 | _=>none
def spec_l1Split.sp0:List Sp:=[.t 0 .str,.t 1 (.int .u8),.own 5 1024 9 .str false true,.t 6 (.int .i64),.t 7 (.int .i64)]
def spec_l1Split.sp0_0:List Sp:=[.t 0 .str,.own 5 1024 9 .str false true,.t 6 (.int .i64)]
def spec_l1Split.A0:LArm:=.one spec_l1Split.sp0 spec_l1Split.sp0_0 (ByteArray × (List ByteArray) × Int) (fun k x=>spec_l1Split.l0 k x.1 x.2.1 x.2.2.1 x.2.2.2.1 x.2.2.2.2.1) (.exit 0) (fun y=>(y.1,y.2.1,y.2.2,())) (fun x=>(x.1,x.2.1,x.2.2.1))
def spec_l1Split.L:Nat->Option LArm:=fun b=>match b with
 | 0=>some spec_l1Split.A0
 | _=>none
theorem spec_l1Split.run (k:Nat) (a0:ByteArray) (a1:Int):runF envX (tabC (spec_l1Split.C k)) (tabL 35 k spec_l1Split.L) Tryz.f114 [.t .str a0,.t (.int .u8) a1] (viewR1 (.fr 9 .str))=spec_l1Split.F k a0 a1:=by kernel_rfl
theorem spec_l1Split.step0 (k:Nat) (x0:ByteArray) (x1:Int) (x5:List ByteArray) (x6:Int) (x7:Int):runC envX (tabC (spec_l1Split.C k)) (tabL 35 k spec_l1Split.L) 0 (loopAt Tryz.f114 0) (stOf 35 spec_l1Split.sp0 (x0,x1,x5,x6,x7,())) (spec_l1Split.A0.cont 35 k)=spec_l1Split.l0 (k+1) x0 x1 x5 x6 x7:=by kernel_rfl
theorem spec_l1Split.G (hE:EnvOk Tryz.prog envX) (pv:Nat->Value) (k:Nat):∀ cal A,spec_l1Split.C k cal=some A->ArmOk Tryz.prog envX pv cal A:=by
 intro cal A h
 unfold spec_l1Split.C at h
 cases h
theorem spec_l1Split.good (hE:EnvOk Tryz.prog envX) (pv:Nat->Value) (k:Nat) (a0:ByteArray) (a1:Int) {y:_} (h:spec_l1Split.F k a0 a1=some y):Meets Tryz.prog envX pv (.f 114) (tvals [.str,(.int .u8)] (a0,a1,())) (.fr 9 .str y) :=
 fun_loops hE (t:=spec_l1Split.C) k (fun k _=>spec_l1Split.G hE pv k) (f:=114) (fn:=Tryz.f114) (by kernel_rfl) rfl (by kernel_rfl) (by kernel_rfl) (lt:=spec_l1Split.L) (by kernel_rfl) (fun b A h=>by
  unfold spec_l1Split.L at h; split at h
  ·cases h; exact ⟨by kernel_rfl,by kernel_rfl,fun _=>rfl,fun _=>rfl⟩
  ·cases h) (fun b A h=>by
  unfold spec_l1Split.L at h; split at h
  ·cases h; exact fun k x=>spec_l1Split.step0 k x.1 x.2.1 x.2.2.1 x.2.2.2.1 x.2.2.2.2.1
  ·cases h) ((spec_l1Split.run k a0 a1).trans h) (fun r hr=>wk_view1 hr)
def spec_l2Particle.l2:Nat->(List ByteArray)->Int->Int->Option (Sum Bool ((List ByteArray) × Int))
 | 0,_,_,_=>none
 | k+1,x3,x4,x5=>bif decide (0<=x4) then (bif decide (x4<(x3.length:Int)) then (bif (decide (x5<((x3.getD ((x4:Int).toNat) (⟨#[]⟩:ByteArray)).size:Int))) then (bif decide (0<=x4) then (bif decide (x4<(x3.length:Int)) then (bif decide (0<=x5) then (bif decide (x5<((x3.getD ((x4:Int).toNat) (⟨#[]⟩:ByteArray)).size:Int)) then ((spec_l2Lower.F (bt (x3.getD ((x4:Int).toNat) (⟨#[]⟩:ByteArray)) (x5:Int).toNat)).bind fun r3=>bif (!r3) then (some (.inl false)) else (spec_l2Particle.l2 k x3 x4 (IntKind.wrap .i64 (x5+1)))) else none) else none) else none) else none) else (some (.inr (x3,x4)))) else none) else none
def spec_l2Particle.l0:Nat->(List ByteArray)->Int->Option (Sum Bool (List ByteArray))
 | 0,_,_=>none
 | k+1,x3,x4=>bif (decide (x4<(x3.length:Int))) then (bif decide (0<=x4) then (bif decide (x4<(x3.length:Int)) then ((spec_l2Word.F k (x3.getD ((x4:Int).toNat) (⟨#[]⟩:ByteArray))).bind fun r2=>bif (!r2) then (some (.inl false)) else ((spec_l2Particle.l2 k x3 x4 0).bind fun y4=>match y4 with | .inl z5=>some (.inl z5) | .inr z5=>spec_l2Particle.l0 k z5.1 (IntKind.wrap .i64 (z5.2+1)))) else none) else none) else (some (.inr x3))
def spec_l2Particle.F (k:Nat) (a0:ByteArray):Option (Bool):=bif (beqS a0 (⟨#[]⟩:ByteArray)) then (some true) else ((spec_l1Split.F k a0 32).bind fun r1=>(spec_l2Particle.l0 k r1 0).bind fun y6=>match y6 with | .inl z7=>some z7 | .inr z7=>some (decide ((z7.length:Int)<=2)))
def spec_l2Particle.C (k:Nat):Cal->Option CArm:=fun c=>match c with
 | .f 114=>some (.p [.str,(.int .u8)] _ (fun x=>spec_l1Split.F k x.1 x.2.1) (fun r=>(.fr 9 .str r)))
 | .f 103=>some (.p [.str] _ (fun x=>spec_l2Word.F k x.1) (fun r=>(.t .bool r)))
 | .f 90=>some (.p [(.int .u8)] _ (fun x=>spec_l2Lower.F x.1) (fun r=>(.t .bool r)))
 | _=>none
def spec_l2Particle.sp2:List Sp:=[.own 3 3076 9 .str false true,.t 4 (.int .i64),.t 5 (.int .i64)]
def spec_l2Particle.sp2_0:List Sp:=[.t 2 .bool]
def spec_l2Particle.sp2_1:List Sp:=[.own 3 3076 9 .str false true,.t 4 (.int .i64)]
def spec_l2Particle.A2:LArm:=.two spec_l2Particle.sp2 spec_l2Particle.sp2_0 spec_l2Particle.sp2_1 (Bool) ((List ByteArray) × Int) (fun k x=>spec_l2Particle.l2 k x.1 x.2.1 x.2.2.1) .ret (.exit 2) (fun y=>(y,())) (fun x=>x.1) (fun y=>(y.1,y.2,())) (fun x=>(x.1,x.2.1))
def spec_l2Particle.sp0:List Sp:=[.own 3 3076 9 .str false true,.t 4 (.int .i64)]
def spec_l2Particle.sp0_0:List Sp:=[.t 2 .bool]
def spec_l2Particle.sp0_1:List Sp:=[.own 3 3076 9 .str false true]
def spec_l2Particle.A0:LArm:=.two spec_l2Particle.sp0 spec_l2Particle.sp0_0 spec_l2Particle.sp0_1 (Bool) ((List ByteArray)) (fun k x=>spec_l2Particle.l0 k x.1 x.2.1) .ret (.exit 0) (fun y=>(y,())) (fun x=>x.1) (fun y=>(y,())) (fun x=>x.1)
def spec_l2Particle.L:Nat->Option LArm:=fun b=>match b with
 | 2=>some spec_l2Particle.A2
 | 0=>some spec_l2Particle.A0
 | _=>none
theorem spec_l2Particle.run (k:Nat) (a0:ByteArray):runF envX (tabC (spec_l2Particle.C k)) (tabL 42 k spec_l2Particle.L) Tryz.f105 [.t .str a0] (viewR1 (.t .bool))=spec_l2Particle.F k a0:=by kernel_rfl
theorem spec_l2Particle.step2 (k:Nat) (x3:List ByteArray) (x4:Int) (x5:Int):runC envX (tabC (spec_l2Particle.C k)) (tabL 42 k spec_l2Particle.L) 2 (loopAt Tryz.f105 2) (stOf 42 spec_l2Particle.sp2 (x3,x4,x5,())) (spec_l2Particle.A2.cont 42 k)=spec_l2Particle.l2 (k+1) x3 x4 x5:=by kernel_rfl
theorem spec_l2Particle.step0 (k:Nat) (x3:List ByteArray) (x4:Int):runC envX (tabC (spec_l2Particle.C k)) (tabL 42 k spec_l2Particle.L) 0 (loopAt Tryz.f105 0) (stOf 42 spec_l2Particle.sp0 (x3,x4,())) (spec_l2Particle.A0.cont 42 k)=spec_l2Particle.l0 (k+1) x3 x4:=by kernel_rfl
theorem spec_l2Particle.G (hE:EnvOk Tryz.prog envX) (pv:Nat->Value) (k:Nat):∀ cal A,spec_l2Particle.C k cal=some A->ArmOk Tryz.prog envX pv cal A:=by
 intro cal A h
 unfold spec_l2Particle.C at h
 split at h
 ·cases h; exact fun x y hy=>spec_l1Split.good hE pv k x.1 x.2.1 hy
 ·cases h; exact fun x y hy=>spec_l2Word.good hE pv k x.1 hy
 ·cases h; exact fun x y hy=>spec_l2Lower.good hE pv x.1 hy
 ·cases h
theorem spec_l2Particle.good (hE:EnvOk Tryz.prog envX) (pv:Nat->Value) (k:Nat) (a0:ByteArray) {y:_} (h:spec_l2Particle.F k a0=some y):Meets Tryz.prog envX pv (.f 105) (tvals [.str] (a0,())) (.t .bool y) :=
 fun_loops hE (t:=spec_l2Particle.C) k (fun k _=>spec_l2Particle.G hE pv k) (f:=105) (fn:=Tryz.f105) (by kernel_rfl) rfl (by kernel_rfl) (by kernel_rfl) (lt:=spec_l2Particle.L) (by kernel_rfl) (fun b A h=>by
  unfold spec_l2Particle.L at h; split at h
  ·cases h; exact ⟨by kernel_rfl,by kernel_rfl,by kernel_rfl,fun _=>rfl,fun _=>rfl,fun _=>rfl⟩
  ·cases h; exact ⟨by kernel_rfl,by kernel_rfl,by kernel_rfl,fun _=>rfl,fun _=>rfl,fun _=>rfl⟩
  ·cases h) (fun b A h=>by
  unfold spec_l2Particle.L at h; split at h
  ·cases h; exact fun k x=>spec_l2Particle.step2 k x.1 x.2.1 x.2.2.1
  ·cases h; exact fun k x=>spec_l2Particle.step0 k x.1 x.2.1
  ·cases h) ((spec_l2Particle.run k a0).trans h) (fun r hr=>wk_view1 hr)
def spec_l2Good.l0:Nat->Name->Int->Option (Sum Bool Name)
 | 0,_,_=>none
 | k+1,x1,x3=>bif (decide (x3<(x1.given.length:Int))) then (bif decide (0<=x3) then (bif decide (x3<(x1.given.length:Int)) then ((spec_l2Word.F k (x1.given.getD (x3:Int).toNat (⟨#[]⟩:ByteArray))).bind fun r1=>bif (!r1) then (some (.inl false)) else (bif decide (0<=x3) then (bif decide (x3<(x1.given.length:Int)) then (bif decide (0<=0) then (bif decide (0<((x1.given.getD (x3:Int).toNat (⟨#[]⟩:ByteArray)).size:Int)) then ((spec_l2Upper.F (bt (x1.given.getD (x3:Int).toNat (⟨#[]⟩:ByteArray)) (0:Int).toNat)).bind fun r2=>bif (!r2) then (some (.inl false)) else (spec_l2Good.l0 k x1 (IntKind.wrap .i64 (x3+1)))) else none) else none) else none) else none)) else none) else none) else (some (.inr x1))
def spec_l2Good.F (k:Nat) (a0:Name):Option (Bool):=(spec_l2Good.l0 k a0 0).bind fun y3=>match y3 with | .inl z4=>some z4 | .inr z4=>bif (decide ((z4.given.length:Int)<=3)) then ((spec_l2Particle.F k z4.particle).bind fun r5=>bif r5 then ((spec_l2Word.F k z4.family).bind fun r6=>bif r6 then (bif decide (0<=0) then (bif decide (0<(z4.family.size:Int)) then ((spec_l2Upper.F (bt z4.family (0:Int).toNat)).bind fun r7=>bif r7 then (bif (beqS z4.suffix (⟨#[]⟩:ByteArray)) then (some true) else ((spec_l2Word.F k z4.suffix).bind fun r8=>some r8)) else (some false)) else none) else none) else (some false)) else (some false)) else (some false)
def spec_l2Good.C (k:Nat):Cal->Option CArm:=fun c=>match c with
 | .f 103=>some (.p [.str] _ (fun x=>spec_l2Word.F k x.1) (fun r=>(.t .bool r)))
 | .f 104=>some (.p [(.int .u8)] _ (fun x=>spec_l2Upper.F x.1) (fun r=>(.t .bool r)))
 | .f 105=>some (.p [.str] _ (fun x=>spec_l2Particle.F k x.1) (fun r=>(.t .bool r)))
 | _=>none
def spec_l2Good.sp0:List Sp:=[.boxT 1 0 .name,.t 3 (.int .i64)]
def spec_l2Good.sp0_0:List Sp:=[.t 2 .bool]
def spec_l2Good.sp0_1:List Sp:=[.boxT 1 0 .name]
def spec_l2Good.A0:LArm:=.two spec_l2Good.sp0 spec_l2Good.sp0_0 spec_l2Good.sp0_1 (Bool) (Name) (fun k x=>spec_l2Good.l0 k x.1 x.2.1) .ret (.exit 0) (fun y=>(y,())) (fun x=>x.1) (fun y=>(y,())) (fun x=>x.1)
def spec_l2Good.L:Nat->Option LArm:=fun b=>match b with
 | 0=>some spec_l2Good.A0
 | _=>none
theorem spec_l2Good.run (k:Nat) (a0:Name):runF envX (tabC (spec_l2Good.C k)) (tabL 58 k spec_l2Good.L) Tryz.f91 [.t .name a0] (viewR1 (.t .bool))=spec_l2Good.F k a0:=by kernel_rfl
theorem spec_l2Good.step0 (k:Nat) (x1:Name) (x3:Int):runC envX (tabC (spec_l2Good.C k)) (tabL 58 k spec_l2Good.L) 0 (loopAt Tryz.f91 0) (stOf 58 spec_l2Good.sp0 (x1,x3,())) (spec_l2Good.A0.cont 58 k)=spec_l2Good.l0 (k+1) x1 x3:=by kernel_rfl
theorem spec_l2Good.G (hE:EnvOk Tryz.prog envX) (pv:Nat->Value) (k:Nat):∀ cal A,spec_l2Good.C k cal=some A->ArmOk Tryz.prog envX pv cal A:=by
 intro cal A h
 unfold spec_l2Good.C at h
 split at h
 ·cases h; exact fun x y hy=>spec_l2Word.good hE pv k x.1 hy
 ·cases h; exact fun x y hy=>spec_l2Upper.good hE pv x.1 hy
 ·cases h; exact fun x y hy=>spec_l2Particle.good hE pv k x.1 hy
 ·cases h
theorem spec_l2Good.good (hE:EnvOk Tryz.prog envX) (pv:Nat->Value) (k:Nat) (a0:Name) {y:_} (h:spec_l2Good.F k a0=some y):Meets Tryz.prog envX pv (.f 91) (tvals [.name] (a0,())) (.t .bool y) :=
 fun_loops hE (t:=spec_l2Good.C) k (fun k _=>spec_l2Good.G hE pv k) (f:=91) (fn:=Tryz.f91) (by kernel_rfl) rfl (by kernel_rfl) (by kernel_rfl) (lt:=spec_l2Good.L) (by kernel_rfl) (fun b A h=>by
  unfold spec_l2Good.L at h; split at h
  ·cases h; exact ⟨by kernel_rfl,by kernel_rfl,by kernel_rfl,fun _=>rfl,fun _=>rfl,fun _=>rfl⟩
  ·cases h) (fun b A h=>by
  unfold spec_l2Good.L at h; split at h
  ·cases h; exact fun k x=>spec_l2Good.step0 k x.1 x.2.1
  ·cases h) ((spec_l2Good.run k a0).trans h) (fun r hr=>wk_view1 hr)
def spec_l2List.l0:Nat->(List Name)->Int->Option (Sum Bool (List Name))
 | 0,_,_=>none
 | k+1,x0,x3=>bif (decide (x3<(x0.length:Int))) then (bif (decide (x3<=4)) then (bif decide (0<=x3) then (bif decide (x3<(x0.length:Int)) then ((spec_l2Good.F k (x0.getD (x3:Int).toNat (dflt .name))).bind fun r1=>bif (!r1) then (some (.inl false)) else (spec_l2List.l0 k x0 (IntKind.wrap .i64 (x3+1)))) else none) else none) else (some (.inr x0))) else (some (.inr x0))
def spec_l2List.F (k:Nat) (a0:List Name):Option (Bool):=(spec_l2List.l0 k a0 0).bind fun y2=>match y2 with | .inl z3=>some z3 | .inr z3=>some (decide ((z3.length:Int)<=4))
def spec_l2List.C (k:Nat):Cal->Option CArm:=fun c=>match c with
 | .f 91=>some (.p [.name] _ (fun x=>spec_l2Good.F k x.1) (fun r=>(.t .bool r)))
 | _=>none
def spec_l2List.sp0:List Sp:=[.t 0 (.sl .name),.t 3 (.int .i64)]
def spec_l2List.sp0_0:List Sp:=[.t 2 .bool]
def spec_l2List.sp0_1:List Sp:=[.t 0 (.sl .name)]
def spec_l2List.A0:LArm:=.two spec_l2List.sp0 spec_l2List.sp0_0 spec_l2List.sp0_1 (Bool) ((List Name)) (fun k x=>spec_l2List.l0 k x.1 x.2.1) .ret (.exit 0) (fun y=>(y,())) (fun x=>x.1) (fun y=>(y,())) (fun x=>x.1)
def spec_l2List.L:Nat->Option LArm:=fun b=>match b with
 | 0=>some spec_l2List.A0
 | _=>none
theorem spec_l2List.run (k:Nat) (a0:List Name):runF envX (tabC (spec_l2List.C k)) (tabL 23 k spec_l2List.L) Tryz.f63 [.t (.sl .name) a0] (viewR1 (.t .bool))=spec_l2List.F k a0:=by kernel_rfl
theorem spec_l2List.step0 (k:Nat) (x0:List Name) (x3:Int):runC envX (tabC (spec_l2List.C k)) (tabL 23 k spec_l2List.L) 0 (loopAt Tryz.f63 0) (stOf 23 spec_l2List.sp0 (x0,x3,())) (spec_l2List.A0.cont 23 k)=spec_l2List.l0 (k+1) x0 x3:=by kernel_rfl
theorem spec_l2List.G (hE:EnvOk Tryz.prog envX) (pv:Nat->Value) (k:Nat):∀ cal A,spec_l2List.C k cal=some A->ArmOk Tryz.prog envX pv cal A:=by
 intro cal A h
 unfold spec_l2List.C at h
 split at h
 ·cases h; exact fun x y hy=>spec_l2Good.good hE pv k x.1 hy
 ·cases h
theorem spec_l2List.good (hE:EnvOk Tryz.prog envX) (pv:Nat->Value) (k:Nat) (a0:List Name) {y:_} (h:spec_l2List.F k a0=some y):Meets Tryz.prog envX pv (.f 63) (tvals [(.sl .name)] (a0,())) (.t .bool y) :=
 fun_loops hE (t:=spec_l2List.C) k (fun k _=>spec_l2List.G hE pv k) (f:=63) (fn:=Tryz.f63) (by kernel_rfl) rfl (by kernel_rfl) (by kernel_rfl) (lt:=spec_l2List.L) (by kernel_rfl) (fun b A h=>by
  unfold spec_l2List.L at h; split at h
  ·cases h; exact ⟨by kernel_rfl,by kernel_rfl,by kernel_rfl,fun _=>rfl,fun _=>rfl,fun _=>rfl⟩
  ·cases h) (fun b A h=>by
  unfold spec_l2List.L at h; split at h
  ·cases h; exact fun k x=>spec_l2List.step0 k x.1 x.2.1
  ·cases h) ((spec_l2List.run k a0).trans h) (fun r hr=>wk_view1 hr)
def spec_l4Text.l0:Nat->ByteArray->Int->Option (Sum Bool ByteArray)
 | 0,_,_=>none
 | k+1,x0,x3=>bif (decide (x3<(x0.size:Int))) then (bif decide (0<=x3) then (bif decide (x3<(x0.size:Int)) then (bif (decide ((bt x0 (x3:Int).toNat)<32)) then (some (.inl false)) else (bif decide (0<=x3) then (bif decide (x3<(x0.size:Int)) then (bif (decide ((bt x0 (x3:Int).toNat) > 126)) then (some (.inl false)) else (spec_l4Text.l0 k x0 (IntKind.wrap .i64 (x3+1)))) else none) else none)) else none) else none) else (some (.inr x0))
def spec_l4Text.F (k:Nat) (a0:ByteArray):Option (Bool):=bif (decide ((a0.size:Int) > 40)) then (some false) else ((spec_l4Text.l0 k a0 0).bind fun y1=>match y1 with | .inl z2=>some z2 | .inr z2=>bif (beqS z2 (⟨#[]⟩:ByteArray)) then (some true) else (bif decide (0<=0) then (bif decide (0<(z2.size:Int)) then (bif ((bt z2 (0:Int).toNat) != 32) then (bif decide (0<=(IntKind.wrap .i64 ((z2.size:Int)-1))) then (bif decide ((IntKind.wrap .i64 ((z2.size:Int)-1))<(z2.size:Int)) then (some ((bt z2 ((IntKind.wrap .i64 ((z2.size:Int)-1)):Int).toNat) != 32)) else none) else none) else (some false)) else none) else none))
def spec_l4Text.C (k:Nat):Cal->Option CArm:=fun c=>match c with
 | _=>none
def spec_l4Text.sp0:List Sp:=[.t 0 .str,.t 3 (.int .i64)]
def spec_l4Text.sp0_0:List Sp:=[.t 2 .bool]
def spec_l4Text.sp0_1:List Sp:=[.t 0 .str]
def spec_l4Text.A0:LArm:=.two spec_l4Text.sp0 spec_l4Text.sp0_0 spec_l4Text.sp0_1 (Bool) (ByteArray) (fun k x=>spec_l4Text.l0 k x.1 x.2.1) .ret (.exit 0) (fun y=>(y,())) (fun x=>x.1) (fun y=>(y,())) (fun x=>x.1)
def spec_l4Text.L:Nat->Option LArm:=fun b=>match b with
 | 0=>some spec_l4Text.A0
 | _=>none
theorem spec_l4Text.run (k:Nat) (a0:ByteArray):runF envX (tabC (spec_l4Text.C k)) (tabL 38 k spec_l4Text.L) Tryz.f64 [.t .str a0] (viewR1 (.t .bool))=spec_l4Text.F k a0:=by kernel_rfl
theorem spec_l4Text.step0 (k:Nat) (x0:ByteArray) (x3:Int):runC envX (tabC (spec_l4Text.C k)) (tabL 38 k spec_l4Text.L) 0 (loopAt Tryz.f64 0) (stOf 38 spec_l4Text.sp0 (x0,x3,())) (spec_l4Text.A0.cont 38 k)=spec_l4Text.l0 (k+1) x0 x3:=by kernel_rfl
theorem spec_l4Text.G (hE:EnvOk Tryz.prog envX) (pv:Nat->Value) (k:Nat):∀ cal A,spec_l4Text.C k cal=some A->ArmOk Tryz.prog envX pv cal A:=by
 intro cal A h
 unfold spec_l4Text.C at h
 cases h
theorem spec_l4Text.good (hE:EnvOk Tryz.prog envX) (pv:Nat->Value) (k:Nat) (a0:ByteArray) {y:_} (h:spec_l4Text.F k a0=some y):Meets Tryz.prog envX pv (.f 64) (tvals [.str] (a0,())) (.t .bool y) :=
 fun_loops hE (t:=spec_l4Text.C) k (fun k _=>spec_l4Text.G hE pv k) (f:=64) (fn:=Tryz.f64) (by kernel_rfl) rfl (by kernel_rfl) (by kernel_rfl) (lt:=spec_l4Text.L) (by kernel_rfl) (fun b A h=>by
  unfold spec_l4Text.L at h; split at h
  ·cases h; exact ⟨by kernel_rfl,by kernel_rfl,by kernel_rfl,fun _=>rfl,fun _=>rfl,fun _=>rfl⟩
  ·cases h) (fun b A h=>by
  unfold spec_l4Text.L at h; split at h
  ·cases h; exact fun k x=>spec_l4Text.step0 k x.1 x.2.1
  ·cases h) ((spec_l4Text.run k a0).trans h) (fun r hr=>wk_view1 hr)
def spec_l3Days.F (a0:Int) (a1:Int):Option (Int):=bif (a1==2) then (bif (4==0) then (none) else (bif ((Int.tmod a0 4)==0) then (bif (100==0) then (none) else (bif ((Int.tmod a0 100) != 0) then (some 29) else (bif (400==0) then (none) else (bif ((Int.tmod a0 400)==0) then (some 29) else (some 28))))) else (bif (400==0) then (none) else (bif ((Int.tmod a0 400)==0) then (some 29) else (some 28))))) else (bif (a1==4) then (some 30) else (bif (a1==6) then (some 30) else (bif (a1==9) then (some 30) else (bif (a1==11) then (some 30) else (some 31)))))
def spec_l3Days.C:Cal->Option CArm:=fun c=>match c with
 | _=>none
theorem spec_l3Days.run (a0:Int) (a1:Int):runF envX (tabC spec_l3Days.C) (tabL 34 0 (fun _=>none)) Tryz.f92 [.t (.int .i64) a0,.t (.int .i64) a1] (viewR1 (.t (.int .i64)))=spec_l3Days.F a0 a1:=by kernel_rfl
theorem spec_l3Days.G (hE:EnvOk Tryz.prog envX) (pv:Nat->Value):∀ cal A,spec_l3Days.C cal=some A->ArmOk Tryz.prog envX pv cal A:=by
 intro cal A h
 unfold spec_l3Days.C at h
 cases h
theorem spec_l3Days.good (hE:EnvOk Tryz.prog envX) (pv:Nat->Value) (a0:Int) (a1:Int) {y:_} (h:spec_l3Days.F a0 a1=some y):Meets Tryz.prog envX pv (.f 92) (tvals [(.int .i64),(.int .i64)] (a0,a1,())) (.t (.int .i64) y) :=
 fun_plain hE (spec_l3Days.G hE pv) (f:=92) (fn:=Tryz.f92) (by kernel_rfl) rfl (by kernel_rfl) (by kernel_rfl) ((spec_l3Days.run a0 a1).trans h) (fun r hr=>wk_view1 hr)
def spec_l3Good.F (a0:Date):Option (Bool):=bif ((a0.y==0 && (a0.m==0 && (a0.d==0 && a0.c==false)))) then (some true) else ((spec_l1In.F a0.y 1 2999).bind fun r1=>bif (!r1) then (some false) else ((spec_l1In.F a0.m 0 12).bind fun r2=>bif (!r2) then (some false) else (bif a0.c then (bif (a0.m==0) then (some (a0.d==0)) else (some false)) else (bif (a0.m==0) then (some (a0.d==0)) else ((spec_l3Days.F a0.y a0.m).bind fun r3=>(spec_l1In.F a0.d 0 r3).bind fun r4=>some r4)))))
def spec_l3Good.C:Cal->Option CArm:=fun c=>match c with
 | .f 62=>some (.p [(.int .i64),(.int .i64),(.int .i64)] _ (fun x=>spec_l1In.F x.1 x.2.1 x.2.2.1) (fun r=>(.t .bool r)))
 | .f 92=>some (.p [(.int .i64),(.int .i64)] _ (fun x=>spec_l3Days.F x.1 x.2.1) (fun r=>(.t (.int .i64) r)))
 | _=>none
theorem spec_l3Good.run (a0:Date):runF envX (tabC spec_l3Good.C) (tabL 44 0 (fun _=>none)) Tryz.f65 [.t .date a0] (viewR1 (.t .bool))=spec_l3Good.F a0:=by kernel_rfl
theorem spec_l3Good.G (hE:EnvOk Tryz.prog envX) (pv:Nat->Value):∀ cal A,spec_l3Good.C cal=some A->ArmOk Tryz.prog envX pv cal A:=by
 intro cal A h
 unfold spec_l3Good.C at h
 split at h
 ·cases h; exact fun x y hy=>spec_l1In.good hE pv x.1 x.2.1 x.2.2.1 hy
 ·cases h; exact fun x y hy=>spec_l3Days.good hE pv x.1 x.2.1 hy
 ·cases h
theorem spec_l3Good.good (hE:EnvOk Tryz.prog envX) (pv:Nat->Value) (a0:Date) {y:_} (h:spec_l3Good.F a0=some y):Meets Tryz.prog envX pv (.f 65) (tvals [.date] (a0,())) (.t .bool y) :=
 fun_plain hE (spec_l3Good.G hE pv) (f:=65) (fn:=Tryz.f65) (by kernel_rfl) rfl (by kernel_rfl) (by kernel_rfl) ((spec_l3Good.run a0).trans h) (fun r hr=>wk_view1 hr)
def spec_l4Entry.F (k:Nat) (a0:Entry):Option (Bool):=(spec_l4Key.F k a0.key).bind fun r1=>bif (!r1) then (some false) else ((spec_l1In.F a0.kind 1 4).bind fun r2=>bif (!r2) then (some false) else ((spec_l2List.F k a0.authors).bind fun r3=>bif (!r3) then (some false) else ((spec_l2List.F k a0.editors).bind fun r4=>bif (!r4) then (some false) else ((spec_l4Text.F k a0.title).bind fun r5=>bif (!r5) then (some false) else ((spec_l4Text.F k a0.container).bind fun r6=>bif (!r6) then (some false) else ((spec_l4Text.F k a0.publisher).bind fun r7=>bif (!r7) then (some false) else ((spec_l4Text.F k a0.pages).bind fun r8=>bif (!r8) then (some false) else ((spec_l3Good.F a0.date).bind fun r9=>bif r9 then ((spec_l1In.F a0.volume 0 9999).bind fun r10=>bif r10 then (bif (beqS a0.cross (⟨#[]⟩:ByteArray)) then (some true) else ((spec_l4Key.F k a0.cross).bind fun r11=>bif r11 then (some (!beqS a0.cross a0.key)) else (some false))) else (some false)) else (some false)))))))))
def spec_l4Entry.C (k:Nat):Cal->Option CArm:=fun c=>match c with
 | .f 61=>some (.p [.str] _ (fun x=>spec_l4Key.F k x.1) (fun r=>(.t .bool r)))
 | .f 62=>some (.p [(.int .i64),(.int .i64),(.int .i64)] _ (fun x=>spec_l1In.F x.1 x.2.1 x.2.2.1) (fun r=>(.t .bool r)))
 | .f 63=>some (.p [(.sl .name)] _ (fun x=>spec_l2List.F k x.1) (fun r=>(.t .bool r)))
 | .f 64=>some (.p [.str] _ (fun x=>spec_l4Text.F k x.1) (fun r=>(.t .bool r)))
 | .f 65=>some (.p [.date] _ (fun x=>spec_l3Good.F x.1) (fun r=>(.t .bool r)))
 | _=>none
theorem spec_l4Entry.run (k:Nat) (a0:Entry):runF envX (tabC (spec_l4Entry.C k)) (tabL 72 0 (fun _=>none)) Tryz.f29 [.t .entry a0] (viewR1 (.t .bool))=spec_l4Entry.F k a0:=by kernel_rfl
theorem spec_l4Entry.G (hE:EnvOk Tryz.prog envX) (pv:Nat->Value) (k:Nat):∀ cal A,spec_l4Entry.C k cal=some A->ArmOk Tryz.prog envX pv cal A:=by
 intro cal A h
 unfold spec_l4Entry.C at h
 split at h
 ·cases h; exact fun x y hy=>spec_l4Key.good hE pv k x.1 hy
 ·cases h; exact fun x y hy=>spec_l1In.good hE pv x.1 x.2.1 x.2.2.1 hy
 ·cases h; exact fun x y hy=>spec_l2List.good hE pv k x.1 hy
 ·cases h; exact fun x y hy=>spec_l4Text.good hE pv k x.1 hy
 ·cases h; exact fun x y hy=>spec_l3Good.good hE pv x.1 hy
 ·cases h
theorem spec_l4Entry.good (hE:EnvOk Tryz.prog envX) (pv:Nat->Value) (k:Nat) (a0:Entry) {y:_} (h:spec_l4Entry.F k a0=some y):Meets Tryz.prog envX pv (.f 29) (tvals [.entry] (a0,())) (.t .bool y) :=
 fun_plain hE (spec_l4Entry.G hE pv k) (f:=29) (fn:=Tryz.f29) (by kernel_rfl) rfl (by kernel_rfl) (by kernel_rfl) ((spec_l4Entry.run k a0).trans h) (fun r hr=>wk_view1 hr)
def spec_l4Good.l0:Nat->Library->Int->Option (Sum Bool Unit)
 | 0,_,_=>none
 | k+1,x1,x3=>bif (decide (x3<(x1.entries.length:Int))) then (bif decide (0<=x3) then (bif decide (x3<(x1.entries.length:Int)) then ((spec_l4Entry.F k (x1.entries.getD (x3:Int).toNat (dflt .entry))).bind fun r1=>bif (!r1) then (some (.inl false)) else (bif (decide (x3 > 0)) then (bif decide (0<=(IntKind.wrap .i64 (x3-1))) then (bif decide ((IntKind.wrap .i64 (x3-1))<(x1.entries.length:Int)) then (bif decide (0<=x3) then (bif decide (x3<(x1.entries.length:Int)) then (bif (!ltS ((x1.entries.getD ((IntKind.wrap .i64 (x3-1)):Int).toNat (dflt .entry)).key) ((x1.entries.getD (x3:Int).toNat (dflt .entry)).key)) then (some (.inl false)) else (spec_l4Good.l0 k x1 (IntKind.wrap .i64 (x3+1)))) else none) else none) else none) else none) else (spec_l4Good.l0 k x1 (IntKind.wrap .i64 (x3+1))))) else none) else none) else (some (.inr ()))
def spec_l4Good.F (k:Nat) (a0:Library):Option (Bool):=bif (decide ((a0.entries.length:Int) > 8)) then (some false) else ((spec_l4Good.l0 k a0 0).bind fun y2=>match y2 with | .inl z3=>some z3 | .inr z3=>some true)
def spec_l4Good.C (k:Nat):Cal->Option CArm:=fun c=>match c with
 | .f 29=>some (.p [.entry] _ (fun x=>spec_l4Entry.F k x.1) (fun r=>(.t .bool r)))
 | _=>none
def spec_l4Good.sp0:List Sp:=[.boxT 1 0 .lib,.t 3 (.int .i64)]
def spec_l4Good.sp0_0:List Sp:=[.t 2 .bool]
def spec_l4Good.sp0_1:List Sp:=[]
def spec_l4Good.A0:LArm:=.two spec_l4Good.sp0 spec_l4Good.sp0_0 spec_l4Good.sp0_1 (Bool) (Unit) (fun k x=>spec_l4Good.l0 k x.1 x.2.1) .ret (.exit 0) (fun y=>(y,())) (fun x=>x.1) (fun y=>()) (fun x=>())
def spec_l4Good.L:Nat->Option LArm:=fun b=>match b with
 | 0=>some spec_l4Good.A0
 | _=>none
theorem spec_l4Good.run (k:Nat) (a0:Library):runF envX (tabC (spec_l4Good.C k)) (tabL 42 k spec_l4Good.L) Tryz.f40 [.t .lib a0] (viewR1 (.t .bool))=spec_l4Good.F k a0:=by kernel_rfl
theorem spec_l4Good.step0 (k:Nat) (x1:Library) (x3:Int):runC envX (tabC (spec_l4Good.C k)) (tabL 42 k spec_l4Good.L) 0 (loopAt Tryz.f40 0) (stOf 42 spec_l4Good.sp0 (x1,x3,())) (spec_l4Good.A0.cont 42 k)=spec_l4Good.l0 (k+1) x1 x3:=by kernel_rfl
theorem spec_l4Good.G (hE:EnvOk Tryz.prog envX) (pv:Nat->Value) (k:Nat):∀ cal A,spec_l4Good.C k cal=some A->ArmOk Tryz.prog envX pv cal A:=by
 intro cal A h
 unfold spec_l4Good.C at h
 split at h
 ·cases h; exact fun x y hy=>spec_l4Entry.good hE pv k x.1 hy
 ·cases h
theorem spec_l4Good.good (hE:EnvOk Tryz.prog envX) (pv:Nat->Value) (k:Nat) (a0:Library) {y:_} (h:spec_l4Good.F k a0=some y):Meets Tryz.prog envX pv (.f 40) (tvals [.lib] (a0,())) (.t .bool y) :=
 fun_loops hE (t:=spec_l4Good.C) k (fun k _=>spec_l4Good.G hE pv k) (f:=40) (fn:=Tryz.f40) (by kernel_rfl) rfl (by kernel_rfl) (by kernel_rfl) (lt:=spec_l4Good.L) (by kernel_rfl) (fun b A h=>by
  unfold spec_l4Good.L at h; split at h
  ·cases h; exact ⟨by kernel_rfl,by kernel_rfl,by kernel_rfl,fun _=>rfl,fun _=>rfl,fun _=>rfl⟩
  ·cases h) (fun b A h=>by
  unfold spec_l4Good.L at h; split at h
  ·cases h; exact fun k x=>spec_l4Good.step0 k x.1 x.2.1
  ·cases h) ((spec_l4Good.run k a0).trans h) (fun r hr=>wk_view1 hr)
def spec_l4Find.l0:Nat->ByteArray->Library->Int->Option (Sum Int Unit)
 | 0,_,_,_=>none
 | k+1,x1,x2,x5=>bif (decide (x5<(x2.entries.length:Int))) then (bif decide (0<=x5) then (bif decide (x5<(x2.entries.length:Int)) then (bif (beqS ((x2.entries.getD (x5:Int).toNat (dflt .entry)).key) x1) then (some (.inl x5)) else (spec_l4Find.l0 k x1 x2 (IntKind.wrap .i64 (x5+1)))) else none) else none) else (some (.inr ()))
def spec_l4Find.F (k:Nat) (a0:Library) (a1:ByteArray):Option (Int):=(spec_l4Find.l0 k a1 a0 0).bind fun y1=>match y1 with | .inl z2=>some z2 | .inr z2=>some (-1)
def spec_l4Find.C (k:Nat):Cal->Option CArm:=fun c=>match c with
 | _=>none
def spec_l4Find.sp0:List Sp:=[.t 1 .str,.boxT 2 0 .lib,.t 5 (.int .i64)]
def spec_l4Find.sp0_0:List Sp:=[.t 4 (.int .i64)]
def spec_l4Find.sp0_1:List Sp:=[]
def spec_l4Find.A0:LArm:=.two spec_l4Find.sp0 spec_l4Find.sp0_0 spec_l4Find.sp0_1 (Int) (Unit) (fun k x=>spec_l4Find.l0 k x.1 x.2.1 x.2.2.1) .ret (.exit 0) (fun y=>(y,())) (fun x=>x.1) (fun y=>()) (fun x=>())
def spec_l4Find.L:Nat->Option LArm:=fun b=>match b with
 | 0=>some spec_l4Find.A0
 | _=>none
theorem spec_l4Find.run (k:Nat) (a0:Library) (a1:ByteArray):runF envX (tabC (spec_l4Find.C k)) (tabL 22 k spec_l4Find.L) Tryz.f56 [.t .lib a0,.t .str a1] (viewR1 (.t (.int .i64)))=spec_l4Find.F k a0 a1:=by kernel_rfl
theorem spec_l4Find.step0 (k:Nat) (x1:ByteArray) (x2:Library) (x5:Int):runC envX (tabC (spec_l4Find.C k)) (tabL 22 k spec_l4Find.L) 0 (loopAt Tryz.f56 0) (stOf 22 spec_l4Find.sp0 (x1,x2,x5,())) (spec_l4Find.A0.cont 22 k)=spec_l4Find.l0 (k+1) x1 x2 x5:=by kernel_rfl
theorem spec_l4Find.G (hE:EnvOk Tryz.prog envX) (pv:Nat->Value) (k:Nat):∀ cal A,spec_l4Find.C k cal=some A->ArmOk Tryz.prog envX pv cal A:=by
 intro cal A h
 unfold spec_l4Find.C at h
 cases h
theorem spec_l4Find.good (hE:EnvOk Tryz.prog envX) (pv:Nat->Value) (k:Nat) (a0:Library) (a1:ByteArray) {y:_} (h:spec_l4Find.F k a0 a1=some y):Meets Tryz.prog envX pv (.f 56) (tvals [.lib,.str] (a0,a1,())) (.t (.int .i64) y) :=
 fun_loops hE (t:=spec_l4Find.C) k (fun k _=>spec_l4Find.G hE pv k) (f:=56) (fn:=Tryz.f56) (by kernel_rfl) rfl (by kernel_rfl) (by kernel_rfl) (lt:=spec_l4Find.L) (by kernel_rfl) (fun b A h=>by
  unfold spec_l4Find.L at h; split at h
  ·cases h; exact ⟨by kernel_rfl,by kernel_rfl,by kernel_rfl,fun _=>rfl,fun _=>rfl,fun _=>rfl⟩
  ·cases h) (fun b A h=>by
  unfold spec_l4Find.L at h; split at h
  ·cases h; exact fun k x=>spec_l4Find.step0 k x.1 x.2.1 x.2.2.1
  ·cases h) ((spec_l4Find.run k a0 a1).trans h) (fun r hr=>wk_view1 hr)
def spec_l21Parent.F (k:Nat) (a0:Library) (a1:Int):Option (Int):=bif decide (0<=a1) then (bif decide (a1<(a0.entries.length:Int)) then (bif (beqS ((a0.entries.getD (a1:Int).toNat (dflt .entry)).cross) (⟨#[]⟩:ByteArray)) then (some (-1)) else (bif decide (0<=a1) then (bif decide (a1<(a0.entries.length:Int)) then ((spec_l4Find.F k a0 ((a0.entries.getD (a1:Int).toNat (dflt .entry)).cross)).bind fun r1=>some r1) else none) else none)) else none) else none
def spec_l21Parent.C (k:Nat):Cal->Option CArm:=fun c=>match c with
 | .f 56=>some (.p [.lib,.str] _ (fun x=>spec_l4Find.F k x.1 x.2.1) (fun r=>(.t (.int .i64) r)))
 | _=>none
theorem spec_l21Parent.run (k:Nat) (a0:Library) (a1:Int):runF envX (tabC (spec_l21Parent.C k)) (tabL 20 0 (fun _=>none)) Tryz.f42 [.t .lib a0,.t (.int .i64) a1] (viewR1 (.t (.int .i64)))=spec_l21Parent.F k a0 a1:=by kernel_rfl
theorem spec_l21Parent.G (hE:EnvOk Tryz.prog envX) (pv:Nat->Value) (k:Nat):∀ cal A,spec_l21Parent.C k cal=some A->ArmOk Tryz.prog envX pv cal A:=by
 intro cal A h
 unfold spec_l21Parent.C at h
 split at h
 ·cases h; exact fun x y hy=>spec_l4Find.good hE pv k x.1 x.2.1 hy
 ·cases h
theorem spec_l21Parent.good (hE:EnvOk Tryz.prog envX) (pv:Nat->Value) (k:Nat) (a0:Library) (a1:Int) {y:_} (h:spec_l21Parent.F k a0 a1=some y):Meets Tryz.prog envX pv (.f 42) (tvals [.lib,(.int .i64)] (a0,a1,())) (.t (.int .i64) y) :=
 fun_plain hE (spec_l21Parent.G hE pv k) (f:=42) (fn:=Tryz.f42) (by kernel_rfl) rfl (by kernel_rfl) (by kernel_rfl) ((spec_l21Parent.run k a0 a1).trans h) (fun r hr=>wk_view1 hr)
def spec_l1Has.l0:Nat->(List Int)->Int->Int->Option (Sum Bool Unit)
 | 0,_,_,_=>none
 | k+1,x0,x1,x5=>bif (decide (x5<(x0.length:Int))) then (bif decide (0<=x5) then (bif decide (x5<(x0.length:Int)) then (bif ((x0.getD (x5:Int).toNat 0)==x1) then (some (.inl true)) else (spec_l1Has.l0 k x0 x1 (IntKind.wrap .i64 (x5+1)))) else none) else none) else (some (.inr ()))
def spec_l1Has.F (k:Nat) (a0:List Int) (a1:Int):Option (Bool):=(spec_l1Has.l0 k a0 a1 0).bind fun y1=>match y1 with | .inl z2=>some z2 | .inr z2=>some false
def spec_l1Has.C (k:Nat):Cal->Option CArm:=fun c=>match c with
 | _=>none
def spec_l1Has.sp0:List Sp:=[.t 0 (.sl (.int .i64)),.t 1 (.int .i64),.t 5 (.int .i64)]
def spec_l1Has.sp0_0:List Sp:=[.t 4 .bool]
def spec_l1Has.sp0_1:List Sp:=[]
def spec_l1Has.A0:LArm:=.two spec_l1Has.sp0 spec_l1Has.sp0_0 spec_l1Has.sp0_1 (Bool) (Unit) (fun k x=>spec_l1Has.l0 k x.1 x.2.1 x.2.2.1) .ret (.exit 0) (fun y=>(y,())) (fun x=>x.1) (fun y=>()) (fun x=>())
def spec_l1Has.L:Nat->Option LArm:=fun b=>match b with
 | 0=>some spec_l1Has.A0
 | _=>none
theorem spec_l1Has.run (k:Nat) (a0:List Int) (a1:Int):runF envX (tabC (spec_l1Has.C k)) (tabL 18 k spec_l1Has.L) Tryz.f82 [.t (.sl (.int .i64)) a0,.t (.int .i64) a1] (viewR1 (.t .bool))=spec_l1Has.F k a0 a1:=by kernel_rfl
theorem spec_l1Has.step0 (k:Nat) (x0:List Int) (x1:Int) (x5:Int):runC envX (tabC (spec_l1Has.C k)) (tabL 18 k spec_l1Has.L) 0 (loopAt Tryz.f82 0) (stOf 18 spec_l1Has.sp0 (x0,x1,x5,())) (spec_l1Has.A0.cont 18 k)=spec_l1Has.l0 (k+1) x0 x1 x5:=by kernel_rfl
theorem spec_l1Has.G (hE:EnvOk Tryz.prog envX) (pv:Nat->Value) (k:Nat):∀ cal A,spec_l1Has.C k cal=some A->ArmOk Tryz.prog envX pv cal A:=by
 intro cal A h
 unfold spec_l1Has.C at h
 cases h
theorem spec_l1Has.good (hE:EnvOk Tryz.prog envX) (pv:Nat->Value) (k:Nat) (a0:List Int) (a1:Int) {y:_} (h:spec_l1Has.F k a0 a1=some y):Meets Tryz.prog envX pv (.f 82) (tvals [(.sl (.int .i64)),(.int .i64)] (a0,a1,())) (.t .bool y) :=
 fun_loops hE (t:=spec_l1Has.C) k (fun k _=>spec_l1Has.G hE pv k) (f:=82) (fn:=Tryz.f82) (by kernel_rfl) rfl (by kernel_rfl) (by kernel_rfl) (lt:=spec_l1Has.L) (by kernel_rfl) (fun b A h=>by
  unfold spec_l1Has.L at h; split at h
  ·cases h; exact ⟨by kernel_rfl,by kernel_rfl,by kernel_rfl,fun _=>rfl,fun _=>rfl,fun _=>rfl⟩
  ·cases h) (fun b A h=>by
  unfold spec_l1Has.L at h; split at h
  ·cases h; exact fun k x=>spec_l1Has.step0 k x.1 x.2.1 x.2.2.1
  ·cases h) ((spec_l1Has.run k a0 a1).trans h) (fun r hr=>wk_view1 hr)
def spec_l21Chain.l0:Nat->Int->Library->(List Int)->Option (Sum ((List Int) × Bool) (List Int))
 | 0,_,_,_=>none
 | k+1,x1,x2,x6=>bif (decide (x1 ≥ 0)) then ((spec_l1Has.F k x6 x1).bind fun r1=>bif r1 then (some (.inl (x6,true))) else (bif room (x6.length+([x1]:List Int).length) (.int .i64) then ((spec_l21Parent.F k x2 x1).bind fun r2=>spec_l21Chain.l0 k r2 x2 (x6++([x1]:List Int))) else none)) else (some (.inr x6))
def spec_l21Chain.F (k:Nat) (a0:Library) (a1:Int):Option ((List Int) × Bool):=(spec_l21Chain.l0 k a1 a0 ([]:List Int)).bind fun y3=>match y3 with | .inl z4=>some (z4.1,z4.2) | .inr z4=>some (z4,false)
def spec_l21Chain.C (k:Nat):Cal->Option CArm:=fun c=>match c with
 | .f 82=>some (.p [(.sl (.int .i64)),(.int .i64)] _ (fun x=>spec_l1Has.F k x.1 x.2.1) (fun r=>(.t .bool r)))
 | .f 42=>some (.p [.lib,(.int .i64)] _ (fun x=>spec_l21Parent.F k x.1 x.2.1) (fun r=>(.t (.int .i64) r)))
 | _=>none
def spec_l21Chain.sp0:List Sp:=[.t 1 (.int .i64),.boxT 2 0 .lib,.own 6 1024 3 (.int .i64) false true]
def spec_l21Chain.sp0_0:List Sp:=[.own 4 1024 3 (.int .i64) false true,.t 5 .bool]
def spec_l21Chain.sp0_1:List Sp:=[.own 6 1024 3 (.int .i64) false true]
def spec_l21Chain.A0:LArm:=.two spec_l21Chain.sp0 spec_l21Chain.sp0_0 spec_l21Chain.sp0_1 ((List Int) × Bool) ((List Int)) (fun k x=>spec_l21Chain.l0 k x.1 x.2.1 x.2.2.1) .ret (.exit 0) (fun y=>(y.1,y.2,())) (fun x=>(x.1,x.2.1)) (fun y=>(y,())) (fun x=>x.1)
def spec_l21Chain.L:Nat->Option LArm:=fun b=>match b with
 | 0=>some spec_l21Chain.A0
 | _=>none
theorem spec_l21Chain.run (k:Nat) (a0:Library) (a1:Int):runF envX (tabC (spec_l21Chain.C k)) (tabL 22 k spec_l21Chain.L) Tryz.f41 [.t .lib a0,.t (.int .i64) a1] (viewR2 (.fr 3 (.int .i64)) (.t .bool))=spec_l21Chain.F k a0 a1:=by kernel_rfl
theorem spec_l21Chain.step0 (k:Nat) (x1:Int) (x2:Library) (x6:List Int):runC envX (tabC (spec_l21Chain.C k)) (tabL 22 k spec_l21Chain.L) 0 (loopAt Tryz.f41 0) (stOf 22 spec_l21Chain.sp0 (x1,x2,x6,())) (spec_l21Chain.A0.cont 22 k)=spec_l21Chain.l0 (k+1) x1 x2 x6:=by kernel_rfl
theorem spec_l21Chain.G (hE:EnvOk Tryz.prog envX) (pv:Nat->Value) (k:Nat):∀ cal A,spec_l21Chain.C k cal=some A->ArmOk Tryz.prog envX pv cal A:=by
 intro cal A h
 unfold spec_l21Chain.C at h
 split at h
 ·cases h; exact fun x y hy=>spec_l1Has.good hE pv k x.1 x.2.1 hy
 ·cases h; exact fun x y hy=>spec_l21Parent.good hE pv k x.1 x.2.1 hy
 ·cases h
theorem spec_l21Chain.good (hE:EnvOk Tryz.prog envX) (pv:Nat->Value) (k:Nat) (a0:Library) (a1:Int) {y:_} (h:spec_l21Chain.F k a0 a1=some y):Meets Tryz.prog envX pv (.f 41) (tvals [.lib,(.int .i64)] (a0,a1,())) (.tup [.fr 3 (.int .i64) y.1,.t .bool y.2]) :=
 fun_loops hE (t:=spec_l21Chain.C) k (fun k _=>spec_l21Chain.G hE pv k) (f:=41) (fn:=Tryz.f41) (by kernel_rfl) rfl (by kernel_rfl) (by kernel_rfl) (lt:=spec_l21Chain.L) (by kernel_rfl) (fun b A h=>by
  unfold spec_l21Chain.L at h; split at h
  ·cases h; exact ⟨by kernel_rfl,by kernel_rfl,by kernel_rfl,fun _=>rfl,fun _=>rfl,fun _=>rfl⟩
  ·cases h) (fun b A h=>by
  unfold spec_l21Chain.L at h; split at h
  ·cases h; exact fun k x=>spec_l21Chain.step0 k x.1 x.2.1 x.2.2.1
  ·cases h) ((spec_l21Chain.run k a0 a1).trans h) (fun r hr=>wk_view2 hr)
def spec_l2Own.l0:Nat->(List Name)->(List Name)->Int->Option ((List Name))
 | 0,_,_,_=>none
 | k+1,x0,x3,x4=>bif (decide (x4<(x0.length:Int))) then (bif decide (0<=x4) then (bif decide (x4<(x0.length:Int)) then (bif room (([]:List ByteArray).length+((x0.getD (x4:Int).toNat (dflt .name)).given).length) .str then (bif room (x3.length+([(⟨(([]:List ByteArray)++((x0.getD (x4:Int).toNat (dflt .name)).given)),(x0.getD (x4:Int).toNat (dflt .name)).particle,(x0.getD (x4:Int).toNat (dflt .name)).family,(x0.getD (x4:Int).toNat (dflt .name)).suffix⟩:Name)]:List Name).length) .name then (spec_l2Own.l0 k x0 (x3++([(⟨(([]:List ByteArray)++((x0.getD (x4:Int).toNat (dflt .name)).given)),(x0.getD (x4:Int).toNat (dflt .name)).particle,(x0.getD (x4:Int).toNat (dflt .name)).family,(x0.getD (x4:Int).toNat (dflt .name)).suffix⟩:Name)]:List Name)) (IntKind.wrap .i64 (x4+1))) else none) else none) else none) else none) else (some x3)
def spec_l2Own.F (k:Nat) (a0:List Name):Option (List Name):=(spec_l2Own.l0 k a0 ([]:List Name) 0).bind fun y1=>some y1
def spec_l2Own.C (k:Nat):Cal->Option CArm:=fun c=>match c with
 | _=>none
def spec_l2Own.sp0:List Sp:=[.t 0 (.sl .name),.own 3 1024 92 .name false true,.t 4 (.int .i64)]
def spec_l2Own.sp0_0:List Sp:=[.own 3 1024 92 .name false true]
def spec_l2Own.A0:LArm:=.one spec_l2Own.sp0 spec_l2Own.sp0_0 ((List Name)) (fun k x=>spec_l2Own.l0 k x.1 x.2.1 x.2.2.1) (.exit 0) (fun y=>(y,())) (fun x=>x.1)
def spec_l2Own.L:Nat->Option LArm:=fun b=>match b with
 | 0=>some spec_l2Own.A0
 | _=>none
theorem spec_l2Own.run (k:Nat) (a0:List Name):runF envX (tabC (spec_l2Own.C k)) (tabL 27 k spec_l2Own.L) Tryz.f67 [.t (.sl .name) a0] (viewR1 (.fr 92 .name))=spec_l2Own.F k a0:=by kernel_rfl
theorem spec_l2Own.step0 (k:Nat) (x0:List Name) (x3:List Name) (x4:Int):runC envX (tabC (spec_l2Own.C k)) (tabL 27 k spec_l2Own.L) 0 (loopAt Tryz.f67 0) (stOf 27 spec_l2Own.sp0 (x0,x3,x4,())) (spec_l2Own.A0.cont 27 k)=spec_l2Own.l0 (k+1) x0 x3 x4:=by kernel_rfl
theorem spec_l2Own.G (hE:EnvOk Tryz.prog envX) (pv:Nat->Value) (k:Nat):∀ cal A,spec_l2Own.C k cal=some A->ArmOk Tryz.prog envX pv cal A:=by
 intro cal A h
 unfold spec_l2Own.C at h
 cases h
theorem spec_l2Own.good (hE:EnvOk Tryz.prog envX) (pv:Nat->Value) (k:Nat) (a0:List Name) {y:_} (h:spec_l2Own.F k a0=some y):Meets Tryz.prog envX pv (.f 67) (tvals [(.sl .name)] (a0,())) (.fr 92 .name y) :=
 fun_loops hE (t:=spec_l2Own.C) k (fun k _=>spec_l2Own.G hE pv k) (f:=67) (fn:=Tryz.f67) (by kernel_rfl) rfl (by kernel_rfl) (by kernel_rfl) (lt:=spec_l2Own.L) (by kernel_rfl) (fun b A h=>by
  unfold spec_l2Own.L at h; split at h
  ·cases h; exact ⟨by kernel_rfl,by kernel_rfl,fun _=>rfl,fun _=>rfl⟩
  ·cases h) (fun b A h=>by
  unfold spec_l2Own.L at h; split at h
  ·cases h; exact fun k x=>spec_l2Own.step0 k x.1 x.2.1 x.2.2.1
  ·cases h) ((spec_l2Own.run k a0).trans h) (fun r hr=>wk_view1 hr)
def spec_l4Copy.F (k:Nat) (a0:Entry):Option (Entry):=(spec_l2Own.F k a0.authors).bind fun r1=>(spec_l2Own.F k a0.editors).bind fun r2=>some (⟨a0.key,a0.kind,r1,r2,a0.title,a0.container,a0.publisher,a0.date,a0.volume,a0.pages,a0.cross⟩:Entry)
def spec_l4Copy.C (k:Nat):Cal->Option CArm:=fun c=>match c with
 | .f 67=>some (.p [(.sl .name)] _ (fun x=>spec_l2Own.F k x.1) (fun r=>(.fr 92 .name r)))
 | _=>none
theorem spec_l4Copy.run (k:Nat) (a0:Entry):runF envX (tabC (spec_l4Copy.C k)) (tabL 12 0 (fun _=>none)) Tryz.f66 [.t .entry a0] (viewR1 (.t .entry))=spec_l4Copy.F k a0:=by kernel_rfl
theorem spec_l4Copy.G (hE:EnvOk Tryz.prog envX) (pv:Nat->Value) (k:Nat):∀ cal A,spec_l4Copy.C k cal=some A->ArmOk Tryz.prog envX pv cal A:=by
 intro cal A h
 unfold spec_l4Copy.C at h
 split at h
 ·cases h; exact fun x y hy=>spec_l2Own.good hE pv k x.1 hy
 ·cases h
theorem spec_l4Copy.good (hE:EnvOk Tryz.prog envX) (pv:Nat->Value) (k:Nat) (a0:Entry) {y:_} (h:spec_l4Copy.F k a0=some y):Meets Tryz.prog envX pv (.f 66) (tvals [.entry] (a0,())) (.t .entry y) :=
 fun_plain hE (spec_l4Copy.G hE pv k) (f:=66) (fn:=Tryz.f66) (by kernel_rfl) rfl (by kernel_rfl) (by kernel_rfl) ((spec_l4Copy.run k a0).trans h) (fun r hr=>wk_view1 hr)
def spec_l20First.F (a0:ByteArray) (a1:ByteArray):Option (ByteArray):=bif (beqS a0 (⟨#[]⟩:ByteArray)) then (some a1) else (some a0)
def spec_l20First.C:Cal->Option CArm:=fun c=>match c with
 | _=>none
theorem spec_l20First.run (a0:ByteArray) (a1:ByteArray):runF envX (tabC spec_l20First.C) (tabL 9 0 (fun _=>none)) Tryz.f68 [.t .str a0,.t .str a1] (viewR1 (.t .str))=spec_l20First.F a0 a1:=by kernel_rfl
theorem spec_l20First.G (hE:EnvOk Tryz.prog envX) (pv:Nat->Value):∀ cal A,spec_l20First.C cal=some A->ArmOk Tryz.prog envX pv cal A:=by
 intro cal A h
 unfold spec_l20First.C at h
 cases h
theorem spec_l20First.good (hE:EnvOk Tryz.prog envX) (pv:Nat->Value) (a0:ByteArray) (a1:ByteArray) {y:_} (h:spec_l20First.F a0 a1=some y):Meets Tryz.prog envX pv (.f 68) (tvals [.str,.str] (a0,a1,())) (.t .str y) :=
 fun_plain hE (spec_l20First.G hE pv) (f:=68) (fn:=Tryz.f68) (by kernel_rfl) rfl (by kernel_rfl) (by kernel_rfl) ((spec_l20First.run a0 a1).trans h) (fun r hr=>wk_view1 hr)
def spec_l21Inherit.F (k:Nat) (a0:Entry) (a1:Entry):Option (Entry):=(spec_l4Copy.F k a0).bind fun r1=>(spec_l20First.F a0.publisher a1.publisher).bind fun r2=>bif (a0.date.y==0) then (bif (a0.volume==0) then (bif (a0.kind==3) then ((spec_l20First.F a0.container a1.title).bind fun r3=>bif (a0.kind==3) then (bif ((a0.editors.length:Int)==0) then ((spec_l2Own.F k a1.editors).bind fun r4=>bif ((a1.editors.length:Int)==0) then ((spec_l2Own.F k a1.authors).bind fun r5=>some (⟨r1.key,r1.kind,r1.authors,r5,r1.title,r3,r2,a1.date,a1.volume,r1.pages,r1.cross⟩:Entry)) else (some (⟨r1.key,r1.kind,r1.authors,r4,r1.title,r3,r2,a1.date,a1.volume,r1.pages,r1.cross⟩:Entry))) else (some (⟨r1.key,r1.kind,r1.authors,r1.editors,r1.title,r3,r2,a1.date,a1.volume,r1.pages,r1.cross⟩:Entry))) else (some (⟨r1.key,r1.kind,r1.authors,r1.editors,r1.title,r3,r2,a1.date,a1.volume,r1.pages,r1.cross⟩:Entry))) else (bif (a0.kind==2) then ((spec_l20First.F a0.container a1.title).bind fun r6=>bif (a0.kind==3) then (bif ((a0.editors.length:Int)==0) then ((spec_l2Own.F k a1.editors).bind fun r7=>bif ((a1.editors.length:Int)==0) then ((spec_l2Own.F k a1.authors).bind fun r8=>some (⟨r1.key,r1.kind,r1.authors,r8,r1.title,r6,r2,a1.date,a1.volume,r1.pages,r1.cross⟩:Entry)) else (some (⟨r1.key,r1.kind,r1.authors,r7,r1.title,r6,r2,a1.date,a1.volume,r1.pages,r1.cross⟩:Entry))) else (some (⟨r1.key,r1.kind,r1.authors,r1.editors,r1.title,r6,r2,a1.date,a1.volume,r1.pages,r1.cross⟩:Entry))) else (some (⟨r1.key,r1.kind,r1.authors,r1.editors,r1.title,r6,r2,a1.date,a1.volume,r1.pages,r1.cross⟩:Entry))) else ((spec_l20First.F a0.container a1.container).bind fun r9=>bif (a0.kind==3) then (bif ((a0.editors.length:Int)==0) then ((spec_l2Own.F k a1.editors).bind fun r10=>bif ((a1.editors.length:Int)==0) then ((spec_l2Own.F k a1.authors).bind fun r11=>some (⟨r1.key,r1.kind,r1.authors,r11,r1.title,r9,r2,a1.date,a1.volume,r1.pages,r1.cross⟩:Entry)) else (some (⟨r1.key,r1.kind,r1.authors,r10,r1.title,r9,r2,a1.date,a1.volume,r1.pages,r1.cross⟩:Entry))) else (some (⟨r1.key,r1.kind,r1.authors,r1.editors,r1.title,r9,r2,a1.date,a1.volume,r1.pages,r1.cross⟩:Entry))) else (some (⟨r1.key,r1.kind,r1.authors,r1.editors,r1.title,r9,r2,a1.date,a1.volume,r1.pages,r1.cross⟩:Entry))))) else (bif (a0.kind==3) then ((spec_l20First.F a0.container a1.title).bind fun r12=>bif (a0.kind==3) then (bif ((a0.editors.length:Int)==0) then ((spec_l2Own.F k a1.editors).bind fun r13=>bif ((a1.editors.length:Int)==0) then ((spec_l2Own.F k a1.authors).bind fun r14=>some (⟨r1.key,r1.kind,r1.authors,r14,r1.title,r12,r2,a1.date,r1.volume,r1.pages,r1.cross⟩:Entry)) else (some (⟨r1.key,r1.kind,r1.authors,r13,r1.title,r12,r2,a1.date,r1.volume,r1.pages,r1.cross⟩:Entry))) else (some (⟨r1.key,r1.kind,r1.authors,r1.editors,r1.title,r12,r2,a1.date,r1.volume,r1.pages,r1.cross⟩:Entry))) else (some (⟨r1.key,r1.kind,r1.authors,r1.editors,r1.title,r12,r2,a1.date,r1.volume,r1.pages,r1.cross⟩:Entry))) else (bif (a0.kind==2) then ((spec_l20First.F a0.container a1.title).bind fun r15=>bif (a0.kind==3) then (bif ((a0.editors.length:Int)==0) then ((spec_l2Own.F k a1.editors).bind fun r16=>bif ((a1.editors.length:Int)==0) then ((spec_l2Own.F k a1.authors).bind fun r17=>some (⟨r1.key,r1.kind,r1.authors,r17,r1.title,r15,r2,a1.date,r1.volume,r1.pages,r1.cross⟩:Entry)) else (some (⟨r1.key,r1.kind,r1.authors,r16,r1.title,r15,r2,a1.date,r1.volume,r1.pages,r1.cross⟩:Entry))) else (some (⟨r1.key,r1.kind,r1.authors,r1.editors,r1.title,r15,r2,a1.date,r1.volume,r1.pages,r1.cross⟩:Entry))) else (some (⟨r1.key,r1.kind,r1.authors,r1.editors,r1.title,r15,r2,a1.date,r1.volume,r1.pages,r1.cross⟩:Entry))) else ((spec_l20First.F a0.container a1.container).bind fun r18=>bif (a0.kind==3) then (bif ((a0.editors.length:Int)==0) then ((spec_l2Own.F k a1.editors).bind fun r19=>bif ((a1.editors.length:Int)==0) then ((spec_l2Own.F k a1.authors).bind fun r20=>some (⟨r1.key,r1.kind,r1.authors,r20,r1.title,r18,r2,a1.date,r1.volume,r1.pages,r1.cross⟩:Entry)) else (some (⟨r1.key,r1.kind,r1.authors,r19,r1.title,r18,r2,a1.date,r1.volume,r1.pages,r1.cross⟩:Entry))) else (some (⟨r1.key,r1.kind,r1.authors,r1.editors,r1.title,r18,r2,a1.date,r1.volume,r1.pages,r1.cross⟩:Entry))) else (some (⟨r1.key,r1.kind,r1.authors,r1.editors,r1.title,r18,r2,a1.date,r1.volume,r1.pages,r1.cross⟩:Entry)))))) else (bif (a0.volume==0) then (bif (a0.kind==3) then ((spec_l20First.F a0.container a1.title).bind fun r21=>bif (a0.kind==3) then (bif ((a0.editors.length:Int)==0) then ((spec_l2Own.F k a1.editors).bind fun r22=>bif ((a1.editors.length:Int)==0) then ((spec_l2Own.F k a1.authors).bind fun r23=>some (⟨r1.key,r1.kind,r1.authors,r23,r1.title,r21,r2,r1.date,a1.volume,r1.pages,r1.cross⟩:Entry)) else (some (⟨r1.key,r1.kind,r1.authors,r22,r1.title,r21,r2,r1.date,a1.volume,r1.pages,r1.cross⟩:Entry))) else (some (⟨r1.key,r1.kind,r1.authors,r1.editors,r1.title,r21,r2,r1.date,a1.volume,r1.pages,r1.cross⟩:Entry))) else (some (⟨r1.key,r1.kind,r1.authors,r1.editors,r1.title,r21,r2,r1.date,a1.volume,r1.pages,r1.cross⟩:Entry))) else (bif (a0.kind==2) then ((spec_l20First.F a0.container a1.title).bind fun r24=>bif (a0.kind==3) then (bif ((a0.editors.length:Int)==0) then ((spec_l2Own.F k a1.editors).bind fun r25=>bif ((a1.editors.length:Int)==0) then ((spec_l2Own.F k a1.authors).bind fun r26=>some (⟨r1.key,r1.kind,r1.authors,r26,r1.title,r24,r2,r1.date,a1.volume,r1.pages,r1.cross⟩:Entry)) else (some (⟨r1.key,r1.kind,r1.authors,r25,r1.title,r24,r2,r1.date,a1.volume,r1.pages,r1.cross⟩:Entry))) else (some (⟨r1.key,r1.kind,r1.authors,r1.editors,r1.title,r24,r2,r1.date,a1.volume,r1.pages,r1.cross⟩:Entry))) else (some (⟨r1.key,r1.kind,r1.authors,r1.editors,r1.title,r24,r2,r1.date,a1.volume,r1.pages,r1.cross⟩:Entry))) else ((spec_l20First.F a0.container a1.container).bind fun r27=>bif (a0.kind==3) then (bif ((a0.editors.length:Int)==0) then ((spec_l2Own.F k a1.editors).bind fun r28=>bif ((a1.editors.length:Int)==0) then ((spec_l2Own.F k a1.authors).bind fun r29=>some (⟨r1.key,r1.kind,r1.authors,r29,r1.title,r27,r2,r1.date,a1.volume,r1.pages,r1.cross⟩:Entry)) else (some (⟨r1.key,r1.kind,r1.authors,r28,r1.title,r27,r2,r1.date,a1.volume,r1.pages,r1.cross⟩:Entry))) else (some (⟨r1.key,r1.kind,r1.authors,r1.editors,r1.title,r27,r2,r1.date,a1.volume,r1.pages,r1.cross⟩:Entry))) else (some (⟨r1.key,r1.kind,r1.authors,r1.editors,r1.title,r27,r2,r1.date,a1.volume,r1.pages,r1.cross⟩:Entry))))) else (bif (a0.kind==3) then ((spec_l20First.F a0.container a1.title).bind fun r30=>bif (a0.kind==3) then (bif ((a0.editors.length:Int)==0) then ((spec_l2Own.F k a1.editors).bind fun r31=>bif ((a1.editors.length:Int)==0) then ((spec_l2Own.F k a1.authors).bind fun r32=>some (⟨r1.key,r1.kind,r1.authors,r32,r1.title,r30,r2,r1.date,r1.volume,r1.pages,r1.cross⟩:Entry)) else (some (⟨r1.key,r1.kind,r1.authors,r31,r1.title,r30,r2,r1.date,r1.volume,r1.pages,r1.cross⟩:Entry))) else (some (⟨r1.key,r1.kind,r1.authors,r1.editors,r1.title,r30,r2,r1.date,r1.volume,r1.pages,r1.cross⟩:Entry))) else (some (⟨r1.key,r1.kind,r1.authors,r1.editors,r1.title,r30,r2,r1.date,r1.volume,r1.pages,r1.cross⟩:Entry))) else (bif (a0.kind==2) then ((spec_l20First.F a0.container a1.title).bind fun r33=>bif (a0.kind==3) then (bif ((a0.editors.length:Int)==0) then ((spec_l2Own.F k a1.editors).bind fun r34=>bif ((a1.editors.length:Int)==0) then ((spec_l2Own.F k a1.authors).bind fun r35=>some (⟨r1.key,r1.kind,r1.authors,r35,r1.title,r33,r2,r1.date,r1.volume,r1.pages,r1.cross⟩:Entry)) else (some (⟨r1.key,r1.kind,r1.authors,r34,r1.title,r33,r2,r1.date,r1.volume,r1.pages,r1.cross⟩:Entry))) else (some (⟨r1.key,r1.kind,r1.authors,r1.editors,r1.title,r33,r2,r1.date,r1.volume,r1.pages,r1.cross⟩:Entry))) else (some (⟨r1.key,r1.kind,r1.authors,r1.editors,r1.title,r33,r2,r1.date,r1.volume,r1.pages,r1.cross⟩:Entry))) else ((spec_l20First.F a0.container a1.container).bind fun r36=>bif (a0.kind==3) then (bif ((a0.editors.length:Int)==0) then ((spec_l2Own.F k a1.editors).bind fun r37=>bif ((a1.editors.length:Int)==0) then ((spec_l2Own.F k a1.authors).bind fun r38=>some (⟨r1.key,r1.kind,r1.authors,r38,r1.title,r36,r2,r1.date,r1.volume,r1.pages,r1.cross⟩:Entry)) else (some (⟨r1.key,r1.kind,r1.authors,r37,r1.title,r36,r2,r1.date,r1.volume,r1.pages,r1.cross⟩:Entry))) else (some (⟨r1.key,r1.kind,r1.authors,r1.editors,r1.title,r36,r2,r1.date,r1.volume,r1.pages,r1.cross⟩:Entry))) else (some (⟨r1.key,r1.kind,r1.authors,r1.editors,r1.title,r36,r2,r1.date,r1.volume,r1.pages,r1.cross⟩:Entry))))))
def spec_l21Inherit.C (k:Nat):Cal->Option CArm:=fun c=>match c with
 | .f 66=>some (.p [.entry] _ (fun x=>spec_l4Copy.F k x.1) (fun r=>(.t .entry r)))
 | .f 68=>some (.p [.str,.str] _ (fun x=>spec_l20First.F x.1 x.2.1) (fun r=>(.t .str r)))
 | .f 67=>some (.p [(.sl .name)] _ (fun x=>spec_l2Own.F k x.1) (fun r=>(.fr 92 .name r)))
 | _=>none
theorem spec_l21Inherit.run (k:Nat) (a0:Entry) (a1:Entry):runF envX (tabC (spec_l21Inherit.C k)) (tabL 69 0 (fun _=>none)) Tryz.f84 [.t .entry a0,.t .entry a1] (viewR1 (.t .entry))=spec_l21Inherit.F k a0 a1:=by kernel_rfl
theorem spec_l21Inherit.G (hE:EnvOk Tryz.prog envX) (pv:Nat->Value) (k:Nat):∀ cal A,spec_l21Inherit.C k cal=some A->ArmOk Tryz.prog envX pv cal A:=by
 intro cal A h
 unfold spec_l21Inherit.C at h
 split at h
 ·cases h; exact fun x y hy=>spec_l4Copy.good hE pv k x.1 hy
 ·cases h; exact fun x y hy=>spec_l20First.good hE pv x.1 x.2.1 hy
 ·cases h; exact fun x y hy=>spec_l2Own.good hE pv k x.1 hy
 ·cases h
theorem spec_l21Inherit.good (hE:EnvOk Tryz.prog envX) (pv:Nat->Value) (k:Nat) (a0:Entry) (a1:Entry) {y:_} (h:spec_l21Inherit.F k a0 a1=some y):Meets Tryz.prog envX pv (.f 84) (tvals [.entry,.entry] (a0,a1,())) (.t .entry y) :=
 fun_plain hE (spec_l21Inherit.G hE pv k) (f:=84) (fn:=Tryz.f84) (by kernel_rfl) rfl (by kernel_rfl) (by kernel_rfl) ((spec_l21Inherit.run k a0 a1).trans h) (fun r hr=>wk_view1 hr)
def spec_l21Resolve.l0:Nat->Library->ByteArray->Int->(List Name)->(List Name)->ByteArray->ByteArray->ByteArray->Date->Int->ByteArray->ByteArray->(List Int)->Entry->Int->Option (ByteArray × Int × (List Name) × (List Name) × ByteArray × ByteArray × ByteArray × Date × Int × ByteArray × ByteArray × Entry)
 | 0,_,_,_,_,_,_,_,_,_,_,_,_,_,_,_=>none
 | k+1,x2,x4_0,x4_1,x4_2,x4_3,x4_4,x4_5,x4_6,x4_7,x4_8,x4_9,x4_10,x6,x8,x9=>bif (decide (x9 ≥ 0)) then (bif decide (0<=x9) then (bif decide (x9<(x6.length:Int)) then (bif decide (0<=(x6.getD ((x9:Int).toNat) 0)) then (bif decide ((x6.getD ((x9:Int).toNat) 0)<(x2.entries.length:Int)) then ((spec_l21Inherit.F k (x2.entries.getD ((x6.getD ((x9:Int).toNat) 0):Int).toNat (dflt .entry)) x8).bind fun r3=>spec_l21Resolve.l0 k x2 x4_0 x4_1 x4_2 x4_3 x4_4 x4_5 x4_6 x4_7 x4_8 x4_9 x4_10 x6 r3 (IntKind.wrap .i64 (x9-1))) else none) else none) else none) else none) else (some (x4_0,x4_1,x4_2,x4_3,x4_4,x4_5,x4_6,x4_7,x4_8,x4_9,x4_10,x8))
def spec_l21Resolve.F (k:Nat) (a0:Library) (a1:Int):Option (Entry × Bool):=(spec_l21Chain.F k a0 a1).bind fun r1=>bif r1.2 then (some ((⟨(⟨#[]⟩:ByteArray),0,([]:List Name),([]:List Name),(⟨#[]⟩:ByteArray),(⟨#[]⟩:ByteArray),(⟨#[]⟩:ByteArray),(dflt .date),0,(⟨#[]⟩:ByteArray),(⟨#[]⟩:ByteArray)⟩:Entry),false)) else (bif decide (0<=(IntKind.wrap .i64 ((r1.1.length:Int)-1))) then (bif decide ((IntKind.wrap .i64 ((r1.1.length:Int)-1))<(r1.1.length:Int)) then (bif decide (0<=(r1.1.getD (((IntKind.wrap .i64 ((r1.1.length:Int)-1)):Int).toNat) 0)) then (bif decide ((r1.1.getD (((IntKind.wrap .i64 ((r1.1.length:Int)-1)):Int).toNat) 0)<(a0.entries.length:Int)) then ((spec_l4Copy.F k (a0.entries.getD ((r1.1.getD (((IntKind.wrap .i64 ((r1.1.length:Int)-1)):Int).toNat) 0):Int).toNat (dflt .entry))).bind fun r2=>(spec_l21Resolve.l0 k a0 (⟨#[]⟩:ByteArray) 0 ([]:List Name) ([]:List Name) (⟨#[]⟩:ByteArray) (⟨#[]⟩:ByteArray) (⟨#[]⟩:ByteArray) (dflt .date) 0 (⟨#[]⟩:ByteArray) (⟨#[]⟩:ByteArray) r1.1 r2 (IntKind.wrap .i64 ((r1.1.length:Int)-2))).bind fun y4=>some (y4.2.2.2.2.2.2.2.2.2.2.2,true)) else none) else none) else none) else none)
def spec_l21Resolve.C (k:Nat):Cal->Option CArm:=fun c=>match c with
 | .f 41=>some (.p [.lib,(.int .i64)] _ (fun x=>spec_l21Chain.F k x.1 x.2.1) (fun r=>(.tup [.fr 3 (.int .i64) r.1,.t .bool r.2])))
 | .f 66=>some (.p [.entry] _ (fun x=>spec_l4Copy.F k x.1) (fun r=>(.t .entry r)))
 | .f 84=>some (.p [.entry,.entry] _ (fun x=>spec_l21Inherit.F k x.1 x.2.1) (fun r=>(.t .entry r)))
 | _=>none
def spec_l21Resolve.sp0:List Sp:=[.boxT 2 0 .lib,.boxF 4 4 .entry [.t .str,.t (.int .i64),.t (.sl .name),.t (.sl .name),.t .str,.t .str,.t .str,.t .date,.t (.int .i64),.t .str,.t .str],.own 6 1032 3 (.int .i64) false true,.boxT 8 4140 .entry,.t 9 (.int .i64)]
def spec_l21Resolve.sp0_0:List Sp:=[.boxF 4 4 .entry [.t .str,.t (.int .i64),.t (.sl .name),.t (.sl .name),.t .str,.t .str,.t .str,.t .date,.t (.int .i64),.t .str,.t .str],.boxT 8 4140 .entry]
def spec_l21Resolve.A0:LArm:=.one spec_l21Resolve.sp0 spec_l21Resolve.sp0_0 (ByteArray × Int × (List Name) × (List Name) × ByteArray × ByteArray × ByteArray × Date × Int × ByteArray × ByteArray × Entry) (fun k x=>spec_l21Resolve.l0 k x.1 x.2.1.1 x.2.1.2.1 x.2.1.2.2.1 x.2.1.2.2.2.1 x.2.1.2.2.2.2.1 x.2.1.2.2.2.2.2.1 x.2.1.2.2.2.2.2.2.1 x.2.1.2.2.2.2.2.2.2.1 x.2.1.2.2.2.2.2.2.2.2.1 x.2.1.2.2.2.2.2.2.2.2.2.1 x.2.1.2.2.2.2.2.2.2.2.2.2.1 x.2.2.1 x.2.2.2.1 x.2.2.2.2.1) (.exit 0) (fun y=>((y.1,y.2.1,y.2.2.1,y.2.2.2.1,y.2.2.2.2.1,y.2.2.2.2.2.1,y.2.2.2.2.2.2.1,y.2.2.2.2.2.2.2.1,y.2.2.2.2.2.2.2.2.1,y.2.2.2.2.2.2.2.2.2.1,y.2.2.2.2.2.2.2.2.2.2.1,()),y.2.2.2.2.2.2.2.2.2.2.2,())) (fun x=>(x.1.1,x.1.2.1,x.1.2.2.1,x.1.2.2.2.1,x.1.2.2.2.2.1,x.1.2.2.2.2.2.1,x.1.2.2.2.2.2.2.1,x.1.2.2.2.2.2.2.2.1,x.1.2.2.2.2.2.2.2.2.1,x.1.2.2.2.2.2.2.2.2.2.1,x.1.2.2.2.2.2.2.2.2.2.2.1,x.2.1))
def spec_l21Resolve.L:Nat->Option LArm:=fun b=>match b with
 | 0=>some spec_l21Resolve.A0
 | _=>none
theorem spec_l21Resolve.run (k:Nat) (a0:Library) (a1:Int):runF envX (tabC (spec_l21Resolve.C k)) (tabL 47 k spec_l21Resolve.L) Tryz.f55 [.t .lib a0,.t (.int .i64) a1] (viewR2 (.t .entry) (.t .bool))=spec_l21Resolve.F k a0 a1:=by kernel_rfl
theorem spec_l21Resolve.step0 (k:Nat) (x2:Library) (x4_0:ByteArray) (x4_1:Int) (x4_2:List Name) (x4_3:List Name) (x4_4:ByteArray) (x4_5:ByteArray) (x4_6:ByteArray) (x4_7:Date) (x4_8:Int) (x4_9:ByteArray) (x4_10:ByteArray) (x6:List Int) (x8:Entry) (x9:Int):runC envX (tabC (spec_l21Resolve.C k)) (tabL 47 k spec_l21Resolve.L) 0 (loopAt Tryz.f55 0) (stOf 47 spec_l21Resolve.sp0 (x2,(x4_0,x4_1,x4_2,x4_3,x4_4,x4_5,x4_6,x4_7,x4_8,x4_9,x4_10,()),x6,x8,x9,())) (spec_l21Resolve.A0.cont 47 k)=spec_l21Resolve.l0 (k+1) x2 x4_0 x4_1 x4_2 x4_3 x4_4 x4_5 x4_6 x4_7 x4_8 x4_9 x4_10 x6 x8 x9:=by kernel_rfl
theorem spec_l21Resolve.G (hE:EnvOk Tryz.prog envX) (pv:Nat->Value) (k:Nat):∀ cal A,spec_l21Resolve.C k cal=some A->ArmOk Tryz.prog envX pv cal A:=by
 intro cal A h
 unfold spec_l21Resolve.C at h
 split at h
 ·cases h; exact fun x y hy=>spec_l21Chain.good hE pv k x.1 x.2.1 hy
 ·cases h; exact fun x y hy=>spec_l4Copy.good hE pv k x.1 hy
 ·cases h; exact fun x y hy=>spec_l21Inherit.good hE pv k x.1 x.2.1 hy
 ·cases h
theorem spec_l21Resolve.good (hE:EnvOk Tryz.prog envX) (pv:Nat->Value) (k:Nat) (a0:Library) (a1:Int) {y:_} (h:spec_l21Resolve.F k a0 a1=some y):Meets Tryz.prog envX pv (.f 55) (tvals [.lib,(.int .i64)] (a0,a1,())) (.tup [.t .entry y.1,.t .bool y.2]) :=
 fun_loops hE (t:=spec_l21Resolve.C) k (fun k _=>spec_l21Resolve.G hE pv k) (f:=55) (fn:=Tryz.f55) (by kernel_rfl) rfl (by kernel_rfl) (by kernel_rfl) (lt:=spec_l21Resolve.L) (by kernel_rfl) (fun b A h=>by
  unfold spec_l21Resolve.L at h; split at h
  ·cases h; exact ⟨by kernel_rfl,by kernel_rfl,fun _=>rfl,fun _=>rfl⟩
  ·cases h) (fun b A h=>by
  unfold spec_l21Resolve.L at h; split at h
  ·cases h; exact fun k x=>spec_l21Resolve.step0 k x.1 x.2.1.1 x.2.1.2.1 x.2.1.2.2.1 x.2.1.2.2.2.1 x.2.1.2.2.2.2.1 x.2.1.2.2.2.2.2.1 x.2.1.2.2.2.2.2.2.1 x.2.1.2.2.2.2.2.2.2.1 x.2.1.2.2.2.2.2.2.2.2.1 x.2.1.2.2.2.2.2.2.2.2.2.1 x.2.1.2.2.2.2.2.2.2.2.2.2.1 x.2.2.1 x.2.2.2.1 x.2.2.2.2.1
  ·cases h) ((spec_l21Resolve.run k a0 a1).trans h) (fun r hr=>wk_view2 hr)
def impl_inside.F (a0:Int) (a1:Int) (a2:Int):Option (Bool):=bif (decide (a0 ≥ a1)) then (some (decide (a0<=a2))) else (some false)
def impl_inside.C:Cal->Option CArm:=fun c=>match c with
 | _=>none
theorem impl_inside.run (a0:Int) (a1:Int) (a2:Int):runF envX (tabC impl_inside.C) (tabL 15 0 (fun _=>none)) Tryz.f74 [.t (.int .i64) a0,.t (.int .i64) a1,.t (.int .i64) a2] (viewR1 (.t .bool))=impl_inside.F a0 a1 a2:=by kernel_rfl
theorem impl_inside.G (hE:EnvOk Tryz.prog envX) (pv:Nat->Value):∀ cal A,impl_inside.C cal=some A->ArmOk Tryz.prog envX pv cal A:=by
 intro cal A h
 unfold impl_inside.C at h
 cases h
theorem impl_inside.good (hE:EnvOk Tryz.prog envX) (pv:Nat->Value) (a0:Int) (a1:Int) (a2:Int) {y:_} (h:impl_inside.F a0 a1 a2=some y):Meets Tryz.prog envX pv (.f 74) (tvals [(.int .i64),(.int .i64),(.int .i64)] (a0,a1,a2,())) (.t .bool y) :=
 fun_plain hE (impl_inside.G hE pv) (f:=74) (fn:=Tryz.f74) (by kernel_rfl) rfl (by kernel_rfl) (by kernel_rfl) ((impl_inside.run a0 a1 a2).trans h) (fun r hr=>wk_view1 hr)
def impl_isLower.F (a0:Int):Option (Bool):=bif (decide (a0 ≥ 97)) then (some (decide (a0<=122))) else (some false)
def impl_isLower.C:Cal->Option CArm:=fun c=>match c with
 | _=>none
theorem impl_isLower.run (a0:Int):runF envX (tabC impl_isLower.C) (tabL 9 0 (fun _=>none)) Tryz.f94 [.t (.int .u8) a0] (viewR1 (.t .bool))=impl_isLower.F a0:=by kernel_rfl
theorem impl_isLower.G (hE:EnvOk Tryz.prog envX) (pv:Nat->Value):∀ cal A,impl_isLower.C cal=some A->ArmOk Tryz.prog envX pv cal A:=by
 intro cal A h
 unfold impl_isLower.C at h
 cases h
theorem impl_isLower.good (hE:EnvOk Tryz.prog envX) (pv:Nat->Value) (a0:Int) {y:_} (h:impl_isLower.F a0=some y):Meets Tryz.prog envX pv (.f 94) (tvals [(.int .u8)] (a0,())) (.t .bool y) :=
 fun_plain hE (impl_isLower.G hE pv) (f:=94) (fn:=Tryz.f94) (by kernel_rfl) rfl (by kernel_rfl) (by kernel_rfl) ((impl_isLower.run a0).trans h) (fun r hr=>wk_view1 hr)
def impl_isDigit.F (a0:Int):Option (Bool):=bif (decide (a0 ≥ 48)) then (some (decide (a0<=57))) else (some false)
def impl_isDigit.C:Cal->Option CArm:=fun c=>match c with
 | _=>none
theorem impl_isDigit.run (a0:Int):runF envX (tabC impl_isDigit.C) (tabL 9 0 (fun _=>none)) Tryz.f95 [.t (.int .u8) a0] (viewR1 (.t .bool))=impl_isDigit.F a0:=by kernel_rfl
theorem impl_isDigit.G (hE:EnvOk Tryz.prog envX) (pv:Nat->Value):∀ cal A,impl_isDigit.C cal=some A->ArmOk Tryz.prog envX pv cal A:=by
 intro cal A h
 unfold impl_isDigit.C at h
 cases h
theorem impl_isDigit.good (hE:EnvOk Tryz.prog envX) (pv:Nat->Value) (a0:Int) {y:_} (h:impl_isDigit.F a0=some y):Meets Tryz.prog envX pv (.f 95) (tvals [(.int .u8)] (a0,())) (.t .bool y) :=
 fun_plain hE (impl_isDigit.G hE pv) (f:=95) (fn:=Tryz.f95) (by kernel_rfl) rfl (by kernel_rfl) (by kernel_rfl) ((impl_isDigit.run a0).trans h) (fun r hr=>wk_view1 hr)
def impl_isKey.l0:Nat->ByteArray->Int->Option (Sum Bool Unit)
 | 0,_,_=>none
 | k+1,x0,x3=>bif (decide (x3<(x0.size:Int))) then (bif decide (0<=x3) then (bif decide (x3<(x0.size:Int)) then ((impl_isLower.F (bt x0 (x3:Int).toNat)).bind fun r3=>bif (!r3) then (bif decide (0<=x3) then (bif decide (x3<(x0.size:Int)) then ((impl_isDigit.F (bt x0 (x3:Int).toNat)).bind fun r4=>bif (!r4) then (some (.inl false)) else (impl_isKey.l0 k x0 (IntKind.wrap .i64 (x3+1)))) else none) else none) else (impl_isKey.l0 k x0 (IntKind.wrap .i64 (x3+1)))) else none) else none) else (some (.inr ()))
def impl_isKey.F (k:Nat) (a0:ByteArray):Option (Bool):=(impl_inside.F (a0.size:Int) 1 10).bind fun r1=>bif (!r1) then (some false) else (bif decide (0<=0) then (bif decide (0<(a0.size:Int)) then ((impl_isLower.F (bt a0 (0:Int).toNat)).bind fun r2=>bif (!r2) then (some false) else ((impl_isKey.l0 k a0 0).bind fun y5=>match y5 with | .inl z6=>some z6 | .inr z6=>some true)) else none) else none)
def impl_isKey.C (k:Nat):Cal->Option CArm:=fun c=>match c with
 | .f 74=>some (.p [(.int .i64),(.int .i64),(.int .i64)] _ (fun x=>impl_inside.F x.1 x.2.1 x.2.2.1) (fun r=>(.t .bool r)))
 | .f 94=>some (.p [(.int .u8)] _ (fun x=>impl_isLower.F x.1) (fun r=>(.t .bool r)))
 | .f 95=>some (.p [(.int .u8)] _ (fun x=>impl_isDigit.F x.1) (fun r=>(.t .bool r)))
 | _=>none
def impl_isKey.sp0:List Sp:=[.t 0 .str,.t 3 (.int .i64)]
def impl_isKey.sp0_0:List Sp:=[.t 2 .bool]
def impl_isKey.sp0_1:List Sp:=[]
def impl_isKey.A0:LArm:=.two impl_isKey.sp0 impl_isKey.sp0_0 impl_isKey.sp0_1 (Bool) (Unit) (fun k x=>impl_isKey.l0 k x.1 x.2.1) .ret (.exit 0) (fun y=>(y,())) (fun x=>x.1) (fun y=>()) (fun x=>())
def impl_isKey.L:Nat->Option LArm:=fun b=>match b with
 | 0=>some impl_isKey.A0
 | _=>none
theorem impl_isKey.run (k:Nat) (a0:ByteArray):runF envX (tabC (impl_isKey.C k)) (tabL 32 k impl_isKey.L) Tryz.f70 [.t .str a0] (viewR1 (.t .bool))=impl_isKey.F k a0:=by kernel_rfl
theorem impl_isKey.step0 (k:Nat) (x0:ByteArray) (x3:Int):runC envX (tabC (impl_isKey.C k)) (tabL 32 k impl_isKey.L) 0 (loopAt Tryz.f70 0) (stOf 32 impl_isKey.sp0 (x0,x3,())) (impl_isKey.A0.cont 32 k)=impl_isKey.l0 (k+1) x0 x3:=by kernel_rfl
theorem impl_isKey.G (hE:EnvOk Tryz.prog envX) (pv:Nat->Value) (k:Nat):∀ cal A,impl_isKey.C k cal=some A->ArmOk Tryz.prog envX pv cal A:=by
 intro cal A h
 unfold impl_isKey.C at h
 split at h
 ·cases h; exact fun x y hy=>impl_inside.good hE pv x.1 x.2.1 x.2.2.1 hy
 ·cases h; exact fun x y hy=>impl_isLower.good hE pv x.1 hy
 ·cases h; exact fun x y hy=>impl_isDigit.good hE pv x.1 hy
 ·cases h
theorem impl_isKey.good (hE:EnvOk Tryz.prog envX) (pv:Nat->Value) (k:Nat) (a0:ByteArray) {y:_} (h:impl_isKey.F k a0=some y):Meets Tryz.prog envX pv (.f 70) (tvals [.str] (a0,())) (.t .bool y) :=
 fun_loops hE (t:=impl_isKey.C) k (fun k _=>impl_isKey.G hE pv k) (f:=70) (fn:=Tryz.f70) (by kernel_rfl) rfl (by kernel_rfl) (by kernel_rfl) (lt:=impl_isKey.L) (by kernel_rfl) (fun b A h=>by
  unfold impl_isKey.L at h; split at h
  ·cases h; exact ⟨by kernel_rfl,by kernel_rfl,by kernel_rfl,fun _=>rfl,fun _=>rfl,fun _=>rfl⟩
  ·cases h) (fun b A h=>by
  unfold impl_isKey.L at h; split at h
  ·cases h; exact fun k x=>impl_isKey.step0 k x.1 x.2.1
  ·cases h) ((impl_isKey.run k a0).trans h) (fun r hr=>wk_view1 hr)
def impl_isKind.F (a0:Int):Option (Bool):=(impl_inside.F a0 1 4).bind fun r1=>some r1
def impl_isKind.C:Cal->Option CArm:=fun c=>match c with
 | .f 74=>some (.p [(.int .i64),(.int .i64),(.int .i64)] _ (fun x=>impl_inside.F x.1 x.2.1 x.2.2.1) (fun r=>(.t .bool r)))
 | _=>none
theorem impl_isKind.run (a0:Int):runF envX (tabC impl_isKind.C) (tabL 5 0 (fun _=>none)) Tryz.f71 [.t (.int .i64) a0] (viewR1 (.t .bool))=impl_isKind.F a0:=by kernel_rfl
theorem impl_isKind.G (hE:EnvOk Tryz.prog envX) (pv:Nat->Value):∀ cal A,impl_isKind.C cal=some A->ArmOk Tryz.prog envX pv cal A:=by
 intro cal A h
 unfold impl_isKind.C at h
 split at h
 ·cases h; exact fun x y hy=>impl_inside.good hE pv x.1 x.2.1 x.2.2.1 hy
 ·cases h
theorem impl_isKind.good (hE:EnvOk Tryz.prog envX) (pv:Nat->Value) (a0:Int) {y:_} (h:impl_isKind.F a0=some y):Meets Tryz.prog envX pv (.f 71) (tvals [(.int .i64)] (a0,())) (.t .bool y) :=
 fun_plain hE (impl_isKind.G hE pv) (f:=71) (fn:=Tryz.f71) (by kernel_rfl) rfl (by kernel_rfl) (by kernel_rfl) ((impl_isKind.run a0).trans h) (fun r hr=>wk_view1 hr)
-- NO 106 slices.IndexFunc[[]loop.example/g00896/impl.Name,loop.example/g00896/impl.Name]: a parameter's type
-- NO 96 slices.ContainsFunc[[]loop.example/g00896/impl.Name,loop.example/g00896/impl.Name]: a parameter's type
-- NO 115 slices.IndexFunc[[]string,string]: a parameter's type
-- NO 107 slices.ContainsFunc[[]string,string]: a parameter's type
def impl_isUpper.F (a0:Int):Option (Bool):=bif (decide (a0 ≥ 65)) then (some (decide (a0<=90))) else (some false)
def impl_isUpper.C:Cal->Option CArm:=fun c=>match c with
 | _=>none
theorem impl_isUpper.run (a0:Int):runF envX (tabC impl_isUpper.C) (tabL 9 0 (fun _=>none)) Tryz.f116 [.t (.int .u8) a0] (viewR1 (.t .bool))=impl_isUpper.F a0:=by kernel_rfl
theorem impl_isUpper.G (hE:EnvOk Tryz.prog envX) (pv:Nat->Value):∀ cal A,impl_isUpper.C cal=some A->ArmOk Tryz.prog envX pv cal A:=by
 intro cal A h
 unfold impl_isUpper.C at h
 cases h
theorem impl_isUpper.good (hE:EnvOk Tryz.prog envX) (pv:Nat->Value) (a0:Int) {y:_} (h:impl_isUpper.F a0=some y):Meets Tryz.prog envX pv (.f 116) (tvals [(.int .u8)] (a0,())) (.t .bool y) :=
 fun_plain hE (impl_isUpper.G hE pv) (f:=116) (fn:=Tryz.f116) (by kernel_rfl) rfl (by kernel_rfl) (by kernel_rfl) ((impl_isUpper.run a0).trans h) (fun r hr=>wk_view1 hr)
def impl_isLetter.F (a0:Int):Option (Bool):=(impl_isUpper.F a0).bind fun r1=>bif r1 then (some true) else ((impl_isLower.F a0).bind fun r2=>some r2)
def impl_isLetter.C:Cal->Option CArm:=fun c=>match c with
 | .f 116=>some (.p [(.int .u8)] _ (fun x=>impl_isUpper.F x.1) (fun r=>(.t .bool r)))
 | .f 94=>some (.p [(.int .u8)] _ (fun x=>impl_isLower.F x.1) (fun r=>(.t .bool r)))
 | _=>none
theorem impl_isLetter.run (a0:Int):runF envX (tabC impl_isLetter.C) (tabL 9 0 (fun _=>none)) Tryz.f118 [.t (.int .u8) a0] (viewR1 (.t .bool))=impl_isLetter.F a0:=by kernel_rfl
theorem impl_isLetter.G (hE:EnvOk Tryz.prog envX) (pv:Nat->Value):∀ cal A,impl_isLetter.C cal=some A->ArmOk Tryz.prog envX pv cal A:=by
 intro cal A h
 unfold impl_isLetter.C at h
 split at h
 ·cases h; exact fun x y hy=>impl_isUpper.good hE pv x.1 hy
 ·cases h; exact fun x y hy=>impl_isLower.good hE pv x.1 hy
 ·cases h
theorem impl_isLetter.good (hE:EnvOk Tryz.prog envX) (pv:Nat->Value) (a0:Int) {y:_} (h:impl_isLetter.F a0=some y):Meets Tryz.prog envX pv (.f 118) (tvals [(.int .u8)] (a0,())) (.t .bool y) :=
 fun_plain hE (impl_isLetter.G hE pv) (f:=118) (fn:=Tryz.f118) (by kernel_rfl) rfl (by kernel_rfl) (by kernel_rfl) ((impl_isLetter.run a0).trans h) (fun r hr=>wk_view1 hr)
def impl_isNameWord.l0:Nat->ByteArray->Int->Option (Sum Bool Unit)
 | 0,_,_=>none
 | k+1,x0,x3=>bif (decide (x3<(x0.size:Int))) then (bif decide (0<=x3) then (bif decide (x3<(x0.size:Int)) then ((impl_isLetter.F (bt x0 (x3:Int).toNat)).bind fun r4=>bif (!r4) then (bif decide (0<=x3) then (bif decide (x3<(x0.size:Int)) then (bif ((bt x0 (x3:Int).toNat) != 45) then (bif decide (0<=x3) then (bif decide (x3<(x0.size:Int)) then (bif ((bt x0 (x3:Int).toNat) != 39) then (some (.inl false)) else (bif decide (0<=(IntKind.wrap .i64 (x3-1))) then (bif decide ((IntKind.wrap .i64 (x3-1))<(x0.size:Int)) then ((impl_isLetter.F (bt x0 ((IntKind.wrap .i64 (x3-1)):Int).toNat)).bind fun r5=>bif (!r5) then (some (.inl false)) else (impl_isNameWord.l0 k x0 (IntKind.wrap .i64 (x3+1)))) else none) else none)) else none) else none) else (bif decide (0<=(IntKind.wrap .i64 (x3-1))) then (bif decide ((IntKind.wrap .i64 (x3-1))<(x0.size:Int)) then ((impl_isLetter.F (bt x0 ((IntKind.wrap .i64 (x3-1)):Int).toNat)).bind fun r6=>bif (!r6) then (some (.inl false)) else (impl_isNameWord.l0 k x0 (IntKind.wrap .i64 (x3+1)))) else none) else none)) else none) else none) else (impl_isNameWord.l0 k x0 (IntKind.wrap .i64 (x3+1)))) else none) else none) else (some (.inr ()))
def impl_isNameWord.F (k:Nat) (a0:ByteArray):Option (Bool):=(impl_inside.F (a0.size:Int) 1 12).bind fun r1=>bif (!r1) then (some false) else (bif decide (0<=(IntKind.wrap .i64 ((a0.size:Int)-1))) then (bif decide ((IntKind.wrap .i64 ((a0.size:Int)-1))<(a0.size:Int)) then ((impl_isLetter.F (bt a0 ((IntKind.wrap .i64 ((a0.size:Int)-1)):Int).toNat)).bind fun r2=>bif (!r2) then (some false) else (bif decide (0<=0) then (bif decide (0<(a0.size:Int)) then ((impl_isLetter.F (bt a0 (0:Int).toNat)).bind fun r3=>bif (!r3) then (some false) else ((impl_isNameWord.l0 k a0 0).bind fun y7=>match y7 with | .inl z8=>some z8 | .inr z8=>some true)) else none) else none)) else none) else none)
def impl_isNameWord.C (k:Nat):Cal->Option CArm:=fun c=>match c with
 | .f 74=>some (.p [(.int .i64),(.int .i64),(.int .i64)] _ (fun x=>impl_inside.F x.1 x.2.1 x.2.2.1) (fun r=>(.t .bool r)))
 | .f 118=>some (.p [(.int .u8)] _ (fun x=>impl_isLetter.F x.1) (fun r=>(.t .bool r)))
 | _=>none
def impl_isNameWord.sp0:List Sp:=[.t 0 .str,.t 3 (.int .i64)]
def impl_isNameWord.sp0_0:List Sp:=[.t 2 .bool]
def impl_isNameWord.sp0_1:List Sp:=[]
def impl_isNameWord.A0:LArm:=.two impl_isNameWord.sp0 impl_isNameWord.sp0_0 impl_isNameWord.sp0_1 (Bool) (Unit) (fun k x=>impl_isNameWord.l0 k x.1 x.2.1) .ret (.exit 0) (fun y=>(y,())) (fun x=>x.1) (fun y=>()) (fun x=>())
def impl_isNameWord.L:Nat->Option LArm:=fun b=>match b with
 | 0=>some impl_isNameWord.A0
 | _=>none
theorem impl_isNameWord.run (k:Nat) (a0:ByteArray):runF envX (tabC (impl_isNameWord.C k)) (tabL 54 k impl_isNameWord.L) Tryz.f111 [.t .str a0] (viewR1 (.t .bool))=impl_isNameWord.F k a0:=by kernel_rfl
theorem impl_isNameWord.step0 (k:Nat) (x0:ByteArray) (x3:Int):runC envX (tabC (impl_isNameWord.C k)) (tabL 54 k impl_isNameWord.L) 0 (loopAt Tryz.f111 0) (stOf 54 impl_isNameWord.sp0 (x0,x3,())) (impl_isNameWord.A0.cont 54 k)=impl_isNameWord.l0 (k+1) x0 x3:=by kernel_rfl
theorem impl_isNameWord.G (hE:EnvOk Tryz.prog envX) (pv:Nat->Value) (k:Nat):∀ cal A,impl_isNameWord.C k cal=some A->ArmOk Tryz.prog envX pv cal A:=by
 intro cal A h
 unfold impl_isNameWord.C at h
 split at h
 ·cases h; exact fun x y hy=>impl_inside.good hE pv x.1 x.2.1 x.2.2.1 hy
 ·cases h; exact fun x y hy=>impl_isLetter.good hE pv x.1 hy
 ·cases h
theorem impl_isNameWord.good (hE:EnvOk Tryz.prog envX) (pv:Nat->Value) (k:Nat) (a0:ByteArray) {y:_} (h:impl_isNameWord.F k a0=some y):Meets Tryz.prog envX pv (.f 111) (tvals [.str] (a0,())) (.t .bool y) :=
 fun_loops hE (t:=impl_isNameWord.C) k (fun k _=>impl_isNameWord.G hE pv k) (f:=111) (fn:=Tryz.f111) (by kernel_rfl) rfl (by kernel_rfl) (by kernel_rfl) (lt:=impl_isNameWord.L) (by kernel_rfl) (fun b A h=>by
  unfold impl_isNameWord.L at h; split at h
  ·cases h; exact ⟨by kernel_rfl,by kernel_rfl,by kernel_rfl,fun _=>rfl,fun _=>rfl,fun _=>rfl⟩
  ·cases h) (fun b A h=>by
  unfold impl_isNameWord.L at h; split at h
  ·cases h; exact fun k x=>impl_isNameWord.step0 k x.1 x.2.1
  ·cases h) ((impl_isNameWord.run k a0).trans h) (fun r hr=>wk_view1 hr)
def impl_isGreatWord.F (k:Nat) (a0:ByteArray):Option (Bool):=(impl_isNameWord.F k a0).bind fun r1=>bif r1 then (bif decide (0<=0) then (bif decide (0<(a0.size:Int)) then ((impl_isUpper.F (bt a0 (0:Int).toNat)).bind fun r2=>some r2) else none) else none) else (some false)
def impl_isGreatWord.C (k:Nat):Cal->Option CArm:=fun c=>match c with
 | .f 111=>some (.p [.str] _ (fun x=>impl_isNameWord.F k x.1) (fun r=>(.t .bool r)))
 | .f 116=>some (.p [(.int .u8)] _ (fun x=>impl_isUpper.F x.1) (fun r=>(.t .bool r)))
 | _=>none
theorem impl_isGreatWord.run (k:Nat) (a0:ByteArray):runF envX (tabC (impl_isGreatWord.C k)) (tabL 10 0 (fun _=>none)) Tryz.f109 [.t .str a0] (viewR1 (.t .bool))=impl_isGreatWord.F k a0:=by kernel_rfl
theorem impl_isGreatWord.G (hE:EnvOk Tryz.prog envX) (pv:Nat->Value) (k:Nat):∀ cal A,impl_isGreatWord.C k cal=some A->ArmOk Tryz.prog envX pv cal A:=by
 intro cal A h
 unfold impl_isGreatWord.C at h
 split at h
 ·cases h; exact fun x y hy=>impl_isNameWord.good hE pv k x.1 hy
 ·cases h; exact fun x y hy=>impl_isUpper.good hE pv x.1 hy
 ·cases h
theorem impl_isGreatWord.good (hE:EnvOk Tryz.prog envX) (pv:Nat->Value) (k:Nat) (a0:ByteArray) {y:_} (h:impl_isGreatWord.F k a0=some y):Meets Tryz.prog envX pv (.f 109) (tvals [.str] (a0,())) (.t .bool y) :=
 fun_plain hE (impl_isGreatWord.G hE pv k) (f:=109) (fn:=Tryz.f109) (by kernel_rfl) rfl (by kernel_rfl) (by kernel_rfl) ((impl_isGreatWord.run k a0).trans h) (fun r hr=>wk_view1 hr)
def impl_IsValidName_1.F (k:Nat) (a0:ByteArray):Option (Bool):=(impl_isGreatWord.F k a0).bind fun r1=>some (!r1)
def impl_IsValidName_1.C (k:Nat):Cal->Option CArm:=fun c=>match c with
 | .f 109=>some (.p [.str] _ (fun x=>impl_isGreatWord.F k x.1) (fun r=>(.t .bool r)))
 | _=>none
theorem impl_IsValidName_1.run (k:Nat) (a0:ByteArray):runF envX (tabC (impl_IsValidName_1.C k)) (tabL 6 0 (fun _=>none)) Tryz.f108 [.t .str a0] (viewR1 (.t .bool))=impl_IsValidName_1.F k a0:=by kernel_rfl
theorem impl_IsValidName_1.G (hE:EnvOk Tryz.prog envX) (pv:Nat->Value) (k:Nat):∀ cal A,impl_IsValidName_1.C k cal=some A->ArmOk Tryz.prog envX pv cal A:=by
 intro cal A h
 unfold impl_IsValidName_1.C at h
 split at h
 ·cases h; exact fun x y hy=>impl_isGreatWord.good hE pv k x.1 hy
 ·cases h
theorem impl_IsValidName_1.good (hE:EnvOk Tryz.prog envX) (pv:Nat->Value) (k:Nat) (a0:ByteArray) {y:_} (h:impl_IsValidName_1.F k a0=some y):Meets Tryz.prog envX pv (.f 108) (tvals [.str] (a0,())) (.t .bool y) :=
 fun_plain hE (impl_IsValidName_1.G hE pv k) (f:=108) (fn:=Tryz.f108) (by kernel_rfl) rfl (by kernel_rfl) (by kernel_rfl) ((impl_IsValidName_1.run k a0).trans h) (fun r hr=>wk_view1 hr)
def strings_Split.F (a0:ByteArray) (a1:ByteArray):Option (List ByteArray):=xSplit a0 a1
theorem strings_Split.good (hE:EnvOk Tryz.prog envX) (pv:Nat->Value) (a0:ByteArray) (a1:ByteArray) {y:_} (h:strings_Split.F a0 a1=some y):Meets Tryz.prog envX pv (.f 117) (tvals [.str,.str] (a0,a1,())) (.fr 9 .str y) :=
 ext_split (fn:=Tryz.f117) (by kernel_rfl) rfl (by kernel_rfl) (mx:=2) (by kernel_rfl) Tryz.strings_Split h
def impl_isParticle.l2:Nat->(List ByteArray)->ByteArray->Int->Int->Int->Option (Sum Bool ((List ByteArray) × Int × Int))
 | 0,_,_,_,_,_=>none
 | k+1,x3,x5,x6,x12,x13=>bif (decide (x6<(x5.size:Int))) then (bif decide (0<=x6) then (bif decide (x6<(x5.size:Int)) then ((impl_isLower.F (bt x5 (x6:Int).toNat)).bind fun r3=>bif (!r3) then (some (.inl false)) else (impl_isParticle.l2 k x3 x5 (IntKind.wrap .i64 (x6+1)) x12 x13)) else none) else none) else (some (.inr (x3,x12,x13)))
def impl_isParticle.l0:Nat->(List ByteArray)->Int->Int->Option (Sum Bool (List ByteArray))
 | 0,_,_,_=>none
 | k+1,x3,x12,x13=>bif (decide (x13<x12)) then (bif decide (0<=x13) then (bif decide (x13<(x3.length:Int)) then ((impl_inside.F ((x3.getD ((x13:Int).toNat) (⟨#[]⟩:ByteArray)).size:Int) 1 12).bind fun r2=>bif (!r2) then (some (.inl false)) else ((impl_isParticle.l2 k x3 (x3.getD ((x13:Int).toNat) (⟨#[]⟩:ByteArray)) 0 x12 x13).bind fun y4=>match y4 with | .inl z5=>some (.inl z5) | .inr z5=>impl_isParticle.l0 k z5.1 z5.2.1 (IntKind.wrap .i64 (z5.2.2+1)))) else none) else none) else (some (.inr x3))
def impl_isParticle.F (k:Nat) (a0:ByteArray):Option (Bool):=bif (beqS a0 (⟨#[]⟩:ByteArray)) then (some true) else ((strings_Split.F a0 (⟨#[32]⟩:ByteArray)).bind fun r1=>(impl_isParticle.l0 k r1 (r1.length:Int) 0).bind fun y6=>match y6 with | .inl z7=>some z7 | .inr z7=>some (decide ((z7.length:Int)<=2)))
def impl_isParticle.C (k:Nat):Cal->Option CArm:=fun c=>match c with
 | .f 117=>some (.p [.str,.str] _ (fun x=>strings_Split.F x.1 x.2.1) (fun r=>(.fr 9 .str r)))
 | .f 74=>some (.p [(.int .i64),(.int .i64),(.int .i64)] _ (fun x=>impl_inside.F x.1 x.2.1 x.2.2.1) (fun r=>(.t .bool r)))
 | .f 94=>some (.p [(.int .u8)] _ (fun x=>impl_isLower.F x.1) (fun r=>(.t .bool r)))
 | _=>none
def impl_isParticle.sp2:List Sp:=[.own 3 3076 9 .str false true,.t 5 .str,.t 6 (.int .i64),.con 11 (.own 3076),.t 12 (.int .i64),.t 13 (.int .i64)]
def impl_isParticle.sp2_0:List Sp:=[.t 2 .bool]
def impl_isParticle.sp2_1:List Sp:=[.own 3 3076 9 .str false true,.con 11 (.own 3076),.t 12 (.int .i64),.t 13 (.int .i64)]
def impl_isParticle.A2:LArm:=.two impl_isParticle.sp2 impl_isParticle.sp2_0 impl_isParticle.sp2_1 (Bool) ((List ByteArray) × Int × Int) (fun k x=>impl_isParticle.l2 k x.1 x.2.1 x.2.2.1 x.2.2.2.2.1 x.2.2.2.2.2.1) .ret (.exit 2) (fun y=>(y,())) (fun x=>x.1) (fun y=>(y.1,(),y.2.1,y.2.2,())) (fun x=>(x.1,x.2.2.1,x.2.2.2.1))
def impl_isParticle.sp0:List Sp:=[.own 3 3076 9 .str false true,.con 11 (.own 3076),.t 12 (.int .i64),.t 13 (.int .i64)]
def impl_isParticle.sp0_0:List Sp:=[.t 2 .bool]
def impl_isParticle.sp0_1:List Sp:=[.own 3 3076 9 .str false true]
def impl_isParticle.A0:LArm:=.two impl_isParticle.sp0 impl_isParticle.sp0_0 impl_isParticle.sp0_1 (Bool) ((List ByteArray)) (fun k x=>impl_isParticle.l0 k x.1 x.2.2.1 x.2.2.2.1) .ret (.exit 0) (fun y=>(y,())) (fun x=>x.1) (fun y=>(y,())) (fun x=>x.1)
def impl_isParticle.L:Nat->Option LArm:=fun b=>match b with
 | 2=>some impl_isParticle.A2
 | 0=>some impl_isParticle.A0
 | _=>none
theorem impl_isParticle.run (k:Nat) (a0:ByteArray):runF envX (tabC (impl_isParticle.C k)) (tabL 36 k impl_isParticle.L) Tryz.f110 [.t .str a0] (viewR1 (.t .bool))=impl_isParticle.F k a0:=by kernel_rfl
theorem impl_isParticle.step2 (k:Nat) (x3:List ByteArray) (x5:ByteArray) (x6:Int) (x12:Int) (x13:Int):runC envX (tabC (impl_isParticle.C k)) (tabL 36 k impl_isParticle.L) 2 (loopAt Tryz.f110 2) (stOf 36 impl_isParticle.sp2 (x3,x5,x6,(),x12,x13,())) (impl_isParticle.A2.cont 36 k)=impl_isParticle.l2 (k+1) x3 x5 x6 x12 x13:=by kernel_rfl
theorem impl_isParticle.step0 (k:Nat) (x3:List ByteArray) (x12:Int) (x13:Int):runC envX (tabC (impl_isParticle.C k)) (tabL 36 k impl_isParticle.L) 0 (loopAt Tryz.f110 0) (stOf 36 impl_isParticle.sp0 (x3,(),x12,x13,())) (impl_isParticle.A0.cont 36 k)=impl_isParticle.l0 (k+1) x3 x12 x13:=by kernel_rfl
theorem impl_isParticle.G (hE:EnvOk Tryz.prog envX) (pv:Nat->Value) (k:Nat):∀ cal A,impl_isParticle.C k cal=some A->ArmOk Tryz.prog envX pv cal A:=by
 intro cal A h
 unfold impl_isParticle.C at h
 split at h
 ·cases h; exact fun x y hy=>strings_Split.good hE pv x.1 x.2.1 hy
 ·cases h; exact fun x y hy=>impl_inside.good hE pv x.1 x.2.1 x.2.2.1 hy
 ·cases h; exact fun x y hy=>impl_isLower.good hE pv x.1 hy
 ·cases h
theorem impl_isParticle.good (hE:EnvOk Tryz.prog envX) (pv:Nat->Value) (k:Nat) (a0:ByteArray) {y:_} (h:impl_isParticle.F k a0=some y):Meets Tryz.prog envX pv (.f 110) (tvals [.str] (a0,())) (.t .bool y) :=
 fun_loops hE (t:=impl_isParticle.C) k (fun k _=>impl_isParticle.G hE pv k) (f:=110) (fn:=Tryz.f110) (by kernel_rfl) rfl (by kernel_rfl) (by kernel_rfl) (lt:=impl_isParticle.L) (by kernel_rfl) (fun b A h=>by
  unfold impl_isParticle.L at h; split at h
  ·cases h; exact ⟨by kernel_rfl,by kernel_rfl,by kernel_rfl,fun _=>rfl,fun _=>rfl,fun _=>rfl⟩
  ·cases h; exact ⟨by kernel_rfl,by kernel_rfl,by kernel_rfl,fun _=>rfl,fun _=>rfl,fun _=>rfl⟩
  ·cases h) (fun b A h=>by
  unfold impl_isParticle.L at h; split at h
  ·cases h; exact fun k x=>impl_isParticle.step2 k x.1 x.2.1 x.2.2.1 x.2.2.2.2.1 x.2.2.2.2.2.1
  ·cases h; exact fun k x=>impl_isParticle.step0 k x.1 x.2.2.1 x.2.2.2.1
  ·cases h) ((impl_isParticle.run k a0).trans h) (fun r hr=>wk_view1 hr)
def slices_IndexFunc_string_f108.l0:Nat->(List ByteArray)->Int->Int->Option (Sum Int Unit)
 | 0,_,_,_=>none
 | k+1,x0,x7,x8=>bif (decide (x8<x7)) then (bif decide (0<=x8) then (bif decide (x8<(x0.length:Int)) then ((impl_IsValidName_1.F k (x0.getD (x8:Int).toNat (⟨#[]⟩:ByteArray))).bind fun r1=>bif r1 then (some (.inl x8)) else (slices_IndexFunc_string_f108.l0 k x0 x7 (IntKind.wrap .i64 (x8+1)))) else none) else none) else (some (.inr ()))
def slices_IndexFunc_string_f108.F (k:Nat) (a0:List ByteArray):Option (Int):=(slices_IndexFunc_string_f108.l0 k a0 (a0.length:Int) 0).bind fun y2=>match y2 with | .inl z3=>some z3 | .inr z3=>some (-1)
def slices_IndexFunc_string_f108.C (k:Nat):Cal->Option CArm:=fun c=>match c with
 | .f 108=>some (.p [.str] _ (fun x=>impl_IsValidName_1.F k x.1) (fun r=>(.t .bool r)))
 | _=>none
def slices_IndexFunc_string_f108.sp0:List Sp:=[.t 0 (.sl .str),.con 1 (.clo 108),.t 7 (.int .i64),.t 8 (.int .i64)]
def slices_IndexFunc_string_f108.sp0_0:List Sp:=[.t 4 (.int .i64)]
def slices_IndexFunc_string_f108.sp0_1:List Sp:=[]
def slices_IndexFunc_string_f108.A0:LArm:=.two slices_IndexFunc_string_f108.sp0 slices_IndexFunc_string_f108.sp0_0 slices_IndexFunc_string_f108.sp0_1 (Int) (Unit) (fun k x=>slices_IndexFunc_string_f108.l0 k x.1 x.2.2.1 x.2.2.2.1) .ret (.exit 0) (fun y=>(y,())) (fun x=>x.1) (fun y=>()) (fun x=>())
def slices_IndexFunc_string_f108.L:Nat->Option LArm:=fun b=>match b with
 | 0=>some slices_IndexFunc_string_f108.A0
 | _=>none
theorem slices_IndexFunc_string_f108.run (k:Nat) (a0:List ByteArray):runF envX (tabC (slices_IndexFunc_string_f108.C k)) (tabL 19 k slices_IndexFunc_string_f108.L) Tryz.f115 [.t (.sl .str) a0,.clo 108 []] (viewR1 (.t (.int .i64)))=slices_IndexFunc_string_f108.F k a0:=by kernel_rfl
theorem slices_IndexFunc_string_f108.step0 (k:Nat) (x0:List ByteArray) (x7:Int) (x8:Int):runC envX (tabC (slices_IndexFunc_string_f108.C k)) (tabL 19 k slices_IndexFunc_string_f108.L) 0 (loopAt Tryz.f115 0) (stOf 19 slices_IndexFunc_string_f108.sp0 (x0,(),x7,x8,())) (slices_IndexFunc_string_f108.A0.cont 19 k)=slices_IndexFunc_string_f108.l0 (k+1) x0 x7 x8:=by kernel_rfl
theorem slices_IndexFunc_string_f108.G (hE:EnvOk Tryz.prog envX) (pv:Nat->Value) (k:Nat):∀ cal A,slices_IndexFunc_string_f108.C k cal=some A->ArmOk Tryz.prog envX pv cal A:=by
 intro cal A h
 unfold slices_IndexFunc_string_f108.C at h
 split at h
 ·cases h; exact fun x y hy=>impl_IsValidName_1.good hE pv k x.1 hy
 ·cases h
theorem slices_IndexFunc_string_f108.good (hE:EnvOk Tryz.prog envX) (pv:Nat->Value) (k:Nat) (a0:List ByteArray) {y:_} (h:slices_IndexFunc_string_f108.F k a0=some y):Meets Tryz.prog envX pv (.f 115) (pvals [.t (.sl .str),.clo 108 []] (a0,(()),())) (.t (.int .i64) y) :=
 fun_loops hE (t:=slices_IndexFunc_string_f108.C) k (fun k _=>slices_IndexFunc_string_f108.G hE pv k) (f:=115) (fn:=Tryz.f115) (by kernel_rfl) rfl (by kernel_rfl) (by kernel_rfl) (lt:=slices_IndexFunc_string_f108.L) (by kernel_rfl) (fun b A h=>by
  unfold slices_IndexFunc_string_f108.L at h; split at h
  ·cases h; exact ⟨by kernel_rfl,by kernel_rfl,by kernel_rfl,fun _=>rfl,fun _=>rfl,fun _=>rfl⟩
  ·cases h) (fun b A h=>by
  unfold slices_IndexFunc_string_f108.L at h; split at h
  ·cases h; exact fun k x=>slices_IndexFunc_string_f108.step0 k x.1 x.2.2.1 x.2.2.2.1
  ·cases h) ((slices_IndexFunc_string_f108.run k a0).trans h) (fun r hr=>wk_view1 hr)
def slices_ContainsFunc_string_f108.F (k:Nat) (a0:List ByteArray):Option (Bool):=(slices_IndexFunc_string_f108.F k a0).bind fun r1=>some (decide (r1 ≥ 0))
def slices_ContainsFunc_string_f108.C (k:Nat):Cal->Option CArm:=fun c=>match c with
 | .f 115=>some (.q [.t (.sl .str),.clo 108 []] _ (fun x=>slices_IndexFunc_string_f108.F k x.1) (fun r=>(.t (.int .i64) r)))
 | _=>none
theorem slices_ContainsFunc_string_f108.run (k:Nat) (a0:List ByteArray):runF envX (tabC (slices_ContainsFunc_string_f108.C k)) (tabL 9 0 (fun _=>none)) Tryz.f107 [.t (.sl .str) a0,.clo 108 []] (viewR1 (.t .bool))=slices_ContainsFunc_string_f108.F k a0:=by kernel_rfl
theorem slices_ContainsFunc_string_f108.G (hE:EnvOk Tryz.prog envX) (pv:Nat->Value) (k:Nat):∀ cal A,slices_ContainsFunc_string_f108.C k cal=some A->ArmOk Tryz.prog envX pv cal A:=by
 intro cal A h
 unfold slices_ContainsFunc_string_f108.C at h
 split at h
 ·cases h; exact fun x y hy=>slices_IndexFunc_string_f108.good hE pv k x.1 hy
 ·cases h
theorem slices_ContainsFunc_string_f108.good (hE:EnvOk Tryz.prog envX) (pv:Nat->Value) (k:Nat) (a0:List ByteArray) {y:_} (h:slices_ContainsFunc_string_f108.F k a0=some y):Meets Tryz.prog envX pv (.f 107) (pvals [.t (.sl .str),.clo 108 []] (a0,(()),())) (.t .bool y) :=
 fun_plain hE (slices_ContainsFunc_string_f108.G hE pv k) (f:=107) (fn:=Tryz.f107) (by kernel_rfl) rfl (by kernel_rfl) (by kernel_rfl) ((slices_ContainsFunc_string_f108.run k a0).trans h) (fun r hr=>wk_view1 hr)
def impl_IsValidName.F (k:Nat) (a0:Name):Option (Bool):=bif (decide ((a0.given.length:Int) > 3)) then (some false) else ((slices_ContainsFunc_string_f108.F k a0.given).bind fun r1=>bif r1 then (some false) else ((impl_isParticle.F k a0.particle).bind fun r2=>bif r2 then ((impl_isGreatWord.F k a0.family).bind fun r3=>bif r3 then (bif (beqS a0.suffix (⟨#[]⟩:ByteArray)) then (some true) else ((impl_isNameWord.F k a0.suffix).bind fun r4=>some r4)) else (some false)) else (some false)))
def impl_IsValidName.C (k:Nat):Cal->Option CArm:=fun c=>match c with
 | .f 107=>some (.q [.t (.sl .str),.clo 108 []] _ (fun x=>slices_ContainsFunc_string_f108.F k x.1) (fun r=>(.t .bool r)))
 | .f 110=>some (.p [.str] _ (fun x=>impl_isParticle.F k x.1) (fun r=>(.t .bool r)))
 | .f 109=>some (.p [.str] _ (fun x=>impl_isGreatWord.F k x.1) (fun r=>(.t .bool r)))
 | .f 111=>some (.p [.str] _ (fun x=>impl_isNameWord.F k x.1) (fun r=>(.t .bool r)))
 | _=>none
theorem impl_IsValidName.run (k:Nat) (a0:Name):runF envX (tabC (impl_IsValidName.C k)) (tabL 30 0 (fun _=>none)) Tryz.f98 [.t .name a0] (viewR1 (.t .bool))=impl_IsValidName.F k a0:=by kernel_rfl
theorem impl_IsValidName.G (hE:EnvOk Tryz.prog envX) (pv:Nat->Value) (k:Nat):∀ cal A,impl_IsValidName.C k cal=some A->ArmOk Tryz.prog envX pv cal A:=by
 intro cal A h
 unfold impl_IsValidName.C at h
 split at h
 ·cases h; exact fun x y hy=>slices_ContainsFunc_string_f108.good hE pv k x.1 hy
 ·cases h; exact fun x y hy=>impl_isParticle.good hE pv k x.1 hy
 ·cases h; exact fun x y hy=>impl_isGreatWord.good hE pv k x.1 hy
 ·cases h; exact fun x y hy=>impl_isNameWord.good hE pv k x.1 hy
 ·cases h
theorem impl_IsValidName.good (hE:EnvOk Tryz.prog envX) (pv:Nat->Value) (k:Nat) (a0:Name) {y:_} (h:impl_IsValidName.F k a0=some y):Meets Tryz.prog envX pv (.f 98) (tvals [.name] (a0,())) (.t .bool y) :=
 fun_plain hE (impl_IsValidName.G hE pv k) (f:=98) (fn:=Tryz.f98) (by kernel_rfl) rfl (by kernel_rfl) (by kernel_rfl) ((impl_IsValidName.run k a0).trans h) (fun r hr=>wk_view1 hr)
def impl_areNames_1.F (k:Nat) (a0:Name):Option (Bool):=(impl_IsValidName.F k a0).bind fun r1=>some (!r1)
def impl_areNames_1.C (k:Nat):Cal->Option CArm:=fun c=>match c with
 | .f 98=>some (.p [.name] _ (fun x=>impl_IsValidName.F k x.1) (fun r=>(.t .bool r)))
 | _=>none
theorem impl_areNames_1.run (k:Nat) (a0:Name):runF envX (tabC (impl_areNames_1.C k)) (tabL 6 0 (fun _=>none)) Tryz.f97 [.t .name a0] (viewR1 (.t .bool))=impl_areNames_1.F k a0:=by kernel_rfl
theorem impl_areNames_1.G (hE:EnvOk Tryz.prog envX) (pv:Nat->Value) (k:Nat):∀ cal A,impl_areNames_1.C k cal=some A->ArmOk Tryz.prog envX pv cal A:=by
 intro cal A h
 unfold impl_areNames_1.C at h
 split at h
 ·cases h; exact fun x y hy=>impl_IsValidName.good hE pv k x.1 hy
 ·cases h
theorem impl_areNames_1.good (hE:EnvOk Tryz.prog envX) (pv:Nat->Value) (k:Nat) (a0:Name) {y:_} (h:impl_areNames_1.F k a0=some y):Meets Tryz.prog envX pv (.f 97) (tvals [.name] (a0,())) (.t .bool y) :=
 fun_plain hE (impl_areNames_1.G hE pv k) (f:=97) (fn:=Tryz.f97) (by kernel_rfl) rfl (by kernel_rfl) (by kernel_rfl) ((impl_areNames_1.run k a0).trans h) (fun r hr=>wk_view1 hr)
def slices_IndexFunc_Name_f97.l0:Nat->(List Name)->Int->Int->Option (Sum Int Unit)
 | 0,_,_,_=>none
 | k+1,x0,x7,x8=>bif (decide (x8<x7)) then (bif decide (0<=x8) then (bif decide (x8<(x0.length:Int)) then ((impl_areNames_1.F k (x0.getD (x8:Int).toNat (dflt .name))).bind fun r1=>bif r1 then (some (.inl x8)) else (slices_IndexFunc_Name_f97.l0 k x0 x7 (IntKind.wrap .i64 (x8+1)))) else none) else none) else (some (.inr ()))
def slices_IndexFunc_Name_f97.F (k:Nat) (a0:List Name):Option (Int):=(slices_IndexFunc_Name_f97.l0 k a0 (a0.length:Int) 0).bind fun y2=>match y2 with | .inl z3=>some z3 | .inr z3=>some (-1)
def slices_IndexFunc_Name_f97.C (k:Nat):Cal->Option CArm:=fun c=>match c with
 | .f 97=>some (.p [.name] _ (fun x=>impl_areNames_1.F k x.1) (fun r=>(.t .bool r)))
 | _=>none
def slices_IndexFunc_Name_f97.sp0:List Sp:=[.t 0 (.sl .name),.con 1 (.clo 97),.t 7 (.int .i64),.t 8 (.int .i64)]
def slices_IndexFunc_Name_f97.sp0_0:List Sp:=[.t 4 (.int .i64)]
def slices_IndexFunc_Name_f97.sp0_1:List Sp:=[]
def slices_IndexFunc_Name_f97.A0:LArm:=.two slices_IndexFunc_Name_f97.sp0 slices_IndexFunc_Name_f97.sp0_0 slices_IndexFunc_Name_f97.sp0_1 (Int) (Unit) (fun k x=>slices_IndexFunc_Name_f97.l0 k x.1 x.2.2.1 x.2.2.2.1) .ret (.exit 0) (fun y=>(y,())) (fun x=>x.1) (fun y=>()) (fun x=>())
def slices_IndexFunc_Name_f97.L:Nat->Option LArm:=fun b=>match b with
 | 0=>some slices_IndexFunc_Name_f97.A0
 | _=>none
theorem slices_IndexFunc_Name_f97.run (k:Nat) (a0:List Name):runF envX (tabC (slices_IndexFunc_Name_f97.C k)) (tabL 19 k slices_IndexFunc_Name_f97.L) Tryz.f106 [.t (.sl .name) a0,.clo 97 []] (viewR1 (.t (.int .i64)))=slices_IndexFunc_Name_f97.F k a0:=by kernel_rfl
theorem slices_IndexFunc_Name_f97.step0 (k:Nat) (x0:List Name) (x7:Int) (x8:Int):runC envX (tabC (slices_IndexFunc_Name_f97.C k)) (tabL 19 k slices_IndexFunc_Name_f97.L) 0 (loopAt Tryz.f106 0) (stOf 19 slices_IndexFunc_Name_f97.sp0 (x0,(),x7,x8,())) (slices_IndexFunc_Name_f97.A0.cont 19 k)=slices_IndexFunc_Name_f97.l0 (k+1) x0 x7 x8:=by kernel_rfl
theorem slices_IndexFunc_Name_f97.G (hE:EnvOk Tryz.prog envX) (pv:Nat->Value) (k:Nat):∀ cal A,slices_IndexFunc_Name_f97.C k cal=some A->ArmOk Tryz.prog envX pv cal A:=by
 intro cal A h
 unfold slices_IndexFunc_Name_f97.C at h
 split at h
 ·cases h; exact fun x y hy=>impl_areNames_1.good hE pv k x.1 hy
 ·cases h
theorem slices_IndexFunc_Name_f97.good (hE:EnvOk Tryz.prog envX) (pv:Nat->Value) (k:Nat) (a0:List Name) {y:_} (h:slices_IndexFunc_Name_f97.F k a0=some y):Meets Tryz.prog envX pv (.f 106) (pvals [.t (.sl .name),.clo 97 []] (a0,(()),())) (.t (.int .i64) y) :=
 fun_loops hE (t:=slices_IndexFunc_Name_f97.C) k (fun k _=>slices_IndexFunc_Name_f97.G hE pv k) (f:=106) (fn:=Tryz.f106) (by kernel_rfl) rfl (by kernel_rfl) (by kernel_rfl) (lt:=slices_IndexFunc_Name_f97.L) (by kernel_rfl) (fun b A h=>by
  unfold slices_IndexFunc_Name_f97.L at h; split at h
  ·cases h; exact ⟨by kernel_rfl,by kernel_rfl,by kernel_rfl,fun _=>rfl,fun _=>rfl,fun _=>rfl⟩
  ·cases h) (fun b A h=>by
  unfold slices_IndexFunc_Name_f97.L at h; split at h
  ·cases h; exact fun k x=>slices_IndexFunc_Name_f97.step0 k x.1 x.2.2.1 x.2.2.2.1
  ·cases h) ((slices_IndexFunc_Name_f97.run k a0).trans h) (fun r hr=>wk_view1 hr)
def slices_ContainsFunc_Name_f97.F (k:Nat) (a0:List Name):Option (Bool):=(slices_IndexFunc_Name_f97.F k a0).bind fun r1=>some (decide (r1 ≥ 0))
def slices_ContainsFunc_Name_f97.C (k:Nat):Cal->Option CArm:=fun c=>match c with
 | .f 106=>some (.q [.t (.sl .name),.clo 97 []] _ (fun x=>slices_IndexFunc_Name_f97.F k x.1) (fun r=>(.t (.int .i64) r)))
 | _=>none
theorem slices_ContainsFunc_Name_f97.run (k:Nat) (a0:List Name):runF envX (tabC (slices_ContainsFunc_Name_f97.C k)) (tabL 9 0 (fun _=>none)) Tryz.f96 [.t (.sl .name) a0,.clo 97 []] (viewR1 (.t .bool))=slices_ContainsFunc_Name_f97.F k a0:=by kernel_rfl
theorem slices_ContainsFunc_Name_f97.G (hE:EnvOk Tryz.prog envX) (pv:Nat->Value) (k:Nat):∀ cal A,slices_ContainsFunc_Name_f97.C k cal=some A->ArmOk Tryz.prog envX pv cal A:=by
 intro cal A h
 unfold slices_ContainsFunc_Name_f97.C at h
 split at h
 ·cases h; exact fun x y hy=>slices_IndexFunc_Name_f97.good hE pv k x.1 hy
 ·cases h
theorem slices_ContainsFunc_Name_f97.good (hE:EnvOk Tryz.prog envX) (pv:Nat->Value) (k:Nat) (a0:List Name) {y:_} (h:slices_ContainsFunc_Name_f97.F k a0=some y):Meets Tryz.prog envX pv (.f 96) (pvals [.t (.sl .name),.clo 97 []] (a0,(()),())) (.t .bool y) :=
 fun_plain hE (slices_ContainsFunc_Name_f97.G hE pv k) (f:=96) (fn:=Tryz.f96) (by kernel_rfl) rfl (by kernel_rfl) (by kernel_rfl) ((slices_ContainsFunc_Name_f97.run k a0).trans h) (fun r hr=>wk_view1 hr)
def impl_areNames.F (k:Nat) (a0:List Name):Option (Bool):=bif (decide ((a0.length:Int)<=4)) then ((slices_ContainsFunc_Name_f97.F k a0).bind fun r1=>some (!r1)) else (some false)
def impl_areNames.C (k:Nat):Cal->Option CArm:=fun c=>match c with
 | .f 96=>some (.q [.t (.sl .name),.clo 97 []] _ (fun x=>slices_ContainsFunc_Name_f97.F k x.1) (fun r=>(.t .bool r)))
 | _=>none
theorem impl_areNames.run (k:Nat) (a0:List Name):runF envX (tabC (impl_areNames.C k)) (tabL 11 0 (fun _=>none)) Tryz.f72 [.t (.sl .name) a0] (viewR1 (.t .bool))=impl_areNames.F k a0:=by kernel_rfl
theorem impl_areNames.G (hE:EnvOk Tryz.prog envX) (pv:Nat->Value) (k:Nat):∀ cal A,impl_areNames.C k cal=some A->ArmOk Tryz.prog envX pv cal A:=by
 intro cal A h
 unfold impl_areNames.C at h
 split at h
 ·cases h; exact fun x y hy=>slices_ContainsFunc_Name_f97.good hE pv k x.1 hy
 ·cases h
theorem impl_areNames.good (hE:EnvOk Tryz.prog envX) (pv:Nat->Value) (k:Nat) (a0:List Name) {y:_} (h:impl_areNames.F k a0=some y):Meets Tryz.prog envX pv (.f 72) (tvals [(.sl .name)] (a0,())) (.t .bool y) :=
 fun_plain hE (impl_areNames.G hE pv k) (f:=72) (fn:=Tryz.f72) (by kernel_rfl) rfl (by kernel_rfl) (by kernel_rfl) ((impl_areNames.run k a0).trans h) (fun r hr=>wk_view1 hr)
def impl_daysInMonth.F (a0:Int) (a1:Int):Option (Int):=bif (a1==2) then (bif (4==0) then (none) else (bif ((Int.tmod a0 4)==0) then (bif (100==0) then (none) else (bif ((Int.tmod a0 100) != 0) then (some 29) else (bif (400==0) then (none) else (bif ((Int.tmod a0 400)==0) then (some 29) else (some 28))))) else (some 28))) else (bif (a1==4) then (bif (a1==4) then (some 30) else (some 31)) else (bif (a1==6) then (bif (a1==6) then (some 30) else (some 31)) else (bif (a1==9) then (bif (a1==9) then (some 30) else (some 31)) else (bif (a1==11) then (some 30) else (some 31)))))
def impl_daysInMonth.C:Cal->Option CArm:=fun c=>match c with
 | _=>none
theorem impl_daysInMonth.run (a0:Int) (a1:Int):runF envX (tabC impl_daysInMonth.C) (tabL 26 0 (fun _=>none)) Tryz.f99 [.t (.int .i64) a0,.t (.int .i64) a1] (viewR1 (.t (.int .i64)))=impl_daysInMonth.F a0 a1:=by kernel_rfl
theorem impl_daysInMonth.G (hE:EnvOk Tryz.prog envX) (pv:Nat->Value):∀ cal A,impl_daysInMonth.C cal=some A->ArmOk Tryz.prog envX pv cal A:=by
 intro cal A h
 unfold impl_daysInMonth.C at h
 cases h
theorem impl_daysInMonth.good (hE:EnvOk Tryz.prog envX) (pv:Nat->Value) (a0:Int) (a1:Int) {y:_} (h:impl_daysInMonth.F a0 a1=some y):Meets Tryz.prog envX pv (.f 99) (tvals [(.int .i64),(.int .i64)] (a0,a1,())) (.t (.int .i64) y) :=
 fun_plain hE (impl_daysInMonth.G hE pv) (f:=99) (fn:=Tryz.f99) (by kernel_rfl) rfl (by kernel_rfl) (by kernel_rfl) ((impl_daysInMonth.run a0 a1).trans h) (fun r hr=>wk_view1 hr)
def impl_IsValidDate.F (a0:Date):Option (Bool):=bif ((a0.y==0 && (a0.m==0 && (a0.d==0 && a0.c==false)))) then (some true) else ((impl_inside.F a0.y 1 2999).bind fun r1=>bif (!r1) then (some false) else ((impl_inside.F a0.m 0 12).bind fun r2=>bif (!r2) then (some false) else (bif a0.c then (bif (a0.m != 0) then (some false) else (bif (a0.m==0) then (some (a0.d==0)) else ((impl_daysInMonth.F a0.y a0.m).bind fun r3=>(impl_inside.F a0.d 0 r3).bind fun r4=>some r4))) else (bif (a0.m==0) then (some (a0.d==0)) else ((impl_daysInMonth.F a0.y a0.m).bind fun r5=>(impl_inside.F a0.d 0 r5).bind fun r6=>some r6)))))
def impl_IsValidDate.C:Cal->Option CArm:=fun c=>match c with
 | .f 74=>some (.p [(.int .i64),(.int .i64),(.int .i64)] _ (fun x=>impl_inside.F x.1 x.2.1 x.2.2.1) (fun r=>(.t .bool r)))
 | .f 99=>some (.p [(.int .i64),(.int .i64)] _ (fun x=>impl_daysInMonth.F x.1 x.2.1) (fun r=>(.t (.int .i64) r)))
 | _=>none
theorem impl_IsValidDate.run (a0:Date):runF envX (tabC impl_IsValidDate.C) (tabL 39 0 (fun _=>none)) Tryz.f73 [.t .date a0] (viewR1 (.t .bool))=impl_IsValidDate.F a0:=by kernel_rfl
theorem impl_IsValidDate.G (hE:EnvOk Tryz.prog envX) (pv:Nat->Value):∀ cal A,impl_IsValidDate.C cal=some A->ArmOk Tryz.prog envX pv cal A:=by
 intro cal A h
 unfold impl_IsValidDate.C at h
 split at h
 ·cases h; exact fun x y hy=>impl_inside.good hE pv x.1 x.2.1 x.2.2.1 hy
 ·cases h; exact fun x y hy=>impl_daysInMonth.good hE pv x.1 x.2.1 hy
 ·cases h
theorem impl_IsValidDate.good (hE:EnvOk Tryz.prog envX) (pv:Nat->Value) (a0:Date) {y:_} (h:impl_IsValidDate.F a0=some y):Meets Tryz.prog envX pv (.f 73) (tvals [.date] (a0,())) (.t .bool y) :=
 fun_plain hE (impl_IsValidDate.G hE pv) (f:=73) (fn:=Tryz.f73) (by kernel_rfl) rfl (by kernel_rfl) (by kernel_rfl) ((impl_IsValidDate.run a0).trans h) (fun r hr=>wk_view1 hr)
def strings_Trim.F (a0:ByteArray) (a1:ByteArray):Option (ByteArray):=xTrim1 a0 a1
theorem strings_Trim.good (hE:EnvOk Tryz.prog envX) (pv:Nat->Value) (a0:ByteArray) (a1:ByteArray) {y:_} (h:strings_Trim.F a0 a1=some y):Meets Tryz.prog envX pv (.f 112) (tvals [.str,.str] (a0,a1,())) (.t .str y) :=
 ext_trim1 (fn:=Tryz.f112) (by kernel_rfl) rfl (by kernel_rfl) Tryz.strings_Trim_one h
def impl_isPrintable.l0:Nat->ByteArray->Int->Option (Sum Bool ByteArray)
 | 0,_,_=>none
 | k+1,x0,x3=>bif (decide (x3<(x0.size:Int))) then (bif decide (0<=x3) then (bif decide (x3<(x0.size:Int)) then (bif (decide ((bt x0 (x3:Int).toNat)<32)) then (some (.inl false)) else (bif decide (0<=x3) then (bif decide (x3<(x0.size:Int)) then (bif (decide ((bt x0 (x3:Int).toNat) > 126)) then (some (.inl false)) else (impl_isPrintable.l0 k x0 (IntKind.wrap .i64 (x3+1)))) else none) else none)) else none) else none) else (some (.inr x0))
def impl_isPrintable.F (k:Nat) (a0:ByteArray):Option (Bool):=(impl_isPrintable.l0 k a0 0).bind fun y1=>match y1 with | .inl z2=>some z2 | .inr z2=>(strings_Trim.F z2 (⟨#[32]⟩:ByteArray)).bind fun r3=>some (beqS r3 z2)
def impl_isPrintable.C (k:Nat):Cal->Option CArm:=fun c=>match c with
 | .f 112=>some (.p [.str,.str] _ (fun x=>strings_Trim.F x.1 x.2.1) (fun r=>(.t .str r)))
 | _=>none
def impl_isPrintable.sp0:List Sp:=[.t 0 .str,.t 3 (.int .i64)]
def impl_isPrintable.sp0_0:List Sp:=[.t 2 .bool]
def impl_isPrintable.sp0_1:List Sp:=[.t 0 .str]
def impl_isPrintable.A0:LArm:=.two impl_isPrintable.sp0 impl_isPrintable.sp0_0 impl_isPrintable.sp0_1 (Bool) (ByteArray) (fun k x=>impl_isPrintable.l0 k x.1 x.2.1) .ret (.exit 0) (fun y=>(y,())) (fun x=>x.1) (fun y=>(y,())) (fun x=>x.1)
def impl_isPrintable.L:Nat->Option LArm:=fun b=>match b with
 | 0=>some impl_isPrintable.A0
 | _=>none
theorem impl_isPrintable.run (k:Nat) (a0:ByteArray):runF envX (tabC (impl_isPrintable.C k)) (tabL 24 k impl_isPrintable.L) Tryz.f100 [.t .str a0] (viewR1 (.t .bool))=impl_isPrintable.F k a0:=by kernel_rfl
theorem impl_isPrintable.step0 (k:Nat) (x0:ByteArray) (x3:Int):runC envX (tabC (impl_isPrintable.C k)) (tabL 24 k impl_isPrintable.L) 0 (loopAt Tryz.f100 0) (stOf 24 impl_isPrintable.sp0 (x0,x3,())) (impl_isPrintable.A0.cont 24 k)=impl_isPrintable.l0 (k+1) x0 x3:=by kernel_rfl
theorem impl_isPrintable.G (hE:EnvOk Tryz.prog envX) (pv:Nat->Value) (k:Nat):∀ cal A,impl_isPrintable.C k cal=some A->ArmOk Tryz.prog envX pv cal A:=by
 intro cal A h
 unfold impl_isPrintable.C at h
 split at h
 ·cases h; exact fun x y hy=>strings_Trim.good hE pv x.1 x.2.1 hy
 ·cases h
theorem impl_isPrintable.good (hE:EnvOk Tryz.prog envX) (pv:Nat->Value) (k:Nat) (a0:ByteArray) {y:_} (h:impl_isPrintable.F k a0=some y):Meets Tryz.prog envX pv (.f 100) (tvals [.str] (a0,())) (.t .bool y) :=
 fun_loops hE (t:=impl_isPrintable.C) k (fun k _=>impl_isPrintable.G hE pv k) (f:=100) (fn:=Tryz.f100) (by kernel_rfl) rfl (by kernel_rfl) (by kernel_rfl) (lt:=impl_isPrintable.L) (by kernel_rfl) (fun b A h=>by
  unfold impl_isPrintable.L at h; split at h
  ·cases h; exact ⟨by kernel_rfl,by kernel_rfl,by kernel_rfl,fun _=>rfl,fun _=>rfl,fun _=>rfl⟩
  ·cases h) (fun b A h=>by
  unfold impl_isPrintable.L at h; split at h
  ·cases h; exact fun k x=>impl_isPrintable.step0 k x.1 x.2.1
  ·cases h) ((impl_isPrintable.run k a0).trans h) (fun r hr=>wk_view1 hr)
def impl_isText.F (k:Nat) (a0:ByteArray):Option (Bool):=bif (decide ((a0.size:Int)<=40)) then ((impl_isPrintable.F k a0).bind fun r1=>some r1) else (some false)
def impl_isText.C (k:Nat):Cal->Option CArm:=fun c=>match c with
 | .f 100=>some (.p [.str] _ (fun x=>impl_isPrintable.F k x.1) (fun r=>(.t .bool r)))
 | _=>none
theorem impl_isText.run (k:Nat) (a0:ByteArray):runF envX (tabC (impl_isText.C k)) (tabL 10 0 (fun _=>none)) Tryz.f75 [.t .str a0] (viewR1 (.t .bool))=impl_isText.F k a0:=by kernel_rfl
theorem impl_isText.G (hE:EnvOk Tryz.prog envX) (pv:Nat->Value) (k:Nat):∀ cal A,impl_isText.C k cal=some A->ArmOk Tryz.prog envX pv cal A:=by
 intro cal A h
 unfold impl_isText.C at h
 split at h
 ·cases h; exact fun x y hy=>impl_isPrintable.good hE pv k x.1 hy
 ·cases h
theorem impl_isText.good (hE:EnvOk Tryz.prog envX) (pv:Nat->Value) (k:Nat) (a0:ByteArray) {y:_} (h:impl_isText.F k a0=some y):Meets Tryz.prog envX pv (.f 75) (tvals [.str] (a0,())) (.t .bool y) :=
 fun_plain hE (impl_isText.G hE pv k) (f:=75) (fn:=Tryz.f75) (by kernel_rfl) rfl (by kernel_rfl) (by kernel_rfl) ((impl_isText.run k a0).trans h) (fun r hr=>wk_view1 hr)
def impl_IsValidEntry.F (k:Nat) (a0:Entry):Option (Bool):=(impl_isKey.F k a0.key).bind fun r1=>bif (!r1) then (some false) else ((impl_isKind.F a0.kind).bind fun r2=>bif (!r2) then (some false) else ((impl_areNames.F k a0.authors).bind fun r3=>bif (!r3) then (some false) else ((impl_areNames.F k a0.editors).bind fun r4=>bif (!r4) then (some false) else ((impl_IsValidDate.F a0.date).bind fun r5=>bif (!r5) then (some false) else ((impl_inside.F a0.volume 0 9999).bind fun r6=>bif (!r6) then (some false) else ((impl_isText.F k a0.title).bind fun r7=>bif r7 then ((impl_isText.F k a0.container).bind fun r8=>bif r8 then ((impl_isText.F k a0.publisher).bind fun r9=>bif r9 then ((impl_isText.F k a0.pages).bind fun r10=>bif r10 then (bif (beqS a0.cross (⟨#[]⟩:ByteArray)) then (some true) else ((impl_isKey.F k a0.cross).bind fun r11=>bif r11 then (some (!beqS a0.cross a0.key)) else (some false))) else (some false)) else (some false)) else (some false)) else (some false)))))))
def impl_IsValidEntry.C (k:Nat):Cal->Option CArm:=fun c=>match c with
 | .f 70=>some (.p [.str] _ (fun x=>impl_isKey.F k x.1) (fun r=>(.t .bool r)))
 | .f 71=>some (.p [(.int .i64)] _ (fun x=>impl_isKind.F x.1) (fun r=>(.t .bool r)))
 | .f 72=>some (.p [(.sl .name)] _ (fun x=>impl_areNames.F k x.1) (fun r=>(.t .bool r)))
 | .f 73=>some (.p [.date] _ (fun x=>impl_IsValidDate.F x.1) (fun r=>(.t .bool r)))
 | .f 74=>some (.p [(.int .i64),(.int .i64),(.int .i64)] _ (fun x=>impl_inside.F x.1 x.2.1 x.2.2.1) (fun r=>(.t .bool r)))
 | .f 75=>some (.p [.str] _ (fun x=>impl_isText.F k x.1) (fun r=>(.t .bool r)))
 | _=>none
theorem impl_IsValidEntry.run (k:Nat) (a0:Entry):runF envX (tabC (impl_IsValidEntry.C k)) (tabL 72 0 (fun _=>none)) Tryz.f33 [.t .entry a0] (viewR1 (.t .bool))=impl_IsValidEntry.F k a0:=by kernel_rfl
theorem impl_IsValidEntry.G (hE:EnvOk Tryz.prog envX) (pv:Nat->Value) (k:Nat):∀ cal A,impl_IsValidEntry.C k cal=some A->ArmOk Tryz.prog envX pv cal A:=by
 intro cal A h
 unfold impl_IsValidEntry.C at h
 split at h
 ·cases h; exact fun x y hy=>impl_isKey.good hE pv k x.1 hy
 ·cases h; exact fun x y hy=>impl_isKind.good hE pv x.1 hy
 ·cases h; exact fun x y hy=>impl_areNames.good hE pv k x.1 hy
 ·cases h; exact fun x y hy=>impl_IsValidDate.good hE pv x.1 hy
 ·cases h; exact fun x y hy=>impl_inside.good hE pv x.1 x.2.1 x.2.2.1 hy
 ·cases h; exact fun x y hy=>impl_isText.good hE pv k x.1 hy
 ·cases h
theorem impl_IsValidEntry.good (hE:EnvOk Tryz.prog envX) (pv:Nat->Value) (k:Nat) (a0:Entry) {y:_} (h:impl_IsValidEntry.F k a0=some y):Meets Tryz.prog envX pv (.f 33) (tvals [.entry] (a0,())) (.t .bool y) :=
 fun_plain hE (impl_IsValidEntry.G hE pv k) (f:=33) (fn:=Tryz.f33) (by kernel_rfl) rfl (by kernel_rfl) (by kernel_rfl) ((impl_IsValidEntry.run k a0).trans h) (fun r hr=>wk_view1 hr)
def impl_IsValidLibrary.l0:Nat->Library->(List Entry)->Int->Int->Option (Sum Bool Library)
 | 0,_,_,_,_=>none
 | k+1,x1,x6,x7,x8=>bif (decide (x8<x7)) then (bif decide (0<=x8) then (bif decide (x8<(x6.length:Int)) then ((impl_IsValidEntry.F k (x6.getD (x8:Int).toNat (dflt .entry))).bind fun r1=>bif (!r1) then (some (.inl false)) else (bif (decide (x8 > 0)) then (bif decide (0<=(IntKind.wrap .i64 (x8-1))) then (bif decide ((IntKind.wrap .i64 (x8-1))<(x1.entries.length:Int)) then (bif (!ltS ((x1.entries.getD ((IntKind.wrap .i64 (x8-1)):Int).toNat (dflt .entry)).key) ((x6.getD (x8:Int).toNat (dflt .entry)).key)) then (some (.inl false)) else (impl_IsValidLibrary.l0 k x1 x6 x7 (IntKind.wrap .i64 (x8+1)))) else none) else none) else (impl_IsValidLibrary.l0 k x1 x6 x7 (IntKind.wrap .i64 (x8+1))))) else none) else none) else (some (.inr x1))
def impl_IsValidLibrary.F (k:Nat) (a0:Library):Option (Bool):=(impl_IsValidLibrary.l0 k a0 a0.entries (a0.entries.length:Int) 0).bind fun y2=>match y2 with | .inl z3=>some z3 | .inr z3=>some (decide ((z3.entries.length:Int)<=8))
def impl_IsValidLibrary.C (k:Nat):Cal->Option CArm:=fun c=>match c with
 | .f 33=>some (.p [.entry] _ (fun x=>impl_IsValidEntry.F k x.1) (fun r=>(.t .bool r)))
 | _=>none
def impl_IsValidLibrary.sp0:List Sp:=[.boxT 1 0 .lib,.t 6 (.sl .entry),.t 7 (.int .i64),.t 8 (.int .i64)]
def impl_IsValidLibrary.sp0_0:List Sp:=[.t 2 .bool]
def impl_IsValidLibrary.sp0_1:List Sp:=[.boxT 1 0 .lib]
def impl_IsValidLibrary.A0:LArm:=.two impl_IsValidLibrary.sp0 impl_IsValidLibrary.sp0_0 impl_IsValidLibrary.sp0_1 (Bool) (Library) (fun k x=>impl_IsValidLibrary.l0 k x.1 x.2.1 x.2.2.1 x.2.2.2.1) .ret (.exit 0) (fun y=>(y,())) (fun x=>x.1) (fun y=>(y,())) (fun x=>x.1)
def impl_IsValidLibrary.L:Nat->Option LArm:=fun b=>match b with
 | 0=>some impl_IsValidLibrary.A0
 | _=>none
theorem impl_IsValidLibrary.run (k:Nat) (a0:Library):runF envX (tabC (impl_IsValidLibrary.C k)) (tabL 37 k impl_IsValidLibrary.L) Tryz.f44 [.t .lib a0] (viewR1 (.t .bool))=impl_IsValidLibrary.F k a0:=by kernel_rfl
theorem impl_IsValidLibrary.step0 (k:Nat) (x1:Library) (x6:List Entry) (x7:Int) (x8:Int):runC envX (tabC (impl_IsValidLibrary.C k)) (tabL 37 k impl_IsValidLibrary.L) 0 (loopAt Tryz.f44 0) (stOf 37 impl_IsValidLibrary.sp0 (x1,x6,x7,x8,())) (impl_IsValidLibrary.A0.cont 37 k)=impl_IsValidLibrary.l0 (k+1) x1 x6 x7 x8:=by kernel_rfl
theorem impl_IsValidLibrary.G (hE:EnvOk Tryz.prog envX) (pv:Nat->Value) (k:Nat):∀ cal A,impl_IsValidLibrary.C k cal=some A->ArmOk Tryz.prog envX pv cal A:=by
 intro cal A h
 unfold impl_IsValidLibrary.C at h
 split at h
 ·cases h; exact fun x y hy=>impl_IsValidEntry.good hE pv k x.1 hy
 ·cases h
theorem impl_IsValidLibrary.good (hE:EnvOk Tryz.prog envX) (pv:Nat->Value) (k:Nat) (a0:Library) {y:_} (h:impl_IsValidLibrary.F k a0=some y):Meets Tryz.prog envX pv (.f 44) (tvals [.lib] (a0,())) (.t .bool y) :=
 fun_loops hE (t:=impl_IsValidLibrary.C) k (fun k _=>impl_IsValidLibrary.G hE pv k) (f:=44) (fn:=Tryz.f44) (by kernel_rfl) rfl (by kernel_rfl) (by kernel_rfl) (lt:=impl_IsValidLibrary.L) (by kernel_rfl) (fun b A h=>by
  unfold impl_IsValidLibrary.L at h; split at h
  ·cases h; exact ⟨by kernel_rfl,by kernel_rfl,by kernel_rfl,fun _=>rfl,fun _=>rfl,fun _=>rfl⟩
  ·cases h) (fun b A h=>by
  unfold impl_IsValidLibrary.L at h; split at h
  ·cases h; exact fun k x=>impl_IsValidLibrary.step0 k x.1 x.2.1 x.2.2.1 x.2.2.2.1
  ·cases h) ((impl_IsValidLibrary.run k a0).trans h) (fun r hr=>wk_view1 hr)
-- NO 85 slices.IndexFunc[[]loop.example/g00896/impl.Entry,loop.example/g00896/impl.Entry]: a parameter's type
-- NO 86 loop.example/g00896/impl.entryIndex$1: load from tup
def impl_entryIndex_1.F (a0:Entry) (a1:ByteArray):Option (Bool):=some (beqS a0.key a1)
def impl_entryIndex_1.C:Cal->Option CArm:=fun c=>match c with
 | _=>none
theorem impl_entryIndex_1.run (a0:Entry) (a1:ByteArray):runF envX (tabC impl_entryIndex_1.C) (tabL 8 0 (fun _=>none)) Tryz.f86 [.t .entry a0,.tp (.t .str a1)] (viewR1 (.t .bool))=impl_entryIndex_1.F a0 a1:=by kernel_rfl
theorem impl_entryIndex_1.G (hE:EnvOk Tryz.prog envX) (pv:Nat->Value):∀ cal A,impl_entryIndex_1.C cal=some A->ArmOk Tryz.prog envX pv cal A:=by
 intro cal A h
 unfold impl_entryIndex_1.C at h
 cases h
theorem impl_entryIndex_1.good (hE:EnvOk Tryz.prog envX) (pv:Nat->Value) (a0:Entry) (a1:ByteArray) {y:_} (h:impl_entryIndex_1.F a0 a1=some y):Meets Tryz.prog envX pv (.f 86) (pvals [.t .entry,.tp .str] (a0,a1,())) (.t .bool y) :=
 fun_plain hE (impl_entryIndex_1.G hE pv) (f:=86) (fn:=Tryz.f86) (by kernel_rfl) rfl (by kernel_rfl) (by kernel_rfl) ((impl_entryIndex_1.run a0 a1).trans h) (fun r hr=>wk_view1 hr)
def slices_IndexFunc_Entry_f86.l0:Nat->(List Entry)->ByteArray->Int->Int->Option (Sum Int Unit)
 | 0,_,_,_,_=>none
 | k+1,x0,x1,x7,x8=>bif (decide (x8<x7)) then (bif decide (0<=x8) then (bif decide (x8<(x0.length:Int)) then ((impl_entryIndex_1.F (x0.getD (x8:Int).toNat (dflt .entry)) x1).bind fun r1=>bif r1 then (some (.inl x8)) else (slices_IndexFunc_Entry_f86.l0 k x0 x1 x7 (IntKind.wrap .i64 (x8+1)))) else none) else none) else (some (.inr ()))
def slices_IndexFunc_Entry_f86.F (k:Nat) (a0:List Entry) (a1c0:ByteArray):Option (Int):=(slices_IndexFunc_Entry_f86.l0 k a0 a1c0 (a0.length:Int) 0).bind fun y2=>match y2 with | .inl z3=>some z3 | .inr z3=>some (-1)
def slices_IndexFunc_Entry_f86.C (k:Nat):Cal->Option CArm:=fun c=>match c with
 | .f 86=>some (.q [.t .entry,.tp .str] _ (fun x=>impl_entryIndex_1.F x.1 x.2.1) (fun r=>(.t .bool r)))
 | _=>none
def slices_IndexFunc_Entry_f86.sp0:List Sp:=[.t 0 (.sl .entry),.cl 1 86 [.tp .str],.t 7 (.int .i64),.t 8 (.int .i64)]
def slices_IndexFunc_Entry_f86.sp0_0:List Sp:=[.t 4 (.int .i64)]
def slices_IndexFunc_Entry_f86.sp0_1:List Sp:=[]
def slices_IndexFunc_Entry_f86.A0:LArm:=.two slices_IndexFunc_Entry_f86.sp0 slices_IndexFunc_Entry_f86.sp0_0 slices_IndexFunc_Entry_f86.sp0_1 (Int) (Unit) (fun k x=>slices_IndexFunc_Entry_f86.l0 k x.1 x.2.1.1 x.2.2.1 x.2.2.2.1) .ret (.exit 0) (fun y=>(y,())) (fun x=>x.1) (fun y=>()) (fun x=>())
def slices_IndexFunc_Entry_f86.L:Nat->Option LArm:=fun b=>match b with
 | 0=>some slices_IndexFunc_Entry_f86.A0
 | _=>none
theorem slices_IndexFunc_Entry_f86.run (k:Nat) (a0:List Entry) (a1c0:ByteArray):runF envX (tabC (slices_IndexFunc_Entry_f86.C k)) (tabL 19 k slices_IndexFunc_Entry_f86.L) Tryz.f85 [.t (.sl .entry) a0,.clo 86 [.tp (.t .str a1c0)]] (viewR1 (.t (.int .i64)))=slices_IndexFunc_Entry_f86.F k a0 a1c0:=by kernel_rfl
theorem slices_IndexFunc_Entry_f86.step0 (k:Nat) (x0:List Entry) (x1:ByteArray) (x7:Int) (x8:Int):runC envX (tabC (slices_IndexFunc_Entry_f86.C k)) (tabL 19 k slices_IndexFunc_Entry_f86.L) 0 (loopAt Tryz.f85 0) (stOf 19 slices_IndexFunc_Entry_f86.sp0 (x0,(x1,()),x7,x8,())) (slices_IndexFunc_Entry_f86.A0.cont 19 k)=slices_IndexFunc_Entry_f86.l0 (k+1) x0 x1 x7 x8:=by kernel_rfl
theorem slices_IndexFunc_Entry_f86.G (hE:EnvOk Tryz.prog envX) (pv:Nat->Value) (k:Nat):∀ cal A,slices_IndexFunc_Entry_f86.C k cal=some A->ArmOk Tryz.prog envX pv cal A:=by
 intro cal A h
 unfold slices_IndexFunc_Entry_f86.C at h
 split at h
 ·cases h; exact fun x y hy=>impl_entryIndex_1.good hE pv x.1 x.2.1 hy
 ·cases h
theorem slices_IndexFunc_Entry_f86.good (hE:EnvOk Tryz.prog envX) (pv:Nat->Value) (k:Nat) (a0:List Entry) (a1c0:ByteArray) {y:_} (h:slices_IndexFunc_Entry_f86.F k a0 a1c0=some y):Meets Tryz.prog envX pv (.f 85) (pvals [.t (.sl .entry),.clo 86 [.tp .str]] (a0,(a1c0,()),())) (.t (.int .i64) y) :=
 fun_loops hE (t:=slices_IndexFunc_Entry_f86.C) k (fun k _=>slices_IndexFunc_Entry_f86.G hE pv k) (f:=85) (fn:=Tryz.f85) (by kernel_rfl) rfl (by kernel_rfl) (by kernel_rfl) (lt:=slices_IndexFunc_Entry_f86.L) (by kernel_rfl) (fun b A h=>by
  unfold slices_IndexFunc_Entry_f86.L at h; split at h
  ·cases h; exact ⟨by kernel_rfl,by kernel_rfl,by kernel_rfl,fun _=>rfl,fun _=>rfl,fun _=>rfl⟩
  ·cases h) (fun b A h=>by
  unfold slices_IndexFunc_Entry_f86.L at h; split at h
  ·cases h; exact fun k x=>slices_IndexFunc_Entry_f86.step0 k x.1 x.2.1.1 x.2.2.1 x.2.2.2.1
  ·cases h) ((slices_IndexFunc_Entry_f86.run k a0 a1c0).trans h) (fun r hr=>wk_view1 hr)
def impl_entryIndex.F (k:Nat) (a0:Library) (a1:ByteArray):Option (Int):=(slices_IndexFunc_Entry_f86.F k a0.entries a1).bind fun r1=>some r1
def impl_entryIndex.C (k:Nat):Cal->Option CArm:=fun c=>match c with
 | .f 85=>some (.q [.t (.sl .entry),.clo 86 [.tp .str]] _ (fun x=>slices_IndexFunc_Entry_f86.F k x.1 x.2.1.1) (fun r=>(.t (.int .i64) r)))
 | _=>none
theorem impl_entryIndex.run (k:Nat) (a0:Library) (a1:ByteArray):runF envX (tabC (impl_entryIndex.C k)) (tabL 9 0 (fun _=>none)) Tryz.f57 [.t .lib a0,.t .str a1] (viewR1 (.t (.int .i64)))=impl_entryIndex.F k a0 a1:=by kernel_rfl
theorem impl_entryIndex.G (hE:EnvOk Tryz.prog envX) (pv:Nat->Value) (k:Nat):∀ cal A,impl_entryIndex.C k cal=some A->ArmOk Tryz.prog envX pv cal A:=by
 intro cal A h
 unfold impl_entryIndex.C at h
 split at h
 ·cases h; exact fun x y hy=>slices_IndexFunc_Entry_f86.good hE pv k x.1 x.2.1.1 hy
 ·cases h
theorem impl_entryIndex.good (hE:EnvOk Tryz.prog envX) (pv:Nat->Value) (k:Nat) (a0:Library) (a1:ByteArray) {y:_} (h:impl_entryIndex.F k a0 a1=some y):Meets Tryz.prog envX pv (.f 57) (tvals [.lib,.str] (a0,a1,())) (.t (.int .i64) y) :=
 fun_plain hE (impl_entryIndex.G hE pv k) (f:=57) (fn:=Tryz.f57) (by kernel_rfl) rfl (by kernel_rfl) (by kernel_rfl) ((impl_entryIndex.run k a0 a1).trans h) (fun r hr=>wk_view1 hr)
def impl_parentIndex.F (k:Nat) (a0:Library) (a1:Int):Option (Int):=bif decide (0<=a1) then (bif decide (a1<(a0.entries.length:Int)) then (bif (beqS ((a0.entries.getD (a1:Int).toNat (dflt .entry)).cross) (⟨#[]⟩:ByteArray)) then (some (-1)) else (bif decide (0<=a1) then (bif decide (a1<(a0.entries.length:Int)) then ((impl_entryIndex.F k a0 ((a0.entries.getD (a1:Int).toNat (dflt .entry)).cross)).bind fun r1=>some r1) else none) else none)) else none) else none
def impl_parentIndex.C (k:Nat):Cal->Option CArm:=fun c=>match c with
 | .f 57=>some (.p [.lib,.str] _ (fun x=>impl_entryIndex.F k x.1 x.2.1) (fun r=>(.t (.int .i64) r)))
 | _=>none
theorem impl_parentIndex.run (k:Nat) (a0:Library) (a1:Int):runF envX (tabC (impl_parentIndex.C k)) (tabL 20 0 (fun _=>none)) Tryz.f46 [.t .lib a0,.t (.int .i64) a1] (viewR1 (.t (.int .i64)))=impl_parentIndex.F k a0 a1:=by kernel_rfl
theorem impl_parentIndex.G (hE:EnvOk Tryz.prog envX) (pv:Nat->Value) (k:Nat):∀ cal A,impl_parentIndex.C k cal=some A->ArmOk Tryz.prog envX pv cal A:=by
 intro cal A h
 unfold impl_parentIndex.C at h
 split at h
 ·cases h; exact fun x y hy=>impl_entryIndex.good hE pv k x.1 x.2.1 hy
 ·cases h
theorem impl_parentIndex.good (hE:EnvOk Tryz.prog envX) (pv:Nat->Value) (k:Nat) (a0:Library) (a1:Int) {y:_} (h:impl_parentIndex.F k a0 a1=some y):Meets Tryz.prog envX pv (.f 46) (tvals [.lib,(.int .i64)] (a0,a1,())) (.t (.int .i64) y) :=
 fun_plain hE (impl_parentIndex.G hE pv k) (f:=46) (fn:=Tryz.f46) (by kernel_rfl) rfl (by kernel_rfl) (by kernel_rfl) ((impl_parentIndex.run k a0 a1).trans h) (fun r hr=>wk_view1 hr)
def slices_Index_int.l0:Nat->(List Int)->Int->Int->Int->Option (Sum Int Unit)
 | 0,_,_,_,_=>none
 | k+1,x0,x1,x7,x8=>bif (decide (x8<x7)) then (bif decide (0<=x8) then (bif decide (x8<(x0.length:Int)) then (bif (x1==(x0.getD (x8:Int).toNat 0)) then (some (.inl x8)) else (slices_Index_int.l0 k x0 x1 x7 (IntKind.wrap .i64 (x8+1)))) else none) else none) else (some (.inr ()))
def slices_Index_int.F (k:Nat) (a0:List Int) (a1:Int):Option (Int):=(slices_Index_int.l0 k a0 a1 (a0.length:Int) 0).bind fun y1=>match y1 with | .inl z2=>some z2 | .inr z2=>some (-1)
def slices_Index_int.C (k:Nat):Cal->Option CArm:=fun c=>match c with
 | _=>none
def slices_Index_int.sp0:List Sp:=[.t 0 (.sl (.int .i64)),.t 1 (.int .i64),.t 7 (.int .i64),.t 8 (.int .i64)]
def slices_Index_int.sp0_0:List Sp:=[.t 4 (.int .i64)]
def slices_Index_int.sp0_1:List Sp:=[]
def slices_Index_int.A0:LArm:=.two slices_Index_int.sp0 slices_Index_int.sp0_0 slices_Index_int.sp0_1 (Int) (Unit) (fun k x=>slices_Index_int.l0 k x.1 x.2.1 x.2.2.1 x.2.2.2.1) .ret (.exit 0) (fun y=>(y,())) (fun x=>x.1) (fun y=>()) (fun x=>())
def slices_Index_int.L:Nat->Option LArm:=fun b=>match b with
 | 0=>some slices_Index_int.A0
 | _=>none
theorem slices_Index_int.run (k:Nat) (a0:List Int) (a1:Int):runF envX (tabC (slices_Index_int.C k)) (tabL 19 k slices_Index_int.L) Tryz.f102 [.t (.sl (.int .i64)) a0,.t (.int .i64) a1] (viewR1 (.t (.int .i64)))=slices_Index_int.F k a0 a1:=by kernel_rfl
theorem slices_Index_int.step0 (k:Nat) (x0:List Int) (x1:Int) (x7:Int) (x8:Int):runC envX (tabC (slices_Index_int.C k)) (tabL 19 k slices_Index_int.L) 0 (loopAt Tryz.f102 0) (stOf 19 slices_Index_int.sp0 (x0,x1,x7,x8,())) (slices_Index_int.A0.cont 19 k)=slices_Index_int.l0 (k+1) x0 x1 x7 x8:=by kernel_rfl
theorem slices_Index_int.G (hE:EnvOk Tryz.prog envX) (pv:Nat->Value) (k:Nat):∀ cal A,slices_Index_int.C k cal=some A->ArmOk Tryz.prog envX pv cal A:=by
 intro cal A h
 unfold slices_Index_int.C at h
 cases h
theorem slices_Index_int.good (hE:EnvOk Tryz.prog envX) (pv:Nat->Value) (k:Nat) (a0:List Int) (a1:Int) {y:_} (h:slices_Index_int.F k a0 a1=some y):Meets Tryz.prog envX pv (.f 102) (tvals [(.sl (.int .i64)),(.int .i64)] (a0,a1,())) (.t (.int .i64) y) :=
 fun_loops hE (t:=slices_Index_int.C) k (fun k _=>slices_Index_int.G hE pv k) (f:=102) (fn:=Tryz.f102) (by kernel_rfl) rfl (by kernel_rfl) (by kernel_rfl) (lt:=slices_Index_int.L) (by kernel_rfl) (fun b A h=>by
  unfold slices_Index_int.L at h; split at h
  ·cases h; exact ⟨by kernel_rfl,by kernel_rfl,by kernel_rfl,fun _=>rfl,fun _=>rfl,fun _=>rfl⟩
  ·cases h) (fun b A h=>by
  unfold slices_Index_int.L at h; split at h
  ·cases h; exact fun k x=>slices_Index_int.step0 k x.1 x.2.1 x.2.2.1 x.2.2.2.1
  ·cases h) ((slices_Index_int.run k a0 a1).trans h) (fun r hr=>wk_view1 hr)
def slices_Contains_int.F (k:Nat) (a0:List Int) (a1:Int):Option (Bool):=(slices_Index_int.F k a0 a1).bind fun r1=>some (decide (r1 ≥ 0))
def slices_Contains_int.C (k:Nat):Cal->Option CArm:=fun c=>match c with
 | .f 102=>some (.p [(.sl (.int .i64)),(.int .i64)] _ (fun x=>slices_Index_int.F k x.1 x.2.1) (fun r=>(.t (.int .i64) r)))
 | _=>none
theorem slices_Contains_int.run (k:Nat) (a0:List Int) (a1:Int):runF envX (tabC (slices_Contains_int.C k)) (tabL 9 0 (fun _=>none)) Tryz.f83 [.t (.sl (.int .i64)) a0,.t (.int .i64) a1] (viewR1 (.t .bool))=slices_Contains_int.F k a0 a1:=by kernel_rfl
theorem slices_Contains_int.G (hE:EnvOk Tryz.prog envX) (pv:Nat->Value) (k:Nat):∀ cal A,slices_Contains_int.C k cal=some A->ArmOk Tryz.prog envX pv cal A:=by
 intro cal A h
 unfold slices_Contains_int.C at h
 split at h
 ·cases h; exact fun x y hy=>slices_Index_int.good hE pv k x.1 x.2.1 hy
 ·cases h
theorem slices_Contains_int.good (hE:EnvOk Tryz.prog envX) (pv:Nat->Value) (k:Nat) (a0:List Int) (a1:Int) {y:_} (h:slices_Contains_int.F k a0 a1=some y):Meets Tryz.prog envX pv (.f 83) (tvals [(.sl (.int .i64)),(.int .i64)] (a0,a1,())) (.t .bool y) :=
 fun_plain hE (slices_Contains_int.G hE pv k) (f:=83) (fn:=Tryz.f83) (by kernel_rfl) rfl (by kernel_rfl) (by kernel_rfl) ((slices_Contains_int.run k a0 a1).trans h) (fun r hr=>wk_view1 hr)
def impl_chainOf.l0:Nat->Int->Library->(List Int)->Option (Sum ((List Int) × Bool) (List Int))
 | 0,_,_,_=>none
 | k+1,x1,x2,x6=>bif (decide (x1 ≥ 0)) then ((slices_Contains_int.F k x6 x1).bind fun r1=>bif r1 then (some (.inl (x6,true))) else (bif room (x6.length+([x1]:List Int).length) (.int .i64) then ((impl_parentIndex.F k x2 x1).bind fun r2=>impl_chainOf.l0 k r2 x2 (x6++([x1]:List Int))) else none)) else (some (.inr x6))
def impl_chainOf.F (k:Nat) (a0:Library) (a1:Int):Option ((List Int) × Bool):=(impl_chainOf.l0 k a1 a0 ([]:List Int)).bind fun y3=>match y3 with | .inl z4=>some (z4.1,z4.2) | .inr z4=>some (z4,false)
def impl_chainOf.C (k:Nat):Cal->Option CArm:=fun c=>match c with
 | .f 83=>some (.p [(.sl (.int .i64)),(.int .i64)] _ (fun x=>slices_Contains_int.F k x.1 x.2.1) (fun r=>(.t .bool r)))
 | .f 46=>some (.p [.lib,(.int .i64)] _ (fun x=>impl_parentIndex.F k x.1 x.2.1) (fun r=>(.t (.int .i64) r)))
 | _=>none
def impl_newNames.l0:Nat->(List Name)->(List Name)->Int->Int->Option ((List Name))
 | 0,_,_,_,_=>none
 | k+1,x3,x7,x8,x9=>bif (decide (x9<x8)) then (bif decide (0<=x9) then (bif decide (x9<(x7.length:Int)) then (bif room (([]:List ByteArray).length+((x7.getD (x9:Int).toNat (dflt .name)).given).length) .str then (bif room (x3.length+([(⟨(([]:List ByteArray)++((x7.getD (x9:Int).toNat (dflt .name)).given)),(x7.getD (x9:Int).toNat (dflt .name)).particle,(x7.getD (x9:Int).toNat (dflt .name)).family,(x7.getD (x9:Int).toNat (dflt .name)).suffix⟩:Name)]:List Name).length) .name then (impl_newNames.l0 k (x3++([(⟨(([]:List ByteArray)++((x7.getD (x9:Int).toNat (dflt .name)).given)),(x7.getD (x9:Int).toNat (dflt .name)).particle,(x7.getD (x9:Int).toNat (dflt .name)).family,(x7.getD (x9:Int).toNat (dflt .name)).suffix⟩:Name)]:List Name)) x7 x8 (IntKind.wrap .i64 (x9+1))) else none) else none) else none) else none) else (some x3)
def impl_newNames.F (k:Nat) (a0:List Name):Option (List Name):=(impl_newNames.l0 k ([]:List Name) a0 (a0.length:Int) 0).bind fun y1=>some y1
def impl_newEntry.F (k:Nat) (a0:Entry):Option (Entry):=(impl_newNames.F k a0.authors).bind fun r1=>(impl_newNames.F k a0.editors).bind fun r2=>some (⟨a0.key,a0.kind,r1,r2,a0.title,a0.container,a0.publisher,a0.date,a0.volume,a0.pages,a0.cross⟩:Entry)
def impl_newEntry.C (k:Nat):Cal->Option CArm:=fun c=>match c with
 | .f 101=>some (.p [(.sl .name)] _ (fun x=>impl_newNames.F k x.1) (fun r=>(.fr 92 .name r)))
 | _=>none
def impl_orNames.F (k:Nat) (a0:List Name) (a1:List Name):Option (List Name):=bif ((a0.length:Int)==0) then ((impl_newNames.F k a1).bind fun r1=>some r1) else ((impl_newNames.F k a0).bind fun r2=>some r2)
def impl_orText.F (a0:ByteArray) (a1:ByteArray):Option (ByteArray):=bif (beqS a0 (⟨#[]⟩:ByteArray)) then (some a1) else (some a0)
def impl_orText.C:Cal->Option CArm:=fun c=>match c with
 | _=>none
theorem impl_orText.run (a0:ByteArray) (a1:ByteArray):runF envX (tabC impl_orText.C) (tabL 9 0 (fun _=>none)) Tryz.f77 [.t .str a0,.t .str a1] (viewR1 (.t .str))=impl_orText.F a0 a1:=by kernel_rfl
theorem impl_orText.G (hE:EnvOk Tryz.prog envX) (pv:Nat->Value):∀ cal A,impl_orText.C cal=some A->ArmOk Tryz.prog envX pv cal A:=by
 intro cal A h
 unfold impl_orText.C at h
 cases h
theorem impl_orText.good (hE:EnvOk Tryz.prog envX) (pv:Nat->Value) (a0:ByteArray) (a1:ByteArray) {y:_} (h:impl_orText.F a0 a1=some y):Meets Tryz.prog envX pv (.f 77) (tvals [.str,.str] (a0,a1,())) (.t .str y) :=
 fun_plain hE (impl_orText.G hE pv) (f:=77) (fn:=Tryz.f77) (by kernel_rfl) rfl (by kernel_rfl) (by kernel_rfl) ((impl_orText.run a0 a1).trans h) (fun r hr=>wk_view1 hr)
def impl_orDate.F (a0:Date) (a1:Date):Option (Date):=bif (a0.y==0) then (some a1) else (some a0)
def impl_orDate.C:Cal->Option CArm:=fun c=>match c with
 | _=>none
theorem impl_orDate.run (a0:Date) (a1:Date):runF envX (tabC impl_orDate.C) (tabL 10 0 (fun _=>none)) Tryz.f78 [.t .date a0,.t .date a1] (viewR1 (.t .date))=impl_orDate.F a0 a1:=by kernel_rfl
theorem impl_orDate.G (hE:EnvOk Tryz.prog envX) (pv:Nat->Value):∀ cal A,impl_orDate.C cal=some A->ArmOk Tryz.prog envX pv cal A:=by
 intro cal A h
 unfold impl_orDate.C at h
 cases h
theorem impl_orDate.good (hE:EnvOk Tryz.prog envX) (pv:Nat->Value) (a0:Date) (a1:Date) {y:_} (h:impl_orDate.F a0 a1=some y):Meets Tryz.prog envX pv (.f 78) (tvals [.date,.date] (a0,a1,())) (.t .date y) :=
 fun_plain hE (impl_orDate.G hE pv) (f:=78) (fn:=Tryz.f78) (by kernel_rfl) rfl (by kernel_rfl) (by kernel_rfl) ((impl_orDate.run a0 a1).trans h) (fun r hr=>wk_view1 hr)
def impl_orVolume.F (a0:Int) (a1:Int):Option (Int):=bif (a0==0) then (some a1) else (some a0)
def impl_orVolume.C:Cal->Option CArm:=fun c=>match c with
 | _=>none
theorem impl_orVolume.run (a0:Int) (a1:Int):runF envX (tabC impl_orVolume.C) (tabL 9 0 (fun _=>none)) Tryz.f79 [.t (.int .i64) a0,.t (.int .i64) a1] (viewR1 (.t (.int .i64)))=impl_orVolume.F a0 a1:=by kernel_rfl
theorem impl_orVolume.G (hE:EnvOk Tryz.prog envX) (pv:Nat->Value):∀ cal A,impl_orVolume.C cal=some A->ArmOk Tryz.prog envX pv cal A:=by
 intro cal A h
 unfold impl_orVolume.C at h
 cases h
theorem impl_orVolume.good (hE:EnvOk Tryz.prog envX) (pv:Nat->Value) (a0:Int) (a1:Int) {y:_} (h:impl_orVolume.F a0 a1=some y):Meets Tryz.prog envX pv (.f 79) (tvals [(.int .i64),(.int .i64)] (a0,a1,())) (.t (.int .i64) y) :=
 fun_plain hE (impl_orVolume.G hE pv) (f:=79) (fn:=Tryz.f79) (by kernel_rfl) rfl (by kernel_rfl) (by kernel_rfl) ((impl_orVolume.run a0 a1).trans h) (fun r hr=>wk_view1 hr)
def impl_inherit.F (k:Nat) (a0:Entry) (a1:Entry):Option (Entry):=(impl_orText.F a0.publisher a1.publisher).bind fun r1=>(impl_orDate.F a0.date a1.date).bind fun r2=>(impl_orVolume.F a0.volume a1.volume).bind fun r3=>bif (a0.kind==3) then ((impl_orText.F a0.container a1.title).bind fun r4=>(impl_orNames.F k a1.editors a1.authors).bind fun r5=>(impl_orNames.F k a0.editors r5).bind fun r6=>some (⟨a0.key,a0.kind,a0.authors,r6,a0.title,r4,r1,r2,r3,a0.pages,a0.cross⟩:Entry)) else (bif (a0.kind==2) then ((impl_orText.F a0.container a1.title).bind fun r7=>some (⟨a0.key,a0.kind,a0.authors,a0.editors,a0.title,r7,r1,r2,r3,a0.pages,a0.cross⟩:Entry)) else ((impl_orText.F a0.container a1.container).bind fun r8=>some (⟨a0.key,a0.kind,a0.authors,a0.editors,a0.title,r8,r1,r2,r3,a0.pages,a0.cross⟩:Entry)))
def impl_resolveEntry.C (k:Nat):Cal->Option CArm:=fun c=>match c with
 | .f 45=>some (.p [.lib,(.int .i64)] _ (fun x=>impl_chainOf.F k x.1 x.2.1) (fun r=>(.tup [.fr 3 (.int .i64) r.1,.t .bool r.2])))
 | .f 87=>some (.p [.entry] _ (fun x=>impl_newEntry.F k x.1) (fun r=>(.t .entry r)))
 | .f 88=>some (.p [.entry,.entry] _ (fun x=>impl_inherit.F k x.1 x.2.1) (fun r=>(.t .entry r)))
 | _=>none
def laws_toEntryS_p.l0:Nat->(List Entry)->(List Entry)->Int->Option ((List Entry))
 | 0,_,_,_=>none
 | k+1,x0,x3,x4=>bif (decide (x4<(x0.length:Int))) then (bif decide (0<=x4) then (bif decide (x4<(x0.length:Int)) then ((laws_toEntry_p.F k (x0.getD (x4:Int).toNat (dflt .entry))).bind fun r1=>bif decide (0<=x4) then (bif decide (x4<(x3.length:Int)) then (laws_toEntryS_p.l0 k x0 (x3.set ((x4:Int).toNat) r1) (IntKind.wrap .i64 (x4+1))) else none) else none) else none) else none) else (some x3)
def laws_toEntryS_p.F (k:Nat) (a0:List Entry):Option (List Entry):=bif ((a0.length:Int)==(a0.length:Int)) then (bif decide (0<=(a0.length:Int)) then (bif Nat.ble (((a0.length:Int):Int).toNat * nb .entry) 140737488355328 then ((laws_toEntryS_p.l0 k a0 (List.replicate ((a0.length:Int):Int).toNat (dflt .entry)) 0).bind fun y2=>some y2) else none) else none) else none
def laws_toEntryS_p.C (k:Nat):Cal->Option CArm:=fun c=>match c with
 | .f 9=>some (.p [.entry] _ (fun x=>laws_toEntry_p.F k x.1) (fun r=>(.pc true .entry r)))
 | _=>none
def laws_toEntryS_p.sp0:List Sp:=[.t 0 (.sl .entry),.own 3 1032 31 .entry false true,.t 4 (.int .i64)]
def laws_toEntryS_p.sp0_0:List Sp:=[.own 3 1032 31 .entry false true]
def laws_toEntryS_p.A0:LArm:=.one laws_toEntryS_p.sp0 laws_toEntryS_p.sp0_0 ((List Entry)) (fun k x=>laws_toEntryS_p.l0 k x.1 x.2.1 x.2.2.1) (.exit 0) (fun y=>(y,())) (fun x=>x.1)
def laws_toEntryS_p.L:Nat->Option LArm:=fun b=>match b with
 | 0=>some laws_toEntryS_p.A0
 | _=>none
theorem laws_toEntryS_p.run (k:Nat) (a0:List Entry):runF envP (tabC (laws_toEntryS_p.C k)) (tabL 23 k laws_toEntryS_p.L) Tryz.f43 [.t (.sl .entry) a0] (viewR1 (.fr 31 .entry))=laws_toEntryS_p.F k a0:=by kernel_rfl
theorem laws_toEntryS_p.step0 (k:Nat) (x0:List Entry) (x3:List Entry) (x4:Int):runC envP (tabC (laws_toEntryS_p.C k)) (tabL 23 k laws_toEntryS_p.L) 0 (loopAt Tryz.f43 0) (stOf 23 laws_toEntryS_p.sp0 (x0,x3,x4,())) (laws_toEntryS_p.A0.cont 23 k)=laws_toEntryS_p.l0 (k+1) x0 x3 x4:=by kernel_rfl
theorem laws_toEntryS_p.G (hE:EnvOk Tryz.prog envP) (pv:Nat->Value) (n:Nat) (k:Nat):∀ cal A,laws_toEntryS_p.C k cal=some A->ArmOk Tryz.prog envP (mpv pv n) cal A:=by
 intro cal A h
 unfold laws_toEntryS_p.C at h
 split at h
 ·cases h; exact fun x y hy=>laws_toEntry_p.good hE pv n k x.1 hy
 ·cases h
theorem laws_toEntryS_p.good (hE:EnvOk Tryz.prog envP) (pv:Nat->Value) (n:Nat) (k:Nat) (a0:List Entry) {y:_} (h:laws_toEntryS_p.F k a0=some y):Meets Tryz.prog envP (mpv pv n) (.f 43) (tvals [(.sl .entry)] (a0,())) (.fr 31 .entry y) :=
 fun_loops hE (t:=laws_toEntryS_p.C) k (fun k _=>laws_toEntryS_p.G hE pv n k) (f:=43) (fn:=Tryz.f43) (by kernel_rfl) rfl (by kernel_rfl) (by kernel_rfl) (lt:=laws_toEntryS_p.L) (by kernel_rfl) (fun b A h=>by
  unfold laws_toEntryS_p.L at h; split at h
  ·cases h; exact ⟨by kernel_rfl,by kernel_rfl,fun _=>rfl,fun _=>rfl⟩
  ·cases h) (fun b A h=>by
  unfold laws_toEntryS_p.L at h; split at h
  ·cases h; exact fun k x=>laws_toEntryS_p.step0 k x.1 x.2.1 x.2.2.1
  ·cases h) ((laws_toEntryS_p.run k a0).trans h) (fun r hr=>wk_view1 hr)
def laws_toLibrary_p.F (k:Nat) (a0:Library):Option (Library):=(laws_toEntryS_p.F k a0.entries).bind fun r1=>some (⟨r1⟩:Library)
def laws_toLibrary_p.C (k:Nat):Cal->Option CArm:=fun c=>match c with
 | .f 43=>some (.p [(.sl .entry)] _ (fun x=>laws_toEntryS_p.F k x.1) (fun r=>(.fr 31 .entry r)))
 | _=>none
theorem laws_toLibrary_p.run (k:Nat) (a0:Library):runPc envP (tabC (laws_toLibrary_p.C k)) (tabL 9 0 (fun _=>none)) Tryz.f16 [.t .lib a0] (viewR1 (.pc .lib))=laws_toLibrary_p.F k a0:=by kernel_rfl
theorem laws_toLibrary_p.G (hE:EnvOk Tryz.prog envP) (pv:Nat->Value) (n:Nat) (k:Nat):∀ cal A,laws_toLibrary_p.C k cal=some A->ArmOk Tryz.prog envP (mpv pv n) cal A:=by
 intro cal A h
 unfold laws_toLibrary_p.C at h
 split at h
 ·cases h; exact fun x y hy=>laws_toEntryS_p.good hE pv n k x.1 hy
 ·cases h
theorem laws_toLibrary_p.good (hE:EnvOk Tryz.prog envP) (pv:Nat->Value) (n:Nat) (k:Nat) (a0:Library) {y:_} (h:laws_toLibrary_p.F k a0=some y):Meets Tryz.prog envP (mpv pv n) (.f 16) (tvals [.lib] (a0,())) (.pc true .lib y) :=
 funPc_plain hE (mpv_O pv n) (mpv_Q pv n) (laws_toLibrary_p.G hE pv n k) (f:=16) (fn:=Tryz.f16) (by kernel_rfl) rfl (by kernel_rfl) (by kernel_rfl) ((laws_toLibrary_p.run k a0).trans h) (fun r hr=>wk_view1 hr)
def impl_chainOf_t.l0:Nat->Int->Library->(List Int)->Option (Sum ((List Int) × Bool) (List Int))
 | 0,_,_,_=>none
 | k+1,x1,x2,x6=>bif (decide (x1 ≥ 0)) then ((slices_Contains_int.F k x6 x1).bind fun r1=>bif r1 then (some (.inl (x6,true))) else (bif room (x6.length+([x1]:List Int).length) (.int .i64) then ((impl_parentIndex.F k x2 x1).bind fun r2=>impl_chainOf_t.l0 k r2 x2 (x6++([x1]:List Int))) else none)) else (some (.inr x6))
def impl_chainOf_t.F (k:Nat) (a0:Library) (a1:Int):Option ((List Int) × Bool):=(impl_chainOf_t.l0 k a1 a0 ([]:List Int)).bind fun y3=>match y3 with | .inl z4=>some (z4.1,z4.2) | .inr z4=>some (z4,false)
def impl_chainOf_t.C (k:Nat):Cal->Option CArm:=fun c=>match c with
 | .f 83=>some (.p [(.sl (.int .i64)),(.int .i64)] _ (fun x=>slices_Contains_int.F k x.1 x.2.1) (fun r=>(.t .bool r)))
 | .f 46=>some (.p [.lib,(.int .i64)] _ (fun x=>impl_parentIndex.F k x.1 x.2.1) (fun r=>(.t (.int .i64) r)))
 | _=>none
def impl_chainOf_t.sp0:List Sp:=[.t 1 (.int .i64),.boxT 2 0 .lib,.own 6 1024 3 (.int .i64) false true]
def impl_chainOf_t.sp0_0:List Sp:=[.own 4 1024 3 (.int .i64) false true,.t 5 .bool]
def impl_chainOf_t.sp0_1:List Sp:=[.own 6 1024 3 (.int .i64) false true]
def impl_chainOf_t.A0:LArm:=.two impl_chainOf_t.sp0 impl_chainOf_t.sp0_0 impl_chainOf_t.sp0_1 ((List Int) × Bool) ((List Int)) (fun k x=>impl_chainOf_t.l0 k x.1 x.2.1 x.2.2.1) .ret (.exit 0) (fun y=>(y.1,y.2,())) (fun x=>(x.1,x.2.1)) (fun y=>(y,())) (fun x=>x.1)
def impl_chainOf_t.L:Nat->Option LArm:=fun b=>match b with
 | 0=>some impl_chainOf_t.A0
 | _=>none
theorem impl_chainOf_t.run (k:Nat) (a0:Library) (a1:Int):Gx.runT envT (tabC (impl_chainOf_t.C k)) (tabL 22 k impl_chainOf_t.L) Tryz.f45 [.t .lib a0,.t (.int .i64) a1] (viewK2 (.fr 3 (.int .i64)) (.t .bool))=impl_chainOf_t.F k a0 a1:=by kernel_rfl
theorem impl_chainOf_t.step0 (k:Nat) (x1:Int) (x2:Library) (x6:List Int):runC envT (tabC (impl_chainOf_t.C k)) (tabL 22 k impl_chainOf_t.L) 0 (loopAt Tryz.f45 0) (stOf 22 impl_chainOf_t.sp0 (x1,x2,x6,())) (impl_chainOf_t.A0.cont 22 k)=impl_chainOf_t.l0 (k+1) x1 x2 x6:=by kernel_rfl
theorem impl_chainOf_t.G (hE:EnvOk Tryz.prog envT) (pv:Nat->Value) (k:Nat):∀ cal A,impl_chainOf_t.C k cal=some A->ArmOk Tryz.prog envT pv cal A:=by
 intro cal A h
 unfold impl_chainOf_t.C at h
 split at h
 ·cases h; exact fun x y hy=>slices_Contains_int.good envOk pv k x.1 x.2.1 hy
 ·cases h; exact fun x y hy=>impl_parentIndex.good envOk pv k x.1 x.2.1 hy
 ·cases h
theorem impl_chainOf_t.good (hE:EnvOk Tryz.prog envT) (pv:Nat->Value) (k:Nat) (a0:Library) (a1:Int) {y:_} (h:impl_chainOf_t.F k a0 a1=some y):MeetsT Tryz.prog envT pv 45 (tvals [.lib,(.int .i64)] (a0,a1,())) (.tup [.fr 3 (.int .i64) y.1,.t .bool y.2]) :=
 funT_loops hE (t:=impl_chainOf_t.C) k (fun k _=>impl_chainOf_t.G hE pv k) (f:=45) (fn:=Tryz.f45) (by kernel_rfl) rfl (by kernel_rfl) (by kernel_rfl) (lt:=impl_chainOf_t.L) (by kernel_rfl) (fun b A h=>by
  unfold impl_chainOf_t.L at h; split at h
  ·cases h; exact ⟨by kernel_rfl,by kernel_rfl,by kernel_rfl,fun _=>rfl,fun _=>rfl,fun _=>rfl⟩
  ·cases h) (fun b A h=>by
  unfold impl_chainOf_t.L at h; split at h
  ·cases h; exact fun k x=>impl_chainOf_t.step0 k x.1 x.2.1 x.2.2.1
  ·cases h) ((impl_chainOf_t.run k a0 a1).trans h) (fun r hr=>kt_view2 (k:=(.fr 3 (.int .i64))) (l:=(.t .bool)) hr)
def impl_newNames_t.l0:Nat->(List Name)->(List Name)->Int->Int->Option ((List Name))
 | 0,_,_,_,_=>none
 | k+1,x3,x7,x8,x9=>bif (decide (x9<x8)) then (bif decide (0<=x9) then (bif decide (x9<(x7.length:Int)) then (bif room (([]:List ByteArray).length+((x7.getD (x9:Int).toNat (dflt .name)).given).length) .str then (bif room (x3.length+([(⟨(([]:List ByteArray)++((x7.getD (x9:Int).toNat (dflt .name)).given)),(x7.getD (x9:Int).toNat (dflt .name)).particle,(x7.getD (x9:Int).toNat (dflt .name)).family,(x7.getD (x9:Int).toNat (dflt .name)).suffix⟩:Name)]:List Name).length) .name then (impl_newNames_t.l0 k (x3++([(⟨(([]:List ByteArray)++((x7.getD (x9:Int).toNat (dflt .name)).given)),(x7.getD (x9:Int).toNat (dflt .name)).particle,(x7.getD (x9:Int).toNat (dflt .name)).family,(x7.getD (x9:Int).toNat (dflt .name)).suffix⟩:Name)]:List Name)) x7 x8 (IntKind.wrap .i64 (x9+1))) else none) else none) else none) else none) else (some x3)
def impl_newNames_t.F (k:Nat) (a0:List Name):Option (List Name):=(impl_newNames_t.l0 k ([]:List Name) a0 (a0.length:Int) 0).bind fun y1=>some y1
def impl_newNames_t.C (k:Nat):Cal->Option CArm:=fun c=>match c with
 | _=>none
def impl_newNames_t.sp0:List Sp:=[.tv 3 1024 92 (.sl .name) true,.t 7 (.sl .name),.t 8 (.int .i64),.t 9 (.int .i64)]
def impl_newNames_t.sp0_0:List Sp:=[.tv 3 1024 92 (.sl .name) true]
def impl_newNames_t.A0:LArm:=.one impl_newNames_t.sp0 impl_newNames_t.sp0_0 ((List Name)) (fun k x=>impl_newNames_t.l0 k x.1 x.2.1 x.2.2.1 x.2.2.2.1) (.exit 0) (fun y=>(y,())) (fun x=>x.1)
def impl_newNames_t.L:Nat->Option LArm:=fun b=>match b with
 | 0=>some impl_newNames_t.A0
 | _=>none
theorem impl_newNames_t.run (k:Nat) (a0:List Name):Gx.runT envT (tabC (impl_newNames_t.C k)) (tabL 24 k impl_newNames_t.L) Tryz.f101 [.t (.sl .name) a0] (viewK1 (.tr (.sl .name)))=impl_newNames_t.F k a0:=by kernel_rfl
theorem impl_newNames_t.step0 (k:Nat) (x3:List Name) (x7:List Name) (x8:Int) (x9:Int):runC envT (tabC (impl_newNames_t.C k)) (tabL 24 k impl_newNames_t.L) 0 (loopAt Tryz.f101 0) (stOf 24 impl_newNames_t.sp0 (x3,x7,x8,x9,())) (impl_newNames_t.A0.cont 24 k)=impl_newNames_t.l0 (k+1) x3 x7 x8 x9:=by kernel_rfl
theorem impl_newNames_t.G (hE:EnvOk Tryz.prog envT) (pv:Nat->Value) (k:Nat):∀ cal A,impl_newNames_t.C k cal=some A->ArmOk Tryz.prog envT pv cal A:=by
 intro cal A h
 unfold impl_newNames_t.C at h
 cases h
theorem impl_newNames_t.good (hE:EnvOk Tryz.prog envT) (pv:Nat->Value) (k:Nat) (a0:List Name) {y:_} (h:impl_newNames_t.F k a0=some y):MeetsT Tryz.prog envT pv 101 (tvals [(.sl .name)] (a0,())) (.tr (.sl .name) y) :=
 funT_loops hE (t:=impl_newNames_t.C) k (fun k _=>impl_newNames_t.G hE pv k) (f:=101) (fn:=Tryz.f101) (by kernel_rfl) rfl (by kernel_rfl) (by kernel_rfl) (lt:=impl_newNames_t.L) (by kernel_rfl) (fun b A h=>by
  unfold impl_newNames_t.L at h; split at h
  ·cases h; exact ⟨by kernel_rfl,by kernel_rfl,fun _=>rfl,fun _=>rfl⟩
  ·cases h) (fun b A h=>by
  unfold impl_newNames_t.L at h; split at h
  ·cases h; exact fun k x=>impl_newNames_t.step0 k x.1 x.2.1 x.2.2.1 x.2.2.2.1
  ·cases h) ((impl_newNames_t.run k a0).trans h) (fun r hr=>kt_view1 (k:=(.tr (.sl .name))) hr)
def impl_newEntry_t.F (k:Nat) (a0:Entry):Option (Entry):=(impl_newNames_t.F k a0.authors).bind fun r1=>(impl_newNames_t.F k a0.editors).bind fun r2=>some (⟨a0.key,a0.kind,r1,r2,a0.title,a0.container,a0.publisher,a0.date,a0.volume,a0.pages,a0.cross⟩:Entry)
def impl_newEntry_t.C (k:Nat):Cal->Option CArm:=fun c=>match c with
 | .f 101=>some (.tt [(.sl .name)] _ (fun x=>impl_newNames_t.F k x.1) (fun r=>(.tr (.sl .name) r)))
 | _=>none
theorem impl_newEntry_t.run (k:Nat) (a0:Entry):Gx.runT envT (tabC (impl_newEntry_t.C k)) (tabL 12 0 (fun _=>none)) Tryz.f87 [.t .entry a0] (viewK1 (.tr .entry))=impl_newEntry_t.F k a0:=by kernel_rfl
theorem impl_newEntry_t.G (hE:EnvOk Tryz.prog envT) (pv:Nat->Value) (k:Nat):∀ cal A,impl_newEntry_t.C k cal=some A->ArmOk Tryz.prog envT pv cal A:=by
 intro cal A h
 unfold impl_newEntry_t.C at h
 split at h
 ·cases h; exact ⟨_,rfl,fun x y hy=>impl_newNames_t.good hE pv k x.1 hy⟩
 ·cases h
theorem impl_newEntry_t.good (hE:EnvOk Tryz.prog envT) (pv:Nat->Value) (k:Nat) (a0:Entry) {y:_} (h:impl_newEntry_t.F k a0=some y):MeetsT Tryz.prog envT pv 87 (tvals [.entry] (a0,())) (.tr .entry y) :=
 funT_plain hE (impl_newEntry_t.G hE pv k) (f:=87) (fn:=Tryz.f87) (by kernel_rfl) rfl (by kernel_rfl) (by kernel_rfl) ((impl_newEntry_t.run k a0).trans h) (fun r hr=>kt_view1 (k:=(.tr .entry)) hr)
def impl_orNames_t.F (k:Nat) (a0:List Name) (a1:List Name):Option (List Name):=bif ((a0.length:Int)==0) then ((impl_newNames_t.F k a1).bind fun r1=>some r1) else ((impl_newNames_t.F k a0).bind fun r2=>some r2)
def impl_orNames_t.C (k:Nat):Cal->Option CArm:=fun c=>match c with
 | .f 101=>some (.tt [(.sl .name)] _ (fun x=>impl_newNames_t.F k x.1) (fun r=>(.tr (.sl .name) r)))
 | _=>none
theorem impl_orNames_t.run (k:Nat) (a0:List Name) (a1:List Name):Gx.runT envT (tabC (impl_orNames_t.C k)) (tabL 12 0 (fun _=>none)) Tryz.f76 [.t (.sl .name) a0,.t (.sl .name) a1] (viewK1 (.tr (.sl .name)))=impl_orNames_t.F k a0 a1:=by kernel_rfl
theorem impl_orNames_t.G (hE:EnvOk Tryz.prog envT) (pv:Nat->Value) (k:Nat):∀ cal A,impl_orNames_t.C k cal=some A->ArmOk Tryz.prog envT pv cal A:=by
 intro cal A h
 unfold impl_orNames_t.C at h
 split at h
 ·cases h; exact ⟨_,rfl,fun x y hy=>impl_newNames_t.good hE pv k x.1 hy⟩
 ·cases h
theorem impl_orNames_t.good (hE:EnvOk Tryz.prog envT) (pv:Nat->Value) (k:Nat) (a0:List Name) (a1:List Name) {y:_} (h:impl_orNames_t.F k a0 a1=some y):MeetsT Tryz.prog envT pv 76 (tvals [(.sl .name),(.sl .name)] (a0,a1,())) (.tr (.sl .name) y) :=
 funT_plain hE (impl_orNames_t.G hE pv k) (f:=76) (fn:=Tryz.f76) (by kernel_rfl) rfl (by kernel_rfl) (by kernel_rfl) ((impl_orNames_t.run k a0 a1).trans h) (fun r hr=>kt_view1 (k:=(.tr (.sl .name))) hr)
def impl_inherit_v.F (k:Nat) (a0:Entry) (a1:Entry):Option (Entry):=(impl_orText.F a0.publisher a1.publisher).bind fun r1=>(impl_orDate.F a0.date a1.date).bind fun r2=>(impl_orVolume.F a0.volume a1.volume).bind fun r3=>bif (a0.kind==3) then ((impl_orText.F a0.container a1.title).bind fun r4=>(impl_orNames_t.F k a1.editors a1.authors).bind fun r5=>(impl_orNames_t.F k a0.editors r5).bind fun r6=>some (⟨a0.key,a0.kind,a0.authors,r6,a0.title,r4,r1,r2,r3,a0.pages,a0.cross⟩:Entry)) else (bif (a0.kind==2) then ((impl_orText.F a0.container a1.title).bind fun r7=>some (⟨a0.key,a0.kind,a0.authors,a0.editors,a0.title,r7,r1,r2,r3,a0.pages,a0.cross⟩:Entry)) else ((impl_orText.F a0.container a1.container).bind fun r8=>some (⟨a0.key,a0.kind,a0.authors,a0.editors,a0.title,r8,r1,r2,r3,a0.pages,a0.cross⟩:Entry)))
def impl_inherit_v.C (k:Nat):Cal->Option CArm:=fun c=>match c with
 | .f 76=>some (.tt [(.sl .name),(.sl .name)] _ (fun x=>impl_orNames_t.F k x.1 x.2.1) (fun r=>(.tr (.sl .name) r)))
 | .f 77=>some (.p [.str,.str] _ (fun x=>impl_orText.F x.1 x.2.1) (fun r=>(.t .str r)))
 | .f 78=>some (.p [.date,.date] _ (fun x=>impl_orDate.F x.1 x.2.1) (fun r=>(.t .date r)))
 | .f 79=>some (.p [(.int .i64),(.int .i64)] _ (fun x=>impl_orVolume.F x.1 x.2.1) (fun r=>(.t (.int .i64) r)))
 | _=>none
theorem impl_inherit_v.run (k:Nat) (a0:Entry) (a1:Entry):Gx.runV envT (tabC (impl_inherit_v.C k)) (tabL 57 0 (fun _=>none)) Tryz.f88 a0 [.t .entry a1] (viewK1 (.tr .entry))=impl_inherit_v.F k a0 a1:=by kernel_rfl
theorem impl_inherit_v.G (hE:EnvOk Tryz.prog envT) (pv:Nat->Value) (k:Nat):∀ cal A,impl_inherit_v.C k cal=some A->ArmOk Tryz.prog envT pv cal A:=by
 intro cal A h
 unfold impl_inherit_v.C at h
 split at h
 ·cases h; exact ⟨_,rfl,fun x y hy=>impl_orNames_t.good hE pv k x.1 x.2.1 hy⟩
 ·cases h; exact fun x y hy=>impl_orText.good envOk pv x.1 x.2.1 hy
 ·cases h; exact fun x y hy=>impl_orDate.good envOk pv x.1 x.2.1 hy
 ·cases h; exact fun x y hy=>impl_orVolume.good envOk pv x.1 x.2.1 hy
 ·cases h
theorem impl_inherit_v.good (hE:EnvOk Tryz.prog envT) (pv:Nat->Value) (k:Nat) (a0:Entry) (a1:Entry) {y:_} (h:impl_inherit_v.F k a0 a1=some y):MeetsV Tryz.prog envT pv 88 .entry a0 (tvals [.entry] (a1,())) y :=
 funV_plain hE (impl_inherit_v.G hE pv k) (f:=88) (fn:=Tryz.f88) (by kernel_rfl) rfl (by kernel_rfl) (by kernel_rfl) ((impl_inherit_v.run k a0 a1).trans h)
def impl_resolveEntry_t.l0:Nat->Library->ByteArray->Int->ByteArray->ByteArray->ByteArray->Date->Int->ByteArray->ByteArray->(List Int)->Entry->Int->Option (ByteArray × Int × ByteArray × ByteArray × ByteArray × Date × Int × ByteArray × ByteArray × Entry)
 | 0,_,_,_,_,_,_,_,_,_,_,_,_,_=>none
 | k+1,x2,x4_0,x4_1,x4_2,x4_3,x4_4,x4_5,x4_6,x4_7,x4_8,x6,x8,x9=>bif (decide (x9 ≥ 0)) then (bif decide (0<=x9) then (bif decide (x9<(x6.length:Int)) then (bif decide (0<=(x6.getD ((x9:Int).toNat) 0)) then (bif decide ((x6.getD ((x9:Int).toNat) 0)<(x2.entries.length:Int)) then ((impl_newEntry_t.F k (x2.entries.getD ((x6.getD ((x9:Int).toNat) 0):Int).toNat (dflt .entry))).bind fun r3=>(impl_inherit_v.F k r3 x8).bind fun r4=>impl_resolveEntry_t.l0 k x2 x4_0 x4_1 x4_2 x4_3 x4_4 x4_5 x4_6 x4_7 x4_8 x6 r4 (IntKind.wrap .i64 (x9-1))) else none) else none) else none) else none) else (some (x4_0,x4_1,x4_2,x4_3,x4_4,x4_5,x4_6,x4_7,x4_8,x8))
def impl_resolveEntry_t.F (k:Nat) (a0:Library) (a1:Int):Option (Entry × Bool):=(impl_chainOf_t.F k a0 a1).bind fun r1=>bif r1.2 then (some ((⟨(⟨#[]⟩:ByteArray),0,([]:List Name),([]:List Name),(⟨#[]⟩:ByteArray),(⟨#[]⟩:ByteArray),(⟨#[]⟩:ByteArray),(dflt .date),0,(⟨#[]⟩:ByteArray),(⟨#[]⟩:ByteArray)⟩:Entry),false)) else (bif decide (0<=(IntKind.wrap .i64 ((r1.1.length:Int)-1))) then (bif decide ((IntKind.wrap .i64 ((r1.1.length:Int)-1))<(r1.1.length:Int)) then (bif decide (0<=(r1.1.getD (((IntKind.wrap .i64 ((r1.1.length:Int)-1)):Int).toNat) 0)) then (bif decide ((r1.1.getD (((IntKind.wrap .i64 ((r1.1.length:Int)-1)):Int).toNat) 0)<(a0.entries.length:Int)) then ((impl_newEntry_t.F k (a0.entries.getD ((r1.1.getD (((IntKind.wrap .i64 ((r1.1.length:Int)-1)):Int).toNat) 0):Int).toNat (dflt .entry))).bind fun r2=>(impl_resolveEntry_t.l0 k a0 (⟨#[]⟩:ByteArray) 0 (⟨#[]⟩:ByteArray) (⟨#[]⟩:ByteArray) (⟨#[]⟩:ByteArray) (dflt .date) 0 (⟨#[]⟩:ByteArray) (⟨#[]⟩:ByteArray) r1.1 r2 (IntKind.wrap .i64 ((r1.1.length:Int)-2))).bind fun y5=>some (y5.2.2.2.2.2.2.2.2.2,true)) else none) else none) else none) else none)
def impl_resolveEntry_t.C (k:Nat):Cal->Option CArm:=fun c=>match c with
 | .f 45=>some (.tt [.lib,(.int .i64)] _ (fun x=>impl_chainOf_t.F k x.1 x.2.1) (fun r=>(.tup [.fr 3 (.int .i64) r.1,.t .bool r.2])))
 | .f 87=>some (.tt [.entry] _ (fun x=>impl_newEntry_t.F k x.1) (fun r=>(.tr .entry r)))
 | .f 88=>some (.v [.entry] (fun x0 x=>impl_inherit_v.F k x0 x.1))
 | _=>none
def impl_resolveEntry_t.sp0:List Sp:=[.boxT 2 0 .lib,.boxF 4 4 .entry [.t .str,.t (.int .i64),.con (.nil),.con (.nil),.t .str,.t .str,.t .str,.t .date,.t (.int .i64),.t .str,.t .str],.own 6 1032 3 (.int .i64) false true,.bv 8 4140 4136 0 .entry false,.t 9 (.int .i64)]
def impl_resolveEntry_t.sp0_0:List Sp:=[.boxF 4 4 .entry [.t .str,.t (.int .i64),.con (.nil),.con (.nil),.t .str,.t .str,.t .str,.t .date,.t (.int .i64),.t .str,.t .str],.bv 8 4140 4136 0 .entry false]
def impl_resolveEntry_t.A0:LArm:=.one impl_resolveEntry_t.sp0 impl_resolveEntry_t.sp0_0 (ByteArray × Int × ByteArray × ByteArray × ByteArray × Date × Int × ByteArray × ByteArray × Entry) (fun k x=>impl_resolveEntry_t.l0 k x.1 x.2.1.1 x.2.1.2.1 x.2.1.2.2.2.2.1 x.2.1.2.2.2.2.2.1 x.2.1.2.2.2.2.2.2.1 x.2.1.2.2.2.2.2.2.2.1 x.2.1.2.2.2.2.2.2.2.2.1 x.2.1.2.2.2.2.2.2.2.2.2.1 x.2.1.2.2.2.2.2.2.2.2.2.2.1 x.2.2.1 x.2.2.2.1 x.2.2.2.2.1) (.exit 0) (fun y=>((y.1,y.2.1,(),(),y.2.2.1,y.2.2.2.1,y.2.2.2.2.1,y.2.2.2.2.2.1,y.2.2.2.2.2.2.1,y.2.2.2.2.2.2.2.1,y.2.2.2.2.2.2.2.2.1,()),y.2.2.2.2.2.2.2.2.2,())) (fun x=>(x.1.1,x.1.2.1,x.1.2.2.2.2.1,x.1.2.2.2.2.2.1,x.1.2.2.2.2.2.2.1,x.1.2.2.2.2.2.2.2.1,x.1.2.2.2.2.2.2.2.2.1,x.1.2.2.2.2.2.2.2.2.2.1,x.1.2.2.2.2.2.2.2.2.2.2.1,x.2.1))
def impl_resolveEntry_t.L:Nat->Option LArm:=fun b=>match b with
 | 0=>some impl_resolveEntry_t.A0
 | _=>none
theorem impl_resolveEntry_t.run (k:Nat) (a0:Library) (a1:Int):Gx.runT envT (tabC (impl_resolveEntry_t.C k)) (tabL 48 k impl_resolveEntry_t.L) Tryz.f58 [.t .lib a0,.t (.int .i64) a1] (viewK2 (.tr .entry) (.t .bool))=impl_resolveEntry_t.F k a0 a1:=by kernel_rfl
theorem impl_resolveEntry_t.step0 (k:Nat) (x2:Library) (x4_0:ByteArray) (x4_1:Int) (x4_2:ByteArray) (x4_3:ByteArray) (x4_4:ByteArray) (x4_5:Date) (x4_6:Int) (x4_7:ByteArray) (x4_8:ByteArray) (x6:List Int) (x8:Entry) (x9:Int):runC envT (tabC (impl_resolveEntry_t.C k)) (tabL 48 k impl_resolveEntry_t.L) 0 (loopAt Tryz.f58 0) (stOf 48 impl_resolveEntry_t.sp0 (x2,(x4_0,x4_1,(),(),x4_2,x4_3,x4_4,x4_5,x4_6,x4_7,x4_8,()),x6,x8,x9,())) (impl_resolveEntry_t.A0.cont 48 k)=impl_resolveEntry_t.l0 (k+1) x2 x4_0 x4_1 x4_2 x4_3 x4_4 x4_5 x4_6 x4_7 x4_8 x6 x8 x9:=by kernel_rfl
theorem impl_resolveEntry_t.G (hE:EnvOk Tryz.prog envT) (pv:Nat->Value) (k:Nat):∀ cal A,impl_resolveEntry_t.C k cal=some A->ArmOk Tryz.prog envT pv cal A:=by
 intro cal A h
 unfold impl_resolveEntry_t.C at h
 split at h
 ·cases h; exact ⟨_,rfl,fun x y hy=>impl_chainOf_t.good hE pv k x.1 x.2.1 hy⟩
 ·cases h; exact ⟨_,rfl,fun x y hy=>impl_newEntry_t.good hE pv k x.1 hy⟩
 ·cases h; exact ⟨_,rfl,fun e x y hy=>impl_inherit_v.good hE pv k e x.1 hy⟩
 ·cases h
theorem impl_resolveEntry_t.good (hE:EnvOk Tryz.prog envT) (pv:Nat->Value) (k:Nat) (a0:Library) (a1:Int) {y:_} (h:impl_resolveEntry_t.F k a0 a1=some y):MeetsT Tryz.prog envT pv 58 (tvals [.lib,(.int .i64)] (a0,a1,())) (.tup [.tr .entry y.1,.t .bool y.2]) :=
 funT_loops hE (t:=impl_resolveEntry_t.C) k (fun k _=>impl_resolveEntry_t.G hE pv k) (f:=58) (fn:=Tryz.f58) (by kernel_rfl) rfl (by kernel_rfl) (by kernel_rfl) (lt:=impl_resolveEntry_t.L) (by kernel_rfl) (fun b A h=>by
  unfold impl_resolveEntry_t.L at h; split at h
  ·cases h; exact ⟨by kernel_rfl,by kernel_rfl,fun _=>rfl,fun _=>rfl⟩
  ·cases h) (fun b A h=>by
  unfold impl_resolveEntry_t.L at h; split at h
  ·cases h; exact fun k x=>impl_resolveEntry_t.step0 k x.1 x.2.1.1 x.2.1.2.1 x.2.1.2.2.2.2.1 x.2.1.2.2.2.2.2.1 x.2.1.2.2.2.2.2.2.1 x.2.1.2.2.2.2.2.2.2.1 x.2.1.2.2.2.2.2.2.2.2.1 x.2.1.2.2.2.2.2.2.2.2.2.1 x.2.1.2.2.2.2.2.2.2.2.2.2.1 x.2.2.1 x.2.2.2.1 x.2.2.2.2.1
  ·cases h) ((impl_resolveEntry_t.run k a0 a1).trans h) (fun r hr=>kt_view2 (k:=(.tr .entry)) (l:=(.t .bool)) hr)
def laws_markStringS_d.l0:Nat->(List ByteArray)->Int->Int->Option ((List ByteArray) × Int)
 | 0,_,_,_=>none
 | k+1,x0,x1,x5=>bif (decide (x5<(x0.length:Int))) then ((laws_markText.F k x1).bind fun r1=>bif decide (0<=x5) then (bif decide (x5<(x0.length:Int)) then (laws_markStringS_d.l0 k x0 (IntKind.wrap .i64 (x1+1)) (IntKind.wrap .i64 (x5+1))) else none) else none) else (some (x0,x1))
def laws_markStringS_d.F (k:Nat) (a0:List ByteArray) (a1:Int):Option (Int):=(laws_markStringS_d.l0 k a0 a1 0).bind fun y2=>some y2.2
def laws_markStringS_d.C (k:Nat):Cal->Option CArm:=fun c=>match c with
 | .f 81=>some (.p [(.int .i64)] _ (fun x=>laws_markText.F k x.1) (fun r=>(.t .str r)))
 | _=>none
def laws_markStringS_d.sp0:List Sp:=[.ds 0 1099511627776 (.sl .str) (.sl .str),.t 1 (.int .i64),.t 5 (.int .i64)]
def laws_markStringS_d.sp0_0:List Sp:=[.ds 0 1099511627776 (.sl .str) (.sl .str),.t 1 (.int .i64)]
def laws_markStringS_d.A0:LArm:=.one laws_markStringS_d.sp0 laws_markStringS_d.sp0_0 ((List ByteArray) × Int) (fun k x=>laws_markStringS_d.l0 k x.1 x.2.1 x.2.2.1) (.exit 0) (fun y=>(y.1,y.2,())) (fun x=>(x.1,x.2.1))
def laws_markStringS_d.L:Nat->Option LArm:=fun b=>match b with
 | 0=>some laws_markStringS_d.A0
 | _=>none
theorem laws_markStringS_d.run (k:Nat) (a0:List ByteArray) (a1:Int):runD envX (tabC (laws_markStringS_d.C k)) (tabL 20 k laws_markStringS_d.L) Tryz.f52 (.sl .str) a0 a1 (viewR1 (.t (.int .i64)))=laws_markStringS_d.F k a0 a1:=by kernel_rfl
theorem laws_markStringS_d.step0 (k:Nat) (x0:List ByteArray) (x1:Int) (x5:Int):runC envX (tabC (laws_markStringS_d.C k)) (tabL 20 k laws_markStringS_d.L) 0 (loopAt Tryz.f52 0) (stOf 20 laws_markStringS_d.sp0 (x0,x1,x5,())) (laws_markStringS_d.A0.cont 20 k)=laws_markStringS_d.l0 (k+1) x0 x1 x5:=by kernel_rfl
theorem laws_markStringS_d.G (hE:EnvOk Tryz.prog envX) (pv:Nat->Value) (k:Nat):∀ cal A,laws_markStringS_d.C k cal=some A->ArmOk Tryz.prog envX pv cal A:=by
 intro cal A h
 unfold laws_markStringS_d.C at h
 split at h
 ·cases h; exact fun x y hy=>laws_markText.good hE pv k x.1 hy
 ·cases h
theorem laws_markStringS_d.good (hE:EnvOk Tryz.prog envX) (pv:Nat->Value) (k:Nat) (a0:List ByteArray) (a1:Int) {y:_} (h:laws_markStringS_d.F k a0 a1=some y):MeetsD Tryz.prog envX pv 52 (.sl .str) a0 a1 y :=
 funD_loops hE (t:=laws_markStringS_d.C) k (fun k _=>laws_markStringS_d.G hE pv k) (f:=52) (fn:=Tryz.f52) (by kernel_rfl) rfl (by kernel_rfl) (by kernel_rfl) (lt:=laws_markStringS_d.L) (by kernel_rfl) (fun b A h=>by
  unfold laws_markStringS_d.L at h; split at h
  ·cases h; exact ⟨by kernel_rfl,by kernel_rfl,fun _=>rfl,fun _=>rfl⟩
  ·cases h) (fun b A h=>by
  unfold laws_markStringS_d.L at h; split at h
  ·cases h; exact fun k x=>laws_markStringS_d.step0 k x.1 x.2.1 x.2.2.1
  ·cases h) rfl ((laws_markStringS_d.run k a0 a1).trans h) (fun r hr=>view_int hr)
def laws_markNameS_d.l0:Nat->(List Name)->Int->Int->Option ((List Name) × Int)
 | 0,_,_,_=>none
 | k+1,x0,x1,x5=>bif (decide (x5<(x0.length:Int))) then (bif decide (0<=x5) then (bif decide (x5<(x0.length:Int)) then ((laws_markStringS_d.F k ((x0.getD (x5:Int).toNat (dflt .name)).given) x1).bind fun r1=>(laws_markText.F k r1).bind fun r2=>bif decide (0<=x5) then (bif decide (x5<(x0.length:Int)) then ((laws_markText.F k (IntKind.wrap .i64 (r1+1))).bind fun r3=>bif decide (0<=x5) then (bif decide (x5<(x0.length:Int)) then ((laws_markText.F k (IntKind.wrap .i64 ((IntKind.wrap .i64 (r1+1))+1))).bind fun r4=>bif decide (0<=x5) then (bif decide (x5<(x0.length:Int)) then (laws_markNameS_d.l0 k x0 (IntKind.wrap .i64 ((IntKind.wrap .i64 ((IntKind.wrap .i64 (r1+1))+1))+1)) (IntKind.wrap .i64 (x5+1))) else none) else none) else none) else none) else none) else none) else none) else none) else (some (x0,x1))
def laws_markNameS_d.F (k:Nat) (a0:List Name) (a1:Int):Option (Int):=(laws_markNameS_d.l0 k a0 a1 0).bind fun y5=>some y5.2
def laws_markNameS_d.C (k:Nat):Cal->Option CArm:=fun c=>match c with
 | .f 52=>some (.d (.sl .str) (fun x q=>laws_markStringS_d.F k x q))
 | .f 81=>some (.p [(.int .i64)] _ (fun x=>laws_markText.F k x.1) (fun r=>(.t .str r)))
 | _=>none
def laws_markNameS_d.sp0:List Sp:=[.ds 0 1099511627776 (.sl .name) (.sl .name),.t 1 (.int .i64),.t 5 (.int .i64)]
def laws_markNameS_d.sp0_0:List Sp:=[.ds 0 1099511627776 (.sl .name) (.sl .name),.t 1 (.int .i64)]
def laws_markNameS_d.A0:LArm:=.one laws_markNameS_d.sp0 laws_markNameS_d.sp0_0 ((List Name) × Int) (fun k x=>laws_markNameS_d.l0 k x.1 x.2.1 x.2.2.1) (.exit 0) (fun y=>(y.1,y.2,())) (fun x=>(x.1,x.2.1))
def laws_markNameS_d.L:Nat->Option LArm:=fun b=>match b with
 | 0=>some laws_markNameS_d.A0
 | _=>none
theorem laws_markNameS_d.run (k:Nat) (a0:List Name) (a1:Int):runD envX (tabC (laws_markNameS_d.C k)) (tabL 44 k laws_markNameS_d.L) Tryz.f37 (.sl .name) a0 a1 (viewR1 (.t (.int .i64)))=laws_markNameS_d.F k a0 a1:=by kernel_rfl
theorem laws_markNameS_d.step0 (k:Nat) (x0:List Name) (x1:Int) (x5:Int):runC envX (tabC (laws_markNameS_d.C k)) (tabL 44 k laws_markNameS_d.L) 0 (loopAt Tryz.f37 0) (stOf 44 laws_markNameS_d.sp0 (x0,x1,x5,())) (laws_markNameS_d.A0.cont 44 k)=laws_markNameS_d.l0 (k+1) x0 x1 x5:=by kernel_rfl
theorem laws_markNameS_d.G (hE:EnvOk Tryz.prog envX) (pv:Nat->Value) (k:Nat):∀ cal A,laws_markNameS_d.C k cal=some A->ArmOk Tryz.prog envX pv cal A:=by
 intro cal A h
 unfold laws_markNameS_d.C at h
 split at h
 ·cases h; exact ⟨_,rfl,fun x q y hy=>laws_markStringS_d.good hE pv k x q hy⟩
 ·cases h; exact fun x y hy=>laws_markText.good hE pv k x.1 hy
 ·cases h
theorem laws_markNameS_d.good (hE:EnvOk Tryz.prog envX) (pv:Nat->Value) (k:Nat) (a0:List Name) (a1:Int) {y:_} (h:laws_markNameS_d.F k a0 a1=some y):MeetsD Tryz.prog envX pv 37 (.sl .name) a0 a1 y :=
 funD_loops hE (t:=laws_markNameS_d.C) k (fun k _=>laws_markNameS_d.G hE pv k) (f:=37) (fn:=Tryz.f37) (by kernel_rfl) rfl (by kernel_rfl) (by kernel_rfl) (lt:=laws_markNameS_d.L) (by kernel_rfl) (fun b A h=>by
  unfold laws_markNameS_d.L at h; split at h
  ·cases h; exact ⟨by kernel_rfl,by kernel_rfl,fun _=>rfl,fun _=>rfl⟩
  ·cases h) (fun b A h=>by
  unfold laws_markNameS_d.L at h; split at h
  ·cases h; exact fun k x=>laws_markNameS_d.step0 k x.1 x.2.1 x.2.2.1
  ·cases h) rfl ((laws_markNameS_d.run k a0 a1).trans h) (fun r hr=>view_int hr)
def laws_markEntryS_d.l0:Nat->(List Entry)->Int->Int->Option ((List Entry) × Int)
 | 0,_,_,_=>none
 | k+1,x0,x1,x5=>bif (decide (x5<(x0.length:Int))) then ((laws_markText.F k x1).bind fun r1=>bif decide (0<=x5) then (bif decide (x5<(x0.length:Int)) then (bif decide (0<=x5) then (bif decide (x5<(x0.length:Int)) then (bif decide (0<=x5) then (bif decide (x5<(x0.length:Int)) then ((laws_markNameS_d.F k ((x0.getD (x5:Int).toNat (dflt .entry)).authors) (IntKind.wrap .i64 ((IntKind.wrap .i64 (x1+1))+1))).bind fun r2=>bif decide (0<=x5) then (bif decide (x5<(x0.length:Int)) then ((laws_markNameS_d.F k ((x0.getD (x5:Int).toNat (dflt .entry)).editors) r2).bind fun r3=>(laws_markText.F k r3).bind fun r4=>bif decide (0<=x5) then (bif decide (x5<(x0.length:Int)) then ((laws_markText.F k (IntKind.wrap .i64 (r3+1))).bind fun r5=>bif decide (0<=x5) then (bif decide (x5<(x0.length:Int)) then ((laws_markText.F k (IntKind.wrap .i64 ((IntKind.wrap .i64 (r3+1))+1))).bind fun r6=>bif decide (0<=x5) then (bif decide (x5<(x0.length:Int)) then (bif decide (0<=x5) then (bif decide (x5<(x0.length:Int)) then (bif decide (0<=x5) then (bif decide (x5<(x0.length:Int)) then (bif decide (0<=x5) then (bif decide (x5<(x0.length:Int)) then (bif (3==0) then (none) else (bif decide (0<=x5) then (bif decide (x5<(x0.length:Int)) then (bif decide (0<=x5) then (bif decide (x5<(x0.length:Int)) then ((laws_markText.F k (IntKind.wrap .i64 ((IntKind.wrap .i64 ((IntKind.wrap .i64 ((IntKind.wrap .i64 ((IntKind.wrap .i64 ((IntKind.wrap .i64 ((IntKind.wrap .i64 ((IntKind.wrap .i64 (r3+1))+1))+1))+1))+1))+1))+1))+1))).bind fun r7=>bif decide (0<=x5) then (bif decide (x5<(x0.length:Int)) then ((laws_markText.F k (IntKind.wrap .i64 ((IntKind.wrap .i64 ((IntKind.wrap .i64 ((IntKind.wrap .i64 ((IntKind.wrap .i64 ((IntKind.wrap .i64 ((IntKind.wrap .i64 ((IntKind.wrap .i64 ((IntKind.wrap .i64 (r3+1))+1))+1))+1))+1))+1))+1))+1))+1))).bind fun r8=>bif decide (0<=x5) then (bif decide (x5<(x0.length:Int)) then (laws_markEntryS_d.l0 k x0 (IntKind.wrap .i64 ((IntKind.wrap .i64 ((IntKind.wrap .i64 ((IntKind.wrap .i64 ((IntKind.wrap .i64 ((IntKind.wrap .i64 ((IntKind.wrap .i64 ((IntKind.wrap .i64 ((IntKind.wrap .i64 ((IntKind.wrap .i64 (r3+1))+1))+1))+1))+1))+1))+1))+1))+1))+1)) (IntKind.wrap .i64 (x5+1))) else none) else none) else none) else none) else none) else none) else none) else none)) else none) else none) else none) else none) else none) else none) else none) else none) else none) else none) else none) else none) else none) else none) else none) else none) else none) else none) else none) else none) else (some (x0,x1))
def laws_markEntryS_d.F (k:Nat) (a0:List Entry) (a1:Int):Option (Int):=(laws_markEntryS_d.l0 k a0 a1 0).bind fun y9=>some y9.2
def laws_markEntryS_d.C (k:Nat):Cal->Option CArm:=fun c=>match c with
 | .f 37=>some (.d (.sl .name) (fun x q=>laws_markNameS_d.F k x q))
 | .f 81=>some (.p [(.int .i64)] _ (fun x=>laws_markText.F k x.1) (fun r=>(.t .str r)))
 | _=>none
def laws_markEntryS_d.sp0:List Sp:=[.ds 0 1099511627776 (.sl .entry) (.sl .entry),.t 1 (.int .i64),.t 5 (.int .i64)]
def laws_markEntryS_d.sp0_0:List Sp:=[.ds 0 1099511627776 (.sl .entry) (.sl .entry),.t 1 (.int .i64)]
def laws_markEntryS_d.A0:LArm:=.one laws_markEntryS_d.sp0 laws_markEntryS_d.sp0_0 ((List Entry) × Int) (fun k x=>laws_markEntryS_d.l0 k x.1 x.2.1 x.2.2.1) (.exit 0) (fun y=>(y.1,y.2,())) (fun x=>(x.1,x.2.1))
def laws_markEntryS_d.L:Nat->Option LArm:=fun b=>match b with
 | 0=>some laws_markEntryS_d.A0
 | _=>none
theorem laws_markEntryS_d.run (k:Nat) (a0:List Entry) (a1:Int):runD envX (tabC (laws_markEntryS_d.C k)) (tabL 123 k laws_markEntryS_d.L) Tryz.f51 (.sl .entry) a0 a1 (viewR1 (.t (.int .i64)))=laws_markEntryS_d.F k a0 a1:=by kernel_rfl
theorem laws_markEntryS_d.step0 (k:Nat) (x0:List Entry) (x1:Int) (x5:Int):runC envX (tabC (laws_markEntryS_d.C k)) (tabL 123 k laws_markEntryS_d.L) 0 (loopAt Tryz.f51 0) (stOf 123 laws_markEntryS_d.sp0 (x0,x1,x5,())) (laws_markEntryS_d.A0.cont 123 k)=laws_markEntryS_d.l0 (k+1) x0 x1 x5:=by kernel_rfl
theorem laws_markEntryS_d.G (hE:EnvOk Tryz.prog envX) (pv:Nat->Value) (k:Nat):∀ cal A,laws_markEntryS_d.C k cal=some A->ArmOk Tryz.prog envX pv cal A:=by
 intro cal A h
 unfold laws_markEntryS_d.C at h
 split at h
 ·cases h; exact ⟨_,rfl,fun x q y hy=>laws_markNameS_d.good hE pv k x q hy⟩
 ·cases h; exact fun x y hy=>laws_markText.good hE pv k x.1 hy
 ·cases h
theorem laws_markEntryS_d.good (hE:EnvOk Tryz.prog envX) (pv:Nat->Value) (k:Nat) (a0:List Entry) (a1:Int) {y:_} (h:laws_markEntryS_d.F k a0 a1=some y):MeetsD Tryz.prog envX pv 51 (.sl .entry) a0 a1 y :=
 funD_loops hE (t:=laws_markEntryS_d.C) k (fun k _=>laws_markEntryS_d.G hE pv k) (f:=51) (fn:=Tryz.f51) (by kernel_rfl) rfl (by kernel_rfl) (by kernel_rfl) (lt:=laws_markEntryS_d.L) (by kernel_rfl) (fun b A h=>by
  unfold laws_markEntryS_d.L at h; split at h
  ·cases h; exact ⟨by kernel_rfl,by kernel_rfl,fun _=>rfl,fun _=>rfl⟩
  ·cases h) (fun b A h=>by
  unfold laws_markEntryS_d.L at h; split at h
  ·cases h; exact fun k x=>laws_markEntryS_d.step0 k x.1 x.2.1 x.2.2.1
  ·cases h) rfl ((laws_markEntryS_d.run k a0 a1).trans h) (fun r hr=>view_int hr)
def laws_markLibrary_d.F (k:Nat) (a0:Library) (a1:Int):Option (Int):=(laws_markEntryS_d.F k a0.entries a1).bind fun r1=>some r1
def laws_markLibrary_d.C (k:Nat):Cal->Option CArm:=fun c=>match c with
 | .f 51=>some (.d (.sl .entry) (fun x q=>laws_markEntryS_d.F k x q))
 | _=>none
theorem laws_markLibrary_d.run (k:Nat) (a0:Library) (a1:Int):runD envX (tabC (laws_markLibrary_d.C k)) (tabL 10 0 (fun _=>none)) Tryz.f20 .lib a0 a1 (viewR1 (.t (.int .i64)))=laws_markLibrary_d.F k a0 a1:=by kernel_rfl
theorem laws_markLibrary_d.G (hE:EnvOk Tryz.prog envX) (pv:Nat->Value) (k:Nat):∀ cal A,laws_markLibrary_d.C k cal=some A->ArmOk Tryz.prog envX pv cal A:=by
 intro cal A h
 unfold laws_markLibrary_d.C at h
 split at h
 ·cases h; exact ⟨_,rfl,fun x q y hy=>laws_markEntryS_d.good hE pv k x q hy⟩
 ·cases h
theorem laws_markLibrary_d.good (hE:EnvOk Tryz.prog envX) (pv:Nat->Value) (k:Nat) (a0:Library) (a1:Int) {y:_} (h:laws_markLibrary_d.F k a0 a1=some y):MeetsD Tryz.prog envX pv 20 .lib a0 a1 y :=
 funD_plain hE (laws_markLibrary_d.G hE pv k) (f:=20) (fn:=Tryz.f20) (by kernel_rfl) rfl (by kernel_rfl) (by kernel_rfl) rfl ((laws_markLibrary_d.run k a0 a1).trans h) (fun r hr=>view_int hr)
def laws_markStringS_x.l0:Nat->(List ByteArray)->Int->Int->Option ((List ByteArray) × Int)
 | 0,_,_,_=>none
 | k+1,x0,x1,x5=>bif (decide (x5<(x0.length:Int))) then ((laws_markText.F k x1).bind fun r1=>bif decide (0<=x5) then (bif decide (x5<(x0.length:Int)) then ((some (x0.set ((x5:Int).toNat) r1)).bind fun w2=>laws_markStringS_x.l0 k w2 (IntKind.wrap .i64 (x1+1)) (IntKind.wrap .i64 (x5+1))) else none) else none) else (some (x0,x1))
def laws_markStringS_x.F (k:Nat) (a0:List ByteArray) (a1:Int):Option ((List ByteArray) × Int):=(laws_markStringS_x.l0 k a0 a1 0).bind fun y3=>some (y3.1,y3.2)
def laws_markStringS_x.C (k:Nat):Cal->Option CArm:=fun c=>match c with
 | .f 81=>some (.p [(.int .i64)] _ (fun x=>laws_markText.F k x.1) (fun r=>(.t .str r)))
 | _=>none
def laws_markStringS_x.sp0:List Sp:=[.tv 0 1099511627776 0 (.sl .str) false,.t 1 (.int .i64),.t 5 (.int .i64)]
def laws_markStringS_x.sp0_0:List Sp:=[.tv 0 1099511627776 0 (.sl .str) false,.t 1 (.int .i64)]
def laws_markStringS_x.A0:LArm:=.one laws_markStringS_x.sp0 laws_markStringS_x.sp0_0 ((List ByteArray) × Int) (fun k x=>laws_markStringS_x.l0 k x.1 x.2.1 x.2.2.1) (.exit 0) (fun y=>(y.1,y.2,())) (fun x=>(x.1,x.2.1))
def laws_markStringS_x.L:Nat->Option LArm:=fun b=>match b with
 | 0=>some laws_markStringS_x.A0
 | _=>none
theorem laws_markStringS_x.run (k:Nat) (a0:List ByteArray) (a1:Int):Gx.runX envX (tabC (laws_markStringS_x.C k)) (tabL 20 k laws_markStringS_x.L) Tryz.f52 (.sl .str) a0 a1 (viewKep (.sl .str))=laws_markStringS_x.F k a0 a1:=by kernel_rfl
theorem laws_markStringS_x.step0 (k:Nat) (x0:List ByteArray) (x1:Int) (x5:Int):runC envX (tabC (laws_markStringS_x.C k)) (tabL 20 k laws_markStringS_x.L) 0 (loopAt Tryz.f52 0) (stOf 20 laws_markStringS_x.sp0 (x0,x1,x5,())) (laws_markStringS_x.A0.cont 20 k)=laws_markStringS_x.l0 (k+1) x0 x1 x5:=by kernel_rfl
theorem laws_markStringS_x.G (hE:EnvOk Tryz.prog envX) (pv:Nat->Value) (k:Nat):∀ cal A,laws_markStringS_x.C k cal=some A->ArmOk Tryz.prog envX pv cal A:=by
 intro cal A h
 unfold laws_markStringS_x.C at h
 split at h
 ·cases h; exact fun x y hy=>laws_markText.good hE pv k x.1 hy
 ·cases h
theorem laws_markStringS_x.good (hE:EnvOk Tryz.prog envX) (pv:Nat->Value) (k:Nat) (a0:List ByteArray) (a1:Int) {y:_} (h:laws_markStringS_x.F k a0 a1=some y):MeetsX Tryz.prog envX pv 52 (.sl .str) a0 a1 y.1 y.2 :=
 funX_loops hE (t:=laws_markStringS_x.C) k (fun k _=>laws_markStringS_x.G hE pv k) (f:=52) (fn:=Tryz.f52) (by kernel_rfl) rfl (by kernel_rfl) (by kernel_rfl) (lt:=laws_markStringS_x.L) (by kernel_rfl) (fun b A h=>by
  unfold laws_markStringS_x.L at h; split at h
  ·cases h; exact ⟨by kernel_rfl,by kernel_rfl,fun _=>rfl,fun _=>rfl⟩
  ·cases h) (fun b A h=>by
  unfold laws_markStringS_x.L at h; split at h
  ·cases h; exact fun k x=>laws_markStringS_x.step0 k x.1 x.2.1 x.2.2.1
  ·cases h) rfl ((laws_markStringS_x.run k a0 a1).trans h)
def laws_markNameS_x.l0:Nat->(List Name)->Int->Int->Option ((List Name) × Int)
 | 0,_,_,_=>none
 | k+1,x0,x1,x5=>bif (decide (x5<(x0.length:Int))) then (bif decide (0<=x5) then (bif decide (x5<(x0.length:Int)) then ((laws_markStringS_x.F k ((x0.getD ((x5:Int).toNat) (dflt .name)).given) x1).bind fun r1=>(some (x0.set ((x5:Int).toNat) (⟨r1.1,(x0.getD ((x5:Int).toNat) (dflt .name)).particle,(x0.getD ((x5:Int).toNat) (dflt .name)).family,(x0.getD ((x5:Int).toNat) (dflt .name)).suffix⟩:Name))).bind fun w2=>(laws_markText.F k r1.2).bind fun r3=>bif decide (0<=x5) then (bif decide (x5<(w2.length:Int)) then ((some (w2.set ((x5:Int).toNat) (⟨(w2.getD ((x5:Int).toNat) (dflt .name)).given,r3,(w2.getD ((x5:Int).toNat) (dflt .name)).family,(w2.getD ((x5:Int).toNat) (dflt .name)).suffix⟩:Name))).bind fun w4=>(laws_markText.F k (IntKind.wrap .i64 (r1.2+1))).bind fun r5=>bif decide (0<=x5) then (bif decide (x5<(w4.length:Int)) then ((some (w4.set ((x5:Int).toNat) (⟨(w4.getD ((x5:Int).toNat) (dflt .name)).given,(w4.getD ((x5:Int).toNat) (dflt .name)).particle,r5,(w4.getD ((x5:Int).toNat) (dflt .name)).suffix⟩:Name))).bind fun w6=>(laws_markText.F k (IntKind.wrap .i64 ((IntKind.wrap .i64 (r1.2+1))+1))).bind fun r7=>bif decide (0<=x5) then (bif decide (x5<(w6.length:Int)) then ((some (w6.set ((x5:Int).toNat) (⟨(w6.getD ((x5:Int).toNat) (dflt .name)).given,(w6.getD ((x5:Int).toNat) (dflt .name)).particle,(w6.getD ((x5:Int).toNat) (dflt .name)).family,r7⟩:Name))).bind fun w8=>laws_markNameS_x.l0 k w8 (IntKind.wrap .i64 ((IntKind.wrap .i64 ((IntKind.wrap .i64 (r1.2+1))+1))+1)) (IntKind.wrap .i64 (x5+1))) else none) else none) else none) else none) else none) else none) else none) else none) else (some (x0,x1))
def laws_markNameS_x.F (k:Nat) (a0:List Name) (a1:Int):Option ((List Name) × Int):=(laws_markNameS_x.l0 k a0 a1 0).bind fun y9=>some (y9.1,y9.2)
def laws_markNameS_x.C (k:Nat):Cal->Option CArm:=fun c=>match c with
 | .f 52=>some (.x (.sl .str) (fun x q=>laws_markStringS_x.F k x q))
 | .f 81=>some (.p [(.int .i64)] _ (fun x=>laws_markText.F k x.1) (fun r=>(.t .str r)))
 | _=>none
def laws_markNameS_x.sp0:List Sp:=[.tv 0 1099511627776 0 (.sl .name) false,.t 1 (.int .i64),.t 5 (.int .i64)]
def laws_markNameS_x.sp0_0:List Sp:=[.tv 0 1099511627776 0 (.sl .name) false,.t 1 (.int .i64)]
def laws_markNameS_x.A0:LArm:=.one laws_markNameS_x.sp0 laws_markNameS_x.sp0_0 ((List Name) × Int) (fun k x=>laws_markNameS_x.l0 k x.1 x.2.1 x.2.2.1) (.exit 0) (fun y=>(y.1,y.2,())) (fun x=>(x.1,x.2.1))
def laws_markNameS_x.L:Nat->Option LArm:=fun b=>match b with
 | 0=>some laws_markNameS_x.A0
 | _=>none
theorem laws_markNameS_x.run (k:Nat) (a0:List Name) (a1:Int):Gx.runX envX (tabC (laws_markNameS_x.C k)) (tabL 44 k laws_markNameS_x.L) Tryz.f37 (.sl .name) a0 a1 (viewKep (.sl .name))=laws_markNameS_x.F k a0 a1:=by kernel_rfl
theorem laws_markNameS_x.step0 (k:Nat) (x0:List Name) (x1:Int) (x5:Int):runC envX (tabC (laws_markNameS_x.C k)) (tabL 44 k laws_markNameS_x.L) 0 (loopAt Tryz.f37 0) (stOf 44 laws_markNameS_x.sp0 (x0,x1,x5,())) (laws_markNameS_x.A0.cont 44 k)=laws_markNameS_x.l0 (k+1) x0 x1 x5:=by kernel_rfl
theorem laws_markNameS_x.G (hE:EnvOk Tryz.prog envX) (pv:Nat->Value) (k:Nat):∀ cal A,laws_markNameS_x.C k cal=some A->ArmOk Tryz.prog envX pv cal A:=by
 intro cal A h
 unfold laws_markNameS_x.C at h
 split at h
 ·cases h; exact ⟨rfl,_,rfl,fun x q y hy=>laws_markStringS_x.good hE pv k x q hy⟩
 ·cases h; exact fun x y hy=>laws_markText.good hE pv k x.1 hy
 ·cases h
theorem laws_markNameS_x.good (hE:EnvOk Tryz.prog envX) (pv:Nat->Value) (k:Nat) (a0:List Name) (a1:Int) {y:_} (h:laws_markNameS_x.F k a0 a1=some y):MeetsX Tryz.prog envX pv 37 (.sl .name) a0 a1 y.1 y.2 :=
 funX_loops hE (t:=laws_markNameS_x.C) k (fun k _=>laws_markNameS_x.G hE pv k) (f:=37) (fn:=Tryz.f37) (by kernel_rfl) rfl (by kernel_rfl) (by kernel_rfl) (lt:=laws_markNameS_x.L) (by kernel_rfl) (fun b A h=>by
  unfold laws_markNameS_x.L at h; split at h
  ·cases h; exact ⟨by kernel_rfl,by kernel_rfl,fun _=>rfl,fun _=>rfl⟩
  ·cases h) (fun b A h=>by
  unfold laws_markNameS_x.L at h; split at h
  ·cases h; exact fun k x=>laws_markNameS_x.step0 k x.1 x.2.1 x.2.2.1
  ·cases h) rfl ((laws_markNameS_x.run k a0 a1).trans h)
def spec_ResolveLibrary.l0:Nat->Library->(List Entry)->(List Entry)->Int->Option (Sum ((List Entry) × Bool) ((List Entry) × (List Entry)))
 | 0,_,_,_,_=>none
 | k+1,x1,x2,x4,x5=>bif (decide (x5<(x1.entries.length:Int))) then ((spec_l21Resolve.F k x1 x5).bind fun r2=>bif (!r2.2) then (some (.inl (([]:List Entry),false))) else (bif room (x4.length+([r2.1]:List Entry).length) .entry then (spec_ResolveLibrary.l0 k x1 x2 (x4++([r2.1]:List Entry)) (IntKind.wrap .i64 (x5+1))) else none)) else (some (.inr (x2,x4)))
def spec_ResolveLibrary.F (k:Nat) (a0:Library):Option (Library × Bool):=(spec_l4Good.F k a0).bind fun r1=>bif (!r1) then (some ((⟨([]:List Entry)⟩:Library),false)) else ((spec_ResolveLibrary.l0 k a0 ([]:List Entry) ([]:List Entry) 0).bind fun y3=>match y3 with | .inl z4=>some ((⟨z4.1⟩:Library),z4.2) | .inr z4=>some ((⟨z4.2⟩:Library),true))
def spec_ResolveLibrary.C (k:Nat):Cal->Option CArm:=fun c=>match c with
 | .f 40=>some (.p [.lib] _ (fun x=>spec_l4Good.F k x.1) (fun r=>(.t .bool r)))
 | .f 55=>some (.p [.lib,(.int .i64)] _ (fun x=>spec_l21Resolve.F k x.1 x.2.1) (fun r=>(.tup [.t .entry r.1,.t .bool r.2])))
 | _=>none
def spec_ResolveLibrary.sp0:List Sp:=[.boxT 1 0 .lib,.boxF 2 4 .lib [.t (.sl .entry)],.boxF 4 1032 .lib [.own 1024 31 .entry false true],.t 5 (.int .i64)]
def spec_ResolveLibrary.sp0_0:List Sp:=[.boxF 2 4 .lib [.t (.sl .entry)],.t 3 .bool]
def spec_ResolveLibrary.sp0_1:List Sp:=[.boxF 2 4 .lib [.t (.sl .entry)],.boxF 4 1032 .lib [.own 1024 31 .entry false true]]
def spec_ResolveLibrary.A0:LArm:=.two spec_ResolveLibrary.sp0 spec_ResolveLibrary.sp0_0 spec_ResolveLibrary.sp0_1 ((List Entry) × Bool) ((List Entry) × (List Entry)) (fun k x=>spec_ResolveLibrary.l0 k x.1 x.2.1.1 x.2.2.1.1 x.2.2.2.1) .ret (.exit 0) (fun y=>((y.1,()),y.2,())) (fun x=>(x.1.1,x.2.1)) (fun y=>((y.1,()),(y.2,()),())) (fun x=>(x.1.1,x.2.1.1))
def spec_ResolveLibrary.L:Nat->Option LArm:=fun b=>match b with
 | 0=>some spec_ResolveLibrary.A0
 | _=>none
theorem spec_ResolveLibrary.run (k:Nat) (a0:Library):runF envX (tabC (spec_ResolveLibrary.C k)) (tabL 37 k spec_ResolveLibrary.L) Tryz.f25 [.t .lib a0] (viewR2 (.t .lib) (.t .bool))=spec_ResolveLibrary.F k a0:=by kernel_rfl
theorem spec_ResolveLibrary.step0 (k:Nat) (x1:Library) (x2:List Entry) (x4:List Entry) (x5:Int):runC envX (tabC (spec_ResolveLibrary.C k)) (tabL 37 k spec_ResolveLibrary.L) 0 (loopAt Tryz.f25 0) (stOf 37 spec_ResolveLibrary.sp0 (x1,(x2,()),(x4,()),x5,())) (spec_ResolveLibrary.A0.cont 37 k)=spec_ResolveLibrary.l0 (k+1) x1 x2 x4 x5:=by kernel_rfl
theorem spec_ResolveLibrary.G (hE:EnvOk Tryz.prog envX) (pv:Nat->Value) (k:Nat):∀ cal A,spec_ResolveLibrary.C k cal=some A->ArmOk Tryz.prog envX pv cal A:=by
 intro cal A h
 unfold spec_ResolveLibrary.C at h
 split at h
 ·cases h; exact fun x y hy=>spec_l4Good.good hE pv k x.1 hy
 ·cases h; exact fun x y hy=>spec_l21Resolve.good hE pv k x.1 x.2.1 hy
 ·cases h
theorem spec_ResolveLibrary.good (hE:EnvOk Tryz.prog envX) (pv:Nat->Value) (k:Nat) (a0:Library) {y:_} (h:spec_ResolveLibrary.F k a0=some y):Meets Tryz.prog envX pv (.f 25) (tvals [.lib] (a0,())) (.tup [.t .lib y.1,.t .bool y.2]) :=
 fun_loops hE (t:=spec_ResolveLibrary.C) k (fun k _=>spec_ResolveLibrary.G hE pv k) (f:=25) (fn:=Tryz.f25) (by kernel_rfl) rfl (by kernel_rfl) (by kernel_rfl) (lt:=spec_ResolveLibrary.L) (by kernel_rfl) (fun b A h=>by
  unfold spec_ResolveLibrary.L at h; split at h
  ·cases h; exact ⟨by kernel_rfl,by kernel_rfl,by kernel_rfl,fun _=>rfl,fun _=>rfl,fun _=>rfl⟩
  ·cases h) (fun b A h=>by
  unfold spec_ResolveLibrary.L at h; split at h
  ·cases h; exact fun k x=>spec_ResolveLibrary.step0 k x.1 x.2.1.1 x.2.2.1.1 x.2.2.2.1
  ·cases h) ((spec_ResolveLibrary.run k a0).trans h) (fun r hr=>wk_view2 hr)
def laws_heldEntryS.l0:Nat->(List Entry)->Int->Int->Option (Sum Int Int)
 | 0,_,_,_=>none
 | k+1,x0,x1,x5=>bif (decide (x5<(x0.length:Int))) then (bif decide (0<=x5) then (bif decide (x5<(x0.length:Int)) then ((laws_markText.F k x1).bind fun r1=>bif (!beqS ((x0.getD (x5:Int).toNat (dflt .entry)).key) r1) then (some (.inl (-1))) else (bif decide (0<=x5) then (bif decide (x5<(x0.length:Int)) then (bif (((x0.getD (x5:Int).toNat (dflt .entry)).kind) != (IntKind.wrap .i64 (x1+1))) then (some (.inl (-1))) else (bif decide (0<=x5) then (bif decide (x5<(x0.length:Int)) then ((laws_heldNameS.F k ((x0.getD (x5:Int).toNat (dflt .entry)).authors) (IntKind.wrap .i64 ((IntKind.wrap .i64 (x1+1))+1))).bind fun r2=>bif (decide (r2<0)) then (some (.inl (-1))) else (bif decide (0<=x5) then (bif decide (x5<(x0.length:Int)) then ((laws_heldNameS.F k ((x0.getD (x5:Int).toNat (dflt .entry)).editors) r2).bind fun r3=>bif (decide (r3<0)) then (some (.inl (-1))) else (bif decide (0<=x5) then (bif decide (x5<(x0.length:Int)) then ((laws_markText.F k r3).bind fun r4=>bif (!beqS ((x0.getD (x5:Int).toNat (dflt .entry)).title) r4) then (some (.inl (-1))) else (bif decide (0<=x5) then (bif decide (x5<(x0.length:Int)) then ((laws_markText.F k (IntKind.wrap .i64 (r3+1))).bind fun r5=>bif (!beqS ((x0.getD (x5:Int).toNat (dflt .entry)).container) r5) then (some (.inl (-1))) else (bif decide (0<=x5) then (bif decide (x5<(x0.length:Int)) then ((laws_markText.F k (IntKind.wrap .i64 ((IntKind.wrap .i64 (r3+1))+1))).bind fun r6=>bif (!beqS ((x0.getD (x5:Int).toNat (dflt .entry)).publisher) r6) then (some (.inl (-1))) else (bif decide (0<=x5) then (bif decide (x5<(x0.length:Int)) then (bif ((((x0.getD (x5:Int).toNat (dflt .entry)).date).y) != (IntKind.wrap .i64 ((IntKind.wrap .i64 ((IntKind.wrap .i64 (r3+1))+1))+1))) then (some (.inl (-1))) else (bif decide (0<=x5) then (bif decide (x5<(x0.length:Int)) then (bif ((((x0.getD (x5:Int).toNat (dflt .entry)).date).m) != (IntKind.wrap .i64 ((IntKind.wrap .i64 ((IntKind.wrap .i64 ((IntKind.wrap .i64 (r3+1))+1))+1))+1))) then (some (.inl (-1))) else (bif decide (0<=x5) then (bif decide (x5<(x0.length:Int)) then (bif ((((x0.getD (x5:Int).toNat (dflt .entry)).date).d) != (IntKind.wrap .i64 ((IntKind.wrap .i64 ((IntKind.wrap .i64 ((IntKind.wrap .i64 ((IntKind.wrap .i64 (r3+1))+1))+1))+1))+1))) then (some (.inl (-1))) else (bif decide (0<=x5) then (bif decide (x5<(x0.length:Int)) then (bif (3==0) then (none) else (bif (!((((x0.getD (x5:Int).toNat (dflt .entry)).date).c)==((Int.tmod (IntKind.wrap .i64 ((IntKind.wrap .i64 ((IntKind.wrap .i64 ((IntKind.wrap .i64 ((IntKind.wrap .i64 ((IntKind.wrap .i64 (r3+1))+1))+1))+1))+1))+1)) 3)==0))) then (some (.inl (-1))) else (bif decide (0<=x5) then (bif decide (x5<(x0.length:Int)) then (bif (((x0.getD (x5:Int).toNat (dflt .entry)).volume) != (IntKind.wrap .i64 ((IntKind.wrap .i64 ((IntKind.wrap .i64 ((IntKind.wrap .i64 ((IntKind.wrap .i64 ((IntKind.wrap .i64 ((IntKind.wrap .i64 (r3+1))+1))+1))+1))+1))+1))+1))) then (some (.inl (-1))) else (bif decide (0<=x5) then (bif decide (x5<(x0.length:Int)) then ((laws_markText.F k (IntKind.wrap .i64 ((IntKind.wrap .i64 ((IntKind.wrap .i64 ((IntKind.wrap .i64 ((IntKind.wrap .i64 ((IntKind.wrap .i64 ((IntKind.wrap .i64 ((IntKind.wrap .i64 (r3+1))+1))+1))+1))+1))+1))+1))+1))).bind fun r7=>bif (!beqS ((x0.getD (x5:Int).toNat (dflt .entry)).pages) r7) then (some (.inl (-1))) else (bif decide (0<=x5) then (bif decide (x5<(x0.length:Int)) then ((laws_markText.F k (IntKind.wrap .i64 ((IntKind.wrap .i64 ((IntKind.wrap .i64 ((IntKind.wrap .i64 ((IntKind.wrap .i64 ((IntKind.wrap .i64 ((IntKind.wrap .i64 ((IntKind.wrap .i64 ((IntKind.wrap .i64 (r3+1))+1))+1))+1))+1))+1))+1))+1))+1))).bind fun r8=>bif (!beqS ((x0.getD (x5:Int).toNat (dflt .entry)).cross) r8) then (some (.inl (-1))) else (laws_heldEntryS.l0 k x0 (IntKind.wrap .i64 ((IntKind.wrap .i64 ((IntKind.wrap .i64 ((IntKind.wrap .i64 ((IntKind.wrap .i64 ((IntKind.wrap .i64 ((IntKind.wrap .i64 ((IntKind.wrap .i64 ((IntKind.wrap .i64 ((IntKind.wrap .i64 (r3+1))+1))+1))+1))+1))+1))+1))+1))+1))+1)) (IntKind.wrap .i64 (x5+1)))) else none) else none)) else none) else none)) else none) else none))) else none) else none)) else none) else none)) else none) else none)) else none) else none)) else none) else none)) else none) else none)) else none) else none)) else none) else none)) else none) else none)) else none) else none)) else none) else none) else (some (.inr x1))
def laws_heldEntryS.F (k:Nat) (a0:List Entry) (a1:Int):Option (Int):=(laws_heldEntryS.l0 k a0 a1 0).bind fun y9=>match y9 with | .inl z10=>some z10 | .inr z10=>some z10
def laws_heldEntryS.C (k:Nat):Cal->Option CArm:=fun c=>match c with
 | .f 81=>some (.p [(.int .i64)] _ (fun x=>laws_markText.F k x.1) (fun r=>(.t .str r)))
 | .f 38=>some (.p [(.sl .name),(.int .i64)] _ (fun x=>laws_heldNameS.F k x.1 x.2.1) (fun r=>(.t (.int .i64) r)))
 | _=>none
def laws_heldEntryS.sp0:List Sp:=[.t 0 (.sl .entry),.t 1 (.int .i64),.t 5 (.int .i64)]
def laws_heldEntryS.sp0_0:List Sp:=[.t 4 (.int .i64)]
def laws_heldEntryS.sp0_1:List Sp:=[.t 1 (.int .i64)]
def laws_heldEntryS.A0:LArm:=.two laws_heldEntryS.sp0 laws_heldEntryS.sp0_0 laws_heldEntryS.sp0_1 (Int) (Int) (fun k x=>laws_heldEntryS.l0 k x.1 x.2.1 x.2.2.1) .ret (.exit 0) (fun y=>(y,())) (fun x=>x.1) (fun y=>(y,())) (fun x=>x.1)
def laws_heldEntryS.L:Nat->Option LArm:=fun b=>match b with
 | 0=>some laws_heldEntryS.A0
 | _=>none
theorem laws_heldEntryS.run (k:Nat) (a0:List Entry) (a1:Int):runF envX (tabC (laws_heldEntryS.C k)) (tabL 151 k laws_heldEntryS.L) Tryz.f59 [.t (.sl .entry) a0,.t (.int .i64) a1] (viewR1 (.t (.int .i64)))=laws_heldEntryS.F k a0 a1:=by kernel_rfl
theorem laws_heldEntryS.step0 (k:Nat) (x0:List Entry) (x1:Int) (x5:Int):runC envX (tabC (laws_heldEntryS.C k)) (tabL 151 k laws_heldEntryS.L) 0 (loopAt Tryz.f59 0) (stOf 151 laws_heldEntryS.sp0 (x0,x1,x5,())) (laws_heldEntryS.A0.cont 151 k)=laws_heldEntryS.l0 (k+1) x0 x1 x5:=by kernel_rfl
theorem laws_heldEntryS.G (hE:EnvOk Tryz.prog envX) (pv:Nat->Value) (k:Nat):∀ cal A,laws_heldEntryS.C k cal=some A->ArmOk Tryz.prog envX pv cal A:=by
 intro cal A h
 unfold laws_heldEntryS.C at h
 split at h
 ·cases h; exact fun x y hy=>laws_markText.good hE pv k x.1 hy
 ·cases h; exact fun x y hy=>laws_heldNameS.good hE pv k x.1 x.2.1 hy
 ·cases h
theorem laws_heldEntryS.good (hE:EnvOk Tryz.prog envX) (pv:Nat->Value) (k:Nat) (a0:List Entry) (a1:Int) {y:_} (h:laws_heldEntryS.F k a0 a1=some y):Meets Tryz.prog envX pv (.f 59) (tvals [(.sl .entry),(.int .i64)] (a0,a1,())) (.t (.int .i64) y) :=
 fun_loops hE (t:=laws_heldEntryS.C) k (fun k _=>laws_heldEntryS.G hE pv k) (f:=59) (fn:=Tryz.f59) (by kernel_rfl) rfl (by kernel_rfl) (by kernel_rfl) (lt:=laws_heldEntryS.L) (by kernel_rfl) (fun b A h=>by
  unfold laws_heldEntryS.L at h; split at h
  ·cases h; exact ⟨by kernel_rfl,by kernel_rfl,by kernel_rfl,fun _=>rfl,fun _=>rfl,fun _=>rfl⟩
  ·cases h) (fun b A h=>by
  unfold laws_heldEntryS.L at h; split at h
  ·cases h; exact fun k x=>laws_heldEntryS.step0 k x.1 x.2.1 x.2.2.1
  ·cases h) ((laws_heldEntryS.run k a0 a1).trans h) (fun r hr=>wk_view1 hr)
def laws_heldLibrary.F (k:Nat) (a0:Library) (a1:Int):Option (Int):=(laws_heldEntryS.F k a0.entries a1).bind fun r1=>bif (decide (r1<0)) then (some (-1)) else (some r1)
def laws_heldLibrary.C (k:Nat):Cal->Option CArm:=fun c=>match c with
 | .f 59=>some (.p [(.sl .entry),(.int .i64)] _ (fun x=>laws_heldEntryS.F k x.1 x.2.1) (fun r=>(.t (.int .i64) r)))
 | _=>none
theorem laws_heldLibrary.run (k:Nat) (a0:Library) (a1:Int):runF envX (tabC (laws_heldLibrary.C k)) (tabL 12 0 (fun _=>none)) Tryz.f27 [.t .lib a0,.t (.int .i64) a1] (viewR1 (.t (.int .i64)))=laws_heldLibrary.F k a0 a1:=by kernel_rfl
theorem laws_heldLibrary.G (hE:EnvOk Tryz.prog envX) (pv:Nat->Value) (k:Nat):∀ cal A,laws_heldLibrary.C k cal=some A->ArmOk Tryz.prog envX pv cal A:=by
 intro cal A h
 unfold laws_heldLibrary.C at h
 split at h
 ·cases h; exact fun x y hy=>laws_heldEntryS.good hE pv k x.1 x.2.1 hy
 ·cases h
theorem laws_heldLibrary.good (hE:EnvOk Tryz.prog envX) (pv:Nat->Value) (k:Nat) (a0:Library) (a1:Int) {y:_} (h:laws_heldLibrary.F k a0 a1=some y):Meets Tryz.prog envX pv (.f 27) (tvals [.lib,(.int .i64)] (a0,a1,())) (.t (.int .i64) y) :=
 fun_plain hE (laws_heldLibrary.G hE pv k) (f:=27) (fn:=Tryz.f27) (by kernel_rfl) rfl (by kernel_rfl) (by kernel_rfl) ((laws_heldLibrary.run k a0 a1).trans h) (fun r hr=>wk_view1 hr)
def impl_ResolveLibrary_t.l0:Nat->Library->(List Entry)->Int->Int->Option (Sum Bool (List Entry))
 | 0,_,_,_,_=>none
 | k+1,x1,x4,x16,x17=>bif (decide (x17<x16)) then ((impl_resolveEntry_t.F k x1 x17).bind fun r2=>bif (!r2.2) then (some (.inl false)) else (bif room (x4.length+([r2.1]:List Entry).length) .entry then (impl_ResolveLibrary_t.l0 k x1 (x4++([r2.1]:List Entry)) x16 (IntKind.wrap .i64 (x17+1))) else none)) else (some (.inr x4))
def impl_ResolveLibrary_t.F (k:Nat) (a0:Library):Option (Library × Bool):=(impl_IsValidLibrary.F k a0).bind fun r1=>bif (!r1) then (some ((⟨([]:List Entry)⟩:Library),false)) else ((impl_ResolveLibrary_t.l0 k a0 ([]:List Entry) (a0.entries.length:Int) 0).bind fun y3=>match y3 with | .inl z4=>some ((⟨([]:List Entry)⟩:Library),z4) | .inr z4=>some ((⟨z4⟩:Library),true))
def impl_ResolveLibrary_t.C (k:Nat):Cal->Option CArm:=fun c=>match c with
 | .f 58=>some (.tt [.lib,(.int .i64)] _ (fun x=>impl_resolveEntry_t.F k x.1 x.2.1) (fun r=>(.tup [.tr .entry r.1,.t .bool r.2])))
 | .f 44=>some (.p [.lib] _ (fun x=>impl_IsValidLibrary.F k x.1) (fun r=>(.t .bool r)))
 | _=>none
def impl_ResolveLibrary_t.sp0:List Sp:=[.boxT 1 0 .lib,.boxF 2 4 .lib [.con (.nil)],.boxF 4 3080 .lib [.tv 3072 31 (.sl .entry) true],.t 16 (.int .i64),.t 17 (.int .i64)]
def impl_ResolveLibrary_t.sp0_0:List Sp:=[.boxF 2 4 .lib [.con (.nil)],.t 3 .bool]
def impl_ResolveLibrary_t.sp0_1:List Sp:=[.boxF 2 4 .lib [.con (.nil)],.boxF 4 3080 .lib [.tv 3072 31 (.sl .entry) true]]
def impl_ResolveLibrary_t.A0:LArm:=.two impl_ResolveLibrary_t.sp0 impl_ResolveLibrary_t.sp0_0 impl_ResolveLibrary_t.sp0_1 (Bool) ((List Entry)) (fun k x=>impl_ResolveLibrary_t.l0 k x.1 x.2.2.1.1 x.2.2.2.1 x.2.2.2.2.1) .ret (.exit 0) (fun y=>(((),()),y,())) (fun x=>x.2.1) (fun y=>(((),()),(y,()),())) (fun x=>x.2.1.1)
def impl_ResolveLibrary_t.L:Nat->Option LArm:=fun b=>match b with
 | 0=>some impl_ResolveLibrary_t.A0
 | _=>none
theorem impl_ResolveLibrary_t.run (k:Nat) (a0:Library):Gx.runT envT (tabC (impl_ResolveLibrary_t.C k)) (tabL 37 k impl_ResolveLibrary_t.L) Tryz.f26 [.t .lib a0] (viewK2 (.tr .lib) (.t .bool))=impl_ResolveLibrary_t.F k a0:=by kernel_rfl
theorem impl_ResolveLibrary_t.step0 (k:Nat) (x1:Library) (x4:List Entry) (x16:Int) (x17:Int):runC envT (tabC (impl_ResolveLibrary_t.C k)) (tabL 37 k impl_ResolveLibrary_t.L) 0 (loopAt Tryz.f26 0) (stOf 37 impl_ResolveLibrary_t.sp0 (x1,((),()),(x4,()),x16,x17,())) (impl_ResolveLibrary_t.A0.cont 37 k)=impl_ResolveLibrary_t.l0 (k+1) x1 x4 x16 x17:=by kernel_rfl
theorem impl_ResolveLibrary_t.G (hE:EnvOk Tryz.prog envT) (pv:Nat->Value) (k:Nat):∀ cal A,impl_ResolveLibrary_t.C k cal=some A->ArmOk Tryz.prog envT pv cal A:=by
 intro cal A h
 unfold impl_ResolveLibrary_t.C at h
 split at h
 ·cases h; exact ⟨_,rfl,fun x y hy=>impl_resolveEntry_t.good hE pv k x.1 x.2.1 hy⟩
 ·cases h; exact fun x y hy=>impl_IsValidLibrary.good envOk pv k x.1 hy
 ·cases h
theorem impl_ResolveLibrary_t.good (hE:EnvOk Tryz.prog envT) (pv:Nat->Value) (k:Nat) (a0:Library) {y:_} (h:impl_ResolveLibrary_t.F k a0=some y):MeetsT Tryz.prog envT pv 26 (tvals [.lib] (a0,())) (.tup [.tr .lib y.1,.t .bool y.2]) :=
 funT_loops hE (t:=impl_ResolveLibrary_t.C) k (fun k _=>impl_ResolveLibrary_t.G hE pv k) (f:=26) (fn:=Tryz.f26) (by kernel_rfl) rfl (by kernel_rfl) (by kernel_rfl) (lt:=impl_ResolveLibrary_t.L) (by kernel_rfl) (fun b A h=>by
  unfold impl_ResolveLibrary_t.L at h; split at h
  ·cases h; exact ⟨by kernel_rfl,by kernel_rfl,by kernel_rfl,fun _=>rfl,fun _=>rfl,fun _=>rfl⟩
  ·cases h) (fun b A h=>by
  unfold impl_ResolveLibrary_t.L at h; split at h
  ·cases h; exact fun k x=>impl_ResolveLibrary_t.step0 k x.1 x.2.2.1.1 x.2.2.2.1 x.2.2.2.2.1
  ·cases h) ((impl_ResolveLibrary_t.run k a0).trans h) (fun r hr=>kt_view2 (k:=(.tr .lib)) (l:=(.t .bool)) hr)
def laws_markEntryS_x.l0:Nat->(List Entry)->Int->Int->Option ((List Entry) × Int)
 | 0,_,_,_=>none
 | k+1,x0,x1,x5=>bif (decide (x5<(x0.length:Int))) then ((laws_markText.F k x1).bind fun r1=>bif decide (0<=x5) then (bif decide (x5<(x0.length:Int)) then ((some (x0.set ((x5:Int).toNat) (⟨r1,(x0.getD ((x5:Int).toNat) (dflt .entry)).kind,(x0.getD ((x5:Int).toNat) (dflt .entry)).authors,(x0.getD ((x5:Int).toNat) (dflt .entry)).editors,(x0.getD ((x5:Int).toNat) (dflt .entry)).title,(x0.getD ((x5:Int).toNat) (dflt .entry)).container,(x0.getD ((x5:Int).toNat) (dflt .entry)).publisher,(x0.getD ((x5:Int).toNat) (dflt .entry)).date,(x0.getD ((x5:Int).toNat) (dflt .entry)).volume,(x0.getD ((x5:Int).toNat) (dflt .entry)).pages,(x0.getD ((x5:Int).toNat) (dflt .entry)).cross⟩:Entry))).bind fun w2=>bif decide (0<=x5) then (bif decide (x5<(w2.length:Int)) then ((some (w2.set ((x5:Int).toNat) (⟨(w2.getD ((x5:Int).toNat) (dflt .entry)).key,(IntKind.wrap .i64 (x1+1)),(w2.getD ((x5:Int).toNat) (dflt .entry)).authors,(w2.getD ((x5:Int).toNat) (dflt .entry)).editors,(w2.getD ((x5:Int).toNat) (dflt .entry)).title,(w2.getD ((x5:Int).toNat) (dflt .entry)).container,(w2.getD ((x5:Int).toNat) (dflt .entry)).publisher,(w2.getD ((x5:Int).toNat) (dflt .entry)).date,(w2.getD ((x5:Int).toNat) (dflt .entry)).volume,(w2.getD ((x5:Int).toNat) (dflt .entry)).pages,(w2.getD ((x5:Int).toNat) (dflt .entry)).cross⟩:Entry))).bind fun w3=>bif decide (0<=x5) then (bif decide (x5<(w3.length:Int)) then ((laws_markNameS_x.F k ((w3.getD ((x5:Int).toNat) (dflt .entry)).authors) (IntKind.wrap .i64 ((IntKind.wrap .i64 (x1+1))+1))).bind fun r4=>(some (w3.set ((x5:Int).toNat) (⟨(w3.getD ((x5:Int).toNat) (dflt .entry)).key,(w3.getD ((x5:Int).toNat) (dflt .entry)).kind,r4.1,(w3.getD ((x5:Int).toNat) (dflt .entry)).editors,(w3.getD ((x5:Int).toNat) (dflt .entry)).title,(w3.getD ((x5:Int).toNat) (dflt .entry)).container,(w3.getD ((x5:Int).toNat) (dflt .entry)).publisher,(w3.getD ((x5:Int).toNat) (dflt .entry)).date,(w3.getD ((x5:Int).toNat) (dflt .entry)).volume,(w3.getD ((x5:Int).toNat) (dflt .entry)).pages,(w3.getD ((x5:Int).toNat) (dflt .entry)).cross⟩:Entry))).bind fun w5=>bif decide (0<=x5) then (bif decide (x5<(w5.length:Int)) then ((laws_markNameS_x.F k ((w5.getD ((x5:Int).toNat) (dflt .entry)).editors) r4.2).bind fun r6=>(some (w5.set ((x5:Int).toNat) (⟨(w5.getD ((x5:Int).toNat) (dflt .entry)).key,(w5.getD ((x5:Int).toNat) (dflt .entry)).kind,(w5.getD ((x5:Int).toNat) (dflt .entry)).authors,r6.1,(w5.getD ((x5:Int).toNat) (dflt .entry)).title,(w5.getD ((x5:Int).toNat) (dflt .entry)).container,(w5.getD ((x5:Int).toNat) (dflt .entry)).publisher,(w5.getD ((x5:Int).toNat) (dflt .entry)).date,(w5.getD ((x5:Int).toNat) (dflt .entry)).volume,(w5.getD ((x5:Int).toNat) (dflt .entry)).pages,(w5.getD ((x5:Int).toNat) (dflt .entry)).cross⟩:Entry))).bind fun w7=>(laws_markText.F k r6.2).bind fun r8=>bif decide (0<=x5) then (bif decide (x5<(w7.length:Int)) then ((some (w7.set ((x5:Int).toNat) (⟨(w7.getD ((x5:Int).toNat) (dflt .entry)).key,(w7.getD ((x5:Int).toNat) (dflt .entry)).kind,(w7.getD ((x5:Int).toNat) (dflt .entry)).authors,(w7.getD ((x5:Int).toNat) (dflt .entry)).editors,r8,(w7.getD ((x5:Int).toNat) (dflt .entry)).container,(w7.getD ((x5:Int).toNat) (dflt .entry)).publisher,(w7.getD ((x5:Int).toNat) (dflt .entry)).date,(w7.getD ((x5:Int).toNat) (dflt .entry)).volume,(w7.getD ((x5:Int).toNat) (dflt .entry)).pages,(w7.getD ((x5:Int).toNat) (dflt .entry)).cross⟩:Entry))).bind fun w9=>(laws_markText.F k (IntKind.wrap .i64 (r6.2+1))).bind fun r10=>bif decide (0<=x5) then (bif decide (x5<(w9.length:Int)) then ((some (w9.set ((x5:Int).toNat) (⟨(w9.getD ((x5:Int).toNat) (dflt .entry)).key,(w9.getD ((x5:Int).toNat) (dflt .entry)).kind,(w9.getD ((x5:Int).toNat) (dflt .entry)).authors,(w9.getD ((x5:Int).toNat) (dflt .entry)).editors,(w9.getD ((x5:Int).toNat) (dflt .entry)).title,r10,(w9.getD ((x5:Int).toNat) (dflt .entry)).publisher,(w9.getD ((x5:Int).toNat) (dflt .entry)).date,(w9.getD ((x5:Int).toNat) (dflt .entry)).volume,(w9.getD ((x5:Int).toNat) (dflt .entry)).pages,(w9.getD ((x5:Int).toNat) (dflt .entry)).cross⟩:Entry))).bind fun w11=>(laws_markText.F k (IntKind.wrap .i64 ((IntKind.wrap .i64 (r6.2+1))+1))).bind fun r12=>bif decide (0<=x5) then (bif decide (x5<(w11.length:Int)) then ((some (w11.set ((x5:Int).toNat) (⟨(w11.getD ((x5:Int).toNat) (dflt .entry)).key,(w11.getD ((x5:Int).toNat) (dflt .entry)).kind,(w11.getD ((x5:Int).toNat) (dflt .entry)).authors,(w11.getD ((x5:Int).toNat) (dflt .entry)).editors,(w11.getD ((x5:Int).toNat) (dflt .entry)).title,(w11.getD ((x5:Int).toNat) (dflt .entry)).container,r12,(w11.getD ((x5:Int).toNat) (dflt .entry)).date,(w11.getD ((x5:Int).toNat) (dflt .entry)).volume,(w11.getD ((x5:Int).toNat) (dflt .entry)).pages,(w11.getD ((x5:Int).toNat) (dflt .entry)).cross⟩:Entry))).bind fun w13=>bif decide (0<=x5) then (bif decide (x5<(w13.length:Int)) then ((some (w13.set ((x5:Int).toNat) (⟨(w13.getD ((x5:Int).toNat) (dflt .entry)).key,(w13.getD ((x5:Int).toNat) (dflt .entry)).kind,(w13.getD ((x5:Int).toNat) (dflt .entry)).authors,(w13.getD ((x5:Int).toNat) (dflt .entry)).editors,(w13.getD ((x5:Int).toNat) (dflt .entry)).title,(w13.getD ((x5:Int).toNat) (dflt .entry)).container,(w13.getD ((x5:Int).toNat) (dflt .entry)).publisher,(⟨(IntKind.wrap .i64 ((IntKind.wrap .i64 ((IntKind.wrap .i64 (r6.2+1))+1))+1)),((w13.getD ((x5:Int).toNat) (dflt .entry)).date).m,((w13.getD ((x5:Int).toNat) (dflt .entry)).date).d,((w13.getD ((x5:Int).toNat) (dflt .entry)).date).c⟩:Date),(w13.getD ((x5:Int).toNat) (dflt .entry)).volume,(w13.getD ((x5:Int).toNat) (dflt .entry)).pages,(w13.getD ((x5:Int).toNat) (dflt .entry)).cross⟩:Entry))).bind fun w14=>bif decide (0<=x5) then (bif decide (x5<(w14.length:Int)) then ((some (w14.set ((x5:Int).toNat) (⟨(w14.getD ((x5:Int).toNat) (dflt .entry)).key,(w14.getD ((x5:Int).toNat) (dflt .entry)).kind,(w14.getD ((x5:Int).toNat) (dflt .entry)).authors,(w14.getD ((x5:Int).toNat) (dflt .entry)).editors,(w14.getD ((x5:Int).toNat) (dflt .entry)).title,(w14.getD ((x5:Int).toNat) (dflt .entry)).container,(w14.getD ((x5:Int).toNat) (dflt .entry)).publisher,(⟨((w14.getD ((x5:Int).toNat) (dflt .entry)).date).y,(IntKind.wrap .i64 ((IntKind.wrap .i64 ((IntKind.wrap .i64 ((IntKind.wrap .i64 (r6.2+1))+1))+1))+1)),((w14.getD ((x5:Int).toNat) (dflt .entry)).date).d,((w14.getD ((x5:Int).toNat) (dflt .entry)).date).c⟩:Date),(w14.getD ((x5:Int).toNat) (dflt .entry)).volume,(w14.getD ((x5:Int).toNat) (dflt .entry)).pages,(w14.getD ((x5:Int).toNat) (dflt .entry)).cross⟩:Entry))).bind fun w15=>bif decide (0<=x5) then (bif decide (x5<(w15.length:Int)) then ((some (w15.set ((x5:Int).toNat) (⟨(w15.getD ((x5:Int).toNat) (dflt .entry)).key,(w15.getD ((x5:Int).toNat) (dflt .entry)).kind,(w15.getD ((x5:Int).toNat) (dflt .entry)).authors,(w15.getD ((x5:Int).toNat) (dflt .entry)).editors,(w15.getD ((x5:Int).toNat) (dflt .entry)).title,(w15.getD ((x5:Int).toNat) (dflt .entry)).container,(w15.getD ((x5:Int).toNat) (dflt .entry)).publisher,(⟨((w15.getD ((x5:Int).toNat) (dflt .entry)).date).y,((w15.getD ((x5:Int).toNat) (dflt .entry)).date).m,(IntKind.wrap .i64 ((IntKind.wrap .i64 ((IntKind.wrap .i64 ((IntKind.wrap .i64 ((IntKind.wrap .i64 (r6.2+1))+1))+1))+1))+1)),((w15.getD ((x5:Int).toNat) (dflt .entry)).date).c⟩:Date),(w15.getD ((x5:Int).toNat) (dflt .entry)).volume,(w15.getD ((x5:Int).toNat) (dflt .entry)).pages,(w15.getD ((x5:Int).toNat) (dflt .entry)).cross⟩:Entry))).bind fun w16=>bif (3==0) then (none) else (bif decide (0<=x5) then (bif decide (x5<(w16.length:Int)) then ((some (w16.set ((x5:Int).toNat) (⟨(w16.getD ((x5:Int).toNat) (dflt .entry)).key,(w16.getD ((x5:Int).toNat) (dflt .entry)).kind,(w16.getD ((x5:Int).toNat) (dflt .entry)).authors,(w16.getD ((x5:Int).toNat) (dflt .entry)).editors,(w16.getD ((x5:Int).toNat) (dflt .entry)).title,(w16.getD ((x5:Int).toNat) (dflt .entry)).container,(w16.getD ((x5:Int).toNat) (dflt .entry)).publisher,(⟨((w16.getD ((x5:Int).toNat) (dflt .entry)).date).y,((w16.getD ((x5:Int).toNat) (dflt .entry)).date).m,((w16.getD ((x5:Int).toNat) (dflt .entry)).date).d,((Int.tmod (IntKind.wrap .i64 ((IntKind.wrap .i64 ((IntKind.wrap .i64 ((IntKind.wrap .i64 ((IntKind.wrap .i64 ((IntKind.wrap .i64 (r6.2+1))+1))+1))+1))+1))+1)) 3)==0)⟩:Date),(w16.getD ((x5:Int).toNat) (dflt .entry)).volume,(w16.getD ((x5:Int).toNat) (dflt .entry)).pages,(w16.getD ((x5:Int).toNat) (dflt .entry)).cross⟩:Entry))).bind fun w17=>bif decide (0<=x5) then (bif decide (x5<(w17.length:Int)) then ((some (w17.set ((x5:Int).toNat) (⟨(w17.getD ((x5:Int).toNat) (dflt .entry)).key,(w17.getD ((x5:Int).toNat) (dflt .entry)).kind,(w17.getD ((x5:Int).toNat) (dflt .entry)).authors,(w17.getD ((x5:Int).toNat) (dflt .entry)).editors,(w17.getD ((x5:Int).toNat) (dflt .entry)).title,(w17.getD ((x5:Int).toNat) (dflt .entry)).container,(w17.getD ((x5:Int).toNat) (dflt .entry)).publisher,(w17.getD ((x5:Int).toNat) (dflt .entry)).date,(IntKind.wrap .i64 ((IntKind.wrap .i64 ((IntKind.wrap .i64 ((IntKind.wrap .i64 ((IntKind.wrap .i64 ((IntKind.wrap .i64 ((IntKind.wrap .i64 (r6.2+1))+1))+1))+1))+1))+1))+1)),(w17.getD ((x5:Int).toNat) (dflt .entry)).pages,(w17.getD ((x5:Int).toNat) (dflt .entry)).cross⟩:Entry))).bind fun w18=>(laws_markText.F k (IntKind.wrap .i64 ((IntKind.wrap .i64 ((IntKind.wrap .i64 ((IntKind.wrap .i64 ((IntKind.wrap .i64 ((IntKind.wrap .i64 ((IntKind.wrap .i64 ((IntKind.wrap .i64 (r6.2+1))+1))+1))+1))+1))+1))+1))+1))).bind fun r19=>bif decide (0<=x5) then (bif decide (x5<(w18.length:Int)) then ((some (w18.set ((x5:Int).toNat) (⟨(w18.getD ((x5:Int).toNat) (dflt .entry)).key,(w18.getD ((x5:Int).toNat) (dflt .entry)).kind,(w18.getD ((x5:Int).toNat) (dflt .entry)).authors,(w18.getD ((x5:Int).toNat) (dflt .entry)).editors,(w18.getD ((x5:Int).toNat) (dflt .entry)).title,(w18.getD ((x5:Int).toNat) (dflt .entry)).container,(w18.getD ((x5:Int).toNat) (dflt .entry)).publisher,(w18.getD ((x5:Int).toNat) (dflt .entry)).date,(w18.getD ((x5:Int).toNat) (dflt .entry)).volume,r19,(w18.getD ((x5:Int).toNat) (dflt .entry)).cross⟩:Entry))).bind fun w20=>(laws_markText.F k (IntKind.wrap .i64 ((IntKind.wrap .i64 ((IntKind.wrap .i64 ((IntKind.wrap .i64 ((IntKind.wrap .i64 ((IntKind.wrap .i64 ((IntKind.wrap .i64 ((IntKind.wrap .i64 ((IntKind.wrap .i64 (r6.2+1))+1))+1))+1))+1))+1))+1))+1))+1))).bind fun r21=>bif decide (0<=x5) then (bif decide (x5<(w20.length:Int)) then ((some (w20.set ((x5:Int).toNat) (⟨(w20.getD ((x5:Int).toNat) (dflt .entry)).key,(w20.getD ((x5:Int).toNat) (dflt .entry)).kind,(w20.getD ((x5:Int).toNat) (dflt .entry)).authors,(w20.getD ((x5:Int).toNat) (dflt .entry)).editors,(w20.getD ((x5:Int).toNat) (dflt .entry)).title,(w20.getD ((x5:Int).toNat) (dflt .entry)).container,(w20.getD ((x5:Int).toNat) (dflt .entry)).publisher,(w20.getD ((x5:Int).toNat) (dflt .entry)).date,(w20.getD ((x5:Int).toNat) (dflt .entry)).volume,(w20.getD ((x5:Int).toNat) (dflt .entry)).pages,r21⟩:Entry))).bind fun w22=>laws_markEntryS_x.l0 k w22 (IntKind.wrap .i64 ((IntKind.wrap .i64 ((IntKind.wrap .i64 ((IntKind.wrap .i64 ((IntKind.wrap .i64 ((IntKind.wrap .i64 ((IntKind.wrap .i64 ((IntKind.wrap .i64 ((IntKind.wrap .i64 ((IntKind.wrap .i64 (r6.2+1))+1))+1))+1))+1))+1))+1))+1))+1))+1)) (IntKind.wrap .i64 (x5+1))) else none) else none) else none) else none) else none) else none) else none) else none)) else none) else none) else none) else none) else none) else none) else none) else none) else none) else none) else none) else none) else none) else none) else none) else none) else none) else none) else none) else none) else (some (x0,x1))
def laws_markEntryS_x.F (k:Nat) (a0:List Entry) (a1:Int):Option ((List Entry) × Int):=(laws_markEntryS_x.l0 k a0 a1 0).bind fun y23=>some (y23.1,y23.2)
def laws_markEntryS_x.C (k:Nat):Cal->Option CArm:=fun c=>match c with
 | .f 37=>some (.x (.sl .name) (fun x q=>laws_markNameS_x.F k x q))
 | .f 81=>some (.p [(.int .i64)] _ (fun x=>laws_markText.F k x.1) (fun r=>(.t .str r)))
 | _=>none
def laws_markEntryS_x.sp0:List Sp:=[.tv 0 1099511627776 0 (.sl .entry) false,.t 1 (.int .i64),.t 5 (.int .i64)]
def laws_markEntryS_x.sp0_0:List Sp:=[.tv 0 1099511627776 0 (.sl .entry) false,.t 1 (.int .i64)]
def laws_markEntryS_x.A0:LArm:=.one laws_markEntryS_x.sp0 laws_markEntryS_x.sp0_0 ((List Entry) × Int) (fun k x=>laws_markEntryS_x.l0 k x.1 x.2.1 x.2.2.1) (.exit 0) (fun y=>(y.1,y.2,())) (fun x=>(x.1,x.2.1))
def laws_markEntryS_x.L:Nat->Option LArm:=fun b=>match b with
 | 0=>some laws_markEntryS_x.A0
 | _=>none
theorem laws_markEntryS_x.run (k:Nat) (a0:List Entry) (a1:Int):Gx.runX envX (tabC (laws_markEntryS_x.C k)) (tabL 123 k laws_markEntryS_x.L) Tryz.f51 (.sl .entry) a0 a1 (viewKep (.sl .entry))=laws_markEntryS_x.F k a0 a1:=by kernel_rfl
theorem laws_markEntryS_x.step0 (k:Nat) (x0:List Entry) (x1:Int) (x5:Int):runC envX (tabC (laws_markEntryS_x.C k)) (tabL 123 k laws_markEntryS_x.L) 0 (loopAt Tryz.f51 0) (stOf 123 laws_markEntryS_x.sp0 (x0,x1,x5,())) (laws_markEntryS_x.A0.cont 123 k)=laws_markEntryS_x.l0 (k+1) x0 x1 x5:=by kernel_rfl
theorem laws_markEntryS_x.G (hE:EnvOk Tryz.prog envX) (pv:Nat->Value) (k:Nat):∀ cal A,laws_markEntryS_x.C k cal=some A->ArmOk Tryz.prog envX pv cal A:=by
 intro cal A h
 unfold laws_markEntryS_x.C at h
 split at h
 ·cases h; exact ⟨rfl,_,rfl,fun x q y hy=>laws_markNameS_x.good hE pv k x q hy⟩
 ·cases h; exact fun x y hy=>laws_markText.good hE pv k x.1 hy
 ·cases h
theorem laws_markEntryS_x.good (hE:EnvOk Tryz.prog envX) (pv:Nat->Value) (k:Nat) (a0:List Entry) (a1:Int) {y:_} (h:laws_markEntryS_x.F k a0 a1=some y):MeetsX Tryz.prog envX pv 51 (.sl .entry) a0 a1 y.1 y.2 :=
 funX_loops hE (t:=laws_markEntryS_x.C) k (fun k _=>laws_markEntryS_x.G hE pv k) (f:=51) (fn:=Tryz.f51) (by kernel_rfl) rfl (by kernel_rfl) (by kernel_rfl) (lt:=laws_markEntryS_x.L) (by kernel_rfl) (fun b A h=>by
  unfold laws_markEntryS_x.L at h; split at h
  ·cases h; exact ⟨by kernel_rfl,by kernel_rfl,fun _=>rfl,fun _=>rfl⟩
  ·cases h) (fun b A h=>by
  unfold laws_markEntryS_x.L at h; split at h
  ·cases h; exact fun k x=>laws_markEntryS_x.step0 k x.1 x.2.1 x.2.2.1
  ·cases h) rfl ((laws_markEntryS_x.run k a0 a1).trans h)
def laws_markLibrary_x.F (k:Nat) (a0:Library) (a1:Int):Option (Library × Int):=(laws_markEntryS_x.F k a0.entries a1).bind fun r1=>(some (⟨r1.1⟩:Library)).bind fun w2=>some (w2,r1.2)
def laws_markLibrary_x.C (k:Nat):Cal->Option CArm:=fun c=>match c with
 | .f 51=>some (.x (.sl .entry) (fun x q=>laws_markEntryS_x.F k x q))
 | _=>none
theorem laws_markLibrary_x.run (k:Nat) (a0:Library) (a1:Int):Gx.runX envX (tabC (laws_markLibrary_x.C k)) (tabL 10 0 (fun _=>none)) Tryz.f20 .lib a0 a1 (viewKep .lib)=laws_markLibrary_x.F k a0 a1:=by kernel_rfl
theorem laws_markLibrary_x.G (hE:EnvOk Tryz.prog envX) (pv:Nat->Value) (k:Nat):∀ cal A,laws_markLibrary_x.C k cal=some A->ArmOk Tryz.prog envX pv cal A:=by
 intro cal A h
 unfold laws_markLibrary_x.C at h
 split at h
 ·cases h; exact ⟨rfl,_,rfl,fun x q y hy=>laws_markEntryS_x.good hE pv k x q hy⟩
 ·cases h
theorem laws_markLibrary_x.good (hE:EnvOk Tryz.prog envX) (pv:Nat->Value) (k:Nat) (a0:Library) (a1:Int) {y:_} (h:laws_markLibrary_x.F k a0 a1=some y):MeetsX Tryz.prog envX pv 20 .lib a0 a1 y.1 y.2 :=
 funX_plain hE (laws_markLibrary_x.G hE pv k) (f:=20) (fn:=Tryz.f20) (by kernel_rfl) rfl (by kernel_rfl) (by kernel_rfl) rfl ((laws_markLibrary_x.run k a0 a1).trans h)
def laws_FnExactResolveLibrary.F (k:Nat) (a0:Library):Option (Bool):=(laws_szLibrary.F k a0 1048576).bind fun r1=>bif (decide (r1<0)) then (some true) else ((laws_toLibrary_p.F k a0).bind fun r2=>(spec_ResolveLibrary.F k r2).bind fun r3=>(laws_toLibrary_p.F k a0).bind fun r4=>(impl_ResolveLibrary_t.F k r4).bind fun r5=>(laws_eqLibrary.F k r5.1 r3.1).bind fun r6=>bif (!r6) then (some false) else (bif (!(r5.2==r3.2)) then (some false) else ((laws_toLibrary_p.F k a0).bind fun r7=>(laws_eqLibrary.F k r4 r7).bind fun r8=>bif (!r8) then (some false) else ((laws_markLibrary_d.F k r4 1).bind fun r9=>bif (decide (r9<0)) then (some false) else ((laws_eqLibrary.F k r5.1 r3.1).bind fun r10=>bif (!r10) then (some false) else (bif (!(r5.2==r3.2)) then (some false) else ((laws_markLibrary_x.F k r5.1 1).bind fun r11=>(laws_heldLibrary.F k r11.1 1).bind fun r12=>bif (decide (r12<0)) then (some false) else (bif (r12 != r11.2) then (some false) else ((laws_toLibrary_p.F k a0).bind fun r13=>(impl_ResolveLibrary_t.F k r13).bind fun r14=>(laws_eqLibrary.F k r14.1 r3.1).bind fun r15=>bif (!r15) then (some false) else (bif (!(r14.2==r3.2)) then (some false) else ((laws_heldLibrary.F k r11.1 1).bind fun r16=>bif (decide (r16<0)) then (some false) else (bif (r16 != r11.2) then (some false) else (some true)))))))))))))
def laws_FnExactResolveLibrary.C (k:Nat):Cal->Option CArm:=fun c=>match c with
 | .f 16=>some (.pp [.lib] .lib (fun x=>laws_toLibrary_p.F k x.1))
 | .f 26=>some (.tt [.lib] _ (fun x=>impl_ResolveLibrary_t.F k x.1) (fun r=>(.tup [.tr .lib r.1,.t .bool r.2])))
 | .f 20=>some (.alt (.d .lib (fun x q=>laws_markLibrary_d.F k x q)) (.x .lib (fun x q=>laws_markLibrary_x.F k x q)))
 | .f 14=>some (.p [.lib,(.int .i64)] _ (fun x=>laws_szLibrary.F k x.1 x.2.1) (fun r=>(.t (.int .i64) r)))
 | .f 25=>some (.p [.lib] _ (fun x=>spec_ResolveLibrary.F k x.1) (fun r=>(.tup [.t .lib r.1,.t .bool r.2])))
 | .f 19=>some (.p [.lib,.lib] _ (fun x=>laws_eqLibrary.F k x.1 x.2.1) (fun r=>(.t .bool r)))
 | .f 27=>some (.p [.lib,(.int .i64)] _ (fun x=>laws_heldLibrary.F k x.1 x.2.1) (fun r=>(.t (.int .i64) r)))
 | _=>none
theorem laws_FnExactResolveLibrary.run (k:Nat) (a0:Library):runF envX (tabC (laws_FnExactResolveLibrary.C k)) (tabL 96 0 (fun _=>none)) Tryz.f6 [.t .lib a0] (viewR1 (.t .bool))=laws_FnExactResolveLibrary.F k a0:=by kernel_rfl
theorem laws_FnExactResolveLibrary.G (hE:EnvOk Tryz.prog envX) (pv:Nat->Value) (k:Nat):∀ cal A,laws_FnExactResolveLibrary.C k cal=some A->ArmOk Tryz.prog envX pv cal A:=by
 intro cal A h
 unfold laws_FnExactResolveLibrary.C at h
 split at h
 ·cases h; exact ⟨_,rfl,fun x y hy=>meetsP_of (E:=envX) (E':=envP) rfl rfl rfl fun n=>laws_toLibrary_p.good envOkP pv n k x.1 hy⟩
 ·cases h; exact ⟨_,rfl,fun x y hy=>impl_ResolveLibrary_t.good envOkT pv k x.1 hy⟩
 ·cases h; exact ⟨⟨_,rfl,fun x q y hy=>laws_markLibrary_d.good hE pv k x q hy⟩,⟨rfl,_,rfl,fun x q y hy=>laws_markLibrary_x.good hE pv k x q hy⟩⟩
 ·cases h; exact fun x y hy=>laws_szLibrary.good hE pv k x.1 x.2.1 hy
 ·cases h; exact fun x y hy=>spec_ResolveLibrary.good hE pv k x.1 hy
 ·cases h; exact fun x y hy=>laws_eqLibrary.good hE pv k x.1 x.2.1 hy
 ·cases h; exact fun x y hy=>laws_heldLibrary.good hE pv k x.1 x.2.1 hy
 ·cases h
theorem laws_FnExactResolveLibrary.good (hE:EnvOk Tryz.prog envX) (pv:Nat->Value) (k:Nat) (a0:Library) {y:_} (h:laws_FnExactResolveLibrary.F k a0=some y):Meets Tryz.prog envX pv (.f 6) (tvals [.lib] (a0,())) (.t .bool y) :=
 fun_plain hE (laws_FnExactResolveLibrary.G hE pv k) (f:=6) (fn:=Tryz.f6) (by kernel_rfl) rfl (by kernel_rfl) (by kernel_rfl) ((laws_FnExactResolveLibrary.run k a0).trans h) (fun r hr=>wk_view1 hr)
end Go.Proofs.YtehijcmhhkchiaaGreatDoor
end
