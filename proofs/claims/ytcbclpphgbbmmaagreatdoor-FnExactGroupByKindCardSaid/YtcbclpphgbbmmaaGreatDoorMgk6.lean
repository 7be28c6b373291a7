/- Library functions: their contracts,proved once for any program,as what a callee keeps to. By an AI agent's session. -/
import Derived.Test.YtcbclpphgbbmmaaGreatDoorMgk4
import Derived.Shelf.Vars
import Derived.Below
import Derived.Lib.IndexMore
import Derived.Lib.Split
import Derived.Lib.SplitLaws
import Derived.Lib.Repeat
import Derived.Deep.Draws
import Derived.Lib.Join
import Derived.Lib.SlTrimSet
import Derived.Lib.IndexAny
import Derived.Lib.TrimByte
import Derived.Laws.AppendOwn
import Derived.Lib.ItoaNum
import Derived.Sort.Grow
import Derived.Test.YtcbclpphgbbmmaaGreatDoorMgk5
import Derived.Test.YtcbclpphgbbmmaaGreatDoorProg
import Derived.KernelRfl
set_option linter.unusedVariables false
set_option linter.unusedSimpArgs false
set_option maxRecDepth 100000
section
namespace Go.Gx
open Go.RowKit Go.Lib
theorem Q4w {P:Program}{f:FuncId}{fn:Func}{c:Code}(hf:P.funcs[f]? =some fn)(hb:fn.body=some c)(hname:(fn.name== "runtime.NumGoroutine")=false){args:Array Value}{w:World}{R:Value->World->Prop}
  (h:Calls P f args w λe w'=>∃v,e= .returned v/\R v w'):Goes P f args w R:=by
 have hcall:(callFunc f args).run P w= .ok (.enter f args) w:=by
  have hn':fn.name≠ "runtime.NumGoroutine":=by simpa using hname
  simp[callFunc,hf,hn',hb]
 unfold Goes
 rw[hcall]
 exact h
theorem DU {S:Nat->Prop}{w:World}{pv:Nat->Value}{vs:List Value}(h:J6 S w pv [] vs):vs=[]:=List.eq_nil_of_length_eq_zero h.1
theorem Q2s {S:Nat->Prop}{w:World}{pv:Nat->Value}{a:AV}{al:List AV}{vs:List Value}(h:J6 S w pv (a::al) vs):∃cs vs',AR S w (λ_=>none) (λ_=>none) pv a cs/\vs=valOf a cs::vs'/\J6 S w pv al vs':=by
 match vs,h with
 |[],h=>cases h.1
 |v::vs',⟨h1,h2⟩=>
  obtain⟨cs,hc,rfl⟩:=h2 0 a v rfl rfl
  exact⟨cs,vs',hc,rfl,by simpa using h1,λi b u hb hu=>h2 (i+1) b u (by simpa using hb) (by simpa using hu)⟩
theorem Ub {S:Nat->Prop}{w:World}{pv:Nat->Value}{s:ByteArray}{al:List AV}{vs:List Value}(h:J6 S w pv (.t .str s::al) vs):∃vs',vs= .string s::vs'/\J6 S w pv al vs':=by
 obtain⟨cs,vs',hc,rfl,h'⟩:=Q2s h
 cases hc with|t _ _ _ hc=>cases hc;exact⟨vs',rfl,h'⟩
section
variable {P:Program} {E:Env} {pv:Nat->Value} {f:FuncId} {fn:Func} {c:Code}
theorem Q1d (hf:P.funcs[f]? =some fn)(hb:fn.body=some c)(hname:(fn.name== "runtime.NumGoroutine")=false){args:List AV}{τ:Ty}{y:den τ}{v:Value}(hy:∀S w,∃cs,CR S w τ y cs/\v=valOf (.t τ y) cs)
  (h:∀S w vs,(∀b,S b->b<w.heap.size)->Qv E pv S w->J6 S w pv args vs->Calls P f vs.toArray w λe w'=>e= .returned v/\Below w.heap.size w w'):Q8 P E pv (.f f) args (.t τ y):=by
 intro S w vs hS hgl hargs
 refine Q4w hf hb hname ((h S w vs hS hgl hargs).mono λe w' ⟨he,hbl⟩=>⟨v,he,hbl,S,λb hb=>hb,λb hb=>.inl hb,?_⟩)
 obtain⟨cs,hc,rfl⟩:=hy S w'
 exact⟨none,.plain _ _ (.t _ _ _ hc)⟩
theorem Q9H (hf:P.funcs[f]? =some fn)(hb:fn.body=some c)(hname:(fn.name== "runtime.NumGoroutine")=false){args:List AV}{te:Nat}{xs:List ByteArray}(hx:xs.length<=maxLen)
  (h:∀S w vs,(∀b,S b->b<w.heap.size)->Qv E pv S w->J6 S w pv args vs->Calls P f vs.toArray w λe w'=>e= .returned (.slice (some ⟨w.heap.size,0,none⟩) xs.length xs.length)/\w'=w.alloc (.cells (xs.map Value.string).toArray te)):Q8 P E pv (.f f) args (.fr te .str xs):=by
 intro S w vs hS hgl hargs
 refine Q4w hf hb hname ((h S w vs hS hgl hargs).mono λe w' ⟨he,hw⟩=>⟨_,he,?_⟩)
 subst hw
 refine⟨(Below.refl _ w).alloc (Nat.le_refl _) _,S,λb hb=>hb,λb hb=>.inl hb,some w.heap.size,.fr te .str xs w.heap.size xs.length (Nat.le_refl _) (λhs=>absurd (hS _ hs) (Nat.lt_irrefl _)) ⟨(xs.map Value.string).toArray,(0,0),?_,?_,Nat.le_refl _,hx,λ_=>rfl,.inl (Nat.le_refl _),by decide,λi hi=>⟨[.string xs[i]],.str _,λj v hj=>?_⟩⟩⟩
 ·show(w.heap.push _)[w.heap.size]? =_
  simp
 ·simp[nc]
 ·cases j with
  |zero=>
   simp only[List.getElem?_cons_zero,Option.some.injEq]at hj
   subst hj
   simp[nc,hi]
  |succ j=>simp at hj
end
def Q3n (s sep:ByteArray):Option (List ByteArray):=bif Nat.ble s.size 4294967280&&Nat.ble 1 sep.size then some (Lib.splitB sep 0 (Lib.countB s sep) s)else none
theorem Q7X {P:Program}{E:Env}{pv:Nat->Value}{f:FuncId}{fn:Func}{c:Code}(hf:P.funcs[f]? =some fn)(hb:fn.body=some c)(hname:(fn.name== "runtime.NumGoroutine")=false){mx:Nat}(hmx:E.gi mx=true){te:Nat}
  (hc:∀(s sep:ByteArray) (m:Int) (w:World),s.size<4294967281->w.cell? ⟨mx,0,none⟩=some (.int .i64 m)->1<=sep.size->Calls P f #[.string s,.string sep] w λe w'=>
   e= .returned (.slice (some ⟨w.heap.size,0,none⟩) (Lib.countB s sep+1) (Lib.countB s sep+1))/\w'=w.alloc (.cells ((Lib.splitB sep 0 (Lib.countB s sep) s).map Value.string).toArray te))
  {s sep:ByteArray} {y:List ByteArray} (h:Q3n s sep=some y):Q8 P E pv (.f f) (Qa [.str,.str] (s,sep,())) (.fr te .str y):=by
 unfold Q3n at h
 cases hs:Nat.ble s.size 4294967280&&Nat.ble 1 sep.size with
 |false=>rw[hs]at h;cases h
 |true=>
  rw[hs]at h
  cases h
  rw[Bool.and_eq_true]at hs
  have h1:=Nat.le_of_ble_eq_true hs.1
  have h2:=Nat.le_of_ble_eq_true hs.2
  have hl:=Lib.splitB_all sep h2 0 _ s rfl
  have hle:=Lib.countB_le sep h2 s.size s (Nat.le_refl _)
  have hm:maxLen=9223372036854775807:=by decide
  refine Q9H hf hb hname (by rw[hl,hm];omega) λS w vs hS hgl ha=>?_
  obtain⟨_,rfl,ha1⟩:=Ub ha
  obtain⟨_,rfl,ha2⟩:=Ub ha1
  obtain rfl:=DU ha2
  obtain⟨_,m,hm⟩:=hgl.2.1 mx hmx
  rw[hl]
  exact hc s sep m w (by omega) hm h2
def Q4x (xs:List ByteArray)(sep:ByteArray):Option ByteArray:=bif Nat.ble xs.length 140737488355328&&Nat.ble (Lib.join (xs.map (·.data.toList)) sep.data.toList).length 140737488355328 then some ⟨(Lib.join (xs.map (·.data.toList)) sep.data.toList).toArray⟩else none
theorem Q9I {P:Program}{E:Env}{pv:Nat->Value}{f:FuncId}{fn:Func}{c:Code}(hf:P.funcs[f]? =some fn)(hb:fn.body=some c)(hname:(fn.name== "runtime.NumGoroutine")=false)
  (hc0:∀(a:Option Addr) (c:Nat) (sep:ByteArray) (w:World),Calls P f #[.slice a 0 c,.string sep] w λe w'=>e= .returned (.string ⟨#[]⟩)/\w'=w)
  (hc:∀(bk o c:Nat) (xs:List ByteArray) (sep:ByteArray) (w:World),(∀(j:Nat) x,xs[j]? =some x->w.cell? ⟨bk,o+j,none⟩=some (.string x))->bk<w.heap.size->xs.length<=140737488355328->xs.length<=c->
   (Lib.join (xs.map (·.data.toList)) sep.data.toList).length<=140737488355328->Calls P f #[.slice (some ⟨bk,o,none⟩) xs.length c,.string sep] w λe w'=>e= .returned (.string ⟨(Lib.join (xs.map (·.data.toList)) sep.data.toList).toArray⟩)/\Below w.heap.size w w')
  {xs:List ByteArray} {sep:ByteArray} {y:ByteArray} (h:Q4x xs sep=some y):Q8 P E pv (.f f) (Qa [.sl .str,.str] (xs,sep,())) (.t .str y):=by
 unfold Q4x at h
 cases hs:Nat.ble xs.length 140737488355328&&Nat.ble (Lib.join (xs.map (·.data.toList)) sep.data.toList).length 140737488355328 with
 |false=>rw[hs]at h;cases h
 |true=>
  rw[hs]at h
  cases h
  rw[Bool.and_eq_true]at hs
  refine Q1d hf hb hname (v:=.string _) (λS w=>⟨_,.str _,rfl⟩) λS w vs hS hgl ha=>?_
  obtain⟨cs,_,hcr,rfl,ha1⟩:=Q2s ha
  obtain⟨_,rfl,ha2⟩:=Ub ha1
  obtain rfl:=DU ha2
  cases hcr with
  |t _ _ _ hcr=>
   cases hcr with
   |sl e xs A c cv hle hm h1 h2=>
    match xs,A,hle,h1,h2,hs with
    |[],A,_,_,_,_=>exact(hc0 A c sep w).mono λe w' ⟨he,hw⟩=>⟨he,hw▸Below.refl _ _⟩
    |x::l,A,hle,h1,h2,hs=>
     obtain⟨g,o,rfl,hg,_⟩:=h2 0 (Nat.succ_pos _)
     refine hc g o c (x::l) sep w (λj z hj=>?_) (hS g hg) (Nat.le_of_ble_eq_true hs.1) hle (Nat.le_of_ble_eq_true hs.2)
     obtain⟨hj',hz⟩:=List.getElem?_eq_some_iff.1 hj
     obtain⟨g',o',e',_,hcell⟩:=h2 j hj'
     cases e'
     have hcv:=h1 j hj'
     rw[hz]at hcv
     have hq:∀q,CR S w .str z q->q[0]? =some (.string z):=λq hq=>by cases hq;rfl
     have:=hcell 0 (.string z) (hq _ hcv)
     simpa[nc]using this
def Q3o (s cs:ByteArray):Option ByteArray:=match cs with
 |⟨⟨[c]⟩⟩=>bif Nat.ble s.size 9223372036854775807&&Nat.blt c.toNat 128 then some ⟨(Lib.trimB s.data.toList c).toArray⟩else none
 |_=>none
theorem Q7Y {P:Program}{E:Env}{pv:Nat->Value}{f:FuncId}{fn:Func}{c:Code}(hf:P.funcs[f]? =some fn)(hb:fn.body=some c)(hname:(fn.name== "runtime.NumGoroutine")=false)
  (hc:∀(s:ByteArray) (c:UInt8),c.toNat<128->∀(w:World),s.size<=9223372036854775807->Calls P f #[.string s,.string ⟨#[c]⟩] w λe w'=>e= .returned (.string ⟨(Lib.trimB s.data.toList c).toArray⟩)/\(w'=w\/w'=w.drew))
  {s cs:ByteArray} {y:ByteArray} (h:Q3o s cs=some y):Q8 P E pv (.f f) (Qa [.str,.str] (s,cs,())) (.t .str y):=by
 unfold Q3o at h
 split at h
 ·rename_i c0
  cases hs:Nat.ble s.size 9223372036854775807&&Nat.blt c0.toNat 128 with
  |false=>rw[hs]at h;cases h
  |true=>
   rw[hs]at h
   cases h
   rw[Bool.and_eq_true]at hs
   refine Q1d hf hb hname (v:=.string _) (λS w=>⟨_,.str _,rfl⟩) λS w vs hS hgl ha=>?_
   obtain⟨_,rfl,ha1⟩:=Ub ha
   obtain⟨_,rfl,ha2⟩:=Ub ha1
   obtain rfl:=DU ha2
   refine(hc s c0 (Nat.le_of_ble_eq_true hs.2) w (Nat.le_of_ble_eq_true hs.1)).mono λe w' ⟨he,hw⟩=>⟨he,?_⟩
   rcases hw with rfl|rfl
   ·exact Below.refl _ _
   ·exact(Below.refl _ _).drew
 ·cases h
end Go.Gx
end
section
/- A library function by its contract: strconv.Itoa. -/
namespace Go.Gx
def Q4y (a b:ByteArray):Option Int:=some (Lib.compareBytes a.data.toList b.data.toList)
theorem Q4z {P:Program}{E:Env}{pv:Nat->Value}{f:FuncId}{fn:Func}{c:Code}(hf:P.funcs[f]? =some fn)(hb:fn.body=some c)(hname:(fn.name== "runtime.NumGoroutine")=false)
  (hc:∀(a b:ByteArray) (w:World),Calls P f #[.string a,.string b] w λe w'=>e= .returned (.int .i64 (Lib.compareBytes a.data.toList b.data.toList))/\w'=w)
  {a b:ByteArray} {y:Int} (h:Q4y a b=some y):Q8 P E pv (.f f) (Qa [.str,.str] (a,b,())) (.t (.int .i64) y):=by
 cases h
 refine Q1d hf hb hname (v:=.int .i64 _) (λS w=>⟨_,.int .i64 _,rfl⟩) λS w vs hS hgl ha=>?_
 obtain⟨_,rfl,ha1⟩:=Ub ha
 obtain⟨_,rfl,ha2⟩:=Ub ha1
 obtain rfl:=DU ha2
 refine(hc a b w).mono λe w' ⟨he,hw⟩=>⟨he,?_⟩
 subst hw
 exact RowKit.Below.refl _ _
end Go.Gx
end
section
namespace Go.Proofs.YtcbclpphgbbmmaaGreatDoor
open Go.Gx
def tyT (t:Nat):Option Ty:=match t with
 |2=>some (.int .i64)
 |3=>some (.int .i64)
 |4=>some .bool
 |5=>some (.int .u8)
 |6=>some (.int .u8)
 |9=>some .str
 |10=>some .str
 |11=>some .str
 |21=>some (.int .i32)
 |22=>some (.sl .entry)
 |24=>some .lib
 |25=>some (.sl .str)
 |28=>some (.sl (.int .i64))
 |29=>some (.sl (.sl .str))
 |32=>some (.sl .entry)
 |34=>some .lib
 |48=>some (.sl .name)
 |50=>some .date
 |52=>some .entry
 |62=>some (.sl .name)
 |63=>some .date
 |65=>some .entry
 |75=>some (.sl (.int .u8))
 |88=>some (.int .u64)
 |92=>some .name
 |98=>some .name
 |105=>some (.int .i64)
 |113=>some (.int .u32)
 |115=>some (.int .u64)
 |123=>some (.int .u64)
 |151=>some (.arr 256 .bool)
 |168=>some (.arr 256 (.int .u8))
 |183=>some (.int .u8)
 |_=>none
def elT (t:Nat):Nat:=match t with
 |22=>65
 |25=>9
 |28=>3
 |29=>25
 |32=>52
 |48=>92
 |62=>98
 |75=>5
 |_=>0
def mdT (f:Nat):Bool:=match f with
 |15=>true
 |16=>true
 |17=>true
 |26=>true
 |31=>true
 |42=>true
 |46=>true
 |61=>true
 |90=>true
 |129=>true
 |_=>false
def YS:ByteArray:=⟨#[0,1,2,2,3,3,3,3,4,4,4,4,4,4,4,4,5,5,5,5,5,5,5,5,5,5,5,5,5,5,5,5,6,6,6,6,6,6,6,6,6,6,6,6,6,6,6,6,6,6,6,6,6,6,6,6,6,6,6,6,6,6,6,6,7,7,7,7,7,7,7,7,7,7,7,7,7,7,7,7,7,7,7,7,7,7,7,7,7,7,7,7,7,7,7,7,7,7,7,7,7,7,7,7,7,7,7,7,7,7,7,7,7,7,7,7,7,7,7,7,7,7,7,7,7,7,7,7,8,8,8,8,8,8,8,8,8,8,8,8,8,8,8,8,8,8,8,8,8,8,8,8,8,8,8,8,8,8,8,8,8,8,8,8,8,8,8,8,8,8,8,8,8,8,8,8,8,8,8,8,8,8,8,8,8,8,8,8,8,8,8,8,8,8,8,8,8,8,8,8,8,8,8,8,8,8,8,8,8,8,8,8,8,8,8,8,8,8,8,8,8,8,8,8,8,8,8,8,8,8,8,8,8,8,8,8,8,8,8,8,8,8,8,8,8,8,8,8,8,8,8,8,8,8,8,8]⟩
def glT (g:Nat):Option AV:=match g with
 |_=>none
def giT (g:Nat):Bool:=match g with
 |0=>true
 |_=>false
def dmT (f:Nat):Bool:=match f with
 |14=>true
 |15=>true
 |16=>true
 |17=>true
 |31=>true
 |46=>true
 |_=>false
def pmT (f:Nat):Bool:=match f with
 |7=>true
 |37=>true
 |83=>true
 |_=>false
def tmX (f:Nat):Bool:=match f with
 |9=>true
 |_=>false
def tmT (f:Nat):Bool:=match f with
 |9=>true
 |27=>true
 |_=>false
def vmT (f:Nat):Bool:=match f with
 |_=>false
def Qct (f:Nat):Bool:=match f with
 |15=>true
 |16=>true
 |17=>true
 |26=>true
 |31=>true
 |42=>true
 |46=>true
 |61=>true
 |90=>true
 |129=>true
 |_=>false
def Q0:Env:={ty:=tyT,el:=elT,gl:=glT,md:=mdT,gi:=giT,dm:=dmT,pm:=pmT,tm:=tmX}
def XY:Env:={ty:=tyT,el:=elT,gl:=glT,md:=Qct,gi:=giT,tm:=tmT,vm:=vmT,tr:=true}
def Je:Env:={ty:=tyT,el:=elT,gl:=glT,md:=mdT,gi:=giT,on:=true}
theorem Q5U:∀T τ,Q0.ty T=some τ->TyOk Tryz.prog Q0 T τ:=λT τ h=>by
 dsimp only[Q0,tyT]at h
 split at h<;>first
  |(cases h;done)
  |(cases h;exact Q31 (by kernel_rfl) (by kernel_rfl))
theorem Q4A:EnvOk Tryz.prog Q0:=⟨Q5U,by kernel_rfl,λT h=>by
 dsimp only[Q0,tyT]at h
 split at h<;>first
  |(cases h;done)
  |exact Q3k Q5U rfl (by kernel_rfl) (by kernel_rfl) (by kernel_rfl),λT h=>by
 dsimp only[Q0,tyT]at h
 split at h<;>first
  |(cases h;done)
  |exact Q3l Q5U rfl (by kernel_rfl) (by kernel_rfl) (by kernel_rfl)⟩
theorem Q3p:∀T τ,XY.ty T=some τ->TyOk Tryz.prog XY T τ:=λT τ h=>by
 dsimp only[XY,tyT]at h
 split at h<;>first
  |(cases h;done)
  |(cases h;exact Q31 (by kernel_rfl) (by kernel_rfl))
theorem QbF:EnvOk Tryz.prog XY:=⟨Q3p,by kernel_rfl,λT h=>by
 dsimp only[XY,tyT]at h
 split at h<;>first
  |(cases h;done)
  |exact Q3k Q3p rfl (by kernel_rfl) (by kernel_rfl) (by kernel_rfl),λT h=>by
 dsimp only[XY,tyT]at h
 split at h<;>first
  |(cases h;done)
  |exact Q3l Q3p rfl (by kernel_rfl) (by kernel_rfl) (by kernel_rfl)⟩
theorem Q3q:∀T τ,Je.ty T=some τ->TyOk Tryz.prog Je T τ:=λT τ h=>by
 dsimp only[Je,tyT]at h
 split at h<;>first
  |(cases h;done)
  |(cases h;exact Q31 (by kernel_rfl) (by kernel_rfl))
theorem QbG:EnvOk Tryz.prog Je:=⟨Q3q,by kernel_rfl,λT h=>by
 dsimp only[Je,tyT]at h
 split at h<;>first
  |(cases h;done)
  |exact Q3k Q3q rfl (by kernel_rfl) (by kernel_rfl) (by kernel_rfl),λT h=>by
 dsimp only[Je,tyT]at h
 split at h<;>first
  |(cases h;done)
  |exact Q3l Q3q rfl (by kernel_rfl) (by kernel_rfl) (by kernel_rfl)⟩
def Z20.l0:Nat->(List ByteArray)->Int->Int->Option (Sum Int Int)
 |0,_,_,_=>none
 |k+1,x0,x1,x5=>bif (decide (x5<(x0.length:Int)))then(bif decide (0<=x5)then(bif decide (x5<(x0.length:Int))then(bif (decide ((IntKind.wrap .i64 (x1-((x0.getD (x5:Int).toNat (⟨#[]⟩:ByteArray)).size:Int)))<0))then(some (.inl (-1)))else(Z20.l0 k x0 (IntKind.wrap .i64 (x1-((x0.getD (x5:Int).toNat (⟨#[]⟩:ByteArray)).size:Int))) (IntKind.wrap .i64 (x5+1))))else none)else none)else(some (.inr x1))
def Z20.F (k:Nat)(a0:List ByteArray)(a1:Int):Option (Int):=bif (decide ((IntKind.wrap .i64 (a1-(a0.length:Int)))<0))then(some (-1))else((Z20.l0 k a0 (IntKind.wrap .i64 (a1-(a0.length:Int))) 0).bind λy1=>match y1 with|.inl z2=>some z2|.inr z2=>some z2)
def Z20.C (k:Nat):Cal->Option CArm:=λc=>match c with
 |_=>none
def Z20.sp0:List Sp:=[.t 0 (.sl .str),.t 1 (.int .i64),.t 5 (.int .i64)]
def Z20.sp0_0:List Sp:=[.t 4 (.int .i64)]
def Z20.sp0_1:List Sp:=[.t 1 (.int .i64)]
def Z20.A0:LArm:=.two Z20.sp0 Z20.sp0_0 Z20.sp0_1 (Int) (Int) (λk x=>Z20.l0 k x.1 x.2.1 x.2.2.1) .ret (.exit 0) (λy=>(y,())) (λx=>x.1) (λy=>(y,())) (λx=>x.1)
def Z20.L:Nat->Option LArm:=λb=>match b with
 |0=>some Z20.A0
 |_=>none
theorem Z20.run (k:Nat)(a0:List ByteArray)(a1:Int):Ql Q0 (Q6 (Z20.C k)) (Q4 28 k Z20.L) Tryz.f5 [.t (.sl .str) a0,.t (.int .i64) a1] (Q2 (.t (.int .i64)))=Z20.F k a0 a1:=by kernel_rfl
theorem Z20.step0 (k:Nat)(x0:List ByteArray)(x1:Int)(x5:Int):Qp Q0 (Q6 (Z20.C k)) (Q4 28 k Z20.L) 0 (Qi Tryz.f5 0) (Qz 28 Z20.sp0 (x0,x1,x5,())) (Z20.A0.cont 28 k)=Z20.l0 (k+1) x0 x1 x5:=by kernel_rfl
theorem Z20.G (hE:EnvOk Tryz.prog Q0)(pv:Nat->Value)(k:Nat):∀cal A,Z20.C k cal=some A->Q9 Tryz.prog Q0 pv cal A:=by
 intro cal A h
 unfold Z20.C at h
 cases h
theorem Z20.good (hE:EnvOk Tryz.prog Q0)(pv:Nat->Value)(k:Nat)(a0:List ByteArray)(a1:Int){y:_}(h:Z20.F k a0 a1=some y):Q8 Tryz.prog Q0 pv (.f 5) (Qa [(.sl .str),(.int .i64)] (a0,a1,())) (.t (.int .i64) y):=
 Qg hE (t:=Z20.C) k (λk _=>Z20.G hE pv k) (f:=5) (fn:=Tryz.f5) (by kernel_rfl) rfl (by kernel_rfl) (by kernel_rfl) (lt:=Z20.L) (by kernel_rfl) (λb A h=>by
  unfold Z20.L at h;split at h
  ·cases h;exact⟨by kernel_rfl,by kernel_rfl,by kernel_rfl,λ_=>rfl,λ_=>rfl,λ_=>rfl⟩
  ·cases h) (λb A h=>by
  unfold Z20.L at h;split at h
  ·cases h;exact λk x=>Z20.step0 k x.1 x.2.1 x.2.2.1
  ·cases h) ((Z20.run k a0 a1).trans h) (λr hr=>Q1 hr)
def Z101.F (k:Nat)(a0:Name)(a1:Int):Option (Int):=(Z20.F k a0.given a1).bind λr1=>bif (decide (r1<0))then(some (-1))else(bif (decide ((IntKind.wrap .i64 (r1-(a0.particle.size:Int)))<0))then(some (-1))else(bif (decide ((IntKind.wrap .i64 ((IntKind.wrap .i64 (r1-(a0.particle.size:Int)))-(a0.family.size:Int)))<0))then(some (-1))else(bif (decide ((IntKind.wrap .i64 ((IntKind.wrap .i64 ((IntKind.wrap .i64 (r1-(a0.particle.size:Int)))-(a0.family.size:Int)))-(a0.suffix.size:Int)))<0))then(some (-1))else(some (IntKind.wrap .i64 ((IntKind.wrap .i64 ((IntKind.wrap .i64 (r1-(a0.particle.size:Int)))-(a0.family.size:Int)))-(a0.suffix.size:Int)))))))
def Z101.C (k:Nat):Cal->Option CArm:=λc=>match c with
 |.f 5=>some (.p [(.sl .str),(.int .i64)] _ (λx=>Z20.F k x.1 x.2.1) (λr=>(.t (.int .i64) r)))
 |_=>none
theorem Z101.run (k:Nat)(a0:Name)(a1:Int):Ql Q0 (Q6 (Z101.C k)) (Q4 33 0 (λ_=>none)) Tryz.f74 [.t .name a0,.t (.int .i64) a1] (Q2 (.t (.int .i64)))=Z101.F k a0 a1:=by kernel_rfl
theorem Z101.G (hE:EnvOk Tryz.prog Q0)(pv:Nat->Value)(k:Nat):∀cal A,Z101.C k cal=some A->Q9 Tryz.prog Q0 pv cal A:=by
 intro cal A h
 unfold Z101.C at h
 split at h
 ·cases h;exact λx y hy=>Z20.good hE pv k x.1 x.2.1 hy
 ·cases h
theorem Z101.good (hE:EnvOk Tryz.prog Q0)(pv:Nat->Value)(k:Nat)(a0:Name)(a1:Int){y:_}(h:Z101.F k a0 a1=some y):Q8 Tryz.prog Q0 pv (.f 74) (Qa [.name,(.int .i64)] (a0,a1,())) (.t (.int .i64) y):=
 Q7 hE (Z101.G hE pv k) (f:=74) (fn:=Tryz.f74) (by kernel_rfl) rfl (by kernel_rfl) (by kernel_rfl) ((Z101.run k a0 a1).trans h) (λr hr=>Q1 hr)
def Z33.l0:Nat->(List Name)->Int->Int->Option (Sum Int Int)
 |0,_,_,_=>none
 |k+1,x0,x1,x5=>bif (decide (x5<(x0.length:Int)))then(bif decide (0<=x5)then(bif decide (x5<(x0.length:Int))then((Z101.F k (x0.getD (x5:Int).toNat (Qh .name)) x1).bind λr1=>bif (decide (r1<0))then(some (.inl (-1)))else(Z33.l0 k x0 r1 (IntKind.wrap .i64 (x5+1))))else none)else none)else(some (.inr x1))
def Z33.F (k:Nat)(a0:List Name)(a1:Int):Option (Int):=bif (decide ((IntKind.wrap .i64 (a1-(a0.length:Int)))<0))then(some (-1))else((Z33.l0 k a0 (IntKind.wrap .i64 (a1-(a0.length:Int))) 0).bind λy2=>match y2 with|.inl z3=>some z3|.inr z3=>some z3)
def Z33.C (k:Nat):Cal->Option CArm:=λc=>match c with
 |.f 74=>some (.p [.name,(.int .i64)] _ (λx=>Z101.F k x.1 x.2.1) (λr=>(.t (.int .i64) r)))
 |_=>none
def Z33.sp0:List Sp:=[.t 0 (.sl .name),.t 1 (.int .i64),.t 5 (.int .i64)]
def Z33.sp0_0:List Sp:=[.t 4 (.int .i64)]
def Z33.sp0_1:List Sp:=[.t 1 (.int .i64)]
def Z33.A0:LArm:=.two Z33.sp0 Z33.sp0_0 Z33.sp0_1 (Int) (Int) (λk x=>Z33.l0 k x.1 x.2.1 x.2.2.1) .ret (.exit 0) (λy=>(y,())) (λx=>x.1) (λy=>(y,())) (λx=>x.1)
def Z33.L:Nat->Option LArm:=λb=>match b with
 |0=>some Z33.A0
 |_=>none
theorem Z33.run (k:Nat)(a0:List Name)(a1:Int):Ql Q0 (Q6 (Z33.C k)) (Q4 27 k Z33.L) Tryz.f47 [.t (.sl .name) a0,.t (.int .i64) a1] (Q2 (.t (.int .i64)))=Z33.F k a0 a1:=by kernel_rfl
theorem Z33.step0 (k:Nat)(x0:List Name)(x1:Int)(x5:Int):Qp Q0 (Q6 (Z33.C k)) (Q4 27 k Z33.L) 0 (Qi Tryz.f47 0) (Qz 27 Z33.sp0 (x0,x1,x5,())) (Z33.A0.cont 27 k)=Z33.l0 (k+1) x0 x1 x5:=by kernel_rfl
theorem Z33.G (hE:EnvOk Tryz.prog Q0)(pv:Nat->Value)(k:Nat):∀cal A,Z33.C k cal=some A->Q9 Tryz.prog Q0 pv cal A:=by
 intro cal A h
 unfold Z33.C at h
 split at h
 ·cases h;exact λx y hy=>Z101.good hE pv k x.1 x.2.1 hy
 ·cases h
theorem Z33.good (hE:EnvOk Tryz.prog Q0)(pv:Nat->Value)(k:Nat)(a0:List Name)(a1:Int){y:_}(h:Z33.F k a0 a1=some y):Q8 Tryz.prog Q0 pv (.f 47) (Qa [(.sl .name),(.int .i64)] (a0,a1,())) (.t (.int .i64) y):=
 Qg hE (t:=Z33.C) k (λk _=>Z33.G hE pv k) (f:=47) (fn:=Tryz.f47) (by kernel_rfl) rfl (by kernel_rfl) (by kernel_rfl) (lt:=Z33.L) (by kernel_rfl) (λb A h=>by
  unfold Z33.L at h;split at h
  ·cases h;exact⟨by kernel_rfl,by kernel_rfl,by kernel_rfl,λ_=>rfl,λ_=>rfl,λ_=>rfl⟩
  ·cases h) (λb A h=>by
  unfold Z33.L at h;split at h
  ·cases h;exact λk x=>Z33.step0 k x.1 x.2.1 x.2.2.1
  ·cases h) ((Z33.run k a0 a1).trans h) (λr hr=>Q1 hr)
def Z102.F (k:Nat)(a0:Entry)(a1:Int):Option (Int):=bif (decide ((IntKind.wrap .i64 (a1-(a0.key.size:Int)))<0))then(some (-1))else((Z33.F k a0.authors (IntKind.wrap .i64 (a1-(a0.key.size:Int)))).bind λr1=>bif (decide (r1<0))then(some (-1))else((Z33.F k a0.editors r1).bind λr2=>bif (decide (r2<0))then(some (-1))else(bif (decide ((IntKind.wrap .i64 (r2-(a0.title.size:Int)))<0))then(some (-1))else(bif (decide ((IntKind.wrap .i64 ((IntKind.wrap .i64 (r2-(a0.title.size:Int)))-(a0.container.size:Int)))<0))then(some (-1))else(bif (decide ((IntKind.wrap .i64 ((IntKind.wrap .i64 ((IntKind.wrap .i64 (r2-(a0.title.size:Int)))-(a0.container.size:Int)))-(a0.publisher.size:Int)))<0))then(some (-1))else(bif (decide ((IntKind.wrap .i64 ((IntKind.wrap .i64 ((IntKind.wrap .i64 ((IntKind.wrap .i64 (r2-(a0.title.size:Int)))-(a0.container.size:Int)))-(a0.publisher.size:Int)))-(a0.pages.size:Int)))<0))then(some (-1))else(bif (decide ((IntKind.wrap .i64 ((IntKind.wrap .i64 ((IntKind.wrap .i64 ((IntKind.wrap .i64 ((IntKind.wrap .i64 (r2-(a0.title.size:Int)))-(a0.container.size:Int)))-(a0.publisher.size:Int)))-(a0.pages.size:Int)))-(a0.cross.size:Int)))<0))then(some (-1))else(some (IntKind.wrap .i64 ((IntKind.wrap .i64 ((IntKind.wrap .i64 ((IntKind.wrap .i64 ((IntKind.wrap .i64 (r2-(a0.title.size:Int)))-(a0.container.size:Int)))-(a0.publisher.size:Int)))-(a0.pages.size:Int)))-(a0.cross.size:Int)))))))))))
def Z102.C (k:Nat):Cal->Option CArm:=λc=>match c with
 |.f 47=>some (.p [(.sl .name),(.int .i64)] _ (λx=>Z33.F k x.1 x.2.1) (λr=>(.t (.int .i64) r)))
 |_=>none
theorem Z102.run (k:Nat)(a0:Entry)(a1:Int):Ql Q0 (Q6 (Z102.C k)) (Q4 60 0 (λ_=>none)) Tryz.f34 [.t .entry a0,.t (.int .i64) a1] (Q2 (.t (.int .i64)))=Z102.F k a0 a1:=by kernel_rfl
theorem Z102.G (hE:EnvOk Tryz.prog Q0)(pv:Nat->Value)(k:Nat):∀cal A,Z102.C k cal=some A->Q9 Tryz.prog Q0 pv cal A:=by
 intro cal A h
 unfold Z102.C at h
 split at h
 ·cases h;exact λx y hy=>Z33.good hE pv k x.1 x.2.1 hy
 ·cases h
theorem Z102.good (hE:EnvOk Tryz.prog Q0)(pv:Nat->Value)(k:Nat)(a0:Entry)(a1:Int){y:_}(h:Z102.F k a0 a1=some y):Q8 Tryz.prog Q0 pv (.f 34) (Qa [.entry,(.int .i64)] (a0,a1,())) (.t (.int .i64) y):=
 Q7 hE (Z102.G hE pv k) (f:=34) (fn:=Tryz.f34) (by kernel_rfl) rfl (by kernel_rfl) (by kernel_rfl) ((Z102.run k a0 a1).trans h) (λr hr=>Q1 hr)
def Z39.l0:Nat->(List Entry)->Int->Int->Option (Sum Int Int)
 |0,_,_,_=>none
 |k+1,x0,x1,x5=>bif (decide (x5<(x0.length:Int)))then(bif decide (0<=x5)then(bif decide (x5<(x0.length:Int))then((Z102.F k (x0.getD (x5:Int).toNat (Qh .entry)) x1).bind λr1=>bif (decide (r1<0))then(some (.inl (-1)))else(Z39.l0 k x0 r1 (IntKind.wrap .i64 (x5+1))))else none)else none)else(some (.inr x1))
def Z39.F (k:Nat)(a0:List Entry)(a1:Int):Option (Int):=bif (decide ((IntKind.wrap .i64 (a1-(a0.length:Int)))<0))then(some (-1))else((Z39.l0 k a0 (IntKind.wrap .i64 (a1-(a0.length:Int))) 0).bind λy2=>match y2 with|.inl z3=>some z3|.inr z3=>some z3)
def Z39.C (k:Nat):Cal->Option CArm:=λc=>match c with
 |.f 34=>some (.p [.entry,(.int .i64)] _ (λx=>Z102.F k x.1 x.2.1) (λr=>(.t (.int .i64) r)))
 |_=>none
def Z39.sp0:List Sp:=[.t 0 (.sl .entry),.t 1 (.int .i64),.t 5 (.int .i64)]
def Z39.sp0_0:List Sp:=[.t 4 (.int .i64)]
def Z39.sp0_1:List Sp:=[.t 1 (.int .i64)]
def Z39.A0:LArm:=.two Z39.sp0 Z39.sp0_0 Z39.sp0_1 (Int) (Int) (λk x=>Z39.l0 k x.1 x.2.1 x.2.2.1) .ret (.exit 0) (λy=>(y,())) (λx=>x.1) (λy=>(y,())) (λx=>x.1)
def Z39.L:Nat->Option LArm:=λb=>match b with
 |0=>some Z39.A0
 |_=>none
theorem Z39.run (k:Nat)(a0:List Entry)(a1:Int):Ql Q0 (Q6 (Z39.C k)) (Q4 27 k Z39.L) Tryz.f20 [.t (.sl .entry) a0,.t (.int .i64) a1] (Q2 (.t (.int .i64)))=Z39.F k a0 a1:=by kernel_rfl
theorem Z39.step0 (k:Nat)(x0:List Entry)(x1:Int)(x5:Int):Qp Q0 (Q6 (Z39.C k)) (Q4 27 k Z39.L) 0 (Qi Tryz.f20 0) (Qz 27 Z39.sp0 (x0,x1,x5,())) (Z39.A0.cont 27 k)=Z39.l0 (k+1) x0 x1 x5:=by kernel_rfl
theorem Z39.G (hE:EnvOk Tryz.prog Q0)(pv:Nat->Value)(k:Nat):∀cal A,Z39.C k cal=some A->Q9 Tryz.prog Q0 pv cal A:=by
 intro cal A h
 unfold Z39.C at h
 split at h
 ·cases h;exact λx y hy=>Z102.good hE pv k x.1 x.2.1 hy
 ·cases h
theorem Z39.good (hE:EnvOk Tryz.prog Q0)(pv:Nat->Value)(k:Nat)(a0:List Entry)(a1:Int){y:_}(h:Z39.F k a0 a1=some y):Q8 Tryz.prog Q0 pv (.f 20) (Qa [(.sl .entry),(.int .i64)] (a0,a1,())) (.t (.int .i64) y):=
 Qg hE (t:=Z39.C) k (λk _=>Z39.G hE pv k) (f:=20) (fn:=Tryz.f20) (by kernel_rfl) rfl (by kernel_rfl) (by kernel_rfl) (lt:=Z39.L) (by kernel_rfl) (λb A h=>by
  unfold Z39.L at h;split at h
  ·cases h;exact⟨by kernel_rfl,by kernel_rfl,by kernel_rfl,λ_=>rfl,λ_=>rfl,λ_=>rfl⟩
  ·cases h) (λb A h=>by
  unfold Z39.L at h;split at h
  ·cases h;exact λk x=>Z39.step0 k x.1 x.2.1 x.2.2.1
  ·cases h) ((Z39.run k a0 a1).trans h) (λr hr=>Q1 hr)
def Z103.F (k:Nat)(a0:Library)(a1:Int):Option (Int):=(Z39.F k a0.entries a1).bind λr1=>bif (decide (r1<0))then(some (-1))else(some r1)
def Z103.C (k:Nat):Cal->Option CArm:=λc=>match c with
 |.f 20=>some (.p [(.sl .entry),(.int .i64)] _ (λx=>Z39.F k x.1 x.2.1) (λr=>(.t (.int .i64) r)))
 |_=>none
theorem Z103.run (k:Nat)(a0:Library)(a1:Int):Ql Q0 (Q6 (Z103.C k)) (Q4 12 0 (λ_=>none)) Tryz.f4 [.t .lib a0,.t (.int .i64) a1] (Q2 (.t (.int .i64)))=Z103.F k a0 a1:=by kernel_rfl
theorem Z103.G (hE:EnvOk Tryz.prog Q0)(pv:Nat->Value)(k:Nat):∀cal A,Z103.C k cal=some A->Q9 Tryz.prog Q0 pv cal A:=by
 intro cal A h
 unfold Z103.C at h
 split at h
 ·cases h;exact λx y hy=>Z39.good hE pv k x.1 x.2.1 hy
 ·cases h
theorem Z103.good (hE:EnvOk Tryz.prog Q0)(pv:Nat->Value)(k:Nat)(a0:Library)(a1:Int){y:_}(h:Z103.F k a0 a1=some y):Q8 Tryz.prog Q0 pv (.f 4) (Qa [.lib,(.int .i64)] (a0,a1,())) (.t (.int .i64) y):=
 Q7 hE (Z103.G hE pv k) (f:=4) (fn:=Tryz.f4) (by kernel_rfl) rfl (by kernel_rfl) (by kernel_rfl) ((Z103.run k a0 a1).trans h) (λr hr=>Q1 hr)
def Z0.l0:Nat->ByteArray->Library->Int->Option (Sum Int Unit)
 |0,_,_,_=>none
 |k+1,x1,x2,x5=>bif (decide (x5<(x2.entries.length:Int)))then(bif decide (0<=x5)then(bif decide (x5<(x2.entries.length:Int))then(bif (Qu ((x2.entries.getD (x5:Int).toNat (Qh .entry)).key) x1)then(some (.inl x5))else(Z0.l0 k x1 x2 (IntKind.wrap .i64 (x5+1))))else none)else none)else(some (.inr ()))
def Z0.F (k:Nat)(a0:Library)(a1:ByteArray):Option (Int):=(Z0.l0 k a1 a0 0).bind λy1=>match y1 with|.inl z2=>some z2|.inr z2=>some (-1)
def Z0.C (k:Nat):Cal->Option CArm:=λc=>match c with
 |_=>none
def Z0.sp0:List Sp:=[.t 1 .str,.boxT 2 0 .lib,.t 5 (.int .i64)]
def Z0.sp0_0:List Sp:=[.t 4 (.int .i64)]
def Z0.sp0_1:List Sp:=[]
def Z0.A0:LArm:=.two Z0.sp0 Z0.sp0_0 Z0.sp0_1 (Int) (Unit) (λk x=>Z0.l0 k x.1 x.2.1 x.2.2.1) .ret (.exit 0) (λy=>(y,())) (λx=>x.1) (λy=>()) (λx=>())
def Z0.L:Nat->Option LArm:=λb=>match b with
 |0=>some Z0.A0
 |_=>none
theorem Z0.run (k:Nat)(a0:Library)(a1:ByteArray):Ql Q0 (Q6 (Z0.C k)) (Q4 22 k Z0.L) Tryz.f23 [.t .lib a0,.t .str a1] (Q2 (.t (.int .i64)))=Z0.F k a0 a1:=by kernel_rfl
theorem Z0.step0 (k:Nat)(x1:ByteArray)(x2:Library)(x5:Int):Qp Q0 (Q6 (Z0.C k)) (Q4 22 k Z0.L) 0 (Qi Tryz.f23 0) (Qz 22 Z0.sp0 (x1,x2,x5,())) (Z0.A0.cont 22 k)=Z0.l0 (k+1) x1 x2 x5:=by kernel_rfl
theorem Z0.G (hE:EnvOk Tryz.prog Q0)(pv:Nat->Value)(k:Nat):∀cal A,Z0.C k cal=some A->Q9 Tryz.prog Q0 pv cal A:=by
 intro cal A h
 unfold Z0.C at h
 cases h
theorem Z0.good (hE:EnvOk Tryz.prog Q0)(pv:Nat->Value)(k:Nat)(a0:Library)(a1:ByteArray){y:_}(h:Z0.F k a0 a1=some y):Q8 Tryz.prog Q0 pv (.f 23) (Qa [.lib,.str] (a0,a1,())) (.t (.int .i64) y):=
 Qg hE (t:=Z0.C) k (λk _=>Z0.G hE pv k) (f:=23) (fn:=Tryz.f23) (by kernel_rfl) rfl (by kernel_rfl) (by kernel_rfl) (lt:=Z0.L) (by kernel_rfl) (λb A h=>by
  unfold Z0.L at h;split at h
  ·cases h;exact⟨by kernel_rfl,by kernel_rfl,by kernel_rfl,λ_=>rfl,λ_=>rfl,λ_=>rfl⟩
  ·cases h) (λb A h=>by
  unfold Z0.L at h;split at h
  ·cases h;exact λk x=>Z0.step0 k x.1 x.2.1 x.2.2.1
  ·cases h) ((Z0.run k a0 a1).trans h) (λr hr=>Q1 hr)
def Z64.F (a0:Int)(a1:Int)(a2:Int):Option (Bool):=bif (decide (a0 ≥ a1))then(some (decide (a0<=a2)))else(some false)
def Z64.C:Cal->Option CArm:=λc=>match c with
 |_=>none
theorem Z64.run (a0:Int)(a1:Int)(a2:Int):Ql Q0 (Q6 Z64.C) (Q4 15 0 (λ_=>none)) Tryz.f76 [.t (.int .i64) a0,.t (.int .i64) a1,.t (.int .i64) a2] (Q2 (.t .bool))=Z64.F a0 a1 a2:=by kernel_rfl
theorem Z64.G (hE:EnvOk Tryz.prog Q0)(pv:Nat->Value):∀cal A,Z64.C cal=some A->Q9 Tryz.prog Q0 pv cal A:=by
 intro cal A h
 unfold Z64.C at h
 cases h
theorem Z64.good (hE:EnvOk Tryz.prog Q0)(pv:Nat->Value)(a0:Int)(a1:Int)(a2:Int){y:_}(h:Z64.F a0 a1 a2=some y):Q8 Tryz.prog Q0 pv (.f 76) (Qa [(.int .i64),(.int .i64),(.int .i64)] (a0,a1,a2,())) (.t .bool y):=
 Q7 hE (Z64.G hE pv) (f:=76) (fn:=Tryz.f76) (by kernel_rfl) rfl (by kernel_rfl) (by kernel_rfl) ((Z64.run a0 a1 a2).trans h) (λr hr=>Q1 hr)
def Z65.F (a0:Int):Option (Bool):=bif (decide (a0 ≥ 97))then(some (decide (a0<=122)))else(some false)
def Z65.C:Cal->Option CArm:=λc=>match c with
 |_=>none
theorem Z65.run (a0:Int):Ql Q0 (Q6 Z65.C) (Q4 9 0 (λ_=>none)) Tryz.f109 [.t (.int .u8) a0] (Q2 (.t .bool))=Z65.F a0:=by kernel_rfl
theorem Z65.G (hE:EnvOk Tryz.prog Q0)(pv:Nat->Value):∀cal A,Z65.C cal=some A->Q9 Tryz.prog Q0 pv cal A:=by
 intro cal A h
 unfold Z65.C at h
 cases h
theorem Z65.good (hE:EnvOk Tryz.prog Q0)(pv:Nat->Value)(a0:Int){y:_}(h:Z65.F a0=some y):Q8 Tryz.prog Q0 pv (.f 109) (Qa [(.int .u8)] (a0,())) (.t .bool y):=
 Q7 hE (Z65.G hE pv) (f:=109) (fn:=Tryz.f109) (by kernel_rfl) rfl (by kernel_rfl) (by kernel_rfl) ((Z65.run a0).trans h) (λr hr=>Q1 hr)
def Z17.l0:Nat->ByteArray->Int->Option (Sum Bool Unit)
 |0,_,_=>none
 |k+1,x0,x3=>bif (decide (x3<(x0.size:Int)))then(bif decide (0<=x3)then(bif decide (x3<(x0.size:Int))then((Z65.F (bt x0 (x3:Int).toNat)).bind λr3=>bif (!r3)then(bif decide (0<=x3)then(bif decide (x3<(x0.size:Int))then(bif (decide ((bt x0 (x3:Int).toNat)<48))then(some (.inl false))else(bif decide (0<=x3)then(bif decide (x3<(x0.size:Int))then(bif (decide ((bt x0 (x3:Int).toNat) > 57))then(some (.inl false))else(Z17.l0 k x0 (IntKind.wrap .i64 (x3+1))))else none)else none))else none)else none)else(Z17.l0 k x0 (IntKind.wrap .i64 (x3+1))))else none)else none)else(some (.inr ()))
def Z17.F (k:Nat)(a0:ByteArray):Option (Bool):=(Z64.F (a0.size:Int) 1 10).bind λr1=>bif (!r1)then(some false)else(bif decide (0<=0)then(bif decide (0<(a0.size:Int))then((Z65.F (bt a0 (0:Int).toNat)).bind λr2=>bif (!r2)then(some false)else((Z17.l0 k a0 0).bind λy4=>match y4 with|.inl z5=>some z5|.inr z5=>some true))else none)else none)
def Z17.C (k:Nat):Cal->Option CArm:=λc=>match c with
 |.f 76=>some (.p [(.int .i64),(.int .i64),(.int .i64)] _ (λx=>Z64.F x.1 x.2.1 x.2.2.1) (λr=>(.t .bool r)))
 |.f 109=>some (.p [(.int .u8)] _ (λx=>Z65.F x.1) (λr=>(.t .bool r)))
 |_=>none
def Z17.sp0:List Sp:=[.t 0 .str,.t 3 (.int .i64)]
def Z17.sp0_0:List Sp:=[.t 2 .bool]
def Z17.sp0_1:List Sp:=[]
def Z17.A0:LArm:=.two Z17.sp0 Z17.sp0_0 Z17.sp0_1 (Bool) (Unit) (λk x=>Z17.l0 k x.1 x.2.1) .ret (.exit 0) (λy=>(y,())) (λx=>x.1) (λy=>()) (λx=>())
def Z17.L:Nat->Option LArm:=λb=>match b with
 |0=>some Z17.A0
 |_=>none
theorem Z17.run (k:Nat)(a0:ByteArray):Ql Q0 (Q6 (Z17.C k)) (Q4 37 k Z17.L) Tryz.f75 [.t .str a0] (Q2 (.t .bool))=Z17.F k a0:=by kernel_rfl
theorem Z17.step0 (k:Nat)(x0:ByteArray)(x3:Int):Qp Q0 (Q6 (Z17.C k)) (Q4 37 k Z17.L) 0 (Qi Tryz.f75 0) (Qz 37 Z17.sp0 (x0,x3,())) (Z17.A0.cont 37 k)=Z17.l0 (k+1) x0 x3:=by kernel_rfl
theorem Z17.G (hE:EnvOk Tryz.prog Q0)(pv:Nat->Value)(k:Nat):∀cal A,Z17.C k cal=some A->Q9 Tryz.prog Q0 pv cal A:=by
 intro cal A h
 unfold Z17.C at h
 split at h
 ·cases h;exact λx y hy=>Z64.good hE pv x.1 x.2.1 x.2.2.1 hy
 ·cases h;exact λx y hy=>Z65.good hE pv x.1 hy
 ·cases h
theorem Z17.good (hE:EnvOk Tryz.prog Q0)(pv:Nat->Value)(k:Nat)(a0:ByteArray){y:_}(h:Z17.F k a0=some y):Q8 Tryz.prog Q0 pv (.f 75) (Qa [.str] (a0,())) (.t .bool y):=
 Qg hE (t:=Z17.C) k (λk _=>Z17.G hE pv k) (f:=75) (fn:=Tryz.f75) (by kernel_rfl) rfl (by kernel_rfl) (by kernel_rfl) (lt:=Z17.L) (by kernel_rfl) (λb A h=>by
  unfold Z17.L at h;split at h
  ·cases h;exact⟨by kernel_rfl,by kernel_rfl,by kernel_rfl,λ_=>rfl,λ_=>rfl,λ_=>rfl⟩
  ·cases h) (λb A h=>by
  unfold Z17.L at h;split at h
  ·cases h;exact λk x=>Z17.step0 k x.1 x.2.1
  ·cases h) ((Z17.run k a0).trans h) (λr hr=>Q1 hr)
def Z69.F (a0:Int):Option (Bool):=bif (decide (a0 ≥ 65))then(some (decide (a0<=90)))else(some false)
def Z69.C:Cal->Option CArm:=λc=>match c with
 |_=>none
theorem Z69.run (a0:Int):Ql Q0 (Q6 Z69.C) (Q4 9 0 (λ_=>none)) Tryz.f115 [.t (.int .u8) a0] (Q2 (.t .bool))=Z69.F a0:=by kernel_rfl
theorem Z69.G (hE:EnvOk Tryz.prog Q0)(pv:Nat->Value):∀cal A,Z69.C cal=some A->Q9 Tryz.prog Q0 pv cal A:=by
 intro cal A h
 unfold Z69.C at h
 cases h
theorem Z69.good (hE:EnvOk Tryz.prog Q0)(pv:Nat->Value)(a0:Int){y:_}(h:Z69.F a0=some y):Q8 Tryz.prog Q0 pv (.f 115) (Qa [(.int .u8)] (a0,())) (.t .bool y):=
 Q7 hE (Z69.G hE pv) (f:=115) (fn:=Tryz.f115) (by kernel_rfl) rfl (by kernel_rfl) (by kernel_rfl) ((Z69.run a0).trans h) (λr hr=>Q1 hr)
def Z72.F (a0:Int):Option (Bool):=(Z69.F a0).bind λr1=>bif r1 then(some true)else((Z65.F a0).bind λr2=>some r2)
def Z72.C:Cal->Option CArm:=λc=>match c with
 |.f 115=>some (.p [(.int .u8)] _ (λx=>Z69.F x.1) (λr=>(.t .bool r)))
 |.f 109=>some (.p [(.int .u8)] _ (λx=>Z65.F x.1) (λr=>(.t .bool r)))
 |_=>none
theorem Z72.run (a0:Int):Ql Q0 (Q6 Z72.C) (Q4 9 0 (λ_=>none)) Tryz.f149 [.t (.int .u8) a0] (Q2 (.t .bool))=Z72.F a0:=by kernel_rfl
theorem Z72.G (hE:EnvOk Tryz.prog Q0)(pv:Nat->Value):∀cal A,Z72.C cal=some A->Q9 Tryz.prog Q0 pv cal A:=by
 intro cal A h
 unfold Z72.C at h
 split at h
 ·cases h;exact λx y hy=>Z69.good hE pv x.1 hy
 ·cases h;exact λx y hy=>Z65.good hE pv x.1 hy
 ·cases h
theorem Z72.good (hE:EnvOk Tryz.prog Q0)(pv:Nat->Value)(a0:Int){y:_}(h:Z72.F a0=some y):Q8 Tryz.prog Q0 pv (.f 149) (Qa [(.int .u8)] (a0,())) (.t .bool y):=
 Q7 hE (Z72.G hE pv) (f:=149) (fn:=Tryz.f149) (by kernel_rfl) rfl (by kernel_rfl) (by kernel_rfl) ((Z72.run a0).trans h) (λr hr=>Q1 hr)
def Z12.l0:Nat->ByteArray->Int->Option (Sum Bool Unit)
 |0,_,_=>none
 |k+1,x0,x3=>bif (decide (x3<(x0.size:Int)))then(bif decide (0<=x3)then(bif decide (x3<(x0.size:Int))then((Z72.F (bt x0 (x3:Int).toNat)).bind λr4=>bif (!r4)then(bif decide (0<=x3)then(bif decide (x3<(x0.size:Int))then(bif ((bt x0 (x3:Int).toNat) != 45)then(bif decide (0<=x3)then(bif decide (x3<(x0.size:Int))then(bif ((bt x0 (x3:Int).toNat) != 39)then(some (.inl false))else(bif decide (0<=(IntKind.wrap .i64 (x3-1)))then(bif decide ((IntKind.wrap .i64 (x3-1))<(x0.size:Int))then((Z72.F (bt x0 ((IntKind.wrap .i64 (x3-1)):Int).toNat)).bind λr5=>bif (!r5)then(some (.inl false))else(Z12.l0 k x0 (IntKind.wrap .i64 (x3+1))))else none)else none))else none)else none)else(bif decide (0<=(IntKind.wrap .i64 (x3-1)))then(bif decide ((IntKind.wrap .i64 (x3-1))<(x0.size:Int))then((Z72.F (bt x0 ((IntKind.wrap .i64 (x3-1)):Int).toNat)).bind λr6=>bif (!r6)then(some (.inl false))else(Z12.l0 k x0 (IntKind.wrap .i64 (x3+1))))else none)else none))else none)else none)else(Z12.l0 k x0 (IntKind.wrap .i64 (x3+1))))else none)else none)else(some (.inr ()))
def Z12.F (k:Nat)(a0:ByteArray):Option (Bool):=(Z64.F (a0.size:Int) 1 12).bind λr1=>bif (!r1)then(some false)else(bif decide (0<=0)then(bif decide (0<(a0.size:Int))then((Z72.F (bt a0 (0:Int).toNat)).bind λr2=>bif (!r2)then(some false)else(bif decide (0<=(IntKind.wrap .i64 ((a0.size:Int)-1)))then(bif decide ((IntKind.wrap .i64 ((a0.size:Int)-1))<(a0.size:Int))then((Z72.F (bt a0 ((IntKind.wrap .i64 ((a0.size:Int)-1)):Int).toNat)).bind λr3=>bif (!r3)then(some false)else((Z12.l0 k a0 1).bind λy7=>match y7 with|.inl z8=>some z8|.inr z8=>some true))else none)else none))else none)else none)
def Z12.C (k:Nat):Cal->Option CArm:=λc=>match c with
 |.f 76=>some (.p [(.int .i64),(.int .i64),(.int .i64)] _ (λx=>Z64.F x.1 x.2.1 x.2.2.1) (λr=>(.t .bool r)))
 |.f 149=>some (.p [(.int .u8)] _ (λx=>Z72.F x.1) (λr=>(.t .bool r)))
 |_=>none
def Z12.sp0:List Sp:=[.t 0 .str,.t 3 (.int .i64)]
def Z12.sp0_0:List Sp:=[.t 2 .bool]
def Z12.sp0_1:List Sp:=[]
def Z12.A0:LArm:=.two Z12.sp0 Z12.sp0_0 Z12.sp0_1 (Bool) (Unit) (λk x=>Z12.l0 k x.1 x.2.1) .ret (.exit 0) (λy=>(y,())) (λx=>x.1) (λy=>()) (λx=>())
def Z12.L:Nat->Option LArm:=λb=>match b with
 |0=>some Z12.A0
 |_=>none
theorem Z12.run (k:Nat)(a0:ByteArray):Ql Q0 (Q6 (Z12.C k)) (Q4 54 k Z12.L) Tryz.f133 [.t .str a0] (Q2 (.t .bool))=Z12.F k a0:=by kernel_rfl
theorem Z12.step0 (k:Nat)(x0:ByteArray)(x3:Int):Qp Q0 (Q6 (Z12.C k)) (Q4 54 k Z12.L) 0 (Qi Tryz.f133 0) (Qz 54 Z12.sp0 (x0,x3,())) (Z12.A0.cont 54 k)=Z12.l0 (k+1) x0 x3:=by kernel_rfl
theorem Z12.G (hE:EnvOk Tryz.prog Q0)(pv:Nat->Value)(k:Nat):∀cal A,Z12.C k cal=some A->Q9 Tryz.prog Q0 pv cal A:=by
 intro cal A h
 unfold Z12.C at h
 split at h
 ·cases h;exact λx y hy=>Z64.good hE pv x.1 x.2.1 x.2.2.1 hy
 ·cases h;exact λx y hy=>Z72.good hE pv x.1 hy
 ·cases h
theorem Z12.good (hE:EnvOk Tryz.prog Q0)(pv:Nat->Value)(k:Nat)(a0:ByteArray){y:_}(h:Z12.F k a0=some y):Q8 Tryz.prog Q0 pv (.f 133) (Qa [.str] (a0,())) (.t .bool y):=
 Qg hE (t:=Z12.C) k (λk _=>Z12.G hE pv k) (f:=133) (fn:=Tryz.f133) (by kernel_rfl) rfl (by kernel_rfl) (by kernel_rfl) (lt:=Z12.L) (by kernel_rfl) (λb A h=>by
  unfold Z12.L at h;split at h
  ·cases h;exact⟨by kernel_rfl,by kernel_rfl,by kernel_rfl,λ_=>rfl,λ_=>rfl,λ_=>rfl⟩
  ·cases h) (λb A h=>by
  unfold Z12.L at h;split at h
  ·cases h;exact λk x=>Z12.step0 k x.1 x.2.1
  ·cases h) ((Z12.run k a0).trans h) (λr hr=>Q1 hr)
def Z40.l0:Nat->ByteArray->Int->(List ByteArray)->Int->Int->Option (ByteArray× (List ByteArray)×Int)
 |0,_,_,_,_,_=>none
 |k+1,x0,x1,x5,x6,x7=>bif (decide (x7<(x0.size:Int)))then(bif decide (0<=x7)then(bif decide (x7<(x0.size:Int))then(bif ((bt x0 (x7:Int).toNat)==x1)then(bif decide (0<=x7)then(bif decide (x7<=(x0.size:Int))then(bif decide (0<=x6)then(bif decide (x6<=x7)then(bif room (x5.length+([(x0.extract (x6:Int).toNat (x7:Int).toNat)]:List ByteArray).length) .str then(Z40.l0 k x0 x1 (x5++([(x0.extract (x6:Int).toNat (x7:Int).toNat)]:List ByteArray)) (IntKind.wrap .i64 (x7+1)) (IntKind.wrap .i64 (x7+1)))else none)else none)else none)else none)else none)else(Z40.l0 k x0 x1 x5 x6 (IntKind.wrap .i64 (x7+1))))else none)else none)else(some (x0,x5,x6))
def Z40.F (k:Nat)(a0:ByteArray)(a1:Int):Option (List ByteArray):=(Z40.l0 k a0 a1 ([]:List ByteArray) 0 0).bind λy1=>bif decide (0<=y1.2.2)then(bif decide (y1.2.2<=(y1.1.size:Int))then(bif room (y1.2.1.length+([(y1.1.extract (y1.2.2:Int).toNat y1.1.size)]:List ByteArray).length) .str then(some (y1.2.1++([(y1.1.extract (y1.2.2:Int).toNat y1.1.size)]:List ByteArray)))else none)else none)else none
def Z40.C (k:Nat):Cal->Option CArm:=λc=>match c with
 |_=>none
def Z40.sp0:List Sp:=[.t 0 .str,.t 1 (.int .u8),.own 5 1024 9 .str false true,.t 6 (.int .i64),.t 7 (.int .i64)]
def Z40.sp0_0:List Sp:=[.t 0 .str,.own 5 1024 9 .str false true,.t 6 (.int .i64)]
def Z40.A0:LArm:=.one Z40.sp0 Z40.sp0_0 (ByteArray× (List ByteArray)×Int) (λk x=>Z40.l0 k x.1 x.2.1 x.2.2.1 x.2.2.2.1 x.2.2.2.2.1) (.exit 0) (λy=>(y.1,y.2.1,y.2.2,())) (λx=>(x.1,x.2.1,x.2.2.1))
def Z40.L:Nat->Option LArm:=λb=>match b with
 |0=>some Z40.A0
 |_=>none
theorem Z40.run (k:Nat)(a0:ByteArray)(a1:Int):Ql Q0 (Q6 (Z40.C k)) (Q4 35 k Z40.L) Tryz.f150 [.t .str a0,.t (.int .u8) a1] (Q2 (.fr 9 .str))=Z40.F k a0 a1:=by kernel_rfl
theorem Z40.step0 (k:Nat)(x0:ByteArray)(x1:Int)(x5:List ByteArray)(x6:Int)(x7:Int):Qp Q0 (Q6 (Z40.C k)) (Q4 35 k Z40.L) 0 (Qi Tryz.f150 0) (Qz 35 Z40.sp0 (x0,x1,x5,x6,x7,())) (Z40.A0.cont 35 k)=Z40.l0 (k+1) x0 x1 x5 x6 x7:=by kernel_rfl
theorem Z40.G (hE:EnvOk Tryz.prog Q0)(pv:Nat->Value)(k:Nat):∀cal A,Z40.C k cal=some A->Q9 Tryz.prog Q0 pv cal A:=by
 intro cal A h
 unfold Z40.C at h
 cases h
theorem Z40.good (hE:EnvOk Tryz.prog Q0)(pv:Nat->Value)(k:Nat)(a0:ByteArray)(a1:Int){y:_}(h:Z40.F k a0 a1=some y):Q8 Tryz.prog Q0 pv (.f 150) (Qa [.str,(.int .u8)] (a0,a1,())) (.fr 9 .str y):=
 Qg hE (t:=Z40.C) k (λk _=>Z40.G hE pv k) (f:=150) (fn:=Tryz.f150) (by kernel_rfl) rfl (by kernel_rfl) (by kernel_rfl) (lt:=Z40.L) (by kernel_rfl) (λb A h=>by
  unfold Z40.L at h;split at h
  ·cases h;exact⟨by kernel_rfl,by kernel_rfl,λ_=>rfl,λ_=>rfl⟩
  ·cases h) (λb A h=>by
  unfold Z40.L at h;split at h
  ·cases h;exact λk x=>Z40.step0 k x.1 x.2.1 x.2.2.1 x.2.2.2.1 x.2.2.2.2.1
  ·cases h) ((Z40.run k a0 a1).trans h) (λr hr=>Q1 hr)
def Z2.l2:Nat->(List ByteArray)->Int->Int->Option (Sum Bool ((List ByteArray)×Int))
 |0,_,_,_=>none
 |k+1,x3,x4,x5=>bif decide (0<=x4)then(bif decide (x4<(x3.length:Int))then(bif (decide (x5<((x3.getD ((x4:Int).toNat) (⟨#[]⟩:ByteArray)).size:Int)))then(bif decide (0<=x4)then(bif decide (x4<(x3.length:Int))then(bif decide (0<=x5)then(bif decide (x5<((x3.getD ((x4:Int).toNat) (⟨#[]⟩:ByteArray)).size:Int))then((Z65.F (bt (x3.getD ((x4:Int).toNat) (⟨#[]⟩:ByteArray)) (x5:Int).toNat)).bind λr3=>bif (!r3)then(some (.inl false))else(Z2.l2 k x3 x4 (IntKind.wrap .i64 (x5+1))))else none)else none)else none)else none)else(some (.inr (x3,x4))))else none)else none
def Z2.l0:Nat->(List ByteArray)->Int->Option (Sum Bool (List ByteArray))
 |0,_,_=>none
 |k+1,x3,x4=>bif (decide (x4<(x3.length:Int)))then(bif decide (0<=x4)then(bif decide (x4<(x3.length:Int))then((Z12.F k (x3.getD ((x4:Int).toNat) (⟨#[]⟩:ByteArray))).bind λr2=>bif (!r2)then(some (.inl false))else((Z2.l2 k x3 x4 0).bind λy4=>match y4 with|.inl z5=>some (.inl z5)|.inr z5=>Z2.l0 k z5.1 (IntKind.wrap .i64 (z5.2+1))))else none)else none)else(some (.inr x3))
def Z2.F (k:Nat)(a0:ByteArray):Option (Bool):=bif (Qu a0 (⟨#[]⟩:ByteArray))then(some true)else((Z40.F k a0 32).bind λr1=>(Z2.l0 k r1 0).bind λy6=>match y6 with|.inl z7=>some z7|.inr z7=>some (decide ((z7.length:Int)<=2)))
def Z2.C (k:Nat):Cal->Option CArm:=λc=>match c with
 |.f 150=>some (.p [.str,(.int .u8)] _ (λx=>Z40.F k x.1 x.2.1) (λr=>(.fr 9 .str r)))
 |.f 133=>some (.p [.str] _ (λx=>Z12.F k x.1) (λr=>(.t .bool r)))
 |.f 109=>some (.p [(.int .u8)] _ (λx=>Z65.F x.1) (λr=>(.t .bool r)))
 |_=>none
def Z2.sp2:List Sp:=[.own 3 3076 9 .str false true,.t 4 (.int .i64),.t 5 (.int .i64)]
def Z2.sp2_0:List Sp:=[.t 2 .bool]
def Z2.sp2_1:List Sp:=[.own 3 3076 9 .str false true,.t 4 (.int .i64)]
def Z2.A2:LArm:=.two Z2.sp2 Z2.sp2_0 Z2.sp2_1 (Bool) ((List ByteArray)×Int) (λk x=>Z2.l2 k x.1 x.2.1 x.2.2.1) .ret (.exit 2) (λy=>(y,())) (λx=>x.1) (λy=>(y.1,y.2,())) (λx=>(x.1,x.2.1))
def Z2.sp0:List Sp:=[.own 3 3076 9 .str false true,.t 4 (.int .i64)]
def Z2.sp0_0:List Sp:=[.t 2 .bool]
def Z2.sp0_1:List Sp:=[.own 3 3076 9 .str false true]
def Z2.A0:LArm:=.two Z2.sp0 Z2.sp0_0 Z2.sp0_1 (Bool) ((List ByteArray)) (λk x=>Z2.l0 k x.1 x.2.1) .ret (.exit 0) (λy=>(y,())) (λx=>x.1) (λy=>(y,())) (λx=>x.1)
def Z2.L:Nat->Option LArm:=λb=>match b with
 |2=>some Z2.A2
 |0=>some Z2.A0
 |_=>none
theorem Z2.run (k:Nat)(a0:ByteArray):Ql Q0 (Q6 (Z2.C k)) (Q4 42 k Z2.L) Tryz.f134 [.t .str a0] (Q2 (.t .bool))=Z2.F k a0:=by kernel_rfl
theorem Z2.step2 (k:Nat)(x3:List ByteArray)(x4:Int)(x5:Int):Qp Q0 (Q6 (Z2.C k)) (Q4 42 k Z2.L) 2 (Qi Tryz.f134 2) (Qz 42 Z2.sp2 (x3,x4,x5,())) (Z2.A2.cont 42 k)=Z2.l2 (k+1) x3 x4 x5:=by kernel_rfl
theorem Z2.step0 (k:Nat)(x3:List ByteArray)(x4:Int):Qp Q0 (Q6 (Z2.C k)) (Q4 42 k Z2.L) 0 (Qi Tryz.f134 0) (Qz 42 Z2.sp0 (x3,x4,())) (Z2.A0.cont 42 k)=Z2.l0 (k+1) x3 x4:=by kernel_rfl
theorem Z2.G (hE:EnvOk Tryz.prog Q0)(pv:Nat->Value)(k:Nat):∀cal A,Z2.C k cal=some A->Q9 Tryz.prog Q0 pv cal A:=by
 intro cal A h
 unfold Z2.C at h
 split at h
 ·cases h;exact λx y hy=>Z40.good hE pv k x.1 x.2.1 hy
 ·cases h;exact λx y hy=>Z12.good hE pv k x.1 hy
 ·cases h;exact λx y hy=>Z65.good hE pv x.1 hy
 ·cases h
theorem Z2.good (hE:EnvOk Tryz.prog Q0)(pv:Nat->Value)(k:Nat)(a0:ByteArray){y:_}(h:Z2.F k a0=some y):Q8 Tryz.prog Q0 pv (.f 134) (Qa [.str] (a0,())) (.t .bool y):=
 Qg hE (t:=Z2.C) k (λk _=>Z2.G hE pv k) (f:=134) (fn:=Tryz.f134) (by kernel_rfl) rfl (by kernel_rfl) (by kernel_rfl) (lt:=Z2.L) (by kernel_rfl) (λb A h=>by
  unfold Z2.L at h;split at h
  ·cases h;exact⟨by kernel_rfl,by kernel_rfl,by kernel_rfl,λ_=>rfl,λ_=>rfl,λ_=>rfl⟩
  ·cases h;exact⟨by kernel_rfl,by kernel_rfl,by kernel_rfl,λ_=>rfl,λ_=>rfl,λ_=>rfl⟩
  ·cases h) (λb A h=>by
  unfold Z2.L at h;split at h
  ·cases h;exact λk x=>Z2.step2 k x.1 x.2.1 x.2.2.1
  ·cases h;exact λk x=>Z2.step0 k x.1 x.2.1
  ·cases h) ((Z2.run k a0).trans h) (λr hr=>Q1 hr)
def Z26.l0:Nat->Name->Int->Option (Sum Bool Name)
 |0,_,_=>none
 |k+1,x1,x3=>bif (decide (x3<(x1.given.length:Int)))then(bif decide (0<=x3)then(bif decide (x3<(x1.given.length:Int))then((Z12.F k (x1.given.getD (x3:Int).toNat (⟨#[]⟩:ByteArray))).bind λr1=>bif (!r1)then(some (.inl false))else(bif decide (0<=x3)then(bif decide (x3<(x1.given.length:Int))then(bif decide (0<=0)then(bif decide (0<((x1.given.getD (x3:Int).toNat (⟨#[]⟩:ByteArray)).size:Int))then((Z69.F (bt (x1.given.getD (x3:Int).toNat (⟨#[]⟩:ByteArray)) (0:Int).toNat)).bind λr2=>bif (!r2)then(some (.inl false))else(Z26.l0 k x1 (IntKind.wrap .i64 (x3+1))))else none)else none)else none)else none))else none)else none)else(some (.inr x1))
def Z26.F (k:Nat)(a0:Name):Option (Bool):=(Z26.l0 k a0 0).bind λy3=>match y3 with|.inl z4=>some z4|.inr z4=>bif (decide ((z4.given.length:Int)<=3))then((Z2.F k z4.particle).bind λr5=>bif r5 then((Z12.F k z4.family).bind λr6=>bif r6 then(bif decide (0<=0)then(bif decide (0<(z4.family.size:Int))then((Z69.F (bt z4.family (0:Int).toNat)).bind λr7=>bif r7 then(bif (Qu z4.suffix (⟨#[]⟩:ByteArray))then(some true)else((Z12.F k z4.suffix).bind λr8=>some r8))else(some false))else none)else none)else(some false))else(some false))else(some false)
def Z26.C (k:Nat):Cal->Option CArm:=λc=>match c with
 |.f 133=>some (.p [.str] _ (λx=>Z12.F k x.1) (λr=>(.t .bool r)))
 |.f 115=>some (.p [(.int .u8)] _ (λx=>Z69.F x.1) (λr=>(.t .bool r)))
 |.f 134=>some (.p [.str] _ (λx=>Z2.F k x.1) (λr=>(.t .bool r)))
 |_=>none
def Z26.sp0:List Sp:=[.boxT 1 0 .name,.t 3 (.int .i64)]
def Z26.sp0_0:List Sp:=[.t 2 .bool]
def Z26.sp0_1:List Sp:=[.boxT 1 0 .name]
def Z26.A0:LArm:=.two Z26.sp0 Z26.sp0_0 Z26.sp0_1 (Bool) (Name) (λk x=>Z26.l0 k x.1 x.2.1) .ret (.exit 0) (λy=>(y,())) (λx=>x.1) (λy=>(y,())) (λx=>x.1)
def Z26.L:Nat->Option LArm:=λb=>match b with
 |0=>some Z26.A0
 |_=>none
theorem Z26.run (k:Nat)(a0:Name):Ql Q0 (Q6 (Z26.C k)) (Q4 58 k Z26.L) Tryz.f110 [.t .name a0] (Q2 (.t .bool))=Z26.F k a0:=by kernel_rfl
theorem Z26.step0 (k:Nat)(x1:Name)(x3:Int):Qp Q0 (Q6 (Z26.C k)) (Q4 58 k Z26.L) 0 (Qi Tryz.f110 0) (Qz 58 Z26.sp0 (x1,x3,())) (Z26.A0.cont 58 k)=Z26.l0 (k+1) x1 x3:=by kernel_rfl
theorem Z26.G (hE:EnvOk Tryz.prog Q0)(pv:Nat->Value)(k:Nat):∀cal A,Z26.C k cal=some A->Q9 Tryz.prog Q0 pv cal A:=by
 intro cal A h
 unfold Z26.C at h
 split at h
 ·cases h;exact λx y hy=>Z12.good hE pv k x.1 hy
 ·cases h;exact λx y hy=>Z69.good hE pv x.1 hy
 ·cases h;exact λx y hy=>Z2.good hE pv k x.1 hy
 ·cases h
theorem Z26.good (hE:EnvOk Tryz.prog Q0)(pv:Nat->Value)(k:Nat)(a0:Name){y:_}(h:Z26.F k a0=some y):Q8 Tryz.prog Q0 pv (.f 110) (Qa [.name] (a0,())) (.t .bool y):=
 Qg hE (t:=Z26.C) k (λk _=>Z26.G hE pv k) (f:=110) (fn:=Tryz.f110) (by kernel_rfl) rfl (by kernel_rfl) (by kernel_rfl) (lt:=Z26.L) (by kernel_rfl) (λb A h=>by
  unfold Z26.L at h;split at h
  ·cases h;exact⟨by kernel_rfl,by kernel_rfl,by kernel_rfl,λ_=>rfl,λ_=>rfl,λ_=>rfl⟩
  ·cases h) (λb A h=>by
  unfold Z26.L at h;split at h
  ·cases h;exact λk x=>Z26.step0 k x.1 x.2.1
  ·cases h) ((Z26.run k a0).trans h) (λr hr=>Q1 hr)
def Z21.l0:Nat->(List Name)->Int->Option (Sum Bool (List Name))
 |0,_,_=>none
 |k+1,x0,x3=>bif (decide (x3<(x0.length:Int)))then(bif (decide (x3<=4))then(bif decide (0<=x3)then(bif decide (x3<(x0.length:Int))then((Z26.F k (x0.getD (x3:Int).toNat (Qh .name))).bind λr1=>bif (!r1)then(some (.inl false))else(Z21.l0 k x0 (IntKind.wrap .i64 (x3+1))))else none)else none)else(some (.inr x0)))else(some (.inr x0))
def Z21.F (k:Nat)(a0:List Name):Option (Bool):=(Z21.l0 k a0 0).bind λy2=>match y2 with|.inl z3=>some z3|.inr z3=>some (decide ((z3.length:Int)<=4))
def Z21.C (k:Nat):Cal->Option CArm:=λc=>match c with
 |.f 110=>some (.p [.name] _ (λx=>Z26.F k x.1) (λr=>(.t .bool r)))
 |_=>none
def Z21.sp0:List Sp:=[.t 0 (.sl .name),.t 3 (.int .i64)]
def Z21.sp0_0:List Sp:=[.t 2 .bool]
def Z21.sp0_1:List Sp:=[.t 0 (.sl .name)]
def Z21.A0:LArm:=.two Z21.sp0 Z21.sp0_0 Z21.sp0_1 (Bool) ((List Name)) (λk x=>Z21.l0 k x.1 x.2.1) .ret (.exit 0) (λy=>(y,())) (λx=>x.1) (λy=>(y,())) (λx=>x.1)
def Z21.L:Nat->Option LArm:=λb=>match b with
 |0=>some Z21.A0
 |_=>none
theorem Z21.run (k:Nat)(a0:List Name):Ql Q0 (Q6 (Z21.C k)) (Q4 23 k Z21.L) Tryz.f77 [.t (.sl .name) a0] (Q2 (.t .bool))=Z21.F k a0:=by kernel_rfl
theorem Z21.step0 (k:Nat)(x0:List Name)(x3:Int):Qp Q0 (Q6 (Z21.C k)) (Q4 23 k Z21.L) 0 (Qi Tryz.f77 0) (Qz 23 Z21.sp0 (x0,x3,())) (Z21.A0.cont 23 k)=Z21.l0 (k+1) x0 x3:=by kernel_rfl
theorem Z21.G (hE:EnvOk Tryz.prog Q0)(pv:Nat->Value)(k:Nat):∀cal A,Z21.C k cal=some A->Q9 Tryz.prog Q0 pv cal A:=by
 intro cal A h
 unfold Z21.C at h
 split at h
 ·cases h;exact λx y hy=>Z26.good hE pv k x.1 hy
 ·cases h
theorem Z21.good (hE:EnvOk Tryz.prog Q0)(pv:Nat->Value)(k:Nat)(a0:List Name){y:_}(h:Z21.F k a0=some y):Q8 Tryz.prog Q0 pv (.f 77) (Qa [(.sl .name)] (a0,())) (.t .bool y):=
 Qg hE (t:=Z21.C) k (λk _=>Z21.G hE pv k) (f:=77) (fn:=Tryz.f77) (by kernel_rfl) rfl (by kernel_rfl) (by kernel_rfl) (lt:=Z21.L) (by kernel_rfl) (λb A h=>by
  unfold Z21.L at h;split at h
  ·cases h;exact⟨by kernel_rfl,by kernel_rfl,by kernel_rfl,λ_=>rfl,λ_=>rfl,λ_=>rfl⟩
  ·cases h) (λb A h=>by
  unfold Z21.L at h;split at h
  ·cases h;exact λk x=>Z21.step0 k x.1 x.2.1
  ·cases h) ((Z21.run k a0).trans h) (λr hr=>Q1 hr)
def Z22.l0:Nat->ByteArray->Int->Option (Sum Bool ByteArray)
 |0,_,_=>none
 |k+1,x0,x3=>bif (decide (x3<(x0.size:Int)))then(bif decide (0<=x3)then(bif decide (x3<(x0.size:Int))then(bif (decide ((bt x0 (x3:Int).toNat)<32))then(some (.inl false))else(bif decide (0<=x3)then(bif decide (x3<(x0.size:Int))then(bif (decide ((bt x0 (x3:Int).toNat) > 126))then(some (.inl false))else(Z22.l0 k x0 (IntKind.wrap .i64 (x3+1))))else none)else none))else none)else none)else(some (.inr x0))
def Z22.F (k:Nat)(a0:ByteArray):Option (Bool):=bif (decide ((a0.size:Int) > 40))then(some false)else((Z22.l0 k a0 0).bind λy1=>match y1 with|.inl z2=>some z2|.inr z2=>bif (Qu z2 (⟨#[]⟩:ByteArray))then(some true)else(bif decide (0<=0)then(bif decide (0<(z2.size:Int))then(bif ((bt z2 (0:Int).toNat) != 32)then(bif decide (0<=(IntKind.wrap .i64 ((z2.size:Int)-1)))then(bif decide ((IntKind.wrap .i64 ((z2.size:Int)-1))<(z2.size:Int))then(some ((bt z2 ((IntKind.wrap .i64 ((z2.size:Int)-1)):Int).toNat) != 32))else none)else none)else(some false))else none)else none))
def Z22.C (k:Nat):Cal->Option CArm:=λc=>match c with
 |_=>none
def Z22.sp0:List Sp:=[.t 0 .str,.t 3 (.int .i64)]
def Z22.sp0_0:List Sp:=[.t 2 .bool]
def Z22.sp0_1:List Sp:=[.t 0 .str]
def Z22.A0:LArm:=.two Z22.sp0 Z22.sp0_0 Z22.sp0_1 (Bool) (ByteArray) (λk x=>Z22.l0 k x.1 x.2.1) .ret (.exit 0) (λy=>(y,())) (λx=>x.1) (λy=>(y,())) (λx=>x.1)
def Z22.L:Nat->Option LArm:=λb=>match b with
 |0=>some Z22.A0
 |_=>none
theorem Z22.run (k:Nat)(a0:ByteArray):Ql Q0 (Q6 (Z22.C k)) (Q4 38 k Z22.L) Tryz.f78 [.t .str a0] (Q2 (.t .bool))=Z22.F k a0:=by kernel_rfl
theorem Z22.step0 (k:Nat)(x0:ByteArray)(x3:Int):Qp Q0 (Q6 (Z22.C k)) (Q4 38 k Z22.L) 0 (Qi Tryz.f78 0) (Qz 38 Z22.sp0 (x0,x3,())) (Z22.A0.cont 38 k)=Z22.l0 (k+1) x0 x3:=by kernel_rfl
theorem Z22.G (hE:EnvOk Tryz.prog Q0)(pv:Nat->Value)(k:Nat):∀cal A,Z22.C k cal=some A->Q9 Tryz.prog Q0 pv cal A:=by
 intro cal A h
 unfold Z22.C at h
 cases h
theorem Z22.good (hE:EnvOk Tryz.prog Q0)(pv:Nat->Value)(k:Nat)(a0:ByteArray){y:_}(h:Z22.F k a0=some y):Q8 Tryz.prog Q0 pv (.f 78) (Qa [.str] (a0,())) (.t .bool y):=
 Qg hE (t:=Z22.C) k (λk _=>Z22.G hE pv k) (f:=78) (fn:=Tryz.f78) (by kernel_rfl) rfl (by kernel_rfl) (by kernel_rfl) (lt:=Z22.L) (by kernel_rfl) (λb A h=>by
  unfold Z22.L at h;split at h
  ·cases h;exact⟨by kernel_rfl,by kernel_rfl,by kernel_rfl,λ_=>rfl,λ_=>rfl,λ_=>rfl⟩
  ·cases h) (λb A h=>by
  unfold Z22.L at h;split at h
  ·cases h;exact λk x=>Z22.step0 k x.1 x.2.1
  ·cases h) ((Z22.run k a0).trans h) (λr hr=>Q1 hr)
def Z104.F (a0:Int)(a1:Int):Option (Int):=bif (a1==2)then(bif (4==0)then(none)else(bif ((Int.tmod a0 4)==0)then(bif (100==0)then(none)else(bif ((Int.tmod a0 100) != 0)then(some 29)else(bif (400==0)then(none)else(bif ((Int.tmod a0 400)==0)then(some 29)else(some 28)))))else(bif (400==0)then(none)else(bif ((Int.tmod a0 400)==0)then(some 29)else(some 28)))))else(bif (a1==4)then(some 30)else(bif (a1==6)then(some 30)else(bif (a1==9)then(some 30)else(bif (a1==11)then(some 30)else(some 31)))))
def Z104.C:Cal->Option CArm:=λc=>match c with
 |_=>none
theorem Z104.run (a0:Int)(a1:Int):Ql Q0 (Q6 Z104.C) (Q4 34 0 (λ_=>none)) Tryz.f111 [.t (.int .i64) a0,.t (.int .i64) a1] (Q2 (.t (.int .i64)))=Z104.F a0 a1:=by kernel_rfl
theorem Z104.G (hE:EnvOk Tryz.prog Q0)(pv:Nat->Value):∀cal A,Z104.C cal=some A->Q9 Tryz.prog Q0 pv cal A:=by
 intro cal A h
 unfold Z104.C at h
 cases h
theorem Z104.good (hE:EnvOk Tryz.prog Q0)(pv:Nat->Value)(a0:Int)(a1:Int){y:_}(h:Z104.F a0 a1=some y):Q8 Tryz.prog Q0 pv (.f 111) (Qa [(.int .i64),(.int .i64)] (a0,a1,())) (.t (.int .i64) y):=
 Q7 hE (Z104.G hE pv) (f:=111) (fn:=Tryz.f111) (by kernel_rfl) rfl (by kernel_rfl) (by kernel_rfl) ((Z104.run a0 a1).trans h) (λr hr=>Q1 hr)
def Z88.F (a0:Date):Option (Bool):=bif ((a0.y==0&&(a0.m==0&&(a0.d==0&&a0.c==false))))then(some true)else((Z64.F a0.y 1 2999).bind λr1=>bif (!r1)then(some false)else((Z64.F a0.m 0 12).bind λr2=>bif (!r2)then(some false)else(bif a0.c then(bif (a0.m==0)then(some (a0.d==0))else(some false))else(bif (a0.m==0)then(some (a0.d==0))else((Z104.F a0.y a0.m).bind λr3=>(Z64.F a0.d 0 r3).bind λr4=>some r4)))))
def Z88.C:Cal->Option CArm:=λc=>match c with
 |.f 76=>some (.p [(.int .i64),(.int .i64),(.int .i64)] _ (λx=>Z64.F x.1 x.2.1 x.2.2.1) (λr=>(.t .bool r)))
 |.f 111=>some (.p [(.int .i64),(.int .i64)] _ (λx=>Z104.F x.1 x.2.1) (λr=>(.t (.int .i64) r)))
 |_=>none
theorem Z88.run (a0:Date):Ql Q0 (Q6 Z88.C) (Q4 44 0 (λ_=>none)) Tryz.f79 [.t .date a0] (Q2 (.t .bool))=Z88.F a0:=by kernel_rfl
theorem Z88.G (hE:EnvOk Tryz.prog Q0)(pv:Nat->Value):∀cal A,Z88.C cal=some A->Q9 Tryz.prog Q0 pv cal A:=by
 intro cal A h
 unfold Z88.C at h
 split at h
 ·cases h;exact λx y hy=>Z64.good hE pv x.1 x.2.1 x.2.2.1 hy
 ·cases h;exact λx y hy=>Z104.good hE pv x.1 x.2.1 hy
 ·cases h
theorem Z88.good (hE:EnvOk Tryz.prog Q0)(pv:Nat->Value)(a0:Date){y:_}(h:Z88.F a0=some y):Q8 Tryz.prog Q0 pv (.f 79) (Qa [.date] (a0,())) (.t .bool y):=
 Q7 hE (Z88.G hE pv) (f:=79) (fn:=Tryz.f79) (by kernel_rfl) rfl (by kernel_rfl) (by kernel_rfl) ((Z88.run a0).trans h) (λr hr=>Q1 hr)
def Z105.F (k:Nat)(a0:Entry):Option (Bool):=(Z17.F k a0.key).bind λr1=>bif (!r1)then(some false)else((Z64.F a0.kind 1 4).bind λr2=>bif (!r2)then(some false)else((Z21.F k a0.authors).bind λr3=>bif (!r3)then(some false)else((Z21.F k a0.editors).bind λr4=>bif (!r4)then(some false)else((Z22.F k a0.title).bind λr5=>bif (!r5)then(some false)else((Z22.F k a0.container).bind λr6=>bif (!r6)then(some false)else((Z22.F k a0.publisher).bind λr7=>bif (!r7)then(some false)else((Z22.F k a0.pages).bind λr8=>bif (!r8)then(some false)else((Z88.F a0.date).bind λr9=>bif r9 then((Z64.F a0.volume 0 9999).bind λr10=>bif r10 then(bif (Qu a0.cross (⟨#[]⟩:ByteArray))then(some true)else((Z17.F k a0.cross).bind λr11=>bif r11 then(some (!Qu a0.cross a0.key))else(some false)))else(some false))else(some false)))))))))
def Z105.C (k:Nat):Cal->Option CArm:=λc=>match c with
 |.f 75=>some (.p [.str] _ (λx=>Z17.F k x.1) (λr=>(.t .bool r)))
 |.f 76=>some (.p [(.int .i64),(.int .i64),(.int .i64)] _ (λx=>Z64.F x.1 x.2.1 x.2.2.1) (λr=>(.t .bool r)))
 |.f 77=>some (.p [(.sl .name)] _ (λx=>Z21.F k x.1) (λr=>(.t .bool r)))
 |.f 78=>some (.p [.str] _ (λx=>Z22.F k x.1) (λr=>(.t .bool r)))
 |.f 79=>some (.p [.date] _ (λx=>Z88.F x.1) (λr=>(.t .bool r)))
 |_=>none
theorem Z105.run (k:Nat)(a0:Entry):Ql Q0 (Q6 (Z105.C k)) (Q4 72 0 (λ_=>none)) Tryz.f48 [.t .entry a0] (Q2 (.t .bool))=Z105.F k a0:=by kernel_rfl
theorem Z105.G (hE:EnvOk Tryz.prog Q0)(pv:Nat->Value)(k:Nat):∀cal A,Z105.C k cal=some A->Q9 Tryz.prog Q0 pv cal A:=by
 intro cal A h
 unfold Z105.C at h
 split at h
 ·cases h;exact λx y hy=>Z17.good hE pv k x.1 hy
 ·cases h;exact λx y hy=>Z64.good hE pv x.1 x.2.1 x.2.2.1 hy
 ·cases h;exact λx y hy=>Z21.good hE pv k x.1 hy
 ·cases h;exact λx y hy=>Z22.good hE pv k x.1 hy
 ·cases h;exact λx y hy=>Z88.good hE pv x.1 hy
 ·cases h
theorem Z105.good (hE:EnvOk Tryz.prog Q0)(pv:Nat->Value)(k:Nat)(a0:Entry){y:_}(h:Z105.F k a0=some y):Q8 Tryz.prog Q0 pv (.f 48) (Qa [.entry] (a0,())) (.t .bool y):=
 Q7 hE (Z105.G hE pv k) (f:=48) (fn:=Tryz.f48) (by kernel_rfl) rfl (by kernel_rfl) (by kernel_rfl) ((Z105.run k a0).trans h) (λr hr=>Q1 hr)
def Z23.l0:Nat->Library->Int->Option (Sum Bool Unit)
 |0,_,_=>none
 |k+1,x1,x3=>bif (decide (x3<(x1.entries.length:Int)))then(bif decide (0<=x3)then(bif decide (x3<(x1.entries.length:Int))then((Z105.F k (x1.entries.getD (x3:Int).toNat (Qh .entry))).bind λr1=>bif (!r1)then(some (.inl false))else(bif (decide (x3 > 0))then(bif decide (0<=(IntKind.wrap .i64 (x3-1)))then(bif decide ((IntKind.wrap .i64 (x3-1))<(x1.entries.length:Int))then(bif decide (0<=x3)then(bif decide (x3<(x1.entries.length:Int))then(bif (!ltS ((x1.entries.getD ((IntKind.wrap .i64 (x3-1)):Int).toNat (Qh .entry)).key) ((x1.entries.getD (x3:Int).toNat (Qh .entry)).key))then(some (.inl false))else(Z23.l0 k x1 (IntKind.wrap .i64 (x3+1))))else none)else none)else none)else none)else(Z23.l0 k x1 (IntKind.wrap .i64 (x3+1)))))else none)else none)else(some (.inr ()))
def Z23.F (k:Nat)(a0:Library):Option (Bool):=bif (decide ((a0.entries.length:Int) > 8))then(some false)else((Z23.l0 k a0 0).bind λy2=>match y2 with|.inl z3=>some z3|.inr z3=>some true)
def Z23.C (k:Nat):Cal->Option CArm:=λc=>match c with
 |.f 48=>some (.p [.entry] _ (λx=>Z105.F k x.1) (λr=>(.t .bool r)))
 |_=>none
def Z23.sp0:List Sp:=[.boxT 1 0 .lib,.t 3 (.int .i64)]
def Z23.sp0_0:List Sp:=[.t 2 .bool]
def Z23.sp0_1:List Sp:=[]
def Z23.A0:LArm:=.two Z23.sp0 Z23.sp0_0 Z23.sp0_1 (Bool) (Unit) (λk x=>Z23.l0 k x.1 x.2.1) .ret (.exit 0) (λy=>(y,())) (λx=>x.1) (λy=>()) (λx=>())
def Z23.L:Nat->Option LArm:=λb=>match b with
 |0=>some Z23.A0
 |_=>none
theorem Z23.run (k:Nat)(a0:Library):Ql Q0 (Q6 (Z23.C k)) (Q4 42 k Z23.L) Tryz.f35 [.t .lib a0] (Q2 (.t .bool))=Z23.F k a0:=by kernel_rfl
theorem Z23.step0 (k:Nat)(x1:Library)(x3:Int):Qp Q0 (Q6 (Z23.C k)) (Q4 42 k Z23.L) 0 (Qi Tryz.f35 0) (Qz 42 Z23.sp0 (x1,x3,())) (Z23.A0.cont 42 k)=Z23.l0 (k+1) x1 x3:=by kernel_rfl
theorem Z23.G (hE:EnvOk Tryz.prog Q0)(pv:Nat->Value)(k:Nat):∀cal A,Z23.C k cal=some A->Q9 Tryz.prog Q0 pv cal A:=by
 intro cal A h
 unfold Z23.C at h
 split at h
 ·cases h;exact λx y hy=>Z105.good hE pv k x.1 hy
 ·cases h
theorem Z23.good (hE:EnvOk Tryz.prog Q0)(pv:Nat->Value)(k:Nat)(a0:Library){y:_}(h:Z23.F k a0=some y):Q8 Tryz.prog Q0 pv (.f 35) (Qa [.lib] (a0,())) (.t .bool y):=
 Qg hE (t:=Z23.C) k (λk _=>Z23.G hE pv k) (f:=35) (fn:=Tryz.f35) (by kernel_rfl) rfl (by kernel_rfl) (by kernel_rfl) (lt:=Z23.L) (by kernel_rfl) (λb A h=>by
  unfold Z23.L at h;split at h
  ·cases h;exact⟨by kernel_rfl,by kernel_rfl,by kernel_rfl,λ_=>rfl,λ_=>rfl,λ_=>rfl⟩
  ·cases h) (λb A h=>by
  unfold Z23.L at h;split at h
  ·cases h;exact λk x=>Z23.step0 k x.1 x.2.1
  ·cases h) ((Z23.run k a0).trans h) (λr hr=>Q1 hr)
def Z1.l2:Nat->(List ByteArray)->Library->Int->Int->Option (Sum Bool ((List ByteArray)×Library×Int))
 |0,_,_,_,_=>none
 |k+1,x1,x2,x5,x6=>bif (decide (x6<x5))then(bif decide (0<=x6)then(bif decide (x6<(x1.length:Int))then(bif decide (0<=x5)then(bif decide (x5<(x1.length:Int))then(bif (Qu (x1.getD (x6:Int).toNat (⟨#[]⟩:ByteArray)) (x1.getD (x5:Int).toNat (⟨#[]⟩:ByteArray)))then(some (.inl false))else(Z1.l2 k x1 x2 x5 (IntKind.wrap .i64 (x6+1))))else none)else none)else none)else none)else(some (.inr (x1,x2,x5)))
def Z1.l0:Nat->(List ByteArray)->Library->Int->Option (Sum Bool Unit)
 |0,_,_,_=>none
 |k+1,x1,x2,x5=>bif (decide (x5<(x1.length:Int)))then(bif decide (0<=x5)then(bif decide (x5<(x1.length:Int))then((Z0.F k x2 (x1.getD (x5:Int).toNat (⟨#[]⟩:ByteArray))).bind λr2=>bif (decide (r2<0))then(some (.inl false))else((Z1.l2 k x1 x2 x5 0).bind λy3=>match y3 with|.inl z4=>some (.inl z4)|.inr z4=>Z1.l0 k z4.1 z4.2.1 (IntKind.wrap .i64 (z4.2.2+1))))else none)else none)else(some (.inr ()))
def Z1.F (k:Nat)(a0:Library)(a1:List ByteArray):Option (Bool):=(Z23.F k a0).bind λr1=>bif (!r1)then(some false)else((Z1.l0 k a1 a0 0).bind λy5=>match y5 with|.inl z6=>some z6|.inr z6=>some true)
def Z1.C (k:Nat):Cal->Option CArm:=λc=>match c with
 |.f 35=>some (.p [.lib] _ (λx=>Z23.F k x.1) (λr=>(.t .bool r)))
 |.f 23=>some (.p [.lib,.str] _ (λx=>Z0.F k x.1 x.2.1) (λr=>(.t (.int .i64) r)))
 |_=>none
def Z1.sp2:List Sp:=[.t 1 (.sl .str),.boxT 2 0 .lib,.t 5 (.int .i64),.t 6 (.int .i64)]
def Z1.sp2_0:List Sp:=[.t 4 .bool]
def Z1.sp2_1:List Sp:=[.t 1 (.sl .str),.boxT 2 0 .lib,.t 5 (.int .i64)]
def Z1.A2:LArm:=.two Z1.sp2 Z1.sp2_0 Z1.sp2_1 (Bool) ((List ByteArray)×Library×Int) (λk x=>Z1.l2 k x.1 x.2.1 x.2.2.1 x.2.2.2.1) .ret (.exit 2) (λy=>(y,())) (λx=>x.1) (λy=>(y.1,y.2.1,y.2.2,())) (λx=>(x.1,x.2.1,x.2.2.1))
def Z1.sp0:List Sp:=[.t 1 (.sl .str),.boxT 2 0 .lib,.t 5 (.int .i64)]
def Z1.sp0_0:List Sp:=[.t 4 .bool]
def Z1.sp0_1:List Sp:=[]
def Z1.A0:LArm:=.two Z1.sp0 Z1.sp0_0 Z1.sp0_1 (Bool) (Unit) (λk x=>Z1.l0 k x.1 x.2.1 x.2.2.1) .ret (.exit 0) (λy=>(y,())) (λx=>x.1) (λy=>()) (λx=>())
def Z1.L:Nat->Option LArm:=λb=>match b with
 |2=>some Z1.A2
 |0=>some Z1.A0
 |_=>none
theorem Z1.run (k:Nat)(a0:Library)(a1:List ByteArray):Ql Q0 (Q6 (Z1.C k)) (Q4 37 k Z1.L) Tryz.f21 [.t .lib a0,.t (.sl .str) a1] (Q2 (.t .bool))=Z1.F k a0 a1:=by kernel_rfl
theorem Z1.step2 (k:Nat)(x1:List ByteArray)(x2:Library)(x5:Int)(x6:Int):Qp Q0 (Q6 (Z1.C k)) (Q4 37 k Z1.L) 2 (Qi Tryz.f21 2) (Qz 37 Z1.sp2 (x1,x2,x5,x6,())) (Z1.A2.cont 37 k)=Z1.l2 (k+1) x1 x2 x5 x6:=by kernel_rfl
theorem Z1.step0 (k:Nat)(x1:List ByteArray)(x2:Library)(x5:Int):Qp Q0 (Q6 (Z1.C k)) (Q4 37 k Z1.L) 0 (Qi Tryz.f21 0) (Qz 37 Z1.sp0 (x1,x2,x5,())) (Z1.A0.cont 37 k)=Z1.l0 (k+1) x1 x2 x5:=by kernel_rfl
theorem Z1.G (hE:EnvOk Tryz.prog Q0)(pv:Nat->Value)(k:Nat):∀cal A,Z1.C k cal=some A->Q9 Tryz.prog Q0 pv cal A:=by
 intro cal A h
 unfold Z1.C at h
 split at h
 ·cases h;exact λx y hy=>Z23.good hE pv k x.1 hy
 ·cases h;exact λx y hy=>Z0.good hE pv k x.1 x.2.1 hy
 ·cases h
theorem Z1.good (hE:EnvOk Tryz.prog Q0)(pv:Nat->Value)(k:Nat)(a0:Library)(a1:List ByteArray){y:_}(h:Z1.F k a0 a1=some y):Q8 Tryz.prog Q0 pv (.f 21) (Qa [.lib,(.sl .str)] (a0,a1,())) (.t .bool y):=
 Qg hE (t:=Z1.C) k (λk _=>Z1.G hE pv k) (f:=21) (fn:=Tryz.f21) (by kernel_rfl) rfl (by kernel_rfl) (by kernel_rfl) (lt:=Z1.L) (by kernel_rfl) (λb A h=>by
  unfold Z1.L at h;split at h
  ·cases h;exact⟨by kernel_rfl,by kernel_rfl,by kernel_rfl,λ_=>rfl,λ_=>rfl,λ_=>rfl⟩
  ·cases h;exact⟨by kernel_rfl,by kernel_rfl,by kernel_rfl,λ_=>rfl,λ_=>rfl,λ_=>rfl⟩
  ·cases h) (λb A h=>by
  unfold Z1.L at h;split at h
  ·cases h;exact λk x=>Z1.step2 k x.1 x.2.1 x.2.2.1 x.2.2.2.1
  ·cases h;exact λk x=>Z1.step0 k x.1 x.2.1 x.2.2.1
  ·cases h) ((Z1.run k a0 a1).trans h) (λr hr=>Q1 hr)
def Z66.F (a0:ByteArray)(a1:ByteArray):Option (Int):=bif (ltS a0 a1)then(some (-1))else(bif (!(ltS a0 a1||Qu a0 a1))then(some 1)else(some 0))
def Z66.C:Cal->Option CArm:=λc=>match c with
 |_=>none
theorem Z66.run (a0:ByteArray)(a1:ByteArray):Ql Q0 (Q6 Z66.C) (Q4 13 0 (λ_=>none)) Tryz.f54 [.t .str a0,.t .str a1] (Q2 (.t (.int .i64)))=Z66.F a0 a1:=by kernel_rfl
theorem Z66.G (hE:EnvOk Tryz.prog Q0)(pv:Nat->Value):∀cal A,Z66.C cal=some A->Q9 Tryz.prog Q0 pv cal A:=by
 intro cal A h
 unfold Z66.C at h
 cases h
theorem Z66.good (hE:EnvOk Tryz.prog Q0)(pv:Nat->Value)(a0:ByteArray)(a1:ByteArray){y:_}(h:Z66.F a0 a1=some y):Q8 Tryz.prog Q0 pv (.f 54) (Qa [.str,.str] (a0,a1,())) (.t (.int .i64) y):=
 Q7 hE (Z66.G hE pv) (f:=54) (fn:=Tryz.f54) (by kernel_rfl) rfl (by kernel_rfl) (by kernel_rfl) ((Z66.run a0 a1).trans h) (λr hr=>Q1 hr)
def Z13.l0:Nat->(List Int)->Int->Option ((List Int))
 |0,_,_=>none
 |k+1,x3,x4=>bif (decide (x4<(x3.length:Int)))then(bif decide (0<=x4)then(bif decide (x4<(x3.length:Int))then((Z69.F (x3.getD ((x4:Int).toNat) 0)).bind λr1=>bif r1 then(bif decide (0<=x4)then(bif decide (x4<(x3.length:Int))then(bif decide (0<=x4)then(bif decide (x4<(x3.length:Int))then(Z13.l0 k (x3.set ((x4:Int).toNat) (IntKind.wrap .u8 ((x3.getD ((x4:Int).toNat) 0)+32))) (IntKind.wrap .i64 (x4+1)))else none)else none)else none)else none)else(Z13.l0 k x3 (IntKind.wrap .i64 (x4+1))))else none)else none)else(some x3)
def Z13.F (k:Nat)(a0:ByteArray):Option (ByteArray):=bif Nat.ble a0.size 9223372036854775807 then((Z13.l0 k (Qf a0) 0).bind λy2=>some (XC y2))else none
def Z13.C (k:Nat):Cal->Option CArm:=λc=>match c with
 |.f 115=>some (.p [(.int .u8)] _ (λx=>Z69.F x.1) (λr=>(.t .bool r)))
 |_=>none
def Z13.sp0:List Sp:=[.own 3 1028 5 (.int .u8) false false,.t 4 (.int .i64)]
def Z13.sp0_0:List Sp:=[.own 3 1028 5 (.int .u8) false false]
def Z13.A0:LArm:=.one Z13.sp0 Z13.sp0_0 ((List Int)) (λk x=>Z13.l0 k x.1 x.2.1) (.exit 0) (λy=>(y,())) (λx=>x.1)
def Z13.L:Nat->Option LArm:=λb=>match b with
 |0=>some Z13.A0
 |_=>none
theorem Z13.run (k:Nat)(a0:ByteArray):Ql Q0 (Q6 (Z13.C k)) (Q4 28 k Z13.L) Tryz.f82 [.t .str a0] (Q2 (.t .str))=Z13.F k a0:=by kernel_rfl
theorem Z13.step0 (k:Nat)(x3:List Int)(x4:Int):Qp Q0 (Q6 (Z13.C k)) (Q4 28 k Z13.L) 0 (Qi Tryz.f82 0) (Qz 28 Z13.sp0 (x3,x4,())) (Z13.A0.cont 28 k)=Z13.l0 (k+1) x3 x4:=by kernel_rfl
theorem Z13.G (hE:EnvOk Tryz.prog Q0)(pv:Nat->Value)(k:Nat):∀cal A,Z13.C k cal=some A->Q9 Tryz.prog Q0 pv cal A:=by
 intro cal A h
 unfold Z13.C at h
 split at h
 ·cases h;exact λx y hy=>Z69.good hE pv x.1 hy
 ·cases h
theorem Z13.good (hE:EnvOk Tryz.prog Q0)(pv:Nat->Value)(k:Nat)(a0:ByteArray){y:_}(h:Z13.F k a0=some y):Q8 Tryz.prog Q0 pv (.f 82) (Qa [.str] (a0,())) (.t .str y):=
 Qg hE (t:=Z13.C) k (λk _=>Z13.G hE pv k) (f:=82) (fn:=Tryz.f82) (by kernel_rfl) rfl (by kernel_rfl) (by kernel_rfl) (lt:=Z13.L) (by kernel_rfl) (λb A h=>by
  unfold Z13.L at h;split at h
  ·cases h;exact⟨by kernel_rfl,by kernel_rfl,λ_=>rfl,λ_=>rfl⟩
  ·cases h) (λb A h=>by
  unfold Z13.L at h;split at h
  ·cases h;exact λk x=>Z13.step0 k x.1 x.2.1
  ·cases h) ((Z13.run k a0).trans h) (λr hr=>Q1 hr)
def Z15.l0:Nat->(List ByteArray)->ByteArray->Int->Option (ByteArray)
 |0,_,_,_=>none
 |k+1,x0,x3,x4=>bif (decide (x4<(x0.length:Int)))then(bif (!Qu x3 (⟨#[]⟩:ByteArray))then(bif decide (0<=x4)then(bif decide (x4<(x0.length:Int))then(bif (!Qu (x0.getD (x4:Int).toNat (⟨#[]⟩:ByteArray)) (⟨#[]⟩:ByteArray))then(bif Nat.ble (x3.size+(⟨#[32]⟩:ByteArray).size) 9223372036854775807 then(bif decide (0<=x4)then(bif decide (x4<(x0.length:Int))then(bif Nat.ble ((x3++(⟨#[32]⟩:ByteArray)).size+(x0.getD (x4:Int).toNat (⟨#[]⟩:ByteArray)).size) 9223372036854775807 then(Z15.l0 k x0 ((x3++(⟨#[32]⟩:ByteArray))++(x0.getD (x4:Int).toNat (⟨#[]⟩:ByteArray))) (IntKind.wrap .i64 (x4+1)))else none)else none)else none)else none)else(bif decide (0<=x4)then(bif decide (x4<(x0.length:Int))then(bif Nat.ble (x3.size+(x0.getD (x4:Int).toNat (⟨#[]⟩:ByteArray)).size) 9223372036854775807 then(Z15.l0 k x0 (x3++(x0.getD (x4:Int).toNat (⟨#[]⟩:ByteArray))) (IntKind.wrap .i64 (x4+1)))else none)else none)else none))else none)else none)else(bif decide (0<=x4)then(bif decide (x4<(x0.length:Int))then(bif Nat.ble (x3.size+(x0.getD (x4:Int).toNat (⟨#[]⟩:ByteArray)).size) 9223372036854775807 then(Z15.l0 k x0 (x3++(x0.getD (x4:Int).toNat (⟨#[]⟩:ByteArray))) (IntKind.wrap .i64 (x4+1)))else none)else none)else none))else(some x3)
def Z15.F (k:Nat)(a0:List ByteArray):Option (ByteArray):=(Z15.l0 k a0 (⟨#[]⟩:ByteArray) 0).bind λy1=>some y1
def Z15.C (k:Nat):Cal->Option CArm:=λc=>match c with
 |_=>none
def Z15.sp0:List Sp:=[.t 0 (.sl .str),.t 3 .str,.t 4 (.int .i64)]
def Z15.sp0_0:List Sp:=[.t 3 .str]
def Z15.A0:LArm:=.one Z15.sp0 Z15.sp0_0 (ByteArray) (λk x=>Z15.l0 k x.1 x.2.1 x.2.2.1) (.exit 0) (λy=>(y,())) (λx=>x.1)
def Z15.L:Nat->Option LArm:=λb=>match b with
 |0=>some Z15.A0
 |_=>none
theorem Z15.run (k:Nat)(a0:List ByteArray):Ql Q0 (Q6 (Z15.C k)) (Q4 29 k Z15.L) Tryz.f135 [.t (.sl .str) a0] (Q2 (.t .str))=Z15.F k a0:=by kernel_rfl
theorem Z15.step0 (k:Nat)(x0:List ByteArray)(x3:ByteArray)(x4:Int):Qp Q0 (Q6 (Z15.C k)) (Q4 29 k Z15.L) 0 (Qi Tryz.f135 0) (Qz 29 Z15.sp0 (x0,x3,x4,())) (Z15.A0.cont 29 k)=Z15.l0 (k+1) x0 x3 x4:=by kernel_rfl
theorem Z15.G (hE:EnvOk Tryz.prog Q0)(pv:Nat->Value)(k:Nat):∀cal A,Z15.C k cal=some A->Q9 Tryz.prog Q0 pv cal A:=by
 intro cal A h
 unfold Z15.C at h
 cases h
theorem Z15.good (hE:EnvOk Tryz.prog Q0)(pv:Nat->Value)(k:Nat)(a0:List ByteArray){y:_}(h:Z15.F k a0=some y):Q8 Tryz.prog Q0 pv (.f 135) (Qa [(.sl .str)] (a0,())) (.t .str y):=
 Qg hE (t:=Z15.C) k (λk _=>Z15.G hE pv k) (f:=135) (fn:=Tryz.f135) (by kernel_rfl) rfl (by kernel_rfl) (by kernel_rfl) (lt:=Z15.L) (by kernel_rfl) (λb A h=>by
  unfold Z15.L at h;split at h
  ·cases h;exact⟨by kernel_rfl,by kernel_rfl,λ_=>rfl,λ_=>rfl⟩
  ·cases h) (λb A h=>by
  unfold Z15.L at h;split at h
  ·cases h;exact λk x=>Z15.step0 k x.1 x.2.1 x.2.2.1
  ·cases h) ((Z15.run k a0).trans h) (λr hr=>Q1 hr)
def Z73.F (k:Nat)(a0:Name):Option (ByteArray):=(Z15.F k a0.given).bind λr1=>some r1
def Z73.C (k:Nat):Cal->Option CArm:=λc=>match c with
 |.f 135=>some (.p [(.sl .str)] _ (λx=>Z15.F k x.1) (λr=>(.t .str r)))
 |_=>none
theorem Z73.run (k:Nat)(a0:Name):Ql Q0 (Q6 (Z73.C k)) (Q4 6 0 (λ_=>none)) Tryz.f136 [.t .name a0] (Q2 (.t .str))=Z73.F k a0:=by kernel_rfl
theorem Z73.G (hE:EnvOk Tryz.prog Q0)(pv:Nat->Value)(k:Nat):∀cal A,Z73.C k cal=some A->Q9 Tryz.prog Q0 pv cal A:=by
 intro cal A h
 unfold Z73.C at h
 split at h
 ·cases h;exact λx y hy=>Z15.good hE pv k x.1 hy
 ·cases h
theorem Z73.good (hE:EnvOk Tryz.prog Q0)(pv:Nat->Value)(k:Nat)(a0:Name){y:_}(h:Z73.F k a0=some y):Q8 Tryz.prog Q0 pv (.f 136) (Qa [.name] (a0,())) (.t .str y):=
 Q7 hE (Z73.G hE pv k) (f:=136) (fn:=Tryz.f136) (by kernel_rfl) rfl (by kernel_rfl) (by kernel_rfl) ((Z73.run k a0).trans h) (λr hr=>Q1 hr)
def Z89.F (k:Nat)(a0:Name):Option (ByteArray):=(Z73.F k a0).bind λr1=>(Z15.F k ([r1,a0.particle,a0.family,a0.suffix]:List ByteArray)).bind λr2=>some r2
def Z89.C (k:Nat):Cal->Option CArm:=λc=>match c with
 |.f 136=>some (.p [.name] _ (λx=>Z73.F k x.1) (λr=>(.t .str r)))
 |.f 135=>some (.p [(.sl .str)] _ (λx=>Z15.F k x.1) (λr=>(.t .str r)))
 |_=>none
theorem Z89.run (k:Nat)(a0:Name):Ql Q0 (Q6 (Z89.C k)) (Q4 13 0 (λ_=>none)) Tryz.f112 [.t .name a0] (Q2 (.t .str))=Z89.F k a0:=by kernel_rfl
theorem Z89.G (hE:EnvOk Tryz.prog Q0)(pv:Nat->Value)(k:Nat):∀cal A,Z89.C k cal=some A->Q9 Tryz.prog Q0 pv cal A:=by
 intro cal A h
 unfold Z89.C at h
 split at h
 ·cases h;exact λx y hy=>Z73.good hE pv k x.1 hy
 ·cases h;exact λx y hy=>Z15.good hE pv k x.1 hy
 ·cases h
theorem Z89.good (hE:EnvOk Tryz.prog Q0)(pv:Nat->Value)(k:Nat)(a0:Name){y:_}(h:Z89.F k a0=some y):Q8 Tryz.prog Q0 pv (.f 112) (Qa [.name] (a0,())) (.t .str y):=
 Q7 hE (Z89.G hE pv k) (f:=112) (fn:=Tryz.f112) (by kernel_rfl) rfl (by kernel_rfl) (by kernel_rfl) ((Z89.run k a0).trans h) (λr hr=>Q1 hr)
def Z90.F (k:Nat)(a0:Name):Option (ByteArray):=(Z15.F k ([a0.particle,a0.family]:List ByteArray)).bind λr1=>bif (decide ((a0.given.length:Int) > 0))then(bif Nat.ble (r1.size+(⟨#[44,32]⟩:ByteArray).size) 9223372036854775807 then((Z73.F k a0).bind λr2=>bif Nat.ble ((r1++(⟨#[44,32]⟩:ByteArray)).size+r2.size) 9223372036854775807 then(bif (!Qu a0.suffix (⟨#[]⟩:ByteArray))then(bif Nat.ble (((r1++(⟨#[44,32]⟩:ByteArray))++r2).size+(⟨#[44,32]⟩:ByteArray).size) 9223372036854775807 then(bif Nat.ble ((((r1++(⟨#[44,32]⟩:ByteArray))++r2)++(⟨#[44,32]⟩:ByteArray)).size+a0.suffix.size) 9223372036854775807 then(some ((((r1++(⟨#[44,32]⟩:ByteArray))++r2)++(⟨#[44,32]⟩:ByteArray))++a0.suffix))else none)else none)else(some ((r1++(⟨#[44,32]⟩:ByteArray))++r2)))else none)else none)else(bif (!Qu a0.suffix (⟨#[]⟩:ByteArray))then(bif Nat.ble (r1.size+(⟨#[44,32]⟩:ByteArray).size) 9223372036854775807 then((Z73.F k a0).bind λr3=>bif Nat.ble ((r1++(⟨#[44,32]⟩:ByteArray)).size+r3.size) 9223372036854775807 then(bif (!Qu a0.suffix (⟨#[]⟩:ByteArray))then(bif Nat.ble (((r1++(⟨#[44,32]⟩:ByteArray))++r3).size+(⟨#[44,32]⟩:ByteArray).size) 9223372036854775807 then(bif Nat.ble ((((r1++(⟨#[44,32]⟩:ByteArray))++r3)++(⟨#[44,32]⟩:ByteArray)).size+a0.suffix.size) 9223372036854775807 then(some ((((r1++(⟨#[44,32]⟩:ByteArray))++r3)++(⟨#[44,32]⟩:ByteArray))++a0.suffix))else none)else none)else(some ((r1++(⟨#[44,32]⟩:ByteArray))++r3)))else none)else none)else(bif (!Qu a0.suffix (⟨#[]⟩:ByteArray))then(bif Nat.ble (r1.size+(⟨#[44,32]⟩:ByteArray).size) 9223372036854775807 then(bif Nat.ble ((r1++(⟨#[44,32]⟩:ByteArray)).size+a0.suffix.size) 9223372036854775807 then(some ((r1++(⟨#[44,32]⟩:ByteArray))++a0.suffix))else none)else none)else(some r1)))
def Z90.C (k:Nat):Cal->Option CArm:=λc=>match c with
 |.f 135=>some (.p [(.sl .str)] _ (λx=>Z15.F k x.1) (λr=>(.t .str r)))
 |.f 136=>some (.p [.name] _ (λx=>Z73.F k x.1) (λr=>(.t .str r)))
 |_=>none
theorem Z90.run (k:Nat)(a0:Name):Ql Q0 (Q6 (Z90.C k)) (Q4 33 0 (λ_=>none)) Tryz.f113 [.t .name a0] (Q2 (.t .str))=Z90.F k a0:=by kernel_rfl
theorem Z90.G (hE:EnvOk Tryz.prog Q0)(pv:Nat->Value)(k:Nat):∀cal A,Z90.C k cal=some A->Q9 Tryz.prog Q0 pv cal A:=by
 intro cal A h
 unfold Z90.C at h
 split at h
 ·cases h;exact λx y hy=>Z15.good hE pv k x.1 hy
 ·cases h;exact λx y hy=>Z73.good hE pv k x.1 hy
 ·cases h
theorem Z90.good (hE:EnvOk Tryz.prog Q0)(pv:Nat->Value)(k:Nat)(a0:Name){y:_}(h:Z90.F k a0=some y):Q8 Tryz.prog Q0 pv (.f 113) (Qa [.name] (a0,())) (.t .str y):=
 Q7 hE (Z90.G hE pv k) (f:=113) (fn:=Tryz.f113) (by kernel_rfl) rfl (by kernel_rfl) (by kernel_rfl) ((Z90.run k a0).trans h) (λr hr=>Q1 hr)
def Z106.F (k:Nat)(a0:Name)(a1:Name):Option (Int):=(Z13.F k a0.family).bind λr1=>(Z13.F k a1.family).bind λr2=>(Z66.F r1 r2).bind λr3=>bif (r3 != 0)then(some r3)else((Z66.F a0.particle a1.particle).bind λr4=>bif (r4 != 0)then(some r4)else((Z89.F k a0).bind λr5=>(Z13.F k r5).bind λr6=>(Z89.F k a1).bind λr7=>(Z13.F k r7).bind λr8=>(Z66.F r6 r8).bind λr9=>bif (r9 != 0)then(some r9)else((Z90.F k a0).bind λr10=>(Z90.F k a1).bind λr11=>(Z66.F r10 r11).bind λr12=>some r12)))
def Z106.C (k:Nat):Cal->Option CArm:=λc=>match c with
 |.f 82=>some (.p [.str] _ (λx=>Z13.F k x.1) (λr=>(.t .str r)))
 |.f 54=>some (.p [.str,.str] _ (λx=>Z66.F x.1 x.2.1) (λr=>(.t (.int .i64) r)))
 |.f 112=>some (.p [.name] _ (λx=>Z89.F k x.1) (λr=>(.t .str r)))
 |.f 113=>some (.p [.name] _ (λx=>Z90.F k x.1) (λr=>(.t .str r)))
 |_=>none
theorem Z106.run (k:Nat)(a0:Name)(a1:Name):Ql Q0 (Q6 (Z106.C k)) (Q4 41 0 (λ_=>none)) Tryz.f80 [.t .name a0,.t .name a1] (Q2 (.t (.int .i64)))=Z106.F k a0 a1:=by kernel_rfl
theorem Z106.G (hE:EnvOk Tryz.prog Q0)(pv:Nat->Value)(k:Nat):∀cal A,Z106.C k cal=some A->Q9 Tryz.prog Q0 pv cal A:=by
 intro cal A h
 unfold Z106.C at h
 split at h
 ·cases h;exact λx y hy=>Z13.good hE pv k x.1 hy
 ·cases h;exact λx y hy=>Z66.good hE pv x.1 x.2.1 hy
 ·cases h;exact λx y hy=>Z89.good hE pv k x.1 hy
 ·cases h;exact λx y hy=>Z90.good hE pv k x.1 hy
 ·cases h
theorem Z106.good (hE:EnvOk Tryz.prog Q0)(pv:Nat->Value)(k:Nat)(a0:Name)(a1:Name){y:_}(h:Z106.F k a0 a1=some y):Q8 Tryz.prog Q0 pv (.f 80) (Qa [.name,.name] (a0,a1,())) (.t (.int .i64) y):=
 Q7 hE (Z106.G hE pv k) (f:=80) (fn:=Tryz.f80) (by kernel_rfl) rfl (by kernel_rfl) (by kernel_rfl) ((Z106.run k a0 a1).trans h) (λr hr=>Q1 hr)
def Z27.l0:Nat->(List Name)->(List Name)->Int->Option (Sum Int ((List Name)× (List Name)))
 |0,_,_,_=>none
 |k+1,x0,x1,x5=>bif (decide (x5<(x0.length:Int)))then(bif (decide (x5<(x1.length:Int)))then(bif decide (0<=x5)then(bif decide (x5<(x0.length:Int))then(bif decide (0<=x5)then(bif decide (x5<(x1.length:Int))then((Z106.F k (x0.getD (x5:Int).toNat (Qh .name)) (x1.getD (x5:Int).toNat (Qh .name))).bind λr1=>bif (r1 != 0)then(some (.inl r1))else(Z27.l0 k x0 x1 (IntKind.wrap .i64 (x5+1))))else none)else none)else none)else none)else(some (.inr (x0,x1))))else(some (.inr (x0,x1)))
def Z27.F (k:Nat)(a0:List Name)(a1:List Name):Option (Int):=(Z27.l0 k a0 a1 0).bind λy2=>match y2 with|.inl z3=>some z3|.inr z3=>bif (decide ((z3.1.length:Int)<(z3.2.length:Int)))then(some (-1))else(bif (decide ((z3.1.length:Int) > (z3.2.length:Int)))then(some 1)else(some 0))
def Z27.C (k:Nat):Cal->Option CArm:=λc=>match c with
 |.f 80=>some (.p [.name,.name] _ (λx=>Z106.F k x.1 x.2.1) (λr=>(.t (.int .i64) r)))
 |_=>none
def Z27.sp0:List Sp:=[.t 0 (.sl .name),.t 1 (.sl .name),.t 5 (.int .i64)]
def Z27.sp0_0:List Sp:=[.t 4 (.int .i64)]
def Z27.sp0_1:List Sp:=[.t 0 (.sl .name),.t 1 (.sl .name)]
def Z27.A0:LArm:=.two Z27.sp0 Z27.sp0_0 Z27.sp0_1 (Int) ((List Name)× (List Name)) (λk x=>Z27.l0 k x.1 x.2.1 x.2.2.1) .ret (.exit 0) (λy=>(y,())) (λx=>x.1) (λy=>(y.1,y.2,())) (λx=>(x.1,x.2.1))
def Z27.L:Nat->Option LArm:=λb=>match b with
 |0=>some Z27.A0
 |_=>none
theorem Z27.run (k:Nat)(a0:List Name)(a1:List Name):Ql Q0 (Q6 (Z27.C k)) (Q4 43 k Z27.L) Tryz.f49 [.t (.sl .name) a0,.t (.sl .name) a1] (Q2 (.t (.int .i64)))=Z27.F k a0 a1:=by kernel_rfl
theorem Z27.step0 (k:Nat)(x0:List Name)(x1:List Name)(x5:Int):Qp Q0 (Q6 (Z27.C k)) (Q4 43 k Z27.L) 0 (Qi Tryz.f49 0) (Qz 43 Z27.sp0 (x0,x1,x5,())) (Z27.A0.cont 43 k)=Z27.l0 (k+1) x0 x1 x5:=by kernel_rfl
theorem Z27.G (hE:EnvOk Tryz.prog Q0)(pv:Nat->Value)(k:Nat):∀cal A,Z27.C k cal=some A->Q9 Tryz.prog Q0 pv cal A:=by
 intro cal A h
 unfold Z27.C at h
 split at h
 ·cases h;exact λx y hy=>Z106.good hE pv k x.1 x.2.1 hy
 ·cases h
theorem Z27.good (hE:EnvOk Tryz.prog Q0)(pv:Nat->Value)(k:Nat)(a0:List Name)(a1:List Name){y:_}(h:Z27.F k a0 a1=some y):Q8 Tryz.prog Q0 pv (.f 49) (Qa [(.sl .name),(.sl .name)] (a0,a1,())) (.t (.int .i64) y):=
 Qg hE (t:=Z27.C) k (λk _=>Z27.G hE pv k) (f:=49) (fn:=Tryz.f49) (by kernel_rfl) rfl (by kernel_rfl) (by kernel_rfl) (lt:=Z27.L) (by kernel_rfl) (λb A h=>by
  unfold Z27.L at h;split at h
  ·cases h;exact⟨by kernel_rfl,by kernel_rfl,by kernel_rfl,λ_=>rfl,λ_=>rfl,λ_=>rfl⟩
  ·cases h) (λb A h=>by
  unfold Z27.L at h;split at h
  ·cases h;exact λk x=>Z27.step0 k x.1 x.2.1 x.2.2.1
  ·cases h) ((Z27.run k a0 a1).trans h) (λr hr=>Q1 hr)
def Z91.F (a0:Entry):Option (List Name):=bif (decide ((a0.authors.length:Int) > 0))then(some a0.authors)else(some a0.editors)
def Z91.C:Cal->Option CArm:=λc=>match c with
 |_=>none
theorem Z91.run (a0:Entry):Ql Q0 (Q6 Z91.C) (Q4 11 0 (λ_=>none)) Tryz.f50 [.t .entry a0] (Q2 (.t (.sl .name)))=Z91.F a0:=by kernel_rfl
theorem Z91.G (hE:EnvOk Tryz.prog Q0)(pv:Nat->Value):∀cal A,Z91.C cal=some A->Q9 Tryz.prog Q0 pv cal A:=by
 intro cal A h
 unfold Z91.C at h
 cases h
theorem Z91.good (hE:EnvOk Tryz.prog Q0)(pv:Nat->Value)(a0:Entry){y:_}(h:Z91.F a0=some y):Q8 Tryz.prog Q0 pv (.f 50) (Qa [.entry] (a0,())) (.t (.sl .name) y):=
 Q7 hE (Z91.G hE pv) (f:=50) (fn:=Tryz.f50) (by kernel_rfl) rfl (by kernel_rfl) (by kernel_rfl) ((Z91.run a0).trans h) (λr hr=>Q1 hr)
def Z107.F (a0:Date)(a1:Date):Option (Int):=bif (decide ((IntKind.wrap .i64 ((IntKind.wrap .i64 ((IntKind.wrap .i64 ((IntKind.wrap .i64 ((IntKind.wrap .i64 ((IntKind.wrap .i64 (a0.y*13))+a0.m))*32))+a0.d))-(IntKind.wrap .i64 ((IntKind.wrap .i64 ((IntKind.wrap .i64 (a1.y*13))+a1.m))*32))))-a1.d))<0))then(some (-1))else(bif ((IntKind.wrap .i64 ((IntKind.wrap .i64 ((IntKind.wrap .i64 ((IntKind.wrap .i64 ((IntKind.wrap .i64 ((IntKind.wrap .i64 (a0.y*13))+a0.m))*32))+a0.d))-(IntKind.wrap .i64 ((IntKind.wrap .i64 ((IntKind.wrap .i64 (a1.y*13))+a1.m))*32))))-a1.d))==0)then(bif (!a0.c)then(bif a1.c then(some (-1))else(bif (decide ((IntKind.wrap .i64 ((IntKind.wrap .i64 ((IntKind.wrap .i64 ((IntKind.wrap .i64 ((IntKind.wrap .i64 ((IntKind.wrap .i64 (a0.y*13))+a0.m))*32))+a0.d))-(IntKind.wrap .i64 ((IntKind.wrap .i64 ((IntKind.wrap .i64 (a1.y*13))+a1.m))*32))))-a1.d)) > 0))then(some 1)else(bif a0.c then(bif (!a1.c)then(some 1)else(some 0))else(some 0))))else(bif (decide ((IntKind.wrap .i64 ((IntKind.wrap .i64 ((IntKind.wrap .i64 ((IntKind.wrap .i64 ((IntKind.wrap .i64 ((IntKind.wrap .i64 (a0.y*13))+a0.m))*32))+a0.d))-(IntKind.wrap .i64 ((IntKind.wrap .i64 ((IntKind.wrap .i64 (a1.y*13))+a1.m))*32))))-a1.d)) > 0))then(some 1)else(bif a0.c then(bif (!a1.c)then(some 1)else(some 0))else(some 0))))else(bif (decide ((IntKind.wrap .i64 ((IntKind.wrap .i64 ((IntKind.wrap .i64 ((IntKind.wrap .i64 ((IntKind.wrap .i64 ((IntKind.wrap .i64 (a0.y*13))+a0.m))*32))+a0.d))-(IntKind.wrap .i64 ((IntKind.wrap .i64 ((IntKind.wrap .i64 (a1.y*13))+a1.m))*32))))-a1.d)) > 0))then(some 1)else(bif a0.c then(bif (!a1.c)then(some 1)else(some 0))else(some 0))))
def Z107.C:Cal->Option CArm:=λc=>match c with
 |_=>none
theorem Z107.run (a0:Date)(a1:Date):Ql Q0 (Q6 Z107.C) (Q4 55 0 (λ_=>none)) Tryz.f51 [.t .date a0,.t .date a1] (Q2 (.t (.int .i64)))=Z107.F a0 a1:=by kernel_rfl
theorem Z107.G (hE:EnvOk Tryz.prog Q0)(pv:Nat->Value):∀cal A,Z107.C cal=some A->Q9 Tryz.prog Q0 pv cal A:=by
 intro cal A h
 unfold Z107.C at h
 cases h
theorem Z107.good (hE:EnvOk Tryz.prog Q0)(pv:Nat->Value)(a0:Date)(a1:Date){y:_}(h:Z107.F a0 a1=some y):Q8 Tryz.prog Q0 pv (.f 51) (Qa [.date,.date] (a0,a1,())) (.t (.int .i64) y):=
 Q7 hE (Z107.G hE pv) (f:=51) (fn:=Tryz.f51) (by kernel_rfl) rfl (by kernel_rfl) (by kernel_rfl) ((Z107.run a0 a1).trans h) (λr hr=>Q1 hr)
def Z108.F (a0:Int):Option (Bool):=bif (decide (a0 ≥ 48))then(some (decide (a0<=57)))else(some false)
def Z108.C:Cal->Option CArm:=λc=>match c with
 |_=>none
theorem Z108.run (a0:Int):Ql Q0 (Q6 Z108.C) (Q4 9 0 (λ_=>none)) Tryz.f114 [.t (.int .u8) a0] (Q2 (.t .bool))=Z108.F a0:=by kernel_rfl
theorem Z108.G (hE:EnvOk Tryz.prog Q0)(pv:Nat->Value):∀cal A,Z108.C cal=some A->Q9 Tryz.prog Q0 pv cal A:=by
 intro cal A h
 unfold Z108.C at h
 cases h
theorem Z108.good (hE:EnvOk Tryz.prog Q0)(pv:Nat->Value)(a0:Int){y:_}(h:Z108.F a0=some y):Q8 Tryz.prog Q0 pv (.f 114) (Qa [(.int .u8)] (a0,())) (.t .bool y):=
 Q7 hE (Z108.G hE pv) (f:=114) (fn:=Tryz.f114) (by kernel_rfl) rfl (by kernel_rfl) (by kernel_rfl) ((Z108.run a0).trans h) (λr hr=>Q1 hr)
def Z9.l0:Nat->(List Int)->Bool->ByteArray->Int->Option ((List Int))
 |0,_,_,_,_=>none
 |k+1,x3,x4,x5,x6=>bif (decide (x6<(x5.size:Int)))then(bif decide (0<=x6)then(bif decide (x6<(x5.size:Int))then((Z65.F (bt x5 (x6:Int).toNat)).bind λr2=>bif (!r2)then((Z108.F (bt x5 (x6:Int).toNat)).bind λr3=>bif (!r3)then(bif x4 then(Z9.l0 k x3 true x5 (IntKind.wrap .i64 (x6+1)))else(Z9.l0 k x3 ((bt x5 (x6:Int).toNat)==32) x5 (IntKind.wrap .i64 (x6+1))))else(bif x4 then(bif (decide ((x3.length:Int) > 0))then(bif room (x3.length+([32]:List Int).length) (.int .u8)then(bif room ((x3++([32]:List Int)).length+([(bt x5 (x6:Int).toNat)]:List Int).length) (.int .u8)then(Z9.l0 k ((x3++([32]:List Int))++([(bt x5 (x6:Int).toNat)]:List Int)) false x5 (IntKind.wrap .i64 (x6+1)))else none)else none)else(bif room (x3.length+([(bt x5 (x6:Int).toNat)]:List Int).length) (.int .u8)then(Z9.l0 k (x3++([(bt x5 (x6:Int).toNat)]:List Int)) false x5 (IntKind.wrap .i64 (x6+1)))else none))else(bif room (x3.length+([(bt x5 (x6:Int).toNat)]:List Int).length) (.int .u8)then(Z9.l0 k (x3++([(bt x5 (x6:Int).toNat)]:List Int)) false x5 (IntKind.wrap .i64 (x6+1)))else none)))else(bif x4 then(bif (decide ((x3.length:Int) > 0))then(bif room (x3.length+([32]:List Int).length) (.int .u8)then(bif room ((x3++([32]:List Int)).length+([(bt x5 (x6:Int).toNat)]:List Int).length) (.int .u8)then(Z9.l0 k ((x3++([32]:List Int))++([(bt x5 (x6:Int).toNat)]:List Int)) false x5 (IntKind.wrap .i64 (x6+1)))else none)else none)else(bif room (x3.length+([(bt x5 (x6:Int).toNat)]:List Int).length) (.int .u8)then(Z9.l0 k (x3++([(bt x5 (x6:Int).toNat)]:List Int)) false x5 (IntKind.wrap .i64 (x6+1)))else none))else(bif room (x3.length+([(bt x5 (x6:Int).toNat)]:List Int).length) (.int .u8)then(Z9.l0 k (x3++([(bt x5 (x6:Int).toNat)]:List Int)) false x5 (IntKind.wrap .i64 (x6+1)))else none)))else none)else none)else(some x3)
def Z9.F (k:Nat)(a0:ByteArray):Option (ByteArray):=(Z13.F k a0).bind λr1=>(Z9.l0 k ([]:List Int) false r1 0).bind λy4=>some (XC y4)
def Z9.C (k:Nat):Cal->Option CArm:=λc=>match c with
 |.f 82=>some (.p [.str] _ (λx=>Z13.F k x.1) (λr=>(.t .str r)))
 |.f 109=>some (.p [(.int .u8)] _ (λx=>Z65.F x.1) (λr=>(.t .bool r)))
 |.f 114=>some (.p [(.int .u8)] _ (λx=>Z108.F x.1) (λr=>(.t .bool r)))
 |_=>none
def Z9.sp0:List Sp:=[.own 3 1024 5 (.int .u8) false true,.t 4 .bool,.t 5 .str,.t 6 (.int .i64)]
def Z9.sp0_0:List Sp:=[.own 3 1024 5 (.int .u8) false true]
def Z9.A0:LArm:=.one Z9.sp0 Z9.sp0_0 ((List Int)) (λk x=>Z9.l0 k x.1 x.2.1 x.2.2.1 x.2.2.2.1) (.exit 0) (λy=>(y,())) (λx=>x.1)
def Z9.L:Nat->Option LArm:=λb=>match b with
 |0=>some Z9.A0
 |_=>none
theorem Z9.run (k:Nat)(a0:ByteArray):Ql Q0 (Q6 (Z9.C k)) (Q4 48 k Z9.L) Tryz.f81 [.t .str a0] (Q2 (.t .str))=Z9.F k a0:=by kernel_rfl
theorem Z9.step0 (k:Nat)(x3:List Int)(x4:Bool)(x5:ByteArray)(x6:Int):Qp Q0 (Q6 (Z9.C k)) (Q4 48 k Z9.L) 0 (Qi Tryz.f81 0) (Qz 48 Z9.sp0 (x3,x4,x5,x6,())) (Z9.A0.cont 48 k)=Z9.l0 (k+1) x3 x4 x5 x6:=by kernel_rfl
theorem Z9.G (hE:EnvOk Tryz.prog Q0)(pv:Nat->Value)(k:Nat):∀cal A,Z9.C k cal=some A->Q9 Tryz.prog Q0 pv cal A:=by
 intro cal A h
 unfold Z9.C at h
 split at h
 ·cases h;exact λx y hy=>Z13.good hE pv k x.1 hy
 ·cases h;exact λx y hy=>Z65.good hE pv x.1 hy
 ·cases h;exact λx y hy=>Z108.good hE pv x.1 hy
 ·cases h
theorem Z9.good (hE:EnvOk Tryz.prog Q0)(pv:Nat->Value)(k:Nat)(a0:ByteArray){y:_}(h:Z9.F k a0=some y):Q8 Tryz.prog Q0 pv (.f 81) (Qa [.str] (a0,())) (.t .str y):=
 Qg hE (t:=Z9.C) k (λk _=>Z9.G hE pv k) (f:=81) (fn:=Tryz.f81) (by kernel_rfl) rfl (by kernel_rfl) (by kernel_rfl) (lt:=Z9.L) (by kernel_rfl) (λb A h=>by
  unfold Z9.L at h;split at h
  ·cases h;exact⟨by kernel_rfl,by kernel_rfl,λ_=>rfl,λ_=>rfl⟩
  ·cases h) (λb A h=>by
  unfold Z9.L at h;split at h
  ·cases h;exact λk x=>Z9.step0 k x.1 x.2.1 x.2.2.1 x.2.2.2.1
  ·cases h) ((Z9.run k a0).trans h) (λr hr=>Q1 hr)
def Z109.F (k:Nat)(a0:ByteArray)(a1:ByteArray):Option (Int):=(Z9.F k a0).bind λr1=>(Z9.F k a1).bind λr2=>(Z66.F r1 r2).bind λr3=>bif (r3 != 0)then(some r3)else((Z66.F a0 a1).bind λr4=>some r4)
def Z109.C (k:Nat):Cal->Option CArm:=λc=>match c with
 |.f 81=>some (.p [.str] _ (λx=>Z9.F k x.1) (λr=>(.t .str r)))
 |.f 54=>some (.p [.str,.str] _ (λx=>Z66.F x.1 x.2.1) (λr=>(.t (.int .i64) r)))
 |_=>none
theorem Z109.run (k:Nat)(a0:ByteArray)(a1:ByteArray):Ql Q0 (Q6 (Z109.C k)) (Q4 17 0 (λ_=>none)) Tryz.f52 [.t .str a0,.t .str a1] (Q2 (.t (.int .i64)))=Z109.F k a0 a1:=by kernel_rfl
theorem Z109.G (hE:EnvOk Tryz.prog Q0)(pv:Nat->Value)(k:Nat):∀cal A,Z109.C k cal=some A->Q9 Tryz.prog Q0 pv cal A:=by
 intro cal A h
 unfold Z109.C at h
 split at h
 ·cases h;exact λx y hy=>Z9.good hE pv k x.1 hy
 ·cases h;exact λx y hy=>Z66.good hE pv x.1 x.2.1 hy
 ·cases h
theorem Z109.good (hE:EnvOk Tryz.prog Q0)(pv:Nat->Value)(k:Nat)(a0:ByteArray)(a1:ByteArray){y:_}(h:Z109.F k a0 a1=some y):Q8 Tryz.prog Q0 pv (.f 52) (Qa [.str,.str] (a0,a1,())) (.t (.int .i64) y):=
 Q7 hE (Z109.G hE pv k) (f:=52) (fn:=Tryz.f52) (by kernel_rfl) rfl (by kernel_rfl) (by kernel_rfl) ((Z109.run k a0 a1).trans h) (λr hr=>Q1 hr)
def Z18.l0:Nat->ByteArray->(List ByteArray)->Int->Option (Sum ByteArray ByteArray)
 |0,_,_,_=>none
 |k+1,x0,x3,x4=>bif (decide (x4<(x3.length:Int)))then(bif decide (0<=x4)then(bif decide (x4<(x3.length:Int))then(bif (decide ((x0.size:Int) ≥ ((x3.getD ((x4:Int).toNat) (⟨#[]⟩:ByteArray)).size:Int)))then(bif decide (0<=((x3.getD ((x4:Int).toNat) (⟨#[]⟩:ByteArray)).size:Int))then(bif decide (((x3.getD ((x4:Int).toNat) (⟨#[]⟩:ByteArray)).size:Int)<=(x0.size:Int))then((Z13.F k (x0.extract 0 (((x3.getD ((x4:Int).toNat) (⟨#[]⟩:ByteArray)).size:Int):Int).toNat)).bind λr1=>bif decide (0<=x4)then(bif decide (x4<(x3.length:Int))then(bif (Qu r1 (x3.getD ((x4:Int).toNat) (⟨#[]⟩:ByteArray)))then(bif decide (0<=((x3.getD ((x4:Int).toNat) (⟨#[]⟩:ByteArray)).size:Int))then(bif decide (((x3.getD ((x4:Int).toNat) (⟨#[]⟩:ByteArray)).size:Int)<=(x0.size:Int))then(some (.inl (x0.extract (((x3.getD ((x4:Int).toNat) (⟨#[]⟩:ByteArray)).size:Int):Int).toNat x0.size)))else none)else none)else(Z18.l0 k x0 x3 (IntKind.wrap .i64 (x4+1))))else none)else none)else none)else none)else(Z18.l0 k x0 x3 (IntKind.wrap .i64 (x4+1))))else none)else none)else(some (.inr x0))
def Z18.F (k:Nat)(a0:ByteArray):Option (ByteArray):=(Z18.l0 k a0 ([(⟨#[97,32]⟩:ByteArray),(⟨#[97,110,32]⟩:ByteArray),(⟨#[116,104,101,32]⟩:ByteArray)]:List ByteArray) 0).bind λy2=>match y2 with|.inl z3=>some z3|.inr z3=>some z3
def Z18.C (k:Nat):Cal->Option CArm:=λc=>match c with
 |.f 82=>some (.p [.str] _ (λx=>Z13.F k x.1) (λr=>(.t .str r)))
 |_=>none
def Z18.sp0:List Sp:=[.t 0 .str,.own 3 1024 9 .str false true,.t 4 (.int .i64)]
def Z18.sp0_0:List Sp:=[.t 2 .str]
def Z18.sp0_1:List Sp:=[.t 0 .str]
def Z18.A0:LArm:=.two Z18.sp0 Z18.sp0_0 Z18.sp0_1 (ByteArray) (ByteArray) (λk x=>Z18.l0 k x.1 x.2.1 x.2.2.1) .ret (.exit 0) (λy=>(y,())) (λx=>x.1) (λy=>(y,())) (λx=>x.1)
def Z18.L:Nat->Option LArm:=λb=>match b with
 |0=>some Z18.A0
 |_=>none
theorem Z18.run (k:Nat)(a0:ByteArray):Ql Q0 (Q6 (Z18.C k)) (Q4 37 k Z18.L) Tryz.f53 [.t .str a0] (Q2 (.t .str))=Z18.F k a0:=by kernel_rfl
theorem Z18.step0 (k:Nat)(x0:ByteArray)(x3:List ByteArray)(x4:Int):Qp Q0 (Q6 (Z18.C k)) (Q4 37 k Z18.L) 0 (Qi Tryz.f53 0) (Qz 37 Z18.sp0 (x0,x3,x4,())) (Z18.A0.cont 37 k)=Z18.l0 (k+1) x0 x3 x4:=by kernel_rfl
theorem Z18.G (hE:EnvOk Tryz.prog Q0)(pv:Nat->Value)(k:Nat):∀cal A,Z18.C k cal=some A->Q9 Tryz.prog Q0 pv cal A:=by
 intro cal A h
 unfold Z18.C at h
 split at h
 ·cases h;exact λx y hy=>Z13.good hE pv k x.1 hy
 ·cases h
theorem Z18.good (hE:EnvOk Tryz.prog Q0)(pv:Nat->Value)(k:Nat)(a0:ByteArray){y:_}(h:Z18.F k a0=some y):Q8 Tryz.prog Q0 pv (.f 53) (Qa [.str] (a0,())) (.t .str y):=
 Qg hE (t:=Z18.C) k (λk _=>Z18.G hE pv k) (f:=53) (fn:=Tryz.f53) (by kernel_rfl) rfl (by kernel_rfl) (by kernel_rfl) (lt:=Z18.L) (by kernel_rfl) (λb A h=>by
  unfold Z18.L at h;split at h
  ·cases h;exact⟨by kernel_rfl,by kernel_rfl,by kernel_rfl,λ_=>rfl,λ_=>rfl,λ_=>rfl⟩
  ·cases h) (λb A h=>by
  unfold Z18.L at h;split at h
  ·cases h;exact λk x=>Z18.step0 k x.1 x.2.1 x.2.2.1
  ·cases h) ((Z18.run k a0).trans h) (λr hr=>Q1 hr)
def Z75.F (k:Nat)(a0:Entry)(a1:Entry):Option (Int):=(Z91.F a0).bind λr1=>(Z91.F a1).bind λr2=>(Z27.F k r1 r2).bind λr3=>bif (r3 != 0)then(some r3)else((Z107.F a0.date a1.date).bind λr4=>bif (r4 != 0)then(some r4)else((Z18.F k a0.title).bind λr5=>(Z18.F k a1.title).bind λr6=>(Z109.F k r5 r6).bind λr7=>bif (r7 != 0)then(some r7)else(bif (decide (a0.volume<a1.volume))then(some (-1))else(bif (decide (a0.volume > a1.volume))then(some 1)else((Z66.F a0.key a1.key).bind λr8=>some r8)))))
def Z75.C (k:Nat):Cal->Option CArm:=λc=>match c with
 |.f 50=>some (.p [.entry] _ (λx=>Z91.F x.1) (λr=>(.t (.sl .name) r)))
 |.f 49=>some (.p [(.sl .name),(.sl .name)] _ (λx=>Z27.F k x.1 x.2.1) (λr=>(.t (.int .i64) r)))
 |.f 51=>some (.p [.date,.date] _ (λx=>Z107.F x.1 x.2.1) (λr=>(.t (.int .i64) r)))
 |.f 53=>some (.p [.str] _ (λx=>Z18.F k x.1) (λr=>(.t .str r)))
 |.f 52=>some (.p [.str,.str] _ (λx=>Z109.F k x.1 x.2.1) (λr=>(.t (.int .i64) r)))
 |.f 54=>some (.p [.str,.str] _ (λx=>Z66.F x.1 x.2.1) (λr=>(.t (.int .i64) r)))
 |_=>none
theorem Z75.run (k:Nat)(a0:Entry)(a1:Entry):Ql Q0 (Q6 (Z75.C k)) (Q4 51 0 (λ_=>none)) Tryz.f36 [.t .entry a0,.t .entry a1] (Q2 (.t (.int .i64)))=Z75.F k a0 a1:=by kernel_rfl
theorem Z75.G (hE:EnvOk Tryz.prog Q0)(pv:Nat->Value)(k:Nat):∀cal A,Z75.C k cal=some A->Q9 Tryz.prog Q0 pv cal A:=by
 intro cal A h
 unfold Z75.C at h
 split at h
 ·cases h;exact λx y hy=>Z91.good hE pv x.1 hy
 ·cases h;exact λx y hy=>Z27.good hE pv k x.1 x.2.1 hy
 ·cases h;exact λx y hy=>Z107.good hE pv x.1 x.2.1 hy
 ·cases h;exact λx y hy=>Z18.good hE pv k x.1 hy
 ·cases h;exact λx y hy=>Z109.good hE pv k x.1 x.2.1 hy
 ·cases h;exact λx y hy=>Z66.good hE pv x.1 x.2.1 hy
 ·cases h
theorem Z75.good (hE:EnvOk Tryz.prog Q0)(pv:Nat->Value)(k:Nat)(a0:Entry)(a1:Entry){y:_}(h:Z75.F k a0 a1=some y):Q8 Tryz.prog Q0 pv (.f 36) (Qa [.entry,.entry] (a0,a1,())) (.t (.int .i64) y):=
 Q7 hE (Z75.G hE pv k) (f:=36) (fn:=Tryz.f36) (by kernel_rfl) rfl (by kernel_rfl) (by kernel_rfl) ((Z75.run k a0 a1).trans h) (λr hr=>Q1 hr)
def Z7.l2:Nat->(List ByteArray)->Library->(List ByteArray)->Int->Int->Option ((List ByteArray)×Library× (List ByteArray)×Int×Int)
 |0,_,_,_,_,_=>none
 |k+1,x1,x2,x5,x6,x7=>bif (decide (x7 > 0))then(bif decide (0<=x6)then(bif decide (x6<(x1.length:Int))then((Z0.F k x2 (x1.getD (x6:Int).toNat (⟨#[]⟩:ByteArray))).bind λr1=>bif decide (0<=r1)then(bif decide (r1<(x2.entries.length:Int))then(bif decide (0<=(IntKind.wrap .i64 (x7-1)))then(bif decide ((IntKind.wrap .i64 (x7-1))<(x5.length:Int))then((Z0.F k x2 (x5.getD (((IntKind.wrap .i64 (x7-1)):Int).toNat) (⟨#[]⟩:ByteArray))).bind λr2=>bif decide (0<=r2)then(bif decide (r2<(x2.entries.length:Int))then((Z75.F k (x2.entries.getD (r1:Int).toNat (Qh .entry)) (x2.entries.getD (r2:Int).toNat (Qh .entry))).bind λr3=>bif (decide (r3<0))then(Z7.l2 k x1 x2 x5 x6 (IntKind.wrap .i64 (x7-1)))else(some (x1,x2,x5,x6,x7)))else none)else none)else none)else none)else none)else none)else none)else none)else(some (x1,x2,x5,x6,x7))
def Z7.l0:Nat->(List ByteArray)->Library->(List ByteArray)->Int->Option ((List ByteArray))
 |0,_,_,_,_=>none
 |k+1,x1,x2,x5,x6=>bif (decide (x6<(x1.length:Int)))then((Z7.l2 k x1 x2 x5 x6 (x5.length:Int)).bind λy4=>bif decide (0<=y4.2.2.2.2)then(bif decide (y4.2.2.2.2<=(y4.2.2.1.length:Int))then(bif room (([]:List ByteArray).length+(y4.2.2.1.take (y4.2.2.2.2:Int).toNat).length) .str then(bif decide (0<=y4.2.2.2.1)then(bif decide (y4.2.2.2.1<(y4.1.length:Int))then(bif room ((([]:List ByteArray)++(y4.2.2.1.take (y4.2.2.2.2:Int).toNat)).length+([(y4.1.getD (y4.2.2.2.1:Int).toNat (⟨#[]⟩:ByteArray))]:List ByteArray).length) .str then(bif decide (0<=y4.2.2.2.2)then(bif decide (y4.2.2.2.2<=(y4.2.2.1.length:Int))then(bif room (((([]:List ByteArray)++(y4.2.2.1.take (y4.2.2.2.2:Int).toNat))++([(y4.1.getD (y4.2.2.2.1:Int).toNat (⟨#[]⟩:ByteArray))]:List ByteArray)).length+(y4.2.2.1.drop (y4.2.2.2.2:Int).toNat).length) .str then(Z7.l0 k y4.1 y4.2.1 (((([]:List ByteArray)++(y4.2.2.1.take (y4.2.2.2.2:Int).toNat))++([(y4.1.getD (y4.2.2.2.1:Int).toNat (⟨#[]⟩:ByteArray))]:List ByteArray))++(y4.2.2.1.drop (y4.2.2.2.2:Int).toNat)) (IntKind.wrap .i64 (y4.2.2.2.1+1)))else none)else none)else none)else none)else none)else none)else none)else none)else none)else(some x5)
def Z7.F (k:Nat)(a0:Library)(a1:List ByteArray):Option (List ByteArray):=(Z7.l0 k a1 a0 ([]:List ByteArray) 0).bind λy5=>some y5
def Z7.C (k:Nat):Cal->Option CArm:=λc=>match c with
 |.f 23=>some (.p [.lib,.str] _ (λx=>Z0.F k x.1 x.2.1) (λr=>(.t (.int .i64) r)))
 |.f 36=>some (.p [.entry,.entry] _ (λx=>Z75.F k x.1 x.2.1) (λr=>(.t (.int .i64) r)))
 |_=>none
def Z7.sp2:List Sp:=[.t 1 (.sl .str),.boxT 2 0 .lib,.own 5 1024 9 .str false true,.t 6 (.int .i64),.t 7 (.int .i64)]
def Z7.sp2_0:List Sp:=[.t 1 (.sl .str),.boxT 2 0 .lib,.own 5 1024 9 .str false true,.t 6 (.int .i64),.t 7 (.int .i64)]
def Z7.A2:LArm:=.one Z7.sp2 Z7.sp2_0 ((List ByteArray)×Library× (List ByteArray)×Int×Int) (λk x=>Z7.l2 k x.1 x.2.1 x.2.2.1 x.2.2.2.1 x.2.2.2.2.1) (.exit 2) (λy=>(y.1,y.2.1,y.2.2.1,y.2.2.2.1,y.2.2.2.2,())) (λx=>(x.1,x.2.1,x.2.2.1,x.2.2.2.1,x.2.2.2.2.1))
def Z7.sp0:List Sp:=[.t 1 (.sl .str),.boxT 2 0 .lib,.own 5 1024 9 .str false true,.t 6 (.int .i64)]
def Z7.sp0_0:List Sp:=[.own 5 1024 9 .str false true]
def Z7.A0:LArm:=.one Z7.sp0 Z7.sp0_0 ((List ByteArray)) (λk x=>Z7.l0 k x.1 x.2.1 x.2.2.1 x.2.2.2.1) (.exit 0) (λy=>(y,())) (λx=>x.1)
def Z7.L:Nat->Option LArm:=λb=>match b with
 |2=>some Z7.A2
 |0=>some Z7.A0
 |_=>none
theorem Z7.run (k:Nat)(a0:Library)(a1:List ByteArray):Ql Q0 (Q6 (Z7.C k)) (Q4 62 k Z7.L) Tryz.f22 [.t .lib a0,.t (.sl .str) a1] (Q2 (.fr 9 .str))=Z7.F k a0 a1:=by kernel_rfl
theorem Z7.step2 (k:Nat)(x1:List ByteArray)(x2:Library)(x5:List ByteArray)(x6:Int)(x7:Int):Qp Q0 (Q6 (Z7.C k)) (Q4 62 k Z7.L) 2 (Qi Tryz.f22 2) (Qz 62 Z7.sp2 (x1,x2,x5,x6,x7,())) (Z7.A2.cont 62 k)=Z7.l2 (k+1) x1 x2 x5 x6 x7:=by kernel_rfl
theorem Z7.step0 (k:Nat)(x1:List ByteArray)(x2:Library)(x5:List ByteArray)(x6:Int):Qp Q0 (Q6 (Z7.C k)) (Q4 62 k Z7.L) 0 (Qi Tryz.f22 0) (Qz 62 Z7.sp0 (x1,x2,x5,x6,())) (Z7.A0.cont 62 k)=Z7.l0 (k+1) x1 x2 x5 x6:=by kernel_rfl
theorem Z7.G (hE:EnvOk Tryz.prog Q0)(pv:Nat->Value)(k:Nat):∀cal A,Z7.C k cal=some A->Q9 Tryz.prog Q0 pv cal A:=by
 intro cal A h
 unfold Z7.C at h
 split at h
 ·cases h;exact λx y hy=>Z0.good hE pv k x.1 x.2.1 hy
 ·cases h;exact λx y hy=>Z75.good hE pv k x.1 x.2.1 hy
 ·cases h
theorem Z7.good (hE:EnvOk Tryz.prog Q0)(pv:Nat->Value)(k:Nat)(a0:Library)(a1:List ByteArray){y:_}(h:Z7.F k a0 a1=some y):Q8 Tryz.prog Q0 pv (.f 22) (Qa [.lib,(.sl .str)] (a0,a1,())) (.fr 9 .str y):=
 Qg hE (t:=Z7.C) k (λk _=>Z7.G hE pv k) (f:=22) (fn:=Tryz.f22) (by kernel_rfl) rfl (by kernel_rfl) (by kernel_rfl) (lt:=Z7.L) (by kernel_rfl) (λb A h=>by
  unfold Z7.L at h;split at h
  ·cases h;exact⟨by kernel_rfl,by kernel_rfl,λ_=>rfl,λ_=>rfl⟩
  ·cases h;exact⟨by kernel_rfl,by kernel_rfl,λ_=>rfl,λ_=>rfl⟩
  ·cases h) (λb A h=>by
  unfold Z7.L at h;split at h
  ·cases h;exact λk x=>Z7.step2 k x.1 x.2.1 x.2.2.1 x.2.2.2.1 x.2.2.2.2.1
  ·cases h;exact λk x=>Z7.step0 k x.1 x.2.1 x.2.2.1 x.2.2.2.1
  ·cases h) ((Z7.run k a0 a1).trans h) (λr hr=>Q1 hr)
def Z5.l2:Nat->Library->(List Int)->(List (List ByteArray))->(List ByteArray)->Int->(List ByteArray)->Int->Option (Library× (List Int)× (List (List ByteArray))× (List ByteArray)×Int× (List ByteArray))
 |0,_,_,_,_,_,_,_=>none
 |k+1,x2,x7,x8,x9,x10,x11,x12=>bif (decide (x12<(x9.length:Int)))then(bif decide (0<=x12)then(bif decide (x12<(x9.length:Int))then((Z0.F k x2 (x9.getD ((x12:Int).toNat) (⟨#[]⟩:ByteArray))).bind λr3=>bif decide (0<=r3)then(bif decide (r3<(x2.entries.length:Int))then(bif (((x2.entries.getD (r3:Int).toNat (Qh .entry)).kind)==x10)then(bif decide (0<=x12)then(bif decide (x12<(x9.length:Int))then(bif room (x11.length+([(x9.getD ((x12:Int).toNat) (⟨#[]⟩:ByteArray))]:List ByteArray).length) .str then(Z5.l2 k x2 x7 x8 x9 x10 (x11++([(x9.getD ((x12:Int).toNat) (⟨#[]⟩:ByteArray))]:List ByteArray)) (IntKind.wrap .i64 (x12+1)))else none)else none)else none)else(Z5.l2 k x2 x7 x8 x9 x10 x11 (IntKind.wrap .i64 (x12+1))))else none)else none)else none)else none)else(some (x2,x7,x8,x9,x10,x11))
def Z5.l0:Nat->Library->(List Int)->(List (List ByteArray))->(List ByteArray)->Int->Option ((List Int)× (List (List ByteArray)))
 |0,_,_,_,_,_=>none
 |k+1,x2,x7,x8,x9,x10=>bif (decide (x10<=4))then((Z5.l2 k x2 x7 x8 x9 x10 ([]:List ByteArray) 0).bind λy4=>bif (decide ((y4.2.2.2.2.2.length:Int) > 0))then(bif room (y4.2.1.length+([y4.2.2.2.2.1]:List Int).length) (.int .i64)then(bif room (y4.2.2.1.length+([y4.2.2.2.2.2]:List (List ByteArray)).length) (.sl .str)then(Z5.l0 k y4.1 (y4.2.1++([y4.2.2.2.2.1]:List Int)) (y4.2.2.1++([y4.2.2.2.2.2]:List (List ByteArray))) y4.2.2.2.1 (IntKind.wrap .i64 (y4.2.2.2.2.1+1)))else none)else none)else(Z5.l0 k y4.1 y4.2.1 y4.2.2.1 y4.2.2.2.1 (IntKind.wrap .i64 (y4.2.2.2.2.1+1))))else(some (x7,x8))
def Z5.F (k:Nat)(a0:Library)(a1:List ByteArray):Option ((List Int)× (List (List ByteArray))×Bool):=(Z1.F k a0 a1).bind λr1=>bif (!r1)then(some (([]:List Int),([]:List (List ByteArray)),false))else((Z7.F k a0 a1).bind λr2=>(Z5.l0 k a0 ([]:List Int) ([]:List (List ByteArray)) r2 1).bind λy5=>some (y5.1,y5.2,true))
def Z5.C (k:Nat):Cal->Option CArm:=λc=>match c with
 |.f 21=>some (.p [.lib,(.sl .str)] _ (λx=>Z1.F k x.1 x.2.1) (λr=>(.t .bool r)))
 |.f 22=>some (.p [.lib,(.sl .str)] _ (λx=>Z7.F k x.1 x.2.1) (λr=>(.fr 9 .str r)))
 |.f 23=>some (.p [.lib,.str] _ (λx=>Z0.F k x.1 x.2.1) (λr=>(.t (.int .i64) r)))
 |_=>none
def Z5.sp2:List Sp:=[.boxT 2 0 .lib,.own 7 1024 3 (.int .i64) false true,.own 8 1028 25 (.sl .str) false true,.own 9 4104 9 .str false true,.t 10 (.int .i64),.own 11 8192 9 .str false true,.t 12 (.int .i64)]
def Z5.sp2_0:List Sp:=[.boxT 2 0 .lib,.own 7 1024 3 (.int .i64) false true,.own 8 1028 25 (.sl .str) false true,.own 9 4104 9 .str false true,.t 10 (.int .i64),.own 11 8192 9 .str false true]
def Z5.A2:LArm:=.one Z5.sp2 Z5.sp2_0 (Library× (List Int)× (List (List ByteArray))× (List ByteArray)×Int× (List ByteArray)) (λk x=>Z5.l2 k x.1 x.2.1 x.2.2.1 x.2.2.2.1 x.2.2.2.2.1 x.2.2.2.2.2.1 x.2.2.2.2.2.2.1) (.exit 2) (λy=>(y.1,y.2.1,y.2.2.1,y.2.2.2.1,y.2.2.2.2.1,y.2.2.2.2.2,())) (λx=>(x.1,x.2.1,x.2.2.1,x.2.2.2.1,x.2.2.2.2.1,x.2.2.2.2.2.1))
def Z5.sp0:List Sp:=[.boxT 2 0 .lib,.own 7 1024 3 (.int .i64) false true,.own 8 1028 25 (.sl .str) false true,.own 9 4104 9 .str false true,.t 10 (.int .i64)]
def Z5.sp0_0:List Sp:=[.own 7 1024 3 (.int .i64) false true,.own 8 1028 25 (.sl .str) false true]
def Z5.A0:LArm:=.one Z5.sp0 Z5.sp0_0 ((List Int)× (List (List ByteArray))) (λk x=>Z5.l0 k x.1 x.2.1 x.2.2.1 x.2.2.2.1 x.2.2.2.2.1) (.exit 0) (λy=>(y.1,y.2,())) (λx=>(x.1,x.2.1))
def Z5.L:Nat->Option LArm:=λb=>match b with
 |2=>some Z5.A2
 |0=>some Z5.A0
 |_=>none
theorem Z5.run (k:Nat)(a0:Library)(a1:List ByteArray):Ql Q0 (Q6 (Z5.C k)) (Q4 68 k Z5.L) Tryz.f6 [.t .lib a0,.t (.sl .str) a1] (Q5b (.fr 3 (.int .i64)) (.fr 25 (.sl .str)) (.t .bool))=Z5.F k a0 a1:=by kernel_rfl
theorem Z5.step2 (k:Nat)(x2:Library)(x7:List Int)(x8:List (List ByteArray))(x9:List ByteArray)(x10:Int)(x11:List ByteArray)(x12:Int):Qp Q0 (Q6 (Z5.C k)) (Q4 68 k Z5.L) 2 (Qi Tryz.f6 2) (Qz 68 Z5.sp2 (x2,x7,x8,x9,x10,x11,x12,())) (Z5.A2.cont 68 k)=Z5.l2 (k+1) x2 x7 x8 x9 x10 x11 x12:=by kernel_rfl
theorem Z5.step0 (k:Nat)(x2:Library)(x7:List Int)(x8:List (List ByteArray))(x9:List ByteArray)(x10:Int):Qp Q0 (Q6 (Z5.C k)) (Q4 68 k Z5.L) 0 (Qi Tryz.f6 0) (Qz 68 Z5.sp0 (x2,x7,x8,x9,x10,())) (Z5.A0.cont 68 k)=Z5.l0 (k+1) x2 x7 x8 x9 x10:=by kernel_rfl
theorem Z5.G (hE:EnvOk Tryz.prog Q0)(pv:Nat->Value)(k:Nat):∀cal A,Z5.C k cal=some A->Q9 Tryz.prog Q0 pv cal A:=by
 intro cal A h
 unfold Z5.C at h
 split at h
 ·cases h;exact λx y hy=>Z1.good hE pv k x.1 x.2.1 hy
 ·cases h;exact λx y hy=>Z7.good hE pv k x.1 x.2.1 hy
 ·cases h;exact λx y hy=>Z0.good hE pv k x.1 x.2.1 hy
 ·cases h
theorem Z5.good (hE:EnvOk Tryz.prog Q0)(pv:Nat->Value)(k:Nat)(a0:Library)(a1:List ByteArray){y:_}(h:Z5.F k a0 a1=some y):Q8 Tryz.prog Q0 pv (.f 6) (Qa [.lib,(.sl .str)] (a0,a1,())) (.tup [.fr 3 (.int .i64) y.1,.fr 25 (.sl .str) y.2.1,.t .bool y.2.2]):=
 Qg hE (t:=Z5.C) k (λk _=>Z5.G hE pv k) (f:=6) (fn:=Tryz.f6) (by kernel_rfl) rfl (by kernel_rfl) (by kernel_rfl) (lt:=Z5.L) (by kernel_rfl) (λb A h=>by
  unfold Z5.L at h;split at h
  ·cases h;exact⟨by kernel_rfl,by kernel_rfl,λ_=>rfl,λ_=>rfl⟩
  ·cases h;exact⟨by kernel_rfl,by kernel_rfl,λ_=>rfl,λ_=>rfl⟩
  ·cases h) (λb A h=>by
  unfold Z5.L at h;split at h
  ·cases h;exact λk x=>Z5.step2 k x.1 x.2.1 x.2.2.1 x.2.2.2.1 x.2.2.2.2.1 x.2.2.2.2.2.1 x.2.2.2.2.2.2.1
  ·cases h;exact λk x=>Z5.step0 k x.1 x.2.1 x.2.2.1 x.2.2.2.1 x.2.2.2.2.1
  ·cases h) ((Z5.run k a0 a1).trans h) (λr hr=>Q9q hr)
def Z28.l0:Nat->(List ByteArray)->(List ByteArray)->Int->Option ((List ByteArray))
 |0,_,_,_=>none
 |k+1,x0,x3,x4=>bif (decide (x4<(x0.length:Int)))then(bif decide (0<=x4)then(bif decide (x4<(x0.length:Int))then(bif decide (0<=x4)then(bif decide (x4<(x3.length:Int))then(Z28.l0 k x0 (x3.set ((x4:Int).toNat) (x0.getD (x4:Int).toNat (⟨#[]⟩:ByteArray))) (IntKind.wrap .i64 (x4+1)))else none)else none)else none)else none)else(some x3)
def Z28.F (k:Nat)(a0:List ByteArray):Option (List ByteArray):=bif ((a0.length:Int)==(a0.length:Int))then(bif decide (0<=(a0.length:Int))then(bif Nat.ble (((a0.length:Int):Int).toNat*nb .str) 140737488355328 then((Z28.l0 k a0 (List.replicate ((a0.length:Int):Int).toNat (⟨#[]⟩:ByteArray)) 0).bind λy1=>some y1)else none)else none)else none
def Z28.C (k:Nat):Cal->Option CArm:=λc=>match c with
 |_=>none
def Z28.sp0:List Sp:=[.t 0 (.sl .str),.own 3 1032 9 .str false true,.t 4 (.int .i64)]
def Z28.sp0_0:List Sp:=[.own 3 1032 9 .str false true]
def Z28.A0:LArm:=.one Z28.sp0 Z28.sp0_0 ((List ByteArray)) (λk x=>Z28.l0 k x.1 x.2.1 x.2.2.1) (.exit 0) (λy=>(y,())) (λx=>x.1)
def Z28.L:Nat->Option LArm:=λb=>match b with
 |0=>some Z28.A0
 |_=>none
theorem Z28.run (k:Nat)(a0:List ByteArray):Ql Q0 (Q6 (Z28.C k)) (Q4 22 k Z28.L) Tryz.f8 [.t (.sl .str) a0] (Q2 (.fr 9 .str))=Z28.F k a0:=by kernel_rfl
theorem Z28.step0 (k:Nat)(x0:List ByteArray)(x3:List ByteArray)(x4:Int):Qp Q0 (Q6 (Z28.C k)) (Q4 22 k Z28.L) 0 (Qi Tryz.f8 0) (Qz 22 Z28.sp0 (x0,x3,x4,())) (Z28.A0.cont 22 k)=Z28.l0 (k+1) x0 x3 x4:=by kernel_rfl
theorem Z28.G (hE:EnvOk Tryz.prog Q0)(pv:Nat->Value)(k:Nat):∀cal A,Z28.C k cal=some A->Q9 Tryz.prog Q0 pv cal A:=by
 intro cal A h
 unfold Z28.C at h
 cases h
theorem Z28.good (hE:EnvOk Tryz.prog Q0)(pv:Nat->Value)(k:Nat)(a0:List ByteArray){y:_}(h:Z28.F k a0=some y):Q8 Tryz.prog Q0 pv (.f 8) (Qa [(.sl .str)] (a0,())) (.fr 9 .str y):=
 Qg hE (t:=Z28.C) k (λk _=>Z28.G hE pv k) (f:=8) (fn:=Tryz.f8) (by kernel_rfl) rfl (by kernel_rfl) (by kernel_rfl) (lt:=Z28.L) (by kernel_rfl) (λb A h=>by
  unfold Z28.L at h;split at h
  ·cases h;exact⟨by kernel_rfl,by kernel_rfl,λ_=>rfl,λ_=>rfl⟩
  ·cases h) (λb A h=>by
  unfold Z28.L at h;split at h
  ·cases h;exact λk x=>Z28.step0 k x.1 x.2.1 x.2.2.1
  ·cases h) ((Z28.run k a0).trans h) (λr hr=>Q1 hr)
def laws_toName.C (k:Nat):Cal->Option CArm:=λc=>match c with
 |.f 8=>some (.p [(.sl .str)] _ (λx=>Z28.F k x.1) (λr=>(.fr 9 .str r)))
 |_=>none
def Z49.l0:Nat->(List ByteArray)->(List ByteArray)->Int->Option ((List ByteArray))
 |0,_,_,_=>none
 |k+1,x0,x3,x4=>bif (decide (x4<(x0.length:Int)))then(bif decide (0<=x4)then(bif decide (x4<(x0.length:Int))then(bif decide (0<=x4)then(bif decide (x4<(x3.length:Int))then(Z49.l0 k x0 (x3.set ((x4:Int).toNat) (x0.getD (x4:Int).toNat (⟨#[]⟩:ByteArray))) (IntKind.wrap .i64 (x4+1)))else none)else none)else none)else none)else(some x3)
def Z49.F (k:Nat)(a0:List ByteArray):Option (List ByteArray):=bif ((a0.length:Int)==(a0.length:Int))then(bif decide (0<=(a0.length:Int))then(bif Nat.ble (((a0.length:Int):Int).toNat*nb .str) 140737488355328 then((Z49.l0 k a0 (List.replicate ((a0.length:Int):Int).toNat (⟨#[]⟩:ByteArray)) 0).bind λy1=>some y1)else none)else none)else none
def Z49.C (k:Nat):Cal->Option CArm:=λc=>match c with
 |_=>none
def Z49.sp0:List Sp:=[.t 0 (.sl .str),.own 3 1032 9 .str false true,.t 4 (.int .i64)]
def Z49.sp0_0:List Sp:=[.own 3 1032 9 .str false true]
def Z49.A0:LArm:=.one Z49.sp0 Z49.sp0_0 ((List ByteArray)) (λk x=>Z49.l0 k x.1 x.2.1 x.2.2.1) (.exit 0) (λy=>(y,())) (λx=>x.1)
def Z49.L:Nat->Option LArm:=λb=>match b with
 |0=>some Z49.A0
 |_=>none
theorem Z49.run (k:Nat)(a0:List ByteArray):Ql Je (Q6 (Z49.C k)) (Q4 22 k Z49.L) Tryz.f8 [.t (.sl .str) a0] (Q2 (.fr 9 .str))=Z49.F k a0:=by kernel_rfl
theorem Z49.step0 (k:Nat)(x0:List ByteArray)(x3:List ByteArray)(x4:Int):Qp Je (Q6 (Z49.C k)) (Q4 22 k Z49.L) 0 (Qi Tryz.f8 0) (Qz 22 Z49.sp0 (x0,x3,x4,())) (Z49.A0.cont 22 k)=Z49.l0 (k+1) x0 x3 x4:=by kernel_rfl
theorem Z49.G (hE:EnvOk Tryz.prog Je)(pv:Nat->Value)(n:Nat)(k:Nat):∀cal A,Z49.C k cal=some A->Q9 Tryz.prog Je (mpv pv n) cal A:=by
 intro cal A h
 unfold Z49.C at h
 cases h
theorem Z49.good (hE:EnvOk Tryz.prog Je)(pv:Nat->Value)(n:Nat)(k:Nat)(a0:List ByteArray){y:_}(h:Z49.F k a0=some y):Q8 Tryz.prog Je (mpv pv n) (.f 8) (Qa [(.sl .str)] (a0,())) (.fr 9 .str y):=
 Qg hE (t:=Z49.C) k (λk _=>Z49.G hE pv n k) (f:=8) (fn:=Tryz.f8) (by kernel_rfl) rfl (by kernel_rfl) (by kernel_rfl) (lt:=Z49.L) (by kernel_rfl) (λb A h=>by
  unfold Z49.L at h;split at h
  ·cases h;exact⟨by kernel_rfl,by kernel_rfl,λ_=>rfl,λ_=>rfl⟩
  ·cases h) (λb A h=>by
  unfold Z49.L at h;split at h
  ·cases h;exact λk x=>Z49.step0 k x.1 x.2.1 x.2.2.1
  ·cases h) ((Z49.run k a0).trans h) (λr hr=>Q1 hr)
def Z84.F (k:Nat)(a0:Name):Option (Name):=(Z49.F k a0.given).bind λr1=>some (⟨r1,a0.particle,a0.family,a0.suffix⟩:Name)
def Z84.C (k:Nat):Cal->Option CArm:=λc=>match c with
 |.f 8=>some (.p [(.sl .str)] _ (λx=>Z49.F k x.1) (λr=>(.fr 9 .str r)))
 |_=>none
theorem Z84.run (k:Nat)(a0:Name):Q0r Je (Q6 (Z84.C k)) (Q4 18 0 (λ_=>none)) Tryz.f83 [.t .name a0] (Q2 (.pc .name))=Z84.F k a0:=by kernel_rfl
theorem Z84.G (hE:EnvOk Tryz.prog Je)(pv:Nat->Value)(n:Nat)(k:Nat):∀cal A,Z84.C k cal=some A->Q9 Tryz.prog Je (mpv pv n) cal A:=by
 intro cal A h
 unfold Z84.C at h
 split at h
 ·cases h;exact λx y hy=>Z49.good hE pv n k x.1 hy
 ·cases h
theorem Z84.good (hE:EnvOk Tryz.prog Je)(pv:Nat->Value)(n:Nat)(k:Nat)(a0:Name){y:_}(h:Z84.F k a0=some y):Q8 Tryz.prog Je (mpv pv n) (.f 83) (Qa [.name] (a0,())) (.pc true .name y):=
 XW hE (Q9t pv n) (Q9s pv n) (Z84.G hE pv n k) (f:=83) (fn:=Tryz.f83) (by kernel_rfl) rfl (by kernel_rfl) (by kernel_rfl) ((Z84.run k a0).trans h) (λr hr=>Q1 hr)
def Z138.l0:Nat->(List Name)->(List Name)->Int->Option ((List Name))
 |0,_,_,_=>none
 |k+1,x0,x3,x4=>bif (decide (x4<(x0.length:Int)))then(bif decide (0<=x4)then(bif decide (x4<(x0.length:Int))then((Z84.F k (x0.getD (x4:Int).toNat (Qh .name))).bind λr1=>bif decide (0<=x4)then(bif decide (x4<(x3.length:Int))then(Z138.l0 k x0 (x3.set ((x4:Int).toNat) r1) (IntKind.wrap .i64 (x4+1)))else none)else none)else none)else none)else(some x3)
def Z138.F (k:Nat)(a0:List Name):Option (List Name):=bif ((a0.length:Int)==(a0.length:Int))then(bif decide (0<=(a0.length:Int))then(bif Nat.ble (((a0.length:Int):Int).toNat*nb .name) 140737488355328 then((Z138.l0 k a0 (List.replicate ((a0.length:Int):Int).toNat (Qh .name)) 0).bind λy2=>some y2)else none)else none)else none
def Z138.C (k:Nat):Cal->Option CArm:=λc=>match c with
 |.f 83=>some (.pp [.name] .name (λx=>Z84.F k x.1))
 |_=>none
def Z139.F (a0:Date):Option (Date):=some (⟨a0.y,a0.m,a0.d,a0.c⟩:Date)
def laws_toEntry.C (k:Nat):Cal->Option CArm:=λc=>match c with
 |.f 55=>some (.p [(.sl .name)] _ (λx=>Z138.F k x.1) (λr=>(.fr 92 .name r)))
 |.f 56=>some (.p [.date] _ (λx=>Z139.F x.1) (λr=>(.t .date r)))
 |_=>none
def Z44.l0:Nat->(List Name)->(List Name)->Int->Option ((List Name))
 |0,_,_,_=>none
 |k+1,x0,x3,x4=>bif (decide (x4<(x0.length:Int)))then(bif decide (0<=x4)then(bif decide (x4<(x0.length:Int))then((Z84.F k (x0.getD (x4:Int).toNat (Qh .name))).bind λr1=>bif decide (0<=x4)then(bif decide (x4<(x3.length:Int))then(Z44.l0 k x0 (x3.set ((x4:Int).toNat) r1) (IntKind.wrap .i64 (x4+1)))else none)else none)else none)else none)else(some x3)
def Z44.F (k:Nat)(a0:List Name):Option (List Name):=bif ((a0.length:Int)==(a0.length:Int))then(bif decide (0<=(a0.length:Int))then(bif Nat.ble (((a0.length:Int):Int).toNat*nb .name) 140737488355328 then((Z44.l0 k a0 (List.replicate ((a0.length:Int):Int).toNat (Qh .name)) 0).bind λy2=>some y2)else none)else none)else none
def Z44.C (k:Nat):Cal->Option CArm:=λc=>match c with
 |.f 83=>some (.p [.name] _ (λx=>Z84.F k x.1) (λr=>(.pc true .name r)))
 |_=>none
def Z44.sp0:List Sp:=[.t 0 (.sl .name),.own 3 1032 92 .name false true,.t 4 (.int .i64)]
def Z44.sp0_0:List Sp:=[.own 3 1032 92 .name false true]
def Z44.A0:LArm:=.one Z44.sp0 Z44.sp0_0 ((List Name)) (λk x=>Z44.l0 k x.1 x.2.1 x.2.2.1) (.exit 0) (λy=>(y,())) (λx=>x.1)
def Z44.L:Nat->Option LArm:=λb=>match b with
 |0=>some Z44.A0
 |_=>none
theorem Z44.run (k:Nat)(a0:List Name):Ql Je (Q6 (Z44.C k)) (Q4 23 k Z44.L) Tryz.f55 [.t (.sl .name) a0] (Q2 (.fr 92 .name))=Z44.F k a0:=by kernel_rfl
theorem Z44.step0 (k:Nat)(x0:List Name)(x3:List Name)(x4:Int):Qp Je (Q6 (Z44.C k)) (Q4 23 k Z44.L) 0 (Qi Tryz.f55 0) (Qz 23 Z44.sp0 (x0,x3,x4,())) (Z44.A0.cont 23 k)=Z44.l0 (k+1) x0 x3 x4:=by kernel_rfl
theorem Z44.G (hE:EnvOk Tryz.prog Je)(pv:Nat->Value)(n:Nat)(k:Nat):∀cal A,Z44.C k cal=some A->Q9 Tryz.prog Je (mpv pv n) cal A:=by
 intro cal A h
 unfold Z44.C at h
 split at h
 ·cases h;exact λx y hy=>Z84.good hE pv n k x.1 hy
 ·cases h
theorem Z44.good (hE:EnvOk Tryz.prog Je)(pv:Nat->Value)(n:Nat)(k:Nat)(a0:List Name){y:_}(h:Z44.F k a0=some y):Q8 Tryz.prog Je (mpv pv n) (.f 55) (Qa [(.sl .name)] (a0,())) (.fr 92 .name y):=
 Qg hE (t:=Z44.C) k (λk _=>Z44.G hE pv n k) (f:=55) (fn:=Tryz.f55) (by kernel_rfl) rfl (by kernel_rfl) (by kernel_rfl) (lt:=Z44.L) (by kernel_rfl) (λb A h=>by
  unfold Z44.L at h;split at h
  ·cases h;exact⟨by kernel_rfl,by kernel_rfl,λ_=>rfl,λ_=>rfl⟩
  ·cases h) (λb A h=>by
  unfold Z44.L at h;split at h
  ·cases h;exact λk x=>Z44.step0 k x.1 x.2.1 x.2.2.1
  ·cases h) ((Z44.run k a0).trans h) (λr hr=>Q1 hr)
def Z132.F (a0:Date):Option (Date):=some (⟨a0.y,a0.m,a0.d,a0.c⟩:Date)
def Z132.C:Cal->Option CArm:=λc=>match c with
 |_=>none
theorem Z132.run (a0:Date):Ql Je (Q6 Z132.C) (Q4 17 0 (λ_=>none)) Tryz.f56 [.t .date a0] (Q2 (.t .date))=Z132.F a0:=by kernel_rfl
theorem Z132.G (hE:EnvOk Tryz.prog Je)(pv:Nat->Value)(n:Nat):∀cal A,Z132.C cal=some A->Q9 Tryz.prog Je (mpv pv n) cal A:=by
 intro cal A h
 unfold Z132.C at h
 cases h
theorem Z132.good (hE:EnvOk Tryz.prog Je)(pv:Nat->Value)(n:Nat)(a0:Date){y:_}(h:Z132.F a0=some y):Q8 Tryz.prog Je (mpv pv n) (.f 56) (Qa [.date] (a0,())) (.t .date y):=
 Q7 hE (Z132.G hE pv n) (f:=56) (fn:=Tryz.f56) (by kernel_rfl) rfl (by kernel_rfl) (by kernel_rfl) ((Z132.run a0).trans h) (λr hr=>Q1 hr)
def Z110.F (k:Nat)(a0:Entry):Option (Entry):=(Z44.F k a0.authors).bind λr1=>(Z44.F k a0.editors).bind λr2=>(Z132.F a0.date).bind λr3=>some (⟨a0.key,a0.kind,r1,r2,a0.title,a0.container,a0.publisher,r3,a0.volume,a0.pages,a0.cross⟩:Entry)
def Z110.C (k:Nat):Cal->Option CArm:=λc=>match c with
 |.f 55=>some (.p [(.sl .name)] _ (λx=>Z44.F k x.1) (λr=>(.fr 92 .name r)))
 |.f 56=>some (.p [.date] _ (λx=>Z132.F x.1) (λr=>(.t .date r)))
 |_=>none
theorem Z110.run (k:Nat)(a0:Entry):Q0r Je (Q6 (Z110.C k)) (Q4 41 0 (λ_=>none)) Tryz.f37 [.t .entry a0] (Q2 (.pc .entry))=Z110.F k a0:=by kernel_rfl
theorem Z110.G (hE:EnvOk Tryz.prog Je)(pv:Nat->Value)(n:Nat)(k:Nat):∀cal A,Z110.C k cal=some A->Q9 Tryz.prog Je (mpv pv n) cal A:=by
 intro cal A h
 unfold Z110.C at h
 split at h
 ·cases h;exact λx y hy=>Z44.good hE pv n k x.1 hy
 ·cases h;exact λx y hy=>Z132.good hE pv n x.1 hy
 ·cases h
theorem Z110.good (hE:EnvOk Tryz.prog Je)(pv:Nat->Value)(n:Nat)(k:Nat)(a0:Entry){y:_}(h:Z110.F k a0=some y):Q8 Tryz.prog Je (mpv pv n) (.f 37) (Qa [.entry] (a0,())) (.pc true .entry y):=
 XW hE (Q9t pv n) (Q9s pv n) (Z110.G hE pv n k) (f:=37) (fn:=Tryz.f37) (by kernel_rfl) rfl (by kernel_rfl) (by kernel_rfl) ((Z110.run k a0).trans h) (λr hr=>Q1 hr)
def Z126.F (a0:Entry)(a1:ByteArray):Option (Bool):=some (Qu a0.key a1)
def Z126.C:Cal->Option CArm:=λc=>match c with
 |_=>none
theorem Z126.run (a0:Entry)(a1:ByteArray):Ql Q0 (Q6 Z126.C) (Q4 8 0 (λ_=>none)) Tryz.f58 [.t .entry a0,.tp (.t .str a1)] (Q2 (.t .bool))=Z126.F a0 a1:=by kernel_rfl
theorem Z126.G (hE:EnvOk Tryz.prog Q0)(pv:Nat->Value):∀cal A,Z126.C cal=some A->Q9 Tryz.prog Q0 pv cal A:=by
 intro cal A h
 unfold Z126.C at h
 cases h
theorem Z126.good (hE:EnvOk Tryz.prog Q0)(pv:Nat->Value)(a0:Entry)(a1:ByteArray){y:_}(h:Z126.F a0 a1=some y):Q8 Tryz.prog Q0 pv (.f 58) (JM [.t .entry,.tp .str] (a0,a1,())) (.t .bool y):=
 Q7 hE (Z126.G hE pv) (f:=58) (fn:=Tryz.f58) (by kernel_rfl) rfl (by kernel_rfl) (by kernel_rfl) ((Z126.run a0 a1).trans h) (λr hr=>Q1 hr)
def Z41.l0:Nat->(List Entry)->ByteArray->Int->Int->Option (Sum Int Unit)
 |0,_,_,_,_=>none
 |k+1,x0,x1,x7,x8=>bif (decide (x8<x7))then(bif decide (0<=x8)then(bif decide (x8<(x0.length:Int))then((Z126.F (x0.getD (x8:Int).toNat (Qh .entry)) x1).bind λr1=>bif r1 then(some (.inl x8))else(Z41.l0 k x0 x1 x7 (IntKind.wrap .i64 (x8+1))))else none)else none)else(some (.inr ()))
def Z41.F (k:Nat)(a0:List Entry)(a1c0:ByteArray):Option (Int):=(Z41.l0 k a0 a1c0 (a0.length:Int) 0).bind λy2=>match y2 with|.inl z3=>some z3|.inr z3=>some (-1)
def Z41.C (k:Nat):Cal->Option CArm:=λc=>match c with
 |.f 58=>some (.q [.t .entry,.tp .str] _ (λx=>Z126.F x.1 x.2.1) (λr=>(.t .bool r)))
 |_=>none
def Z41.sp0:List Sp:=[.t 0 (.sl .entry),.cl 1 58 [.tp .str],.t 7 (.int .i64),.t 8 (.int .i64)]
def Z41.sp0_0:List Sp:=[.t 4 (.int .i64)]
def Z41.sp0_1:List Sp:=[]
def Z41.A0:LArm:=.two Z41.sp0 Z41.sp0_0 Z41.sp0_1 (Int) (Unit) (λk x=>Z41.l0 k x.1 x.2.1.1 x.2.2.1 x.2.2.2.1) .ret (.exit 0) (λy=>(y,())) (λx=>x.1) (λy=>()) (λx=>())
def Z41.L:Nat->Option LArm:=λb=>match b with
 |0=>some Z41.A0
 |_=>none
theorem Z41.run (k:Nat)(a0:List Entry)(a1c0:ByteArray):Ql Q0 (Q6 (Z41.C k)) (Q4 19 k Z41.L) Tryz.f57 [.t (.sl .entry) a0,.clo 58 [.tp (.t .str a1c0)]] (Q2 (.t (.int .i64)))=Z41.F k a0 a1c0:=by kernel_rfl
theorem Z41.step0 (k:Nat)(x0:List Entry)(x1:ByteArray)(x7:Int)(x8:Int):Qp Q0 (Q6 (Z41.C k)) (Q4 19 k Z41.L) 0 (Qi Tryz.f57 0) (Qz 19 Z41.sp0 (x0,(x1,()),x7,x8,())) (Z41.A0.cont 19 k)=Z41.l0 (k+1) x0 x1 x7 x8:=by kernel_rfl
theorem Z41.G (hE:EnvOk Tryz.prog Q0)(pv:Nat->Value)(k:Nat):∀cal A,Z41.C k cal=some A->Q9 Tryz.prog Q0 pv cal A:=by
 intro cal A h
 unfold Z41.C at h
 split at h
 ·cases h;exact λx y hy=>Z126.good hE pv x.1 x.2.1 hy
 ·cases h
theorem Z41.good (hE:EnvOk Tryz.prog Q0)(pv:Nat->Value)(k:Nat)(a0:List Entry)(a1c0:ByteArray){y:_}(h:Z41.F k a0 a1c0=some y):Q8 Tryz.prog Q0 pv (.f 57) (JM [.t (.sl .entry),.clo 58 [.tp .str]] (a0,(a1c0,()),())) (.t (.int .i64) y):=
 Qg hE (t:=Z41.C) k (λk _=>Z41.G hE pv k) (f:=57) (fn:=Tryz.f57) (by kernel_rfl) rfl (by kernel_rfl) (by kernel_rfl) (lt:=Z41.L) (by kernel_rfl) (λb A h=>by
  unfold Z41.L at h;split at h
  ·cases h;exact⟨by kernel_rfl,by kernel_rfl,by kernel_rfl,λ_=>rfl,λ_=>rfl,λ_=>rfl⟩
  ·cases h) (λb A h=>by
  unfold Z41.L at h;split at h
  ·cases h;exact λk x=>Z41.step0 k x.1 x.2.1.1 x.2.2.1 x.2.2.2.1
  ·cases h) ((Z41.run k a0 a1c0).trans h) (λr hr=>Q1 hr)
def Z63.F (k:Nat)(a0:Library)(a1:ByteArray):Option (Int):=(Z41.F k a0.entries a1).bind λr1=>some r1
def Z63.C (k:Nat):Cal->Option CArm:=λc=>match c with
 |.f 57=>some (.q [.t (.sl .entry),.clo 58 [.tp .str]] _ (λx=>Z41.F k x.1 x.2.1.1) (λr=>(.t (.int .i64) r)))
 |_=>none
theorem Z63.run (k:Nat)(a0:Library)(a1:ByteArray):Ql Q0 (Q6 (Z63.C k)) (Q4 9 0 (λ_=>none)) Tryz.f38 [.t .lib a0,.t .str a1] (Q2 (.t (.int .i64)))=Z63.F k a0 a1:=by kernel_rfl
theorem Z63.G (hE:EnvOk Tryz.prog Q0)(pv:Nat->Value)(k:Nat):∀cal A,Z63.C k cal=some A->Q9 Tryz.prog Q0 pv cal A:=by
 intro cal A h
 unfold Z63.C at h
 split at h
 ·cases h;exact λx y hy=>Z41.good hE pv k x.1 x.2.1.1 hy
 ·cases h
theorem Z63.good (hE:EnvOk Tryz.prog Q0)(pv:Nat->Value)(k:Nat)(a0:Library)(a1:ByteArray){y:_}(h:Z63.F k a0 a1=some y):Q8 Tryz.prog Q0 pv (.f 38) (Qa [.lib,.str] (a0,a1,())) (.t (.int .i64) y):=
 Q7 hE (Z63.G hE pv k) (f:=38) (fn:=Tryz.f38) (by kernel_rfl) rfl (by kernel_rfl) (by kernel_rfl) ((Z63.run k a0 a1).trans h) (λr hr=>Q1 hr)
def Z34.l0:Nat->(List ByteArray)->ByteArray->Int->Int->Option (Sum Int Unit)
 |0,_,_,_,_=>none
 |k+1,x0,x1,x7,x8=>bif (decide (x8<x7))then(bif decide (0<=x8)then(bif decide (x8<(x0.length:Int))then(bif (Qu x1 (x0.getD (x8:Int).toNat (⟨#[]⟩:ByteArray)))then(some (.inl x8))else(Z34.l0 k x0 x1 x7 (IntKind.wrap .i64 (x8+1))))else none)else none)else(some (.inr ()))
def Z34.F (k:Nat)(a0:List ByteArray)(a1:ByteArray):Option (Int):=(Z34.l0 k a0 a1 (a0.length:Int) 0).bind λy1=>match y1 with|.inl z2=>some z2|.inr z2=>some (-1)
def Z34.C (k:Nat):Cal->Option CArm:=λc=>match c with
 |_=>none
def Z34.sp0:List Sp:=[.t 0 (.sl .str),.t 1 .str,.t 7 (.int .i64),.t 8 (.int .i64)]
def Z34.sp0_0:List Sp:=[.t 4 (.int .i64)]
def Z34.sp0_1:List Sp:=[]
def Z34.A0:LArm:=.two Z34.sp0 Z34.sp0_0 Z34.sp0_1 (Int) (Unit) (λk x=>Z34.l0 k x.1 x.2.1 x.2.2.1 x.2.2.2.1) .ret (.exit 0) (λy=>(y,())) (λx=>x.1) (λy=>()) (λx=>())
def Z34.L:Nat->Option LArm:=λb=>match b with
 |0=>some Z34.A0
 |_=>none
theorem Z34.run (k:Nat)(a0:List ByteArray)(a1:ByteArray):Ql Q0 (Q6 (Z34.C k)) (Q4 19 k Z34.L) Tryz.f59 [.t (.sl .str) a0,.t .str a1] (Q2 (.t (.int .i64)))=Z34.F k a0 a1:=by kernel_rfl
theorem Z34.step0 (k:Nat)(x0:List ByteArray)(x1:ByteArray)(x7:Int)(x8:Int):Qp Q0 (Q6 (Z34.C k)) (Q4 19 k Z34.L) 0 (Qi Tryz.f59 0) (Qz 19 Z34.sp0 (x0,x1,x7,x8,())) (Z34.A0.cont 19 k)=Z34.l0 (k+1) x0 x1 x7 x8:=by kernel_rfl
theorem Z34.G (hE:EnvOk Tryz.prog Q0)(pv:Nat->Value)(k:Nat):∀cal A,Z34.C k cal=some A->Q9 Tryz.prog Q0 pv cal A:=by
 intro cal A h
 unfold Z34.C at h
 cases h
theorem Z34.good (hE:EnvOk Tryz.prog Q0)(pv:Nat->Value)(k:Nat)(a0:List ByteArray)(a1:ByteArray){y:_}(h:Z34.F k a0 a1=some y):Q8 Tryz.prog Q0 pv (.f 59) (Qa [(.sl .str),.str] (a0,a1,())) (.t (.int .i64) y):=
 Qg hE (t:=Z34.C) k (λk _=>Z34.G hE pv k) (f:=59) (fn:=Tryz.f59) (by kernel_rfl) rfl (by kernel_rfl) (by kernel_rfl) (lt:=Z34.L) (by kernel_rfl) (λb A h=>by
  unfold Z34.L at h;split at h
  ·cases h;exact⟨by kernel_rfl,by kernel_rfl,by kernel_rfl,λ_=>rfl,λ_=>rfl,λ_=>rfl⟩
  ·cases h) (λb A h=>by
  unfold Z34.L at h;split at h
  ·cases h;exact λk x=>Z34.step0 k x.1 x.2.1 x.2.2.1 x.2.2.2.1
  ·cases h) ((Z34.run k a0 a1).trans h) (λr hr=>Q1 hr)
def Z111.F (k:Nat)(a0:List ByteArray)(a1:ByteArray):Option (Bool):=(Z34.F k a0 a1).bind λr1=>some (decide (r1 ≥ 0))
def Z111.C (k:Nat):Cal->Option CArm:=λc=>match c with
 |.f 59=>some (.p [(.sl .str),.str] _ (λx=>Z34.F k x.1 x.2.1) (λr=>(.t (.int .i64) r)))
 |_=>none
theorem Z111.run (k:Nat)(a0:List ByteArray)(a1:ByteArray):Ql Q0 (Q6 (Z111.C k)) (Q4 9 0 (λ_=>none)) Tryz.f39 [.t (.sl .str) a0,.t .str a1] (Q2 (.t .bool))=Z111.F k a0 a1:=by kernel_rfl
theorem Z111.G (hE:EnvOk Tryz.prog Q0)(pv:Nat->Value)(k:Nat):∀cal A,Z111.C k cal=some A->Q9 Tryz.prog Q0 pv cal A:=by
 intro cal A h
 unfold Z111.C at h
 split at h
 ·cases h;exact λx y hy=>Z34.good hE pv k x.1 x.2.1 hy
 ·cases h
theorem Z111.good (hE:EnvOk Tryz.prog Q0)(pv:Nat->Value)(k:Nat)(a0:List ByteArray)(a1:ByteArray){y:_}(h:Z111.F k a0 a1=some y):Q8 Tryz.prog Q0 pv (.f 39) (Qa [(.sl .str),.str] (a0,a1,())) (.t .bool y):=
 Q7 hE (Z111.G hE pv k) (f:=39) (fn:=Tryz.f39) (by kernel_rfl) rfl (by kernel_rfl) (by kernel_rfl) ((Z111.run k a0 a1).trans h) (λr hr=>Q1 hr)
def Z62.F (a0:Int)(a1:Int)(a2:Int):Option (Bool):=bif (decide (a0 ≥ a1))then(some (decide (a0<=a2)))else(some false)
def Z62.C:Cal->Option CArm:=λc=>match c with
 |_=>none
theorem Z62.run (a0:Int)(a1:Int)(a2:Int):Ql Q0 (Q6 Z62.C) (Q4 15 0 (λ_=>none)) Tryz.f88 [.t (.int .i64) a0,.t (.int .i64) a1,.t (.int .i64) a2] (Q2 (.t .bool))=Z62.F a0 a1 a2:=by kernel_rfl
theorem Z62.G (hE:EnvOk Tryz.prog Q0)(pv:Nat->Value):∀cal A,Z62.C cal=some A->Q9 Tryz.prog Q0 pv cal A:=by
 intro cal A h
 unfold Z62.C at h
 cases h
theorem Z62.good (hE:EnvOk Tryz.prog Q0)(pv:Nat->Value)(a0:Int)(a1:Int)(a2:Int){y:_}(h:Z62.F a0 a1 a2=some y):Q8 Tryz.prog Q0 pv (.f 88) (Qa [(.int .i64),(.int .i64),(.int .i64)] (a0,a1,a2,())) (.t .bool y):=
 Q7 hE (Z62.G hE pv) (f:=88) (fn:=Tryz.f88) (by kernel_rfl) rfl (by kernel_rfl) (by kernel_rfl) ((Z62.run a0 a1 a2).trans h) (λr hr=>Q1 hr)
def Z67.F (a0:Int):Option (Bool):=bif (decide (a0 ≥ 97))then(some (decide (a0<=122)))else(some false)
def Z67.C:Cal->Option CArm:=λc=>match c with
 |_=>none
theorem Z67.run (a0:Int):Ql Q0 (Q6 Z67.C) (Q4 9 0 (λ_=>none)) Tryz.f116 [.t (.int .u8) a0] (Q2 (.t .bool))=Z67.F a0:=by kernel_rfl
theorem Z67.G (hE:EnvOk Tryz.prog Q0)(pv:Nat->Value):∀cal A,Z67.C cal=some A->Q9 Tryz.prog Q0 pv cal A:=by
 intro cal A h
 unfold Z67.C at h
 cases h
theorem Z67.good (hE:EnvOk Tryz.prog Q0)(pv:Nat->Value)(a0:Int){y:_}(h:Z67.F a0=some y):Q8 Tryz.prog Q0 pv (.f 116) (Qa [(.int .u8)] (a0,())) (.t .bool y):=
 Q7 hE (Z67.G hE pv) (f:=116) (fn:=Tryz.f116) (by kernel_rfl) rfl (by kernel_rfl) (by kernel_rfl) ((Z67.run a0).trans h) (λr hr=>Q1 hr)
def Z79.F (a0:Int):Option (Bool):=bif (decide (a0 ≥ 48))then(some (decide (a0<=57)))else(some false)
def Z79.C:Cal->Option CArm:=λc=>match c with
 |_=>none
theorem Z79.run (a0:Int):Ql Q0 (Q6 Z79.C) (Q4 9 0 (λ_=>none)) Tryz.f117 [.t (.int .u8) a0] (Q2 (.t .bool))=Z79.F a0:=by kernel_rfl
theorem Z79.G (hE:EnvOk Tryz.prog Q0)(pv:Nat->Value):∀cal A,Z79.C cal=some A->Q9 Tryz.prog Q0 pv cal A:=by
 intro cal A h
 unfold Z79.C at h
 cases h
theorem Z79.good (hE:EnvOk Tryz.prog Q0)(pv:Nat->Value)(a0:Int){y:_}(h:Z79.F a0=some y):Q8 Tryz.prog Q0 pv (.f 117) (Qa [(.int .u8)] (a0,())) (.t .bool y):=
 Q7 hE (Z79.G hE pv) (f:=117) (fn:=Tryz.f117) (by kernel_rfl) rfl (by kernel_rfl) (by kernel_rfl) ((Z79.run a0).trans h) (λr hr=>Q1 hr)
def Z19.l0:Nat->ByteArray->Int->Option (Sum Bool Unit)
 |0,_,_=>none
 |k+1,x0,x3=>bif (decide (x3<(x0.size:Int)))then(bif decide (0<=x3)then(bif decide (x3<(x0.size:Int))then((Z67.F (bt x0 (x3:Int).toNat)).bind λr3=>bif (!r3)then(bif decide (0<=x3)then(bif decide (x3<(x0.size:Int))then((Z79.F (bt x0 (x3:Int).toNat)).bind λr4=>bif (!r4)then(some (.inl false))else(Z19.l0 k x0 (IntKind.wrap .i64 (x3+1))))else none)else none)else(Z19.l0 k x0 (IntKind.wrap .i64 (x3+1))))else none)else none)else(some (.inr ()))
def Z19.F (k:Nat)(a0:ByteArray):Option (Bool):=(Z62.F (a0.size:Int) 1 10).bind λr1=>bif (!r1)then(some false)else(bif decide (0<=0)then(bif decide (0<(a0.size:Int))then((Z67.F (bt a0 (0:Int).toNat)).bind λr2=>bif (!r2)then(some false)else((Z19.l0 k a0 0).bind λy5=>match y5 with|.inl z6=>some z6|.inr z6=>some true))else none)else none)
def Z19.C (k:Nat):Cal->Option CArm:=λc=>match c with
 |.f 88=>some (.p [(.int .i64),(.int .i64),(.int .i64)] _ (λx=>Z62.F x.1 x.2.1 x.2.2.1) (λr=>(.t .bool r)))
 |.f 116=>some (.p [(.int .u8)] _ (λx=>Z67.F x.1) (λr=>(.t .bool r)))
 |.f 117=>some (.p [(.int .u8)] _ (λx=>Z79.F x.1) (λr=>(.t .bool r)))
 |_=>none
def Z19.sp0:List Sp:=[.t 0 .str,.t 3 (.int .i64)]
def Z19.sp0_0:List Sp:=[.t 2 .bool]
def Z19.sp0_1:List Sp:=[]
def Z19.A0:LArm:=.two Z19.sp0 Z19.sp0_0 Z19.sp0_1 (Bool) (Unit) (λk x=>Z19.l0 k x.1 x.2.1) .ret (.exit 0) (λy=>(y,())) (λx=>x.1) (λy=>()) (λx=>())
def Z19.L:Nat->Option LArm:=λb=>match b with
 |0=>some Z19.A0
 |_=>none
theorem Z19.run (k:Nat)(a0:ByteArray):Ql Q0 (Q6 (Z19.C k)) (Q4 32 k Z19.L) Tryz.f84 [.t .str a0] (Q2 (.t .bool))=Z19.F k a0:=by kernel_rfl
theorem Z19.step0 (k:Nat)(x0:ByteArray)(x3:Int):Qp Q0 (Q6 (Z19.C k)) (Q4 32 k Z19.L) 0 (Qi Tryz.f84 0) (Qz 32 Z19.sp0 (x0,x3,())) (Z19.A0.cont 32 k)=Z19.l0 (k+1) x0 x3:=by kernel_rfl
theorem Z19.G (hE:EnvOk Tryz.prog Q0)(pv:Nat->Value)(k:Nat):∀cal A,Z19.C k cal=some A->Q9 Tryz.prog Q0 pv cal A:=by
 intro cal A h
 unfold Z19.C at h
 split at h
 ·cases h;exact λx y hy=>Z62.good hE pv x.1 x.2.1 x.2.2.1 hy
 ·cases h;exact λx y hy=>Z67.good hE pv x.1 hy
 ·cases h;exact λx y hy=>Z79.good hE pv x.1 hy
 ·cases h
theorem Z19.good (hE:EnvOk Tryz.prog Q0)(pv:Nat->Value)(k:Nat)(a0:ByteArray){y:_}(h:Z19.F k a0=some y):Q8 Tryz.prog Q0 pv (.f 84) (Qa [.str] (a0,())) (.t .bool y):=
 Qg hE (t:=Z19.C) k (λk _=>Z19.G hE pv k) (f:=84) (fn:=Tryz.f84) (by kernel_rfl) rfl (by kernel_rfl) (by kernel_rfl) (lt:=Z19.L) (by kernel_rfl) (λb A h=>by
  unfold Z19.L at h;split at h
  ·cases h;exact⟨by kernel_rfl,by kernel_rfl,by kernel_rfl,λ_=>rfl,λ_=>rfl,λ_=>rfl⟩
  ·cases h) (λb A h=>by
  unfold Z19.L at h;split at h
  ·cases h;exact λk x=>Z19.step0 k x.1 x.2.1
  ·cases h) ((Z19.run k a0).trans h) (λr hr=>Q1 hr)
def Z127.F (a0:Int):Option (Bool):=(Z62.F a0 1 4).bind λr1=>some r1
def Z127.C:Cal->Option CArm:=λc=>match c with
 |.f 88=>some (.p [(.int .i64),(.int .i64),(.int .i64)] _ (λx=>Z62.F x.1 x.2.1 x.2.2.1) (λr=>(.t .bool r)))
 |_=>none
theorem Z127.run (a0:Int):Ql Q0 (Q6 Z127.C) (Q4 5 0 (λ_=>none)) Tryz.f85 [.t (.int .i64) a0] (Q2 (.t .bool))=Z127.F a0:=by kernel_rfl
theorem Z127.G (hE:EnvOk Tryz.prog Q0)(pv:Nat->Value):∀cal A,Z127.C cal=some A->Q9 Tryz.prog Q0 pv cal A:=by
 intro cal A h
 unfold Z127.C at h
 split at h
 ·cases h;exact λx y hy=>Z62.good hE pv x.1 x.2.1 x.2.2.1 hy
 ·cases h
theorem Z127.good (hE:EnvOk Tryz.prog Q0)(pv:Nat->Value)(a0:Int){y:_}(h:Z127.F a0=some y):Q8 Tryz.prog Q0 pv (.f 85) (Qa [(.int .i64)] (a0,())) (.t .bool y):=
 Q7 hE (Z127.G hE pv) (f:=85) (fn:=Tryz.f85) (by kernel_rfl) rfl (by kernel_rfl) (by kernel_rfl) ((Z127.run a0).trans h) (λr hr=>Q1 hr)
-- NO 137 slices.IndexFunc[[]loop.example/g00896/impl.Name,loop.example/g00896/impl.Name]: a parameter's type
-- NO 118 slices.ContainsFunc[[]loop.example/g00896/impl.Name,loop.example/g00896/impl.Name]: a parameter's type
-- NO 41 slices.IndexFunc[[]string,string]: a parameter's type
-- NO 138 slices.ContainsFunc[[]string,string]: a parameter's type
def Z68.F (a0:Int):Option (Bool):=bif (decide (a0 ≥ 65))then(some (decide (a0<=90)))else(some false)
def Z68.C:Cal->Option CArm:=λc=>match c with
 |_=>none
theorem Z68.run (a0:Int):Ql Q0 (Q6 Z68.C) (Q4 9 0 (λ_=>none)) Tryz.f128 [.t (.int .u8) a0] (Q2 (.t .bool))=Z68.F a0:=by kernel_rfl
theorem Z68.G (hE:EnvOk Tryz.prog Q0)(pv:Nat->Value):∀cal A,Z68.C cal=some A->Q9 Tryz.prog Q0 pv cal A:=by
 intro cal A h
 unfold Z68.C at h
 cases h
theorem Z68.good (hE:EnvOk Tryz.prog Q0)(pv:Nat->Value)(a0:Int){y:_}(h:Z68.F a0=some y):Q8 Tryz.prog Q0 pv (.f 128) (Qa [(.int .u8)] (a0,())) (.t .bool y):=
 Q7 hE (Z68.G hE pv) (f:=128) (fn:=Tryz.f128) (by kernel_rfl) rfl (by kernel_rfl) (by kernel_rfl) ((Z68.run a0).trans h) (λr hr=>Q1 hr)
def Z74.F (a0:Int):Option (Bool):=(Z68.F a0).bind λr1=>bif r1 then(some true)else((Z67.F a0).bind λr2=>some r2)
def Z74.C:Cal->Option CArm:=λc=>match c with
 |.f 128=>some (.p [(.int .u8)] _ (λx=>Z68.F x.1) (λr=>(.t .bool r)))
 |.f 116=>some (.p [(.int .u8)] _ (λx=>Z67.F x.1) (λr=>(.t .bool r)))
 |_=>none
theorem Z74.run (a0:Int):Ql Q0 (Q6 Z74.C) (Q4 9 0 (λ_=>none)) Tryz.f152 [.t (.int .u8) a0] (Q2 (.t .bool))=Z74.F a0:=by kernel_rfl
theorem Z74.G (hE:EnvOk Tryz.prog Q0)(pv:Nat->Value):∀cal A,Z74.C cal=some A->Q9 Tryz.prog Q0 pv cal A:=by
 intro cal A h
 unfold Z74.C at h
 split at h
 ·cases h;exact λx y hy=>Z68.good hE pv x.1 hy
 ·cases h;exact λx y hy=>Z67.good hE pv x.1 hy
 ·cases h
theorem Z74.good (hE:EnvOk Tryz.prog Q0)(pv:Nat->Value)(a0:Int){y:_}(h:Z74.F a0=some y):Q8 Tryz.prog Q0 pv (.f 152) (Qa [(.int .u8)] (a0,())) (.t .bool y):=
 Q7 hE (Z74.G hE pv) (f:=152) (fn:=Tryz.f152) (by kernel_rfl) rfl (by kernel_rfl) (by kernel_rfl) ((Z74.run a0).trans h) (λr hr=>Q1 hr)
def Z14.l0:Nat->ByteArray->Int->Option (Sum Bool Unit)
 |0,_,_=>none
 |k+1,x0,x3=>bif (decide (x3<(x0.size:Int)))then(bif decide (0<=x3)then(bif decide (x3<(x0.size:Int))then((Z74.F (bt x0 (x3:Int).toNat)).bind λr4=>bif (!r4)then(bif decide (0<=x3)then(bif decide (x3<(x0.size:Int))then(bif ((bt x0 (x3:Int).toNat) != 45)then(bif decide (0<=x3)then(bif decide (x3<(x0.size:Int))then(bif ((bt x0 (x3:Int).toNat) != 39)then(some (.inl false))else(bif decide (0<=(IntKind.wrap .i64 (x3-1)))then(bif decide ((IntKind.wrap .i64 (x3-1))<(x0.size:Int))then((Z74.F (bt x0 ((IntKind.wrap .i64 (x3-1)):Int).toNat)).bind λr5=>bif (!r5)then(some (.inl false))else(Z14.l0 k x0 (IntKind.wrap .i64 (x3+1))))else none)else none))else none)else none)else(bif decide (0<=(IntKind.wrap .i64 (x3-1)))then(bif decide ((IntKind.wrap .i64 (x3-1))<(x0.size:Int))then((Z74.F (bt x0 ((IntKind.wrap .i64 (x3-1)):Int).toNat)).bind λr6=>bif (!r6)then(some (.inl false))else(Z14.l0 k x0 (IntKind.wrap .i64 (x3+1))))else none)else none))else none)else none)else(Z14.l0 k x0 (IntKind.wrap .i64 (x3+1))))else none)else none)else(some (.inr ()))
def Z14.F (k:Nat)(a0:ByteArray):Option (Bool):=(Z62.F (a0.size:Int) 1 12).bind λr1=>bif (!r1)then(some false)else(bif decide (0<=(IntKind.wrap .i64 ((a0.size:Int)-1)))then(bif decide ((IntKind.wrap .i64 ((a0.size:Int)-1))<(a0.size:Int))then((Z74.F (bt a0 ((IntKind.wrap .i64 ((a0.size:Int)-1)):Int).toNat)).bind λr2=>bif (!r2)then(some false)else(bif decide (0<=0)then(bif decide (0<(a0.size:Int))then((Z74.F (bt a0 (0:Int).toNat)).bind λr3=>bif (!r3)then(some false)else((Z14.l0 k a0 0).bind λy7=>match y7 with|.inl z8=>some z8|.inr z8=>some true))else none)else none))else none)else none)
def Z14.C (k:Nat):Cal->Option CArm:=λc=>match c with
 |.f 88=>some (.p [(.int .i64),(.int .i64),(.int .i64)] _ (λx=>Z62.F x.1 x.2.1 x.2.2.1) (λr=>(.t .bool r)))
 |.f 152=>some (.p [(.int .u8)] _ (λx=>Z74.F x.1) (λr=>(.t .bool r)))
 |_=>none
def Z14.sp0:List Sp:=[.t 0 .str,.t 3 (.int .i64)]
def Z14.sp0_0:List Sp:=[.t 2 .bool]
def Z14.sp0_1:List Sp:=[]
def Z14.A0:LArm:=.two Z14.sp0 Z14.sp0_0 Z14.sp0_1 (Bool) (Unit) (λk x=>Z14.l0 k x.1 x.2.1) .ret (.exit 0) (λy=>(y,())) (λx=>x.1) (λy=>()) (λx=>())
def Z14.L:Nat->Option LArm:=λb=>match b with
 |0=>some Z14.A0
 |_=>none
theorem Z14.run (k:Nat)(a0:ByteArray):Ql Q0 (Q6 (Z14.C k)) (Q4 54 k Z14.L) Tryz.f142 [.t .str a0] (Q2 (.t .bool))=Z14.F k a0:=by kernel_rfl
theorem Z14.step0 (k:Nat)(x0:ByteArray)(x3:Int):Qp Q0 (Q6 (Z14.C k)) (Q4 54 k Z14.L) 0 (Qi Tryz.f142 0) (Qz 54 Z14.sp0 (x0,x3,())) (Z14.A0.cont 54 k)=Z14.l0 (k+1) x0 x3:=by kernel_rfl
theorem Z14.G (hE:EnvOk Tryz.prog Q0)(pv:Nat->Value)(k:Nat):∀cal A,Z14.C k cal=some A->Q9 Tryz.prog Q0 pv cal A:=by
 intro cal A h
 unfold Z14.C at h
 split at h
 ·cases h;exact λx y hy=>Z62.good hE pv x.1 x.2.1 x.2.2.1 hy
 ·cases h;exact λx y hy=>Z74.good hE pv x.1 hy
 ·cases h
theorem Z14.good (hE:EnvOk Tryz.prog Q0)(pv:Nat->Value)(k:Nat)(a0:ByteArray){y:_}(h:Z14.F k a0=some y):Q8 Tryz.prog Q0 pv (.f 142) (Qa [.str] (a0,())) (.t .bool y):=
 Qg hE (t:=Z14.C) k (λk _=>Z14.G hE pv k) (f:=142) (fn:=Tryz.f142) (by kernel_rfl) rfl (by kernel_rfl) (by kernel_rfl) (lt:=Z14.L) (by kernel_rfl) (λb A h=>by
  unfold Z14.L at h;split at h
  ·cases h;exact⟨by kernel_rfl,by kernel_rfl,by kernel_rfl,λ_=>rfl,λ_=>rfl,λ_=>rfl⟩
  ·cases h) (λb A h=>by
  unfold Z14.L at h;split at h
  ·cases h;exact λk x=>Z14.step0 k x.1 x.2.1
  ·cases h) ((Z14.run k a0).trans h) (λr hr=>Q1 hr)
def Z80.F (k:Nat)(a0:ByteArray):Option (Bool):=(Z14.F k a0).bind λr1=>bif r1 then(bif decide (0<=0)then(bif decide (0<(a0.size:Int))then((Z68.F (bt a0 (0:Int).toNat)).bind λr2=>some r2)else none)else none)else(some false)
def Z80.C (k:Nat):Cal->Option CArm:=λc=>match c with
 |.f 142=>some (.p [.str] _ (λx=>Z14.F k x.1) (λr=>(.t .bool r)))
 |.f 128=>some (.p [(.int .u8)] _ (λx=>Z68.F x.1) (λr=>(.t .bool r)))
 |_=>none
theorem Z80.run (k:Nat)(a0:ByteArray):Ql Q0 (Q6 (Z80.C k)) (Q4 10 0 (λ_=>none)) Tryz.f140 [.t .str a0] (Q2 (.t .bool))=Z80.F k a0:=by kernel_rfl
theorem Z80.G (hE:EnvOk Tryz.prog Q0)(pv:Nat->Value)(k:Nat):∀cal A,Z80.C k cal=some A->Q9 Tryz.prog Q0 pv cal A:=by
 intro cal A h
 unfold Z80.C at h
 split at h
 ·cases h;exact λx y hy=>Z14.good hE pv k x.1 hy
 ·cases h;exact λx y hy=>Z68.good hE pv x.1 hy
 ·cases h
theorem Z80.good (hE:EnvOk Tryz.prog Q0)(pv:Nat->Value)(k:Nat)(a0:ByteArray){y:_}(h:Z80.F k a0=some y):Q8 Tryz.prog Q0 pv (.f 140) (Qa [.str] (a0,())) (.t .bool y):=
 Q7 hE (Z80.G hE pv k) (f:=140) (fn:=Tryz.f140) (by kernel_rfl) rfl (by kernel_rfl) (by kernel_rfl) ((Z80.run k a0).trans h) (λr hr=>Q1 hr)
def Z92.F (k:Nat)(a0:ByteArray):Option (Bool):=(Z80.F k a0).bind λr1=>some (!r1)
def Z92.C (k:Nat):Cal->Option CArm:=λc=>match c with
 |.f 140=>some (.p [.str] _ (λx=>Z80.F k x.1) (λr=>(.t .bool r)))
 |_=>none
theorem Z92.run (k:Nat)(a0:ByteArray):Ql Q0 (Q6 (Z92.C k)) (Q4 6 0 (λ_=>none)) Tryz.f139 [.t .str a0] (Q2 (.t .bool))=Z92.F k a0:=by kernel_rfl
theorem Z92.G (hE:EnvOk Tryz.prog Q0)(pv:Nat->Value)(k:Nat):∀cal A,Z92.C k cal=some A->Q9 Tryz.prog Q0 pv cal A:=by
 intro cal A h
 unfold Z92.C at h
 split at h
 ·cases h;exact λx y hy=>Z80.good hE pv k x.1 hy
 ·cases h
theorem Z92.good (hE:EnvOk Tryz.prog Q0)(pv:Nat->Value)(k:Nat)(a0:ByteArray){y:_}(h:Z92.F k a0=some y):Q8 Tryz.prog Q0 pv (.f 139) (Qa [.str] (a0,())) (.t .bool y):=
 Q7 hE (Z92.G hE pv k) (f:=139) (fn:=Tryz.f139) (by kernel_rfl) rfl (by kernel_rfl) (by kernel_rfl) ((Z92.run k a0).trans h) (λr hr=>Q1 hr)
def Z135.F (a0:ByteArray)(a1:ByteArray):Option (List ByteArray):=Q3n a0 a1
theorem Z135.good (hE:EnvOk Tryz.prog Q0)(pv:Nat->Value)(a0:ByteArray)(a1:ByteArray){y:_}(h:Z135.F a0 a1=some y):Q8 Tryz.prog Q0 pv (.f 151) (Qa [.str,.str] (a0,a1,())) (.fr 9 .str y):=
 Q7X (fn:=Tryz.f151) (by kernel_rfl) rfl (by kernel_rfl) (mx:=0) (by kernel_rfl) Tryz.strings_Split h
def Z3.l2:Nat->(List ByteArray)->ByteArray->Int->Int->Int->Option (Sum Bool ((List ByteArray)×Int×Int))
 |0,_,_,_,_,_=>none
 |k+1,x3,x5,x6,x12,x13=>bif (decide (x6<(x5.size:Int)))then(bif decide (0<=x6)then(bif decide (x6<(x5.size:Int))then((Z67.F (bt x5 (x6:Int).toNat)).bind λr3=>bif (!r3)then(some (.inl false))else(Z3.l2 k x3 x5 (IntKind.wrap .i64 (x6+1)) x12 x13))else none)else none)else(some (.inr (x3,x12,x13)))
def Z3.l0:Nat->(List ByteArray)->Int->Int->Option (Sum Bool (List ByteArray))
 |0,_,_,_=>none
 |k+1,x3,x12,x13=>bif (decide (x13<x12))then(bif decide (0<=x13)then(bif decide (x13<(x3.length:Int))then((Z62.F ((x3.getD ((x13:Int).toNat) (⟨#[]⟩:ByteArray)).size:Int) 1 12).bind λr2=>bif (!r2)then(some (.inl false))else((Z3.l2 k x3 (x3.getD ((x13:Int).toNat) (⟨#[]⟩:ByteArray)) 0 x12 x13).bind λy4=>match y4 with|.inl z5=>some (.inl z5)|.inr z5=>Z3.l0 k z5.1 z5.2.1 (IntKind.wrap .i64 (z5.2.2+1))))else none)else none)else(some (.inr x3))
def Z3.F (k:Nat)(a0:ByteArray):Option (Bool):=bif (Qu a0 (⟨#[]⟩:ByteArray))then(some true)else((Z135.F a0 (⟨#[32]⟩:ByteArray)).bind λr1=>(Z3.l0 k r1 (r1.length:Int) 0).bind λy6=>match y6 with|.inl z7=>some z7|.inr z7=>some (decide ((z7.length:Int)<=2)))
def Z3.C (k:Nat):Cal->Option CArm:=λc=>match c with
 |.f 151=>some (.p [.str,.str] _ (λx=>Z135.F x.1 x.2.1) (λr=>(.fr 9 .str r)))
 |.f 88=>some (.p [(.int .i64),(.int .i64),(.int .i64)] _ (λx=>Z62.F x.1 x.2.1 x.2.2.1) (λr=>(.t .bool r)))
 |.f 116=>some (.p [(.int .u8)] _ (λx=>Z67.F x.1) (λr=>(.t .bool r)))
 |_=>none
def Z3.sp2:List Sp:=[.own 3 3076 9 .str false true,.t 5 .str,.t 6 (.int .i64),.con 11 (.own 3076),.t 12 (.int .i64),.t 13 (.int .i64)]
def Z3.sp2_0:List Sp:=[.t 2 .bool]
def Z3.sp2_1:List Sp:=[.own 3 3076 9 .str false true,.con 11 (.own 3076),.t 12 (.int .i64),.t 13 (.int .i64)]
def Z3.A2:LArm:=.two Z3.sp2 Z3.sp2_0 Z3.sp2_1 (Bool) ((List ByteArray)×Int×Int) (λk x=>Z3.l2 k x.1 x.2.1 x.2.2.1 x.2.2.2.2.1 x.2.2.2.2.2.1) .ret (.exit 2) (λy=>(y,())) (λx=>x.1) (λy=>(y.1,(),y.2.1,y.2.2,())) (λx=>(x.1,x.2.2.1,x.2.2.2.1))
def Z3.sp0:List Sp:=[.own 3 3076 9 .str false true,.con 11 (.own 3076),.t 12 (.int .i64),.t 13 (.int .i64)]
def Z3.sp0_0:List Sp:=[.t 2 .bool]
def Z3.sp0_1:List Sp:=[.own 3 3076 9 .str false true]
def Z3.A0:LArm:=.two Z3.sp0 Z3.sp0_0 Z3.sp0_1 (Bool) ((List ByteArray)) (λk x=>Z3.l0 k x.1 x.2.2.1 x.2.2.2.1) .ret (.exit 0) (λy=>(y,())) (λx=>x.1) (λy=>(y,())) (λx=>x.1)
def Z3.L:Nat->Option LArm:=λb=>match b with
 |2=>some Z3.A2
 |0=>some Z3.A0
 |_=>none
theorem Z3.run (k:Nat)(a0:ByteArray):Ql Q0 (Q6 (Z3.C k)) (Q4 36 k Z3.L) Tryz.f141 [.t .str a0] (Q2 (.t .bool))=Z3.F k a0:=by kernel_rfl
theorem Z3.step2 (k:Nat)(x3:List ByteArray)(x5:ByteArray)(x6:Int)(x12:Int)(x13:Int):Qp Q0 (Q6 (Z3.C k)) (Q4 36 k Z3.L) 2 (Qi Tryz.f141 2) (Qz 36 Z3.sp2 (x3,x5,x6,(),x12,x13,())) (Z3.A2.cont 36 k)=Z3.l2 (k+1) x3 x5 x6 x12 x13:=by kernel_rfl
theorem Z3.step0 (k:Nat)(x3:List ByteArray)(x12:Int)(x13:Int):Qp Q0 (Q6 (Z3.C k)) (Q4 36 k Z3.L) 0 (Qi Tryz.f141 0) (Qz 36 Z3.sp0 (x3,(),x12,x13,())) (Z3.A0.cont 36 k)=Z3.l0 (k+1) x3 x12 x13:=by kernel_rfl
theorem Z3.G (hE:EnvOk Tryz.prog Q0)(pv:Nat->Value)(k:Nat):∀cal A,Z3.C k cal=some A->Q9 Tryz.prog Q0 pv cal A:=by
 intro cal A h
 unfold Z3.C at h
 split at h
 ·cases h;exact λx y hy=>Z135.good hE pv x.1 x.2.1 hy
 ·cases h;exact λx y hy=>Z62.good hE pv x.1 x.2.1 x.2.2.1 hy
 ·cases h;exact λx y hy=>Z67.good hE pv x.1 hy
 ·cases h
theorem Z3.good (hE:EnvOk Tryz.prog Q0)(pv:Nat->Value)(k:Nat)(a0:ByteArray){y:_}(h:Z3.F k a0=some y):Q8 Tryz.prog Q0 pv (.f 141) (Qa [.str] (a0,())) (.t .bool y):=
 Qg hE (t:=Z3.C) k (λk _=>Z3.G hE pv k) (f:=141) (fn:=Tryz.f141) (by kernel_rfl) rfl (by kernel_rfl) (by kernel_rfl) (lt:=Z3.L) (by kernel_rfl) (λb A h=>by
  unfold Z3.L at h;split at h
  ·cases h;exact⟨by kernel_rfl,by kernel_rfl,by kernel_rfl,λ_=>rfl,λ_=>rfl,λ_=>rfl⟩
  ·cases h;exact⟨by kernel_rfl,by kernel_rfl,by kernel_rfl,λ_=>rfl,λ_=>rfl,λ_=>rfl⟩
  ·cases h) (λb A h=>by
  unfold Z3.L at h;split at h
  ·cases h;exact λk x=>Z3.step2 k x.1 x.2.1 x.2.2.1 x.2.2.2.2.1 x.2.2.2.2.2.1
  ·cases h;exact λk x=>Z3.step0 k x.1 x.2.2.1 x.2.2.2.1
  ·cases h) ((Z3.run k a0).trans h) (λr hr=>Q1 hr)
def Z50.l0:Nat->(List ByteArray)->Int->Int->Option (Sum Int Unit)
 |0,_,_,_=>none
 |k+1,x0,x7,x8=>bif (decide (x8<x7))then(bif decide (0<=x8)then(bif decide (x8<(x0.length:Int))then((Z92.F k (x0.getD (x8:Int).toNat (⟨#[]⟩:ByteArray))).bind λr1=>bif r1 then(some (.inl x8))else(Z50.l0 k x0 x7 (IntKind.wrap .i64 (x8+1))))else none)else none)else(some (.inr ()))
def Z50.F (k:Nat)(a0:List ByteArray):Option (Int):=(Z50.l0 k a0 (a0.length:Int) 0).bind λy2=>match y2 with|.inl z3=>some z3|.inr z3=>some (-1)
def Z50.C (k:Nat):Cal->Option CArm:=λc=>match c with
 |.f 139=>some (.p [.str] _ (λx=>Z92.F k x.1) (λr=>(.t .bool r)))
 |_=>none
def Z50.sp0:List Sp:=[.t 0 (.sl .str),.con 1 (.clo 139),.t 7 (.int .i64),.t 8 (.int .i64)]
def Z50.sp0_0:List Sp:=[.t 4 (.int .i64)]
def Z50.sp0_1:List Sp:=[]
def Z50.A0:LArm:=.two Z50.sp0 Z50.sp0_0 Z50.sp0_1 (Int) (Unit) (λk x=>Z50.l0 k x.1 x.2.2.1 x.2.2.2.1) .ret (.exit 0) (λy=>(y,())) (λx=>x.1) (λy=>()) (λx=>())
def Z50.L:Nat->Option LArm:=λb=>match b with
 |0=>some Z50.A0
 |_=>none
theorem Z50.run (k:Nat)(a0:List ByteArray):Ql Q0 (Q6 (Z50.C k)) (Q4 19 k Z50.L) Tryz.f41 [.t (.sl .str) a0,.clo 139 []] (Q2 (.t (.int .i64)))=Z50.F k a0:=by kernel_rfl
theorem Z50.step0 (k:Nat)(x0:List ByteArray)(x7:Int)(x8:Int):Qp Q0 (Q6 (Z50.C k)) (Q4 19 k Z50.L) 0 (Qi Tryz.f41 0) (Qz 19 Z50.sp0 (x0,(),x7,x8,())) (Z50.A0.cont 19 k)=Z50.l0 (k+1) x0 x7 x8:=by kernel_rfl
theorem Z50.G (hE:EnvOk Tryz.prog Q0)(pv:Nat->Value)(k:Nat):∀cal A,Z50.C k cal=some A->Q9 Tryz.prog Q0 pv cal A:=by
 intro cal A h
 unfold Z50.C at h
 split at h
 ·cases h;exact λx y hy=>Z92.good hE pv k x.1 hy
 ·cases h
theorem Z50.good (hE:EnvOk Tryz.prog Q0)(pv:Nat->Value)(k:Nat)(a0:List ByteArray){y:_}(h:Z50.F k a0=some y):Q8 Tryz.prog Q0 pv (.f 41) (JM [.t (.sl .str),.clo 139 []] (a0,(()),())) (.t (.int .i64) y):=
 Qg hE (t:=Z50.C) k (λk _=>Z50.G hE pv k) (f:=41) (fn:=Tryz.f41) (by kernel_rfl) rfl (by kernel_rfl) (by kernel_rfl) (lt:=Z50.L) (by kernel_rfl) (λb A h=>by
  unfold Z50.L at h;split at h
  ·cases h;exact⟨by kernel_rfl,by kernel_rfl,by kernel_rfl,λ_=>rfl,λ_=>rfl,λ_=>rfl⟩
  ·cases h) (λb A h=>by
  unfold Z50.L at h;split at h
  ·cases h;exact λk x=>Z50.step0 k x.1 x.2.2.1 x.2.2.2.1
  ·cases h) ((Z50.run k a0).trans h) (λr hr=>Q1 hr)
def Z128.F (k:Nat)(a0:List ByteArray):Option (Bool):=(Z50.F k a0).bind λr1=>some (decide (r1 ≥ 0))
def Z128.C (k:Nat):Cal->Option CArm:=λc=>match c with
 |.f 41=>some (.q [.t (.sl .str),.clo 139 []] _ (λx=>Z50.F k x.1) (λr=>(.t (.int .i64) r)))
 |_=>none
theorem Z128.run (k:Nat)(a0:List ByteArray):Ql Q0 (Q6 (Z128.C k)) (Q4 9 0 (λ_=>none)) Tryz.f138 [.t (.sl .str) a0,.clo 139 []] (Q2 (.t .bool))=Z128.F k a0:=by kernel_rfl
theorem Z128.G (hE:EnvOk Tryz.prog Q0)(pv:Nat->Value)(k:Nat):∀cal A,Z128.C k cal=some A->Q9 Tryz.prog Q0 pv cal A:=by
 intro cal A h
 unfold Z128.C at h
 split at h
 ·cases h;exact λx y hy=>Z50.good hE pv k x.1 hy
 ·cases h
theorem Z128.good (hE:EnvOk Tryz.prog Q0)(pv:Nat->Value)(k:Nat)(a0:List ByteArray){y:_}(h:Z128.F k a0=some y):Q8 Tryz.prog Q0 pv (.f 138) (JM [.t (.sl .str),.clo 139 []] (a0,(()),())) (.t .bool y):=
 Q7 hE (Z128.G hE pv k) (f:=138) (fn:=Tryz.f138) (by kernel_rfl) rfl (by kernel_rfl) (by kernel_rfl) ((Z128.run k a0).trans h) (λr hr=>Q1 hr)
def Z112.F (k:Nat)(a0:Name):Option (Bool):=bif (decide ((a0.given.length:Int) > 3))then(some false)else((Z128.F k a0.given).bind λr1=>bif r1 then(some false)else((Z3.F k a0.particle).bind λr2=>bif r2 then((Z80.F k a0.family).bind λr3=>bif r3 then(bif (Qu a0.suffix (⟨#[]⟩:ByteArray))then(some true)else((Z14.F k a0.suffix).bind λr4=>some r4))else(some false))else(some false)))
def Z112.C (k:Nat):Cal->Option CArm:=λc=>match c with
 |.f 138=>some (.q [.t (.sl .str),.clo 139 []] _ (λx=>Z128.F k x.1) (λr=>(.t .bool r)))
 |.f 141=>some (.p [.str] _ (λx=>Z3.F k x.1) (λr=>(.t .bool r)))
 |.f 140=>some (.p [.str] _ (λx=>Z80.F k x.1) (λr=>(.t .bool r)))
 |.f 142=>some (.p [.str] _ (λx=>Z14.F k x.1) (λr=>(.t .bool r)))
 |_=>none
theorem Z112.run (k:Nat)(a0:Name):Ql Q0 (Q6 (Z112.C k)) (Q4 30 0 (λ_=>none)) Tryz.f120 [.t .name a0] (Q2 (.t .bool))=Z112.F k a0:=by kernel_rfl
theorem Z112.G (hE:EnvOk Tryz.prog Q0)(pv:Nat->Value)(k:Nat):∀cal A,Z112.C k cal=some A->Q9 Tryz.prog Q0 pv cal A:=by
 intro cal A h
 unfold Z112.C at h
 split at h
 ·cases h;exact λx y hy=>Z128.good hE pv k x.1 hy
 ·cases h;exact λx y hy=>Z3.good hE pv k x.1 hy
 ·cases h;exact λx y hy=>Z80.good hE pv k x.1 hy
 ·cases h;exact λx y hy=>Z14.good hE pv k x.1 hy
 ·cases h
theorem Z112.good (hE:EnvOk Tryz.prog Q0)(pv:Nat->Value)(k:Nat)(a0:Name){y:_}(h:Z112.F k a0=some y):Q8 Tryz.prog Q0 pv (.f 120) (Qa [.name] (a0,())) (.t .bool y):=
 Q7 hE (Z112.G hE pv k) (f:=120) (fn:=Tryz.f120) (by kernel_rfl) rfl (by kernel_rfl) (by kernel_rfl) ((Z112.run k a0).trans h) (λr hr=>Q1 hr)
def Z93.F (k:Nat)(a0:Name):Option (Bool):=(Z112.F k a0).bind λr1=>some (!r1)
def Z93.C (k:Nat):Cal->Option CArm:=λc=>match c with
 |.f 120=>some (.p [.name] _ (λx=>Z112.F k x.1) (λr=>(.t .bool r)))
 |_=>none
theorem Z93.run (k:Nat)(a0:Name):Ql Q0 (Q6 (Z93.C k)) (Q4 6 0 (λ_=>none)) Tryz.f119 [.t .name a0] (Q2 (.t .bool))=Z93.F k a0:=by kernel_rfl
theorem Z93.G (hE:EnvOk Tryz.prog Q0)(pv:Nat->Value)(k:Nat):∀cal A,Z93.C k cal=some A->Q9 Tryz.prog Q0 pv cal A:=by
 intro cal A h
 unfold Z93.C at h
 split at h
 ·cases h;exact λx y hy=>Z112.good hE pv k x.1 hy
 ·cases h
theorem Z93.good (hE:EnvOk Tryz.prog Q0)(pv:Nat->Value)(k:Nat)(a0:Name){y:_}(h:Z93.F k a0=some y):Q8 Tryz.prog Q0 pv (.f 119) (Qa [.name] (a0,())) (.t .bool y):=
 Q7 hE (Z93.G hE pv k) (f:=119) (fn:=Tryz.f119) (by kernel_rfl) rfl (by kernel_rfl) (by kernel_rfl) ((Z93.run k a0).trans h) (λr hr=>Q1 hr)
def Z51.l0:Nat->(List Name)->Int->Int->Option (Sum Int Unit)
 |0,_,_,_=>none
 |k+1,x0,x7,x8=>bif (decide (x8<x7))then(bif decide (0<=x8)then(bif decide (x8<(x0.length:Int))then((Z93.F k (x0.getD (x8:Int).toNat (Qh .name))).bind λr1=>bif r1 then(some (.inl x8))else(Z51.l0 k x0 x7 (IntKind.wrap .i64 (x8+1))))else none)else none)else(some (.inr ()))
def Z51.F (k:Nat)(a0:List Name):Option (Int):=(Z51.l0 k a0 (a0.length:Int) 0).bind λy2=>match y2 with|.inl z3=>some z3|.inr z3=>some (-1)
def Z51.C (k:Nat):Cal->Option CArm:=λc=>match c with
 |.f 119=>some (.p [.name] _ (λx=>Z93.F k x.1) (λr=>(.t .bool r)))
 |_=>none
def Z51.sp0:List Sp:=[.t 0 (.sl .name),.con 1 (.clo 119),.t 7 (.int .i64),.t 8 (.int .i64)]
def Z51.sp0_0:List Sp:=[.t 4 (.int .i64)]
def Z51.sp0_1:List Sp:=[]
def Z51.A0:LArm:=.two Z51.sp0 Z51.sp0_0 Z51.sp0_1 (Int) (Unit) (λk x=>Z51.l0 k x.1 x.2.2.1 x.2.2.2.1) .ret (.exit 0) (λy=>(y,())) (λx=>x.1) (λy=>()) (λx=>())
def Z51.L:Nat->Option LArm:=λb=>match b with
 |0=>some Z51.A0
 |_=>none
theorem Z51.run (k:Nat)(a0:List Name):Ql Q0 (Q6 (Z51.C k)) (Q4 19 k Z51.L) Tryz.f137 [.t (.sl .name) a0,.clo 119 []] (Q2 (.t (.int .i64)))=Z51.F k a0:=by kernel_rfl
theorem Z51.step0 (k:Nat)(x0:List Name)(x7:Int)(x8:Int):Qp Q0 (Q6 (Z51.C k)) (Q4 19 k Z51.L) 0 (Qi Tryz.f137 0) (Qz 19 Z51.sp0 (x0,(),x7,x8,())) (Z51.A0.cont 19 k)=Z51.l0 (k+1) x0 x7 x8:=by kernel_rfl
theorem Z51.G (hE:EnvOk Tryz.prog Q0)(pv:Nat->Value)(k:Nat):∀cal A,Z51.C k cal=some A->Q9 Tryz.prog Q0 pv cal A:=by
 intro cal A h
 unfold Z51.C at h
 split at h
 ·cases h;exact λx y hy=>Z93.good hE pv k x.1 hy
 ·cases h
theorem Z51.good (hE:EnvOk Tryz.prog Q0)(pv:Nat->Value)(k:Nat)(a0:List Name){y:_}(h:Z51.F k a0=some y):Q8 Tryz.prog Q0 pv (.f 137) (JM [.t (.sl .name),.clo 119 []] (a0,(()),())) (.t (.int .i64) y):=
 Qg hE (t:=Z51.C) k (λk _=>Z51.G hE pv k) (f:=137) (fn:=Tryz.f137) (by kernel_rfl) rfl (by kernel_rfl) (by kernel_rfl) (lt:=Z51.L) (by kernel_rfl) (λb A h=>by
  unfold Z51.L at h;split at h
  ·cases h;exact⟨by kernel_rfl,by kernel_rfl,by kernel_rfl,λ_=>rfl,λ_=>rfl,λ_=>rfl⟩
  ·cases h) (λb A h=>by
  unfold Z51.L at h;split at h
  ·cases h;exact λk x=>Z51.step0 k x.1 x.2.2.1 x.2.2.2.1
  ·cases h) ((Z51.run k a0).trans h) (λr hr=>Q1 hr)
def Z129.F (k:Nat)(a0:List Name):Option (Bool):=(Z51.F k a0).bind λr1=>some (decide (r1 ≥ 0))
def Z129.C (k:Nat):Cal->Option CArm:=λc=>match c with
 |.f 137=>some (.q [.t (.sl .name),.clo 119 []] _ (λx=>Z51.F k x.1) (λr=>(.t (.int .i64) r)))
 |_=>none
theorem Z129.run (k:Nat)(a0:List Name):Ql Q0 (Q6 (Z129.C k)) (Q4 9 0 (λ_=>none)) Tryz.f118 [.t (.sl .name) a0,.clo 119 []] (Q2 (.t .bool))=Z129.F k a0:=by kernel_rfl
theorem Z129.G (hE:EnvOk Tryz.prog Q0)(pv:Nat->Value)(k:Nat):∀cal A,Z129.C k cal=some A->Q9 Tryz.prog Q0 pv cal A:=by
 intro cal A h
 unfold Z129.C at h
 split at h
 ·cases h;exact λx y hy=>Z51.good hE pv k x.1 hy
 ·cases h
theorem Z129.good (hE:EnvOk Tryz.prog Q0)(pv:Nat->Value)(k:Nat)(a0:List Name){y:_}(h:Z129.F k a0=some y):Q8 Tryz.prog Q0 pv (.f 118) (JM [.t (.sl .name),.clo 119 []] (a0,(()),())) (.t .bool y):=
 Q7 hE (Z129.G hE pv k) (f:=118) (fn:=Tryz.f118) (by kernel_rfl) rfl (by kernel_rfl) (by kernel_rfl) ((Z129.run k a0).trans h) (λr hr=>Q1 hr)
def Z94.F (k:Nat)(a0:List Name):Option (Bool):=bif (decide ((a0.length:Int)<=4))then((Z129.F k a0).bind λr1=>some (!r1))else(some false)
def Z94.C (k:Nat):Cal->Option CArm:=λc=>match c with
 |.f 118=>some (.q [.t (.sl .name),.clo 119 []] _ (λx=>Z129.F k x.1) (λr=>(.t .bool r)))
 |_=>none
theorem Z94.run (k:Nat)(a0:List Name):Ql Q0 (Q6 (Z94.C k)) (Q4 11 0 (λ_=>none)) Tryz.f86 [.t (.sl .name) a0] (Q2 (.t .bool))=Z94.F k a0:=by kernel_rfl
theorem Z94.G (hE:EnvOk Tryz.prog Q0)(pv:Nat->Value)(k:Nat):∀cal A,Z94.C k cal=some A->Q9 Tryz.prog Q0 pv cal A:=by
 intro cal A h
 unfold Z94.C at h
 split at h
 ·cases h;exact λx y hy=>Z129.good hE pv k x.1 hy
 ·cases h
theorem Z94.good (hE:EnvOk Tryz.prog Q0)(pv:Nat->Value)(k:Nat)(a0:List Name){y:_}(h:Z94.F k a0=some y):Q8 Tryz.prog Q0 pv (.f 86) (Qa [(.sl .name)] (a0,())) (.t .bool y):=
 Q7 hE (Z94.G hE pv k) (f:=86) (fn:=Tryz.f86) (by kernel_rfl) rfl (by kernel_rfl) (by kernel_rfl) ((Z94.run k a0).trans h) (λr hr=>Q1 hr)
def Z76.F (a0:Int)(a1:Int):Option (Int):=bif (a1==2)then(bif (4==0)then(none)else(bif ((Int.tmod a0 4)==0)then(bif (100==0)then(none)else(bif ((Int.tmod a0 100) != 0)then(some 29)else(bif (400==0)then(none)else(bif ((Int.tmod a0 400)==0)then(some 29)else(some 28)))))else(some 28)))else(bif (a1==4)then(bif (a1==4)then(some 30)else(some 31))else(bif (a1==6)then(bif (a1==6)then(some 30)else(some 31))else(bif (a1==9)then(bif (a1==9)then(some 30)else(some 31))else(bif (a1==11)then(some 30)else(some 31)))))
def Z76.C:Cal->Option CArm:=λc=>match c with
 |_=>none
theorem Z76.run (a0:Int)(a1:Int):Ql Q0 (Q6 Z76.C) (Q4 26 0 (λ_=>none)) Tryz.f121 [.t (.int .i64) a0,.t (.int .i64) a1] (Q2 (.t (.int .i64)))=Z76.F a0 a1:=by kernel_rfl
theorem Z76.G (hE:EnvOk Tryz.prog Q0)(pv:Nat->Value):∀cal A,Z76.C cal=some A->Q9 Tryz.prog Q0 pv cal A:=by
 intro cal A h
 unfold Z76.C at h
 cases h
theorem Z76.good (hE:EnvOk Tryz.prog Q0)(pv:Nat->Value)(a0:Int)(a1:Int){y:_}(h:Z76.F a0 a1=some y):Q8 Tryz.prog Q0 pv (.f 121) (Qa [(.int .i64),(.int .i64)] (a0,a1,())) (.t (.int .i64) y):=
 Q7 hE (Z76.G hE pv) (f:=121) (fn:=Tryz.f121) (by kernel_rfl) rfl (by kernel_rfl) (by kernel_rfl) ((Z76.run a0 a1).trans h) (λr hr=>Q1 hr)
def Z85.F (a0:Date):Option (Bool):=bif ((a0.y==0&&(a0.m==0&&(a0.d==0&&a0.c==false))))then(some true)else((Z62.F a0.y 1 2999).bind λr1=>bif (!r1)then(some false)else((Z62.F a0.m 0 12).bind λr2=>bif (!r2)then(some false)else(bif a0.c then(bif (a0.m != 0)then(some false)else(bif (a0.m==0)then(some (a0.d==0))else((Z76.F a0.y a0.m).bind λr3=>(Z62.F a0.d 0 r3).bind λr4=>some r4)))else(bif (a0.m==0)then(some (a0.d==0))else((Z76.F a0.y a0.m).bind λr5=>(Z62.F a0.d 0 r5).bind λr6=>some r6)))))
def Z85.C:Cal->Option CArm:=λc=>match c with
 |.f 88=>some (.p [(.int .i64),(.int .i64),(.int .i64)] _ (λx=>Z62.F x.1 x.2.1 x.2.2.1) (λr=>(.t .bool r)))
 |.f 121=>some (.p [(.int .i64),(.int .i64)] _ (λx=>Z76.F x.1 x.2.1) (λr=>(.t (.int .i64) r)))
 |_=>none
theorem Z85.run (a0:Date):Ql Q0 (Q6 Z85.C) (Q4 39 0 (λ_=>none)) Tryz.f87 [.t .date a0] (Q2 (.t .bool))=Z85.F a0:=by kernel_rfl
theorem Z85.G (hE:EnvOk Tryz.prog Q0)(pv:Nat->Value):∀cal A,Z85.C cal=some A->Q9 Tryz.prog Q0 pv cal A:=by
 intro cal A h
 unfold Z85.C at h
 split at h
 ·cases h;exact λx y hy=>Z62.good hE pv x.1 x.2.1 x.2.2.1 hy
 ·cases h;exact λx y hy=>Z76.good hE pv x.1 x.2.1 hy
 ·cases h
theorem Z85.good (hE:EnvOk Tryz.prog Q0)(pv:Nat->Value)(a0:Date){y:_}(h:Z85.F a0=some y):Q8 Tryz.prog Q0 pv (.f 87) (Qa [.date] (a0,())) (.t .bool y):=
 Q7 hE (Z85.G hE pv) (f:=87) (fn:=Tryz.f87) (by kernel_rfl) rfl (by kernel_rfl) (by kernel_rfl) ((Z85.run a0).trans h) (λr hr=>Q1 hr)
def Z136.F (a0:ByteArray)(a1:ByteArray):Option (ByteArray):=Q3o a0 a1
theorem Z136.good (hE:EnvOk Tryz.prog Q0)(pv:Nat->Value)(a0:ByteArray)(a1:ByteArray){y:_}(h:Z136.F a0 a1=some y):Q8 Tryz.prog Q0 pv (.f 143) (Qa [.str,.str] (a0,a1,())) (.t .str y):=
 Q7Y (fn:=Tryz.f143) (by kernel_rfl) rfl (by kernel_rfl) Tryz.strings_Trim_one h
def Z45.l0:Nat->ByteArray->Int->Option (Sum Bool ByteArray)
 |0,_,_=>none
 |k+1,x0,x3=>bif (decide (x3<(x0.size:Int)))then(bif decide (0<=x3)then(bif decide (x3<(x0.size:Int))then(bif (decide ((bt x0 (x3:Int).toNat)<32))then(some (.inl false))else(bif decide (0<=x3)then(bif decide (x3<(x0.size:Int))then(bif (decide ((bt x0 (x3:Int).toNat) > 126))then(some (.inl false))else(Z45.l0 k x0 (IntKind.wrap .i64 (x3+1))))else none)else none))else none)else none)else(some (.inr x0))
def Z45.F (k:Nat)(a0:ByteArray):Option (Bool):=(Z45.l0 k a0 0).bind λy1=>match y1 with|.inl z2=>some z2|.inr z2=>(Z136.F z2 (⟨#[32]⟩:ByteArray)).bind λr3=>some (Qu r3 z2)
def Z45.C (k:Nat):Cal->Option CArm:=λc=>match c with
 |.f 143=>some (.p [.str,.str] _ (λx=>Z136.F x.1 x.2.1) (λr=>(.t .str r)))
 |_=>none
def Z45.sp0:List Sp:=[.t 0 .str,.t 3 (.int .i64)]
def Z45.sp0_0:List Sp:=[.t 2 .bool]
def Z45.sp0_1:List Sp:=[.t 0 .str]
def Z45.A0:LArm:=.two Z45.sp0 Z45.sp0_0 Z45.sp0_1 (Bool) (ByteArray) (λk x=>Z45.l0 k x.1 x.2.1) .ret (.exit 0) (λy=>(y,())) (λx=>x.1) (λy=>(y,())) (λx=>x.1)
def Z45.L:Nat->Option LArm:=λb=>match b with
 |0=>some Z45.A0
 |_=>none
theorem Z45.run (k:Nat)(a0:ByteArray):Ql Q0 (Q6 (Z45.C k)) (Q4 24 k Z45.L) Tryz.f122 [.t .str a0] (Q2 (.t .bool))=Z45.F k a0:=by kernel_rfl
theorem Z45.step0 (k:Nat)(x0:ByteArray)(x3:Int):Qp Q0 (Q6 (Z45.C k)) (Q4 24 k Z45.L) 0 (Qi Tryz.f122 0) (Qz 24 Z45.sp0 (x0,x3,())) (Z45.A0.cont 24 k)=Z45.l0 (k+1) x0 x3:=by kernel_rfl
theorem Z45.G (hE:EnvOk Tryz.prog Q0)(pv:Nat->Value)(k:Nat):∀cal A,Z45.C k cal=some A->Q9 Tryz.prog Q0 pv cal A:=by
 intro cal A h
 unfold Z45.C at h
 split at h
 ·cases h;exact λx y hy=>Z136.good hE pv x.1 x.2.1 hy
 ·cases h
theorem Z45.good (hE:EnvOk Tryz.prog Q0)(pv:Nat->Value)(k:Nat)(a0:ByteArray){y:_}(h:Z45.F k a0=some y):Q8 Tryz.prog Q0 pv (.f 122) (Qa [.str] (a0,())) (.t .bool y):=
 Qg hE (t:=Z45.C) k (λk _=>Z45.G hE pv k) (f:=122) (fn:=Tryz.f122) (by kernel_rfl) rfl (by kernel_rfl) (by kernel_rfl) (lt:=Z45.L) (by kernel_rfl) (λb A h=>by
  unfold Z45.L at h;split at h
  ·cases h;exact⟨by kernel_rfl,by kernel_rfl,by kernel_rfl,λ_=>rfl,λ_=>rfl,λ_=>rfl⟩
  ·cases h) (λb A h=>by
  unfold Z45.L at h;split at h
  ·cases h;exact λk x=>Z45.step0 k x.1 x.2.1
  ·cases h) ((Z45.run k a0).trans h) (λr hr=>Q1 hr)
end Go.Proofs.YtcbclpphgbbmmaaGreatDoor
end
