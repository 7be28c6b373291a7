/- Library functions: their contracts,proved once for any program,as what a callee keeps to. By an AI agent's session. -/
import Derived.Test.YtpmlmdfbhmgikaaGreatDoorMfg4
import Derived.Shelf.Vars
import Derived.Below
import Derived.Lib.IndexMore
import Derived.Lib.Split
import Derived.Lib.SplitLaws
import Derived.Lib.Repeat
import Derived.Deep.Draws
import Derived.Lib.Join
import Derived.Lib.SlTrimSet
import Derived.Lib.IndexAny
import Derived.Lib.TrimByte
import Derived.Laws.AppendOwn
import Derived.Lib.ItoaNum
import Derived.Sort.Grow
import Derived.Test.YtpmlmdfbhmgikaaGreatDoorMfg5
import Derived.Test.YtpmlmdfbhmgikaaGreatDoorProg
import Derived.KernelRfl
set_option linter.unusedVariables false
set_option linter.unusedSimpArgs false
set_option maxRecDepth 100000
section
namespace Go.Gx
open Go.RowKit Go.Lib
theorem Q4k {P:Program}{f:FuncId}{fn:Func}{c:Code}(hf:P.funcs[f]? =some fn)(hb:fn.body=some c)(hname:(fn.name== "runtime.NumGoroutine")=false){args:Array Value}{w:World}{R:Value->World->Prop}
  (h:Calls P f args w λe w'=>∃v,e= .returned v/\R v w'):Goes P f args w R:=by
 have hcall:(callFunc f args).run P w= .ok (.enter f args) w:=by
  have hn':fn.name≠ "runtime.NumGoroutine":=by simpa using hname
  simp[callFunc,hf,hn',hb]
 unfold Goes
 rw[hcall]
 exact h
theorem Dx {S:Nat->Prop}{w:World}{pv:Nat->Value}{vs:List Value}(h:J8 S w pv [] vs):vs=[]:=List.eq_nil_of_length_eq_zero h.1
theorem Q2i {S:Nat->Prop}{w:World}{pv:Nat->Value}{a:AV}{al:List AV}{vs:List Value}(h:J8 S w pv (a::al) vs):∃cs vs',AR S w (λ_=>none) (λ_=>none) pv a cs/\vs=valOf a cs::vs'/\J8 S w pv al vs':=by
 match vs,h with
 |[],h=>cases h.1
 |v::vs',⟨h1,h2⟩=>
  obtain⟨cs,hc,rfl⟩:=h2 0 a v rfl rfl
  exact⟨cs,vs',hc,rfl,by simpa using h1,λi b u hb hu=>h2 (i+1) b u (by simpa using hb) (by simpa using hu)⟩
theorem U9 {S:Nat->Prop}{w:World}{pv:Nat->Value}{s:ByteArray}{al:List AV}{vs:List Value}(h:J8 S w pv (.t .str s::al) vs):∃vs',vs= .string s::vs'/\J8 S w pv al vs':=by
 obtain⟨cs,vs',hc,rfl,h'⟩:=Q2i h
 cases hc with|t _ _ _ hc=>cases hc;exact⟨vs',rfl,h'⟩
section
variable {P:Program} {E:Env} {pv:Nat->Value} {f:FuncId} {fn:Func} {c:Code}
theorem Q0X (hf:P.funcs[f]? =some fn)(hb:fn.body=some c)(hname:(fn.name== "runtime.NumGoroutine")=false){args:List AV}{τ:Ty}{y:den τ}{v:Value}(hy:∀S w,∃cs,CR S w τ y cs/\v=valOf (.t τ y) cs)
  (h:∀S w vs,(∀b,S b->b<w.heap.size)->Qv E pv S w->J8 S w pv args vs->Calls P f vs.toArray w λe w'=>e= .returned v/\Below w.heap.size w w'):Q8 P E pv (.f f) args (.t τ y):=by
 intro S w vs hS hgl hargs
 refine Q4k hf hb hname ((h S w vs hS hgl hargs).mono λe w' ⟨he,hbl⟩=>⟨v,he,hbl,S,λb hb=>hb,λb hb=>.inl hb,?_⟩)
 obtain⟨cs,hc,rfl⟩:=hy S w'
 exact⟨none,.plain _ _ (.t _ _ _ hc)⟩
theorem Q94 (hf:P.funcs[f]? =some fn)(hb:fn.body=some c)(hname:(fn.name== "runtime.NumGoroutine")=false){args:List AV}{te:Nat}{xs:List ByteArray}(hx:xs.length<=maxLen)
  (h:∀S w vs,(∀b,S b->b<w.heap.size)->Qv E pv S w->J8 S w pv args vs->Calls P f vs.toArray w λe w'=>e= .returned (.slice (some ⟨w.heap.size,0,none⟩) xs.length xs.length)/\w'=w.alloc (.cells (xs.map Value.string).toArray te)):Q8 P E pv (.f f) args (.fr te .str xs):=by
 intro S w vs hS hgl hargs
 refine Q4k hf hb hname ((h S w vs hS hgl hargs).mono λe w' ⟨he,hw⟩=>⟨_,he,?_⟩)
 subst hw
 refine⟨(Below.refl _ w).alloc (Nat.le_refl _) _,S,λb hb=>hb,λb hb=>.inl hb,some w.heap.size,.fr te .str xs w.heap.size xs.length (Nat.le_refl _) (λhs=>absurd (hS _ hs) (Nat.lt_irrefl _)) ⟨(xs.map Value.string).toArray,(0,0),?_,?_,Nat.le_refl _,hx,λ_=>rfl,.inl (Nat.le_refl _),by decide,λi hi=>⟨[.string xs[i]],.str _,λj v hj=>?_⟩⟩⟩
 ·show(w.heap.push _)[w.heap.size]? =_
  simp
 ·simp[nc]
 ·cases j with
  |zero=>
   simp only[List.getElem?_cons_zero,Option.some.injEq]at hj
   subst hj
   simp[nc,hi]
  |succ j=>simp at hj
end
def Q3c (s sep:ByteArray):Option (List ByteArray):=bif Nat.ble s.size 4294967280&&Nat.ble 1 sep.size then some (Lib.splitB sep 0 (Lib.countB s sep) s)else none
theorem Q7p {P:Program}{E:Env}{pv:Nat->Value}{f:FuncId}{fn:Func}{c:Code}(hf:P.funcs[f]? =some fn)(hb:fn.body=some c)(hname:(fn.name== "runtime.NumGoroutine")=false){mx:Nat}(hmx:E.gi mx=true){te:Nat}
  (hc:∀(s sep:ByteArray) (m:Int) (w:World),s.size<4294967281->w.cell? ⟨mx,0,none⟩=some (.int .i64 m)->1<=sep.size->Calls P f #[.string s,.string sep] w λe w'=>
   e= .returned (.slice (some ⟨w.heap.size,0,none⟩) (Lib.countB s sep+1) (Lib.countB s sep+1))/\w'=w.alloc (.cells ((Lib.splitB sep 0 (Lib.countB s sep) s).map Value.string).toArray te))
  {s sep:ByteArray} {y:List ByteArray} (h:Q3c s sep=some y):Q8 P E pv (.f f) (Qa [.str,.str] (s,sep,())) (.fr te .str y):=by
 unfold Q3c at h
 cases hs:Nat.ble s.size 4294967280&&Nat.ble 1 sep.size with
 |false=>rw[hs]at h;cases h
 |true=>
  rw[hs]at h
  cases h
  rw[Bool.and_eq_true]at hs
  have h1:=Nat.le_of_ble_eq_true hs.1
  have h2:=Nat.le_of_ble_eq_true hs.2
  have hl:=Lib.splitB_all sep h2 0 _ s rfl
  have hle:=Lib.countB_le sep h2 s.size s (Nat.le_refl _)
  have hm:maxLen=9223372036854775807:=by decide
  refine Q94 hf hb hname (by rw[hl,hm];omega) λS w vs hS hgl ha=>?_
  obtain⟨_,rfl,ha1⟩:=U9 ha
  obtain⟨_,rfl,ha2⟩:=U9 ha1
  obtain rfl:=Dx ha2
  obtain⟨_,m,hm⟩:=hgl.2.1 mx hmx
  rw[hl]
  exact hc s sep m w (by omega) hm h2
def Q4l (xs:List ByteArray)(sep:ByteArray):Option ByteArray:=bif Nat.ble xs.length 140737488355328&&Nat.ble (Lib.join (xs.map (·.data.toList)) sep.data.toList).length 140737488355328 then some ⟨(Lib.join (xs.map (·.data.toList)) sep.data.toList).toArray⟩else none
theorem Q95 {P:Program}{E:Env}{pv:Nat->Value}{f:FuncId}{fn:Func}{c:Code}(hf:P.funcs[f]? =some fn)(hb:fn.body=some c)(hname:(fn.name== "runtime.NumGoroutine")=false)
  (hc0:∀(a:Option Addr) (c:Nat) (sep:ByteArray) (w:World),Calls P f #[.slice a 0 c,.string sep] w λe w'=>e= .returned (.string ⟨#[]⟩)/\w'=w)
  (hc:∀(bk o c:Nat) (xs:List ByteArray) (sep:ByteArray) (w:World),(∀(j:Nat) x,xs[j]? =some x->w.cell? ⟨bk,o+j,none⟩=some (.string x))->bk<w.heap.size->xs.length<=140737488355328->xs.length<=c->
   (Lib.join (xs.map (·.data.toList)) sep.data.toList).length<=140737488355328->Calls P f #[.slice (some ⟨bk,o,none⟩) xs.length c,.string sep] w λe w'=>e= .returned (.string ⟨(Lib.join (xs.map (·.data.toList)) sep.data.toList).toArray⟩)/\Below w.heap.size w w')
  {xs:List ByteArray} {sep:ByteArray} {y:ByteArray} (h:Q4l xs sep=some y):Q8 P E pv (.f f) (Qa [.sl .str,.str] (xs,sep,())) (.t .str y):=by
 unfold Q4l at h
 cases hs:Nat.ble xs.length 140737488355328&&Nat.ble (Lib.join (xs.map (·.data.toList)) sep.data.toList).length 140737488355328 with
 |false=>rw[hs]at h;cases h
 |true=>
  rw[hs]at h
  cases h
  rw[Bool.and_eq_true]at hs
  refine Q0X hf hb hname (v:=.string _) (λS w=>⟨_,.str _,rfl⟩) λS w vs hS hgl ha=>?_
  obtain⟨cs,_,hcr,rfl,ha1⟩:=Q2i ha
  obtain⟨_,rfl,ha2⟩:=U9 ha1
  obtain rfl:=Dx ha2
  cases hcr with
  |t _ _ _ hcr=>
   cases hcr with
   |sl e xs A c cv hle hm h1 h2=>
    match xs,A,hle,h1,h2,hs with
    |[],A,_,_,_,_=>exact(hc0 A c sep w).mono λe w' ⟨he,hw⟩=>⟨he,hw▸Below.refl _ _⟩
    |x::l,A,hle,h1,h2,hs=>
     obtain⟨g,o,rfl,hg,_⟩:=h2 0 (Nat.succ_pos _)
     refine hc g o c (x::l) sep w (λj z hj=>?_) (hS g hg) (Nat.le_of_ble_eq_true hs.1) hle (Nat.le_of_ble_eq_true hs.2)
     obtain⟨hj',hz⟩:=List.getElem?_eq_some_iff.1 hj
     obtain⟨g',o',e',_,hcell⟩:=h2 j hj'
     cases e'
     have hcv:=h1 j hj'
     rw[hz]at hcv
     have hq:∀q,CR S w .str z q->q[0]? =some (.string z):=λq hq=>by cases hq;rfl
     have:=hcell 0 (.string z) (hq _ hcv)
     simpa[nc]using this
def Q3d (s cs:ByteArray):Option ByteArray:=match cs with
 |⟨⟨[c]⟩⟩=>bif Nat.ble s.size 9223372036854775807&&Nat.blt c.toNat 128 then some ⟨(Lib.trimB s.data.toList c).toArray⟩else none
 |_=>none
theorem Q7q {P:Program}{E:Env}{pv:Nat->Value}{f:FuncId}{fn:Func}{c:Code}(hf:P.funcs[f]? =some fn)(hb:fn.body=some c)(hname:(fn.name== "runtime.NumGoroutine")=false)
  (hc:∀(s:ByteArray) (c:UInt8),c.toNat<128->∀(w:World),s.size<=9223372036854775807->Calls P f #[.string s,.string ⟨#[c]⟩] w λe w'=>e= .returned (.string ⟨(Lib.trimB s.data.toList c).toArray⟩)/\(w'=w\/w'=w.drew))
  {s cs:ByteArray} {y:ByteArray} (h:Q3d s cs=some y):Q8 P E pv (.f f) (Qa [.str,.str] (s,cs,())) (.t .str y):=by
 unfold Q3d at h
 split at h
 ·rename_i c0
  cases hs:Nat.ble s.size 9223372036854775807&&Nat.blt c0.toNat 128 with
  |false=>rw[hs]at h;cases h
  |true=>
   rw[hs]at h
   cases h
   rw[Bool.and_eq_true]at hs
   refine Q0X hf hb hname (v:=.string _) (λS w=>⟨_,.str _,rfl⟩) λS w vs hS hgl ha=>?_
   obtain⟨_,rfl,ha1⟩:=U9 ha
   obtain⟨_,rfl,ha2⟩:=U9 ha1
   obtain rfl:=Dx ha2
   refine(hc s c0 (Nat.le_of_ble_eq_true hs.2) w (Nat.le_of_ble_eq_true hs.1)).mono λe w' ⟨he,hw⟩=>⟨he,?_⟩
   rcases hw with rfl|rfl
   ·exact Below.refl _ _
   ·exact(Below.refl _ _).drew
 ·cases h
end Go.Gx
end
section
/- A library function by its contract: strconv.Itoa. -/
namespace Go.Gx
def Q4m (a b:ByteArray):Option Int:=some (Lib.compareBytes a.data.toList b.data.toList)
theorem Q4n {P:Program}{E:Env}{pv:Nat->Value}{f:FuncId}{fn:Func}{c:Code}(hf:P.funcs[f]? =some fn)(hb:fn.body=some c)(hname:(fn.name== "runtime.NumGoroutine")=false)
  (hc:∀(a b:ByteArray) (w:World),Calls P f #[.string a,.string b] w λe w'=>e= .returned (.int .i64 (Lib.compareBytes a.data.toList b.data.toList))/\w'=w)
  {a b:ByteArray} {y:Int} (h:Q4m a b=some y):Q8 P E pv (.f f) (Qa [.str,.str] (a,b,())) (.t (.int .i64) y):=by
 cases h
 refine Q0X hf hb hname (v:=.int .i64 _) (λS w=>⟨_,.int .i64 _,rfl⟩) λS w vs hS hgl ha=>?_
 obtain⟨_,rfl,ha1⟩:=U9 ha
 obtain⟨_,rfl,ha2⟩:=U9 ha1
 obtain rfl:=Dx ha2
 refine(hc a b w).mono λe w' ⟨he,hw⟩=>⟨he,?_⟩
 subst hw
 exact RowKit.Below.refl _ _
end Go.Gx
end
section
namespace Go.Proofs.YtpmlmdfbhmgikaaGreatDoor
open Go.Gx
def tyT (t:Nat):Option Ty:=match t with
 |2=>some (.int .i64)
 |3=>some (.int .i64)
 |4=>some .bool
 |5=>some (.int .u8)
 |6=>some (.int .u8)
 |9=>some .str
 |10=>some .str
 |11=>some .str
 |21=>some (.int .i32)
 |22=>some (.sl (.int .u8))
 |24=>some (.sl .entry)
 |26=>some .lib
 |27=>some (.sl .str)
 |30=>some (.sl .name)
 |34=>some (.sl (.int .i64))
 |35=>some (.sl (.sl .str))
 |41=>some .date
 |43=>some .entry
 |46=>some (.int .u64)
 |48=>some .cur
 |55=>some .name
 |83=>some (.int .u64)
 |101=>some (.int .i64)
 |108=>some (.int .u32)
 |115=>some (.int .u64)
 |140=>some (.arr 256 .bool)
 |158=>some (.arr 256 (.int .u8))
 |171=>some (.int .u8)
 |_=>none
def elT (t:Nat):Nat:=match t with
 |22=>5
 |24=>43
 |27=>9
 |30=>55
 |34=>3
 |35=>27
 |_=>0
def mdT (f:Nat):Bool:=match f with
 |13=>true
 |14=>true
 |27=>true
 |33=>true
 |34=>true
 |35=>true
 |36=>true
 |45=>true
 |52=>true
 |53=>true
 |55=>true
 |58=>true
 |81=>true
 |83=>true
 |84=>true
 |91=>true
 |118=>true
 |128=>true
 |_=>false
def YO:ByteArray:=⟨#[0,1,2,2,3,3,3,3,4,4,4,4,4,4,4,4,5,5,5,5,5,5,5,5,5,5,5,5,5,5,5,5,6,6,6,6,6,6,6,6,6,6,6,6,6,6,6,6,6,6,6,6,6,6,6,6,6,6,6,6,6,6,6,6,7,7,7,7,7,7,7,7,7,7,7,7,7,7,7,7,7,7,7,7,7,7,7,7,7,7,7,7,7,7,7,7,7,7,7,7,7,7,7,7,7,7,7,7,7,7,7,7,7,7,7,7,7,7,7,7,7,7,7,7,7,7,7,7,8,8,8,8,8,8,8,8,8,8,8,8,8,8,8,8,8,8,8,8,8,8,8,8,8,8,8,8,8,8,8,8,8,8,8,8,8,8,8,8,8,8,8,8,8,8,8,8,8,8,8,8,8,8,8,8,8,8,8,8,8,8,8,8,8,8,8,8,8,8,8,8,8,8,8,8,8,8,8,8,8,8,8,8,8,8,8,8,8,8,8,8,8,8,8,8,8,8,8,8,8,8,8,8,8,8,8,8,8,8,8,8,8,8,8,8,8,8,8,8,8,8,8,8,8,8,8,8]⟩
def glT (g:Nat):Option AV:=match g with
 |_=>none
def giT (g:Nat):Bool:=match g with
 |0=>true
 |_=>false
def dmT (f:Nat):Bool:=match f with
 |_=>false
def pmT (f:Nat):Bool:=match f with
 |_=>false
def tmX (f:Nat):Bool:=match f with
 |_=>false
def Q0:Env:={ty:=tyT,el:=elT,gl:=glT,md:=mdT,gi:=giT,dm:=dmT,pm:=pmT,tm:=tmX}
theorem Q5x:∀T τ,Q0.ty T=some τ->TyOk Tryz.prog Q0 T τ:=λT τ h=>by
 dsimp only[Q0,tyT]at h
 split at h<;>first
  |(cases h;done)
  |(cases h;exact Q9Y (by kernel_rfl) (by kernel_rfl))
theorem QaH:EnvOk Tryz.prog Q0:=⟨Q5x,by kernel_rfl,λT h=>by
 dsimp only[Q0,tyT]at h
 split at h<;>first
  |(cases h;done)
  |exact Qac Q5x rfl (by kernel_rfl) (by kernel_rfl) (by kernel_rfl),λT h=>by
 dsimp only[Q0,tyT]at h
 split at h<;>first
  |(cases h;done)
  |exact Qad Q5x rfl (by kernel_rfl) (by kernel_rfl) (by kernel_rfl)⟩
def Z128.F (a0:List Int):Option (Bool):=some (decide ((a0.length:Int) > 65536))
def Z128.C:Cal->Option CArm:=λc=>match c with
 |_=>none
theorem Z128.run (a0:List Int):Qk Q0 (Q7 Z128.C) (Q6 6 0 (λ_=>none)) Tryz.f4 [.t (.sl (.int .u8)) a0] (Q2 (.t .bool))=Z128.F a0:=by kernel_rfl
theorem Z128.G (hE:EnvOk Tryz.prog Q0)(pv:Nat->Value):∀cal A,Z128.C cal=some A->Q9 Tryz.prog Q0 pv cal A:=by
 intro cal A h
 unfold Z128.C at h
 cases h
theorem Z128.good (hE:EnvOk Tryz.prog Q0)(pv:Nat->Value)(a0:List Int){y:_}(h:Z128.F a0=some y):Q8 Tryz.prog Q0 pv (.f 4) (Qa [(.sl (.int .u8))] (a0,())) (.t .bool y):=
 Q4 hE (Z128.G hE pv) (f:=4) (fn:=Tryz.f4) (by kernel_rfl) rfl (by kernel_rfl) (by kernel_rfl) ((Z128.run a0).trans h) (λr hr=>Q1 hr)
def Z13.l0:Nat->(List Name)->(List Name)->Int->Option ((List Name))
 |0,_,_,_=>none
 |k+1,x0,x3,x4=>bif (decide (x4<(x0.length:Int)))then(bif decide (0<=x4)then(bif decide (x4<(x0.length:Int))then(bif room (([]:List ByteArray).length+((x0.getD (x4:Int).toNat (Q5 .name)).given).length) .str then(bif room (x3.length+([(⟨(([]:List ByteArray)++((x0.getD (x4:Int).toNat (Q5 .name)).given)),(x0.getD (x4:Int).toNat (Q5 .name)).particle,(x0.getD (x4:Int).toNat (Q5 .name)).family,(x0.getD (x4:Int).toNat (Q5 .name)).suffix⟩:Name)]:List Name).length) .name then(Z13.l0 k x0 (x3++([(⟨(([]:List ByteArray)++((x0.getD (x4:Int).toNat (Q5 .name)).given)),(x0.getD (x4:Int).toNat (Q5 .name)).particle,(x0.getD (x4:Int).toNat (Q5 .name)).family,(x0.getD (x4:Int).toNat (Q5 .name)).suffix⟩:Name)]:List Name)) (IntKind.wrap .i64 (x4+1)))else none)else none)else none)else none)else(some x3)
def Z13.F (k:Nat)(a0:List Name):Option (List Name):=(Z13.l0 k a0 ([]:List Name) 0).bind λy1=>some y1
def Z13.C (k:Nat):Cal->Option CArm:=λc=>match c with
 |_=>none
def Z13.sp0:List Sp:=[.t 0 (.sl .name),.own 3 1024 55 .name false true,.t 4 (.int .i64)]
def Z13.sp0_0:List Sp:=[.own 3 1024 55 .name false true]
def Z13.A0:LArm:=.one Z13.sp0 Z13.sp0_0 ((List Name)) (λk x=>Z13.l0 k x.1 x.2.1 x.2.2.1) (.exit 0) (λy=>(y,())) (λx=>x.1)
def Z13.L:Nat->Option LArm:=λb=>match b with
 |0=>some Z13.A0
 |_=>none
theorem Z13.run (k:Nat)(a0:List Name):Qk Q0 (Q7 (Z13.C k)) (Q6 27 k Z13.L) Tryz.f25 [.t (.sl .name) a0] (Q2 (.fr 55 .name))=Z13.F k a0:=by kernel_rfl
theorem Z13.step0 (k:Nat)(x0:List Name)(x3:List Name)(x4:Int):Qs Q0 (Q7 (Z13.C k)) (Q6 27 k Z13.L) 0 (Qj Tryz.f25 0) (QA 27 Z13.sp0 (x0,x3,x4,())) (Z13.A0.cont 27 k)=Z13.l0 (k+1) x0 x3 x4:=by kernel_rfl
theorem Z13.G (hE:EnvOk Tryz.prog Q0)(pv:Nat->Value)(k:Nat):∀cal A,Z13.C k cal=some A->Q9 Tryz.prog Q0 pv cal A:=by
 intro cal A h
 unfold Z13.C at h
 cases h
theorem Z13.good (hE:EnvOk Tryz.prog Q0)(pv:Nat->Value)(k:Nat)(a0:List Name){y:_}(h:Z13.F k a0=some y):Q8 Tryz.prog Q0 pv (.f 25) (Qa [(.sl .name)] (a0,())) (.fr 55 .name y):=
 Qh hE (t:=Z13.C) k (λk _=>Z13.G hE pv k) (f:=25) (fn:=Tryz.f25) (by kernel_rfl) rfl (by kernel_rfl) (by kernel_rfl) (lt:=Z13.L) (by kernel_rfl) (λb A h=>by
  unfold Z13.L at h;split at h
  ·cases h;exact⟨by kernel_rfl,by kernel_rfl,λ_=>rfl,λ_=>rfl⟩
  ·cases h) (λb A h=>by
  unfold Z13.L at h;split at h
  ·cases h;exact λk x=>Z13.step0 k x.1 x.2.1 x.2.2.1
  ·cases h) ((Z13.run k a0).trans h) (λr hr=>Q1 hr)
def Z89.F (a0:Cur):Option (Cur×Int):=bif (decide (a0.at_<(a0.code.length:Int)))then(bif decide (0<=a0.at_)then(bif decide (a0.at_<(a0.code.length:Int))then(bif (decide ((IntKind.wrap .i64 (a0.at_+1))<=(a0.code.length:Int)))then(some ((⟨a0.code,(IntKind.wrap .i64 (a0.at_+1)),(IntKind.wrap .u64 ((IntKind.wrap .u64 ((IntKind.wrap .u64 (a0.seed*6364136223846793005))+(IntKind.wrap .u64 (IntKind.wrap .i64 (a0.code.getD (a0.at_:Int).toNat 0)))))+896896))⟩:Cur),(IntKind.wrap .i64 (a0.code.getD (a0.at_:Int).toNat 0))))else(bif decide (0<=40)then(some ((⟨a0.code,(IntKind.wrap .i64 (a0.at_+1)),(IntKind.wrap .u64 ((IntKind.wrap .u64 ((IntKind.wrap .u64 (a0.seed*6364136223846793005))+(IntKind.wrap .u64 (IntKind.wrap .i64 (a0.code.getD (a0.at_:Int).toNat 0)))))+896896))⟩:Cur),(IntKind.wrap .i64 (IntKind.wrap .u64 ((BitVec.ofInt (IntKind.bits .u64) (Int.fdiv (IntKind.wrap .u64 ((IntKind.wrap .u64 ((IntKind.wrap .u64 (a0.seed*6364136223846793005))+(IntKind.wrap .u64 (IntKind.wrap .i64 (a0.code.getD (a0.at_:Int).toNat 0)))))+896896)) (2 ^ min (40:Int).toNat (IntKind.bits .u64)))&&& BitVec.ofInt (IntKind.bits .u64) 255).toNat:Int)))))else none))else none)else none)else(bif (decide ((IntKind.wrap .i64 (a0.at_+1))<=(a0.code.length:Int)))then(some ((⟨a0.code,(IntKind.wrap .i64 (a0.at_+1)),(IntKind.wrap .u64 ((IntKind.wrap .u64 ((IntKind.wrap .u64 (a0.seed*6364136223846793005))+(IntKind.wrap .u64 0)))+896896))⟩:Cur),0))else(bif decide (0<=40)then(some ((⟨a0.code,(IntKind.wrap .i64 (a0.at_+1)),(IntKind.wrap .u64 ((IntKind.wrap .u64 ((IntKind.wrap .u64 (a0.seed*6364136223846793005))+(IntKind.wrap .u64 0)))+896896))⟩:Cur),(IntKind.wrap .i64 (IntKind.wrap .u64 ((BitVec.ofInt (IntKind.bits .u64) (Int.fdiv (IntKind.wrap .u64 ((IntKind.wrap .u64 ((IntKind.wrap .u64 (a0.seed*6364136223846793005))+(IntKind.wrap .u64 0)))+896896)) (2 ^ min (40:Int).toNat (IntKind.bits .u64)))&&& BitVec.ofInt (IntKind.bits .u64) 255).toNat:Int)))))else none))
def Z89.C:Cal->Option CArm:=λc=>match c with
 |_=>none
theorem Z89.run (a0:Cur):YP Q0 (Q7 Z89.C) (Q6 62 0 (λ_=>none)) Tryz.f55 Qg (.bx .cur a0) [] (U8 (.bx .cur) (Q2 (.t (.int .i64))))=Z89.F a0:=by kernel_rfl
theorem Z89.G (hE:EnvOk Tryz.prog Q0)(pv:Nat->Value):∀cal A,Z89.C cal=some A->Q9 Tryz.prog Q0 pv cal A:=by
 intro cal A h
 unfold Z89.C at h
 cases h
theorem Z89.good (hE:EnvOk Tryz.prog Q0)(pv:Nat->Value)(a0:Cur){y:_}(h:Z89.F a0=some y):QM Tryz.prog Q0 pv 55 (.bx .cur a0) (Qa [] (())) (.kep (.bx .cur y.1) (.t (.int .i64) y.2)):=
 Jm hE (Z89.G hE pv) (f:=55) (fn:=Tryz.f55) (by kernel_rfl) rfl (by kernel_rfl) (.inl rfl) (by kernel_rfl) ((Z89.run a0).trans h) (λr hr=>Ju (λr y h=>Q1 h) hr)
def Z26.F (a0:Cur)(a1:Int):Option (Cur×Int):=bif (decide (a1<=1))then(some (a0,0))else((Z89.F a0).bind λr1=>bif (decide (a1 > 200))then((Z89.F r1.1).bind λr2=>bif (a1==0)then(none)else(some (r2.1,(Int.tmod (IntKind.wrap .i64 ((IntKind.wrap .i64 (r1.2*256))+r2.2)) a1))))else(bif (a1==0)then(none)else(some (r1.1,(Int.tmod r1.2 a1)))))
def Z26.C:Cal->Option CArm:=λc=>match c with
 |.f 55=>some (.m (.bx .cur) [] _ (λx0 x=>Z89.F x0) (λr=>.kep (.bx .cur r.1) (.t (.int .i64) r.2)))
 |_=>none
theorem Z26.run (a0:Cur)(a1:Int):YP Q0 (Q7 Z26.C) (Q6 20 0 (λ_=>none)) Tryz.f35 Qg (.bx .cur a0) [.t (.int .i64) a1] (U8 (.bx .cur) (Q2 (.t (.int .i64))))=Z26.F a0 a1:=by kernel_rfl
theorem Z26.G (hE:EnvOk Tryz.prog Q0)(pv:Nat->Value):∀cal A,Z26.C cal=some A->Q9 Tryz.prog Q0 pv cal A:=by
 intro cal A h
 unfold Z26.C at h
 split at h
 ·cases h;exact⟨_,rfl,λx0 x y hy=>Z89.good hE pv x0 hy⟩
 ·cases h
theorem Z26.good (hE:EnvOk Tryz.prog Q0)(pv:Nat->Value)(a0:Cur)(a1:Int){y:_}(h:Z26.F a0 a1=some y):QM Tryz.prog Q0 pv 35 (.bx .cur a0) (Qa [(.int .i64)] (a1,())) (.kep (.bx .cur y.1) (.t (.int .i64) y.2)):=
 Jm hE (Z26.G hE pv) (f:=35) (fn:=Tryz.f35) (by kernel_rfl) rfl (by kernel_rfl) (.inl rfl) (by kernel_rfl) ((Z26.run a0 a1).trans h) (λr hr=>Ju (λr y h=>Q1 h) hr)
def Z22.F (a0:Cur)(a1:Int):Option (Cur×Bool):=(Z26.F a0 a1).bind λr1=>some (r1.1,(r1.2==0))
def Z22.C:Cal->Option CArm:=λc=>match c with
 |.f 35=>some (.m (.bx .cur) [(.int .i64)] _ (λx0 x=>Z26.F x0 x.1) (λr=>.kep (.bx .cur r.1) (.t (.int .i64) r.2)))
 |_=>none
theorem Z22.run (a0:Cur)(a1:Int):YP Q0 (Q7 Z22.C) (Q6 9 0 (λ_=>none)) Tryz.f34 Qg (.bx .cur a0) [.t (.int .i64) a1] (U8 (.bx .cur) (Q2 (.t .bool)))=Z22.F a0 a1:=by kernel_rfl
theorem Z22.G (hE:EnvOk Tryz.prog Q0)(pv:Nat->Value):∀cal A,Z22.C cal=some A->Q9 Tryz.prog Q0 pv cal A:=by
 intro cal A h
 unfold Z22.C at h
 split at h
 ·cases h;exact⟨_,rfl,λx0 x y hy=>Z26.good hE pv x0 x.1 hy⟩
 ·cases h
theorem Z22.good (hE:EnvOk Tryz.prog Q0)(pv:Nat->Value)(a0:Cur)(a1:Int){y:_}(h:Z22.F a0 a1=some y):QM Tryz.prog Q0 pv 34 (.bx .cur a0) (Qa [(.int .i64)] (a1,())) (.kep (.bx .cur y.1) (.t .bool y.2)):=
 Jm hE (Z22.G hE pv) (f:=34) (fn:=Tryz.f34) (by kernel_rfl) rfl (by kernel_rfl) (.inl rfl) (by kernel_rfl) ((Z22.run a0 a1).trans h) (λr hr=>Ju (λr y h=>Q1 h) hr)
def Z27.F (a0:Cur)(a1:List ByteArray):Option (Cur×ByteArray):=(Z26.F a0 (a1.length:Int)).bind λr1=>bif decide (0<=r1.2)then(bif decide (r1.2<(a1.length:Int))then(some (r1.1,(a1.getD (r1.2:Int).toNat (⟨#[]⟩:ByteArray))))else none)else none
def Z27.C:Cal->Option CArm:=λc=>match c with
 |.f 35=>some (.m (.bx .cur) [(.int .i64)] _ (λx0 x=>Z26.F x0 x.1) (λr=>.kep (.bx .cur r.1) (.t (.int .i64) r.2)))
 |_=>none
theorem Z27.run (a0:Cur)(a1:List ByteArray):YP Q0 (Q7 Z27.C) (Q6 12 0 (λ_=>none)) Tryz.f53 Qg (.bx .cur a0) [.t (.sl .str) a1] (U8 (.bx .cur) (Q2 (.t .str)))=Z27.F a0 a1:=by kernel_rfl
theorem Z27.G (hE:EnvOk Tryz.prog Q0)(pv:Nat->Value):∀cal A,Z27.C cal=some A->Q9 Tryz.prog Q0 pv cal A:=by
 intro cal A h
 unfold Z27.C at h
 split at h
 ·cases h;exact⟨_,rfl,λx0 x y hy=>Z26.good hE pv x0 x.1 hy⟩
 ·cases h
theorem Z27.good (hE:EnvOk Tryz.prog Q0)(pv:Nat->Value)(a0:Cur)(a1:List ByteArray){y:_}(h:Z27.F a0 a1=some y):QM Tryz.prog Q0 pv 53 (.bx .cur a0) (Qa [(.sl .str)] (a1,())) (.kep (.bx .cur y.1) (.t .str y.2)):=
 Jm hE (Z27.G hE pv) (f:=53) (fn:=Tryz.f53) (by kernel_rfl) rfl (by kernel_rfl) (.inl rfl) (by kernel_rfl) ((Z27.run a0 a1).trans h) (λr hr=>Ju (λr y h=>Q1 h) hr)
def Z50.l0:Nat->Cur->(List ByteArray)->ByteArray->ByteArray->ByteArray->(List ByteArray)->ByteArray->ByteArray->ByteArray->Int->Option (Cur× (List ByteArray)×ByteArray×ByteArray×ByteArray× (List ByteArray)×ByteArray×ByteArray×ByteArray)
 |0,_,_,_,_,_,_,_,_,_,_=>none
 |k+1,x0,x2_0,x2_1,x2_2,x2_3,x3_0,x3_1,x3_2,x3_3,x4=>bif (decide (x4 > 0))then((Z27.F x0 ([(⟨#[65,110,110,97]⟩:ByteArray),(⟨#[65]⟩:ByteArray),(⟨#[74,101,97,110,45,80,97,117,108]⟩:ByteArray),(⟨#[77,97,114,105,97]⟩:ByteArray),(⟨#[66]⟩:ByteArray),(⟨#[66,101,110]⟩:ByteArray),(⟨#[74,101,97,110,45,112,97,117,108]⟩:ByteArray)]:List ByteArray)).bind λr3=>bif room (x3_0.length+([r3.2]:List ByteArray).length) .str then(Z50.l0 k r3.1 x2_0 x2_1 x2_2 x2_3 (x3_0++([r3.2]:List ByteArray)) x3_1 x3_2 x3_3 (IntKind.wrap .i64 (x4-1)))else none)else(some (x0,x2_0,x2_1,x2_2,x2_3,x3_0,x3_1,x3_2,x3_3))
def Z50.F (k:Nat)(a0:Cur):Option (Cur×Name):=bif decide (0<=5)then(bif decide (5<=(([(⟨#[66,101,114,103]⟩:ByteArray),(⟨#[83,109,105,116,104]⟩:ByteArray),(⟨#[79,39,78,101,105,108,108]⟩:ByteArray),(⟨#[76,101,101]⟩:ByteArray),(⟨#[66,101,114,103,45,72,97,108,108]⟩:ByteArray),(⟨#[115,109,105,116,104,115,111,110]⟩:ByteArray)]:List ByteArray).length:Int))then((Z27.F a0 (([(⟨#[66,101,114,103]⟩:ByteArray),(⟨#[83,109,105,116,104]⟩:ByteArray),(⟨#[79,39,78,101,105,108,108]⟩:ByteArray),(⟨#[76,101,101]⟩:ByteArray),(⟨#[66,101,114,103,45,72,97,108,108]⟩:ByteArray),(⟨#[115,109,105,116,104,115,111,110]⟩:ByteArray)]:List ByteArray).take (5:Int).toNat)).bind λr1=>(Z26.F r1.1 3).bind λr2=>(Z50.l0 k r2.1 ([]:List ByteArray) (⟨#[]⟩:ByteArray) (⟨#[]⟩:ByteArray) (⟨#[]⟩:ByteArray) ([]) (⟨#[]⟩:ByteArray) r1.2 (⟨#[]⟩:ByteArray) r2.2).bind λy4=>(Z22.F y4.1 3).bind λr5=>bif r5.2 then((Z27.F r5.1 ([(⟨#[118,97,110]⟩:ByteArray),(⟨#[100,101]⟩:ByteArray),(⟨#[118,97,110,32,100,101,114]⟩:ByteArray)]:List ByteArray)).bind λr6=>(Z22.F r6.1 5).bind λr7=>bif r7.2 then((Z27.F r7.1 ([(⟨#[74,114]⟩:ByteArray),(⟨#[73,73,73]⟩:ByteArray),(⟨#[106,114]⟩:ByteArray)]:List ByteArray)).bind λr8=>some (r8.1,(⟨y4.2.2.2.2.2.1,r6.2,y4.2.2.2.2.2.2.2.1,r8.2⟩:Name)))else(some (r7.1,(⟨y4.2.2.2.2.2.1,r6.2,y4.2.2.2.2.2.2.2.1,y4.2.2.2.2.2.2.2.2⟩:Name))))else((Z22.F r5.1 5).bind λr9=>bif r9.2 then((Z27.F r9.1 ([(⟨#[74,114]⟩:ByteArray),(⟨#[73,73,73]⟩:ByteArray),(⟨#[106,114]⟩:ByteArray)]:List ByteArray)).bind λr10=>some (r10.1,(⟨y4.2.2.2.2.2.1,y4.2.2.2.2.2.2.1,y4.2.2.2.2.2.2.2.1,r10.2⟩:Name)))else(some (r9.1,(⟨y4.2.2.2.2.2.1,y4.2.2.2.2.2.2.1,y4.2.2.2.2.2.2.2.1,y4.2.2.2.2.2.2.2.2⟩:Name)))))else none)else none
def Z50.C (k:Nat):Cal->Option CArm:=λc=>match c with
 |.f 53=>some (.m (.bx .cur) [(.sl .str)] _ (λx0 x=>Z27.F x0 x.1) (λr=>.kep (.bx .cur r.1) (.t .str r.2)))
 |.f 35=>some (.m (.bx .cur) [(.int .i64)] _ (λx0 x=>Z26.F x0 x.1) (λr=>.kep (.bx .cur r.1) (.t (.int .i64) r.2)))
 |.f 34=>some (.m (.bx .cur) [(.int .i64)] _ (λx0 x=>Z22.F x0 x.1) (λr=>.kep (.bx .cur r.1) (.t .bool r.2)))
 |_=>none
def Z50.sp0:List Sp:=[.boxT 0 1099511627776 .cur,.boxF 2 0 .name [.t (.sl .str),.t .str,.t .str,.t .str],.boxF 3 1044 .name [.own 1099511627827 9 .str false true,.t .str,.t .str,.t .str],.t 4 (.int .i64)]
def Z50.sp0_0:List Sp:=[.boxT 0 1099511627776 .cur,.boxF 2 0 .name [.t (.sl .str),.t .str,.t .str,.t .str],.boxF 3 1044 .name [.own 1099511627827 9 .str false true,.t .str,.t .str,.t .str]]
def Z50.A0:LArm:=.one Z50.sp0 Z50.sp0_0 (Cur× (List ByteArray)×ByteArray×ByteArray×ByteArray× (List ByteArray)×ByteArray×ByteArray×ByteArray) (λk x=>Z50.l0 k x.1 x.2.1.1 x.2.1.2.1 x.2.1.2.2.1 x.2.1.2.2.2.1 x.2.2.1.1 x.2.2.1.2.1 x.2.2.1.2.2.1 x.2.2.1.2.2.2.1 x.2.2.2.1) (.exit 0) (λy=>(y.1,(y.2.1,y.2.2.1,y.2.2.2.1,y.2.2.2.2.1,()),(y.2.2.2.2.2.1,y.2.2.2.2.2.2.1,y.2.2.2.2.2.2.2.1,y.2.2.2.2.2.2.2.2,()),())) (λx=>(x.1,x.2.1.1,x.2.1.2.1,x.2.1.2.2.1,x.2.1.2.2.2.1,x.2.2.1.1,x.2.2.1.2.1,x.2.2.1.2.2.1,x.2.2.1.2.2.2.1))
def Z50.L:Nat->Option LArm:=λb=>match b with
 |0=>some Z50.A0
 |_=>none
theorem Z50.run (k:Nat)(a0:Cur):YP Q0 (Q7 (Z50.C k)) (Q6 37 k Z50.L) Tryz.f118 Qg (.bx .cur a0) [] (U8 (.bx .cur) (Q2 (.sf .name 9)))=Z50.F k a0:=by kernel_rfl
theorem Z50.step0 (k:Nat)(x0:Cur)(x2_0:List ByteArray)(x2_1:ByteArray)(x2_2:ByteArray)(x2_3:ByteArray)(x3_0:List ByteArray)(x3_1:ByteArray)(x3_2:ByteArray)(x3_3:ByteArray)(x4:Int):Qs Q0 (Q7 (Z50.C k)) (Q6 37 k Z50.L) 0 (Qj Tryz.f118 0) (QA 37 Z50.sp0 (x0,(x2_0,x2_1,x2_2,x2_3,()),(x3_0,x3_1,x3_2,x3_3,()),x4,())) (Z50.A0.cont 37 k)=Z50.l0 (k+1) x0 x2_0 x2_1 x2_2 x2_3 x3_0 x3_1 x3_2 x3_3 x4:=by kernel_rfl
theorem Z50.G (hE:EnvOk Tryz.prog Q0)(pv:Nat->Value)(k:Nat):∀cal A,Z50.C k cal=some A->Q9 Tryz.prog Q0 pv cal A:=by
 intro cal A h
 unfold Z50.C at h
 split at h
 ·cases h;exact⟨_,rfl,λx0 x y hy=>Z27.good hE pv x0 x.1 hy⟩
 ·cases h;exact⟨_,rfl,λx0 x y hy=>Z26.good hE pv x0 x.1 hy⟩
 ·cases h;exact⟨_,rfl,λx0 x y hy=>Z22.good hE pv x0 x.1 hy⟩
 ·cases h
theorem Z50.good (hE:EnvOk Tryz.prog Q0)(pv:Nat->Value)(k:Nat)(a0:Cur){y:_}(h:Z50.F k a0=some y):QM Tryz.prog Q0 pv 118 (.bx .cur a0) (Qa [] (())) (.kep (.bx .cur y.1) (sfV 9 .name y.2)):=
 JB hE (t:=Z50.C) k (λk _=>Z50.G hE pv k) (f:=118) (fn:=Tryz.f118) (by kernel_rfl) rfl (by kernel_rfl) (.inl rfl) (by kernel_rfl) (lt:=Z50.L) (by kernel_rfl) (λb A h=>by
  unfold Z50.L at h;split at h
  ·cases h;exact⟨by kernel_rfl,by kernel_rfl,λ_=>rfl,λ_=>rfl⟩
  ·cases h) (λb A h=>by
  unfold Z50.L at h;split at h
  ·cases h;exact λk x=>Z50.step0 k x.1 x.2.1.1 x.2.1.2.1 x.2.1.2.2.1 x.2.1.2.2.2.1 x.2.2.1.1 x.2.2.1.2.1 x.2.2.1.2.2.1 x.2.2.1.2.2.2.1 x.2.2.2.1
  ·cases h) ((Z50.run k a0).trans h) (λr hr=>Ju (λr y h=>Q1 h) hr)
def Z44.l0:Nat->Cur->(List Name)->Int->Option (Cur× (List Name))
 |0,_,_,_=>none
 |k+1,x0,x3,x4=>bif (decide (x4 > 0))then((Z50.F k x0).bind λr2=>bif room (x3.length+([(⟨r2.2.given,r2.2.particle,r2.2.family,r2.2.suffix⟩:Name)]:List Name).length) .name then(Z44.l0 k r2.1 (x3++([(⟨r2.2.given,r2.2.particle,r2.2.family,r2.2.suffix⟩:Name)]:List Name)) (IntKind.wrap .i64 (x4-1)))else none)else(some (x0,x3))
def Z44.F (k:Nat)(a0:Cur):Option (Cur×List Name):=(Z26.F a0 4).bind λr1=>(Z44.l0 k r1.1 ([]:List Name) r1.2).bind λy3=>some (y3.1,y3.2)
def Z44.C (k:Nat):Cal->Option CArm:=λc=>match c with
 |.f 35=>some (.m (.bx .cur) [(.int .i64)] _ (λx0 x=>Z26.F x0 x.1) (λr=>.kep (.bx .cur r.1) (.t (.int .i64) r.2)))
 |.f 118=>some (.m (.bx .cur) [] _ (λx0 x=>Z50.F k x0) (λr=>.kep (.bx .cur r.1) (sfV 9 .name r.2)))
 |_=>none
def Z44.sp0:List Sp:=[.boxT 0 1099511627776 .cur,.own 3 1024 55 .name false true,.t 4 (.int .i64)]
def Z44.sp0_0:List Sp:=[.boxT 0 1099511627776 .cur,.own 3 1024 55 .name false true]
def Z44.A0:LArm:=.one Z44.sp0 Z44.sp0_0 (Cur× (List Name)) (λk x=>Z44.l0 k x.1 x.2.1 x.2.2.1) (.exit 0) (λy=>(y.1,y.2,())) (λx=>(x.1,x.2.1))
def Z44.L:Nat->Option LArm:=λb=>match b with
 |0=>some Z44.A0
 |_=>none
theorem Z44.run (k:Nat)(a0:Cur):YP Q0 (Q7 (Z44.C k)) (Q6 18 k Z44.L) Tryz.f81 Qg (.bx .cur a0) [] (U8 (.bx .cur) (Q2 (.fr 55 .name)))=Z44.F k a0:=by kernel_rfl
theorem Z44.step0 (k:Nat)(x0:Cur)(x3:List Name)(x4:Int):Qs Q0 (Q7 (Z44.C k)) (Q6 18 k Z44.L) 0 (Qj Tryz.f81 0) (QA 18 Z44.sp0 (x0,x3,x4,())) (Z44.A0.cont 18 k)=Z44.l0 (k+1) x0 x3 x4:=by kernel_rfl
theorem Z44.G (hE:EnvOk Tryz.prog Q0)(pv:Nat->Value)(k:Nat):∀cal A,Z44.C k cal=some A->Q9 Tryz.prog Q0 pv cal A:=by
 intro cal A h
 unfold Z44.C at h
 split at h
 ·cases h;exact⟨_,rfl,λx0 x y hy=>Z26.good hE pv x0 x.1 hy⟩
 ·cases h;exact⟨_,rfl,λx0 x y hy=>Z50.good hE pv k x0 hy⟩
 ·cases h
theorem Z44.good (hE:EnvOk Tryz.prog Q0)(pv:Nat->Value)(k:Nat)(a0:Cur){y:_}(h:Z44.F k a0=some y):QM Tryz.prog Q0 pv 81 (.bx .cur a0) (Qa [] (())) (.kep (.bx .cur y.1) (.fr 55 .name y.2)):=
 JB hE (t:=Z44.C) k (λk _=>Z44.G hE pv k) (f:=81) (fn:=Tryz.f81) (by kernel_rfl) rfl (by kernel_rfl) (.inl rfl) (by kernel_rfl) (lt:=Z44.L) (by kernel_rfl) (λb A h=>by
  unfold Z44.L at h;split at h
  ·cases h;exact⟨by kernel_rfl,by kernel_rfl,λ_=>rfl,λ_=>rfl⟩
  ·cases h) (λb A h=>by
  unfold Z44.L at h;split at h
  ·cases h;exact λk x=>Z44.step0 k x.1 x.2.1 x.2.2.1
  ·cases h) ((Z44.run k a0).trans h) (λr hr=>Ju (λr y h=>Q1 h) hr)
def Z135.F:Option (List ByteArray):=some ([(⟨#[79,110,32,114,105,118,101,114,115]⟩:ByteArray),(⟨#[65,32,104,105,115,116,111,114,121,32,111,102,32,109,97,112,115]⟩:ByteArray),(⟨#[84,104,101,32,110,111,114,116,104]⟩:ByteArray),(⟨#[79,108,100,32,114,111,97,100,115,58,32,97,32,103,117,105,100,101]⟩:ByteArray),(⟨#[79,110,32,114,105,118,101,114,115]⟩:ByteArray),(⟨#[]⟩:ByteArray)]:List ByteArray)
def Z135.C:Cal->Option CArm:=λc=>match c with
 |_=>none
theorem Z135.run:Qk Q0 (Q7 Z135.C) (Q6 2 0 (λ_=>none)) Tryz.f82 [] (Q2 (.fr 9 .str))=Z135.F:=by kernel_rfl
theorem Z135.G (hE:EnvOk Tryz.prog Q0)(pv:Nat->Value):∀cal A,Z135.C cal=some A->Q9 Tryz.prog Q0 pv cal A:=by
 intro cal A h
 unfold Z135.C at h
 cases h
theorem Z135.good (hE:EnvOk Tryz.prog Q0)(pv:Nat->Value){y:_}(h:Z135.F=some y):Q8 Tryz.prog Q0 pv (.f 82) (Qa [] (())) (.fr 9 .str y):=
 Q4 hE (Z135.G hE pv) (f:=82) (fn:=Tryz.f82) (by kernel_rfl) rfl (by kernel_rfl) (by kernel_rfl) ((Z135.run).trans h) (λr hr=>Q1 hr)
def Z75.F (a0:Cur)(a1:List Int):Option (Cur×Int):=(Z26.F a0 (a1.length:Int)).bind λr1=>bif decide (0<=r1.2)then(bif decide (r1.2<(a1.length:Int))then(some (r1.1,(a1.getD (r1.2:Int).toNat 0)))else none)else none
def Z75.C:Cal->Option CArm:=λc=>match c with
 |.f 35=>some (.m (.bx .cur) [(.int .i64)] _ (λx0 x=>Z26.F x0 x.1) (λr=>.kep (.bx .cur r.1) (.t (.int .i64) r.2)))
 |_=>none
theorem Z75.run (a0:Cur)(a1:List Int):YP Q0 (Q7 Z75.C) (Q6 12 0 (λ_=>none)) Tryz.f84 Qg (.bx .cur a0) [.t (.sl (.int .i64)) a1] (U8 (.bx .cur) (Q2 (.t (.int .i64))))=Z75.F a0 a1:=by kernel_rfl
theorem Z75.G (hE:EnvOk Tryz.prog Q0)(pv:Nat->Value):∀cal A,Z75.C cal=some A->Q9 Tryz.prog Q0 pv cal A:=by
 intro cal A h
 unfold Z75.C at h
 split at h
 ·cases h;exact⟨_,rfl,λx0 x y hy=>Z26.good hE pv x0 x.1 hy⟩
 ·cases h
theorem Z75.good (hE:EnvOk Tryz.prog Q0)(pv:Nat->Value)(a0:Cur)(a1:List Int){y:_}(h:Z75.F a0 a1=some y):QM Tryz.prog Q0 pv 84 (.bx .cur a0) (Qa [(.sl (.int .i64))] (a1,())) (.kep (.bx .cur y.1) (.t (.int .i64) y.2)):=
 Jm hE (Z75.G hE pv) (f:=84) (fn:=Tryz.f84) (by kernel_rfl) rfl (by kernel_rfl) (.inl rfl) (by kernel_rfl) ((Z75.run a0 a1).trans h) (λr hr=>Ju (λr y h=>Q1 h) hr)
def Z90.F (a0:Cur):Option (Cur×Date):=(Z75.F a0 ([1999,2000,1850,987,1900,2024]:List Int)).bind λr1=>(Z26.F r1.1 5).bind λr2=>bif (r2.2==0)then(some (r2.1,(⟨0,0,0,false⟩:Date)))else(bif (r2.2==1)then(some (r2.1,(⟨r1.2,0,0,true⟩:Date)))else(bif (r2.2==2)then((Z26.F r2.1 12).bind λr3=>some (r3.1,(⟨r1.2,(IntKind.wrap .i64 (1+r3.2)),0,false⟩:Date)))else(bif (r2.2==3)then((Z26.F r2.1 12).bind λr4=>(Z26.F r4.1 28).bind λr5=>some (r5.1,(⟨r1.2,(IntKind.wrap .i64 (1+r4.2)),(IntKind.wrap .i64 (1+r5.2)),false⟩:Date)))else(some (r2.1,(⟨r1.2,0,0,false⟩:Date))))))
def Z90.C:Cal->Option CArm:=λc=>match c with
 |.f 84=>some (.m (.bx .cur) [(.sl (.int .i64))] _ (λx0 x=>Z75.F x0 x.1) (λr=>.kep (.bx .cur r.1) (.t (.int .i64) r.2)))
 |.f 35=>some (.m (.bx .cur) [(.int .i64)] _ (λx0 x=>Z26.F x0 x.1) (λr=>.kep (.bx .cur r.1) (.t (.int .i64) r.2)))
 |_=>none
theorem Z90.run (a0:Cur):YP Q0 (Q7 Z90.C) (Q6 33 0 (λ_=>none)) Tryz.f83 Qg (.bx .cur a0) [] (U8 (.bx .cur) (Q2 (.t .date)))=Z90.F a0:=by kernel_rfl
theorem Z90.G (hE:EnvOk Tryz.prog Q0)(pv:Nat->Value):∀cal A,Z90.C cal=some A->Q9 Tryz.prog Q0 pv cal A:=by
 intro cal A h
 unfold Z90.C at h
 split at h
 ·cases h;exact⟨_,rfl,λx0 x y hy=>Z75.good hE pv x0 x.1 hy⟩
 ·cases h;exact⟨_,rfl,λx0 x y hy=>Z26.good hE pv x0 x.1 hy⟩
 ·cases h
theorem Z90.good (hE:EnvOk Tryz.prog Q0)(pv:Nat->Value)(a0:Cur){y:_}(h:Z90.F a0=some y):QM Tryz.prog Q0 pv 83 (.bx .cur a0) (Qa [] (())) (.kep (.bx .cur y.1) (.t .date y.2)):=
 Jm hE (Z90.G hE pv) (f:=83) (fn:=Tryz.f83) (by kernel_rfl) rfl (by kernel_rfl) (.inl rfl) (by kernel_rfl) ((Z90.run a0).trans h) (λr hr=>Ju (λr y h=>Q1 h) hr)
def Z105.F (k:Nat)(a0:Cur):Option (Cur×Entry):=(Z27.F a0 ([(⟨#[97,49]⟩:ByteArray),(⟨#[98,50]⟩:ByteArray),(⟨#[99,51]⟩:ByteArray),(⟨#[100,52]⟩:ByteArray),(⟨#[101,53]⟩:ByteArray),(⟨#[102,54]⟩:ByteArray)]:List ByteArray)).bind λr1=>(Z26.F r1.1 4).bind λr2=>(Z44.F k r2.1).bind λr3=>(Z135.F).bind λr4=>(Z27.F r3.1 r4).bind λr5=>(Z90.F r5.1).bind λr6=>(Z22.F r6.1 3).bind λr7=>bif r7.2 then((Z44.F k r7.1).bind λr8=>(Z22.F r8.1 3).bind λr9=>bif (!r9.2)then((Z27.F r9.1 ([(⟨#[74,111,117,114,110,97,108,32,111,102,32,77,97,112,115]⟩:ByteArray),(⟨#[65,110,110,97,108,115]⟩:ByteArray),(⟨#[69,115,115,97,121,115,32,111,110,32,108,97,110,100]⟩:ByteArray)]:List ByteArray)).bind λr10=>(Z75.F r10.1 ([0,1,7,12,9999]:List Int)).bind λr11=>(Z27.F r11.1 ([(⟨#[]⟩:ByteArray),(⟨#[49,45,57]⟩:ByteArray),(⟨#[55,55]⟩:ByteArray),(⟨#[49,50,48,45,49,51,53]⟩:ByteArray)]:List ByteArray)).bind λr12=>(Z22.F r12.1 3).bind λr13=>bif (!r13.2)then((Z27.F r13.1 ([(⟨#[78,111,114,116,104,32,80,114,101,115,115]⟩:ByteArray),(⟨#[72,97,108,108]⟩:ByteArray),(⟨#[76,97,110,101,32,38,32,67,111]⟩:ByteArray)]:List ByteArray)).bind λr14=>(Z22.F r14.1 4).bind λr15=>bif r15.2 then((Z27.F r15.1 ([(⟨#[97,48]⟩:ByteArray),(⟨#[98,49]⟩:ByteArray),(⟨#[122,57]⟩:ByteArray)]:List ByteArray)).bind λr16=>some (r16.1,(⟨r1.2,(IntKind.wrap .i64 (1+r2.2)),r3.2,r8.2,r5.2,r10.2,r14.2,r6.2,r11.2,r12.2,r16.2⟩:Entry)))else(some (r15.1,(⟨r1.2,(IntKind.wrap .i64 (1+r2.2)),r3.2,r8.2,r5.2,r10.2,r14.2,r6.2,r11.2,r12.2,(⟨#[]⟩:ByteArray)⟩:Entry))))else((Z22.F r13.1 4).bind λr17=>bif r17.2 then((Z27.F r17.1 ([(⟨#[97,48]⟩:ByteArray),(⟨#[98,49]⟩:ByteArray),(⟨#[122,57]⟩:ByteArray)]:List ByteArray)).bind λr18=>some (r18.1,(⟨r1.2,(IntKind.wrap .i64 (1+r2.2)),r3.2,r8.2,r5.2,r10.2,(⟨#[]⟩:ByteArray),r6.2,r11.2,r12.2,r18.2⟩:Entry)))else(some (r17.1,(⟨r1.2,(IntKind.wrap .i64 (1+r2.2)),r3.2,r8.2,r5.2,r10.2,(⟨#[]⟩:ByteArray),r6.2,r11.2,r12.2,(⟨#[]⟩:ByteArray)⟩:Entry)))))else((Z22.F r9.1 3).bind λr19=>bif (!r19.2)then((Z27.F r19.1 ([(⟨#[78,111,114,116,104,32,80,114,101,115,115]⟩:ByteArray),(⟨#[72,97,108,108]⟩:ByteArray),(⟨#[76,97,110,101,32,38,32,67,111]⟩:ByteArray)]:List ByteArray)).bind λr20=>(Z22.F r20.1 4).bind λr21=>bif r21.2 then((Z27.F r21.1 ([(⟨#[97,48]⟩:ByteArray),(⟨#[98,49]⟩:ByteArray),(⟨#[122,57]⟩:ByteArray)]:List ByteArray)).bind λr22=>some (r22.1,(⟨r1.2,(IntKind.wrap .i64 (1+r2.2)),r3.2,r8.2,r5.2,(⟨#[]⟩:ByteArray),r20.2,r6.2,0,(⟨#[]⟩:ByteArray),r22.2⟩:Entry)))else(some (r21.1,(⟨r1.2,(IntKind.wrap .i64 (1+r2.2)),r3.2,r8.2,r5.2,(⟨#[]⟩:ByteArray),r20.2,r6.2,0,(⟨#[]⟩:ByteArray),(⟨#[]⟩:ByteArray)⟩:Entry))))else((Z22.F r19.1 4).bind λr23=>bif r23.2 then((Z27.F r23.1 ([(⟨#[97,48]⟩:ByteArray),(⟨#[98,49]⟩:ByteArray),(⟨#[122,57]⟩:ByteArray)]:List ByteArray)).bind λr24=>some (r24.1,(⟨r1.2,(IntKind.wrap .i64 (1+r2.2)),r3.2,r8.2,r5.2,(⟨#[]⟩:ByteArray),(⟨#[]⟩:ByteArray),r6.2,0,(⟨#[]⟩:ByteArray),r24.2⟩:Entry)))else(some (r23.1,(⟨r1.2,(IntKind.wrap .i64 (1+r2.2)),r3.2,r8.2,r5.2,(⟨#[]⟩:ByteArray),(⟨#[]⟩:ByteArray),r6.2,0,(⟨#[]⟩:ByteArray),(⟨#[]⟩:ByteArray)⟩:Entry))))))else((Z22.F r7.1 3).bind λr25=>bif (!r25.2)then((Z27.F r25.1 ([(⟨#[74,111,117,114,110,97,108,32,111,102,32,77,97,112,115]⟩:ByteArray),(⟨#[65,110,110,97,108,115]⟩:ByteArray),(⟨#[69,115,115,97,121,115,32,111,110,32,108,97,110,100]⟩:ByteArray)]:List ByteArray)).bind λr26=>(Z75.F r26.1 ([0,1,7,12,9999]:List Int)).bind λr27=>(Z27.F r27.1 ([(⟨#[]⟩:ByteArray),(⟨#[49,45,57]⟩:ByteArray),(⟨#[55,55]⟩:ByteArray),(⟨#[49,50,48,45,49,51,53]⟩:ByteArray)]:List ByteArray)).bind λr28=>(Z22.F r28.1 3).bind λr29=>bif (!r29.2)then((Z27.F r29.1 ([(⟨#[78,111,114,116,104,32,80,114,101,115,115]⟩:ByteArray),(⟨#[72,97,108,108]⟩:ByteArray),(⟨#[76,97,110,101,32,38,32,67,111]⟩:ByteArray)]:List ByteArray)).bind λr30=>(Z22.F r30.1 4).bind λr31=>bif r31.2 then((Z27.F r31.1 ([(⟨#[97,48]⟩:ByteArray),(⟨#[98,49]⟩:ByteArray),(⟨#[122,57]⟩:ByteArray)]:List ByteArray)).bind λr32=>some (r32.1,(⟨r1.2,(IntKind.wrap .i64 (1+r2.2)),r3.2,([]:List Name),r5.2,r26.2,r30.2,r6.2,r27.2,r28.2,r32.2⟩:Entry)))else(some (r31.1,(⟨r1.2,(IntKind.wrap .i64 (1+r2.2)),r3.2,([]:List Name),r5.2,r26.2,r30.2,r6.2,r27.2,r28.2,(⟨#[]⟩:ByteArray)⟩:Entry))))else((Z22.F r29.1 4).bind λr33=>bif r33.2 then((Z27.F r33.1 ([(⟨#[97,48]⟩:ByteArray),(⟨#[98,49]⟩:ByteArray),(⟨#[122,57]⟩:ByteArray)]:List ByteArray)).bind λr34=>some (r34.1,(⟨r1.2,(IntKind.wrap .i64 (1+r2.2)),r3.2,([]:List Name),r5.2,r26.2,(⟨#[]⟩:ByteArray),r6.2,r27.2,r28.2,r34.2⟩:Entry)))else(some (r33.1,(⟨r1.2,(IntKind.wrap .i64 (1+r2.2)),r3.2,([]:List Name),r5.2,r26.2,(⟨#[]⟩:ByteArray),r6.2,r27.2,r28.2,(⟨#[]⟩:ByteArray)⟩:Entry)))))else((Z22.F r25.1 3).bind λr35=>bif (!r35.2)then((Z27.F r35.1 ([(⟨#[78,111,114,116,104,32,80,114,101,115,115]⟩:ByteArray),(⟨#[72,97,108,108]⟩:ByteArray),(⟨#[76,97,110,101,32,38,32,67,111]⟩:ByteArray)]:List ByteArray)).bind λr36=>(Z22.F r36.1 4).bind λr37=>bif r37.2 then((Z27.F r37.1 ([(⟨#[97,48]⟩:ByteArray),(⟨#[98,49]⟩:ByteArray),(⟨#[122,57]⟩:ByteArray)]:List ByteArray)).bind λr38=>some (r38.1,(⟨r1.2,(IntKind.wrap .i64 (1+r2.2)),r3.2,([]:List Name),r5.2,(⟨#[]⟩:ByteArray),r36.2,r6.2,0,(⟨#[]⟩:ByteArray),r38.2⟩:Entry)))else(some (r37.1,(⟨r1.2,(IntKind.wrap .i64 (1+r2.2)),r3.2,([]:List Name),r5.2,(⟨#[]⟩:ByteArray),r36.2,r6.2,0,(⟨#[]⟩:ByteArray),(⟨#[]⟩:ByteArray)⟩:Entry))))else((Z22.F r35.1 4).bind λr39=>bif r39.2 then((Z27.F r39.1 ([(⟨#[97,48]⟩:ByteArray),(⟨#[98,49]⟩:ByteArray),(⟨#[122,57]⟩:ByteArray)]:List ByteArray)).bind λr40=>some (r40.1,(⟨r1.2,(IntKind.wrap .i64 (1+r2.2)),r3.2,([]:List Name),r5.2,(⟨#[]⟩:ByteArray),(⟨#[]⟩:ByteArray),r6.2,0,(⟨#[]⟩:ByteArray),r40.2⟩:Entry)))else(some (r39.1,(⟨r1.2,(IntKind.wrap .i64 (1+r2.2)),r3.2,([]:List Name),r5.2,(⟨#[]⟩:ByteArray),(⟨#[]⟩:ByteArray),r6.2,0,(⟨#[]⟩:ByteArray),(⟨#[]⟩:ByteArray)⟩:Entry))))))
def Z105.C (k:Nat):Cal->Option CArm:=λc=>match c with
 |.f 53=>some (.m (.bx .cur) [(.sl .str)] _ (λx0 x=>Z27.F x0 x.1) (λr=>.kep (.bx .cur r.1) (.t .str r.2)))
 |.f 35=>some (.m (.bx .cur) [(.int .i64)] _ (λx0 x=>Z26.F x0 x.1) (λr=>.kep (.bx .cur r.1) (.t (.int .i64) r.2)))
 |.f 81=>some (.m (.bx .cur) [] _ (λx0 x=>Z44.F k x0) (λr=>.kep (.bx .cur r.1) (.fr 55 .name r.2)))
 |.f 82=>some (.p [] _ (λx=>Z135.F) (λr=>(.fr 9 .str r)))
 |.f 83=>some (.m (.bx .cur) [] _ (λx0 x=>Z90.F x0) (λr=>.kep (.bx .cur r.1) (.t .date r.2)))
 |.f 34=>some (.m (.bx .cur) [(.int .i64)] _ (λx0 x=>Z22.F x0 x.1) (λr=>.kep (.bx .cur r.1) (.t .bool r.2)))
 |.f 84=>some (.m (.bx .cur) [(.sl (.int .i64))] _ (λx0 x=>Z75.F x0 x.1) (λr=>.kep (.bx .cur r.1) (.t (.int .i64) r.2)))
 |_=>none
theorem Z105.run (k:Nat)(a0:Cur):YP Q0 (Q7 (Z105.C k)) (Q6 52 0 (λ_=>none)) Tryz.f52 Qg (.bx .cur a0) [] (U8 (.bx .cur) (Q2 (.t .entry)))=Z105.F k a0:=by kernel_rfl
theorem Z105.G (hE:EnvOk Tryz.prog Q0)(pv:Nat->Value)(k:Nat):∀cal A,Z105.C k cal=some A->Q9 Tryz.prog Q0 pv cal A:=by
 intro cal A h
 unfold Z105.C at h
 split at h
 ·cases h;exact⟨_,rfl,λx0 x y hy=>Z27.good hE pv x0 x.1 hy⟩
 ·cases h;exact⟨_,rfl,λx0 x y hy=>Z26.good hE pv x0 x.1 hy⟩
 ·cases h;exact⟨_,rfl,λx0 x y hy=>Z44.good hE pv k x0 hy⟩
 ·cases h;exact λx y hy=>Z135.good hE pv hy
 ·cases h;exact⟨_,rfl,λx0 x y hy=>Z90.good hE pv x0 hy⟩
 ·cases h;exact⟨_,rfl,λx0 x y hy=>Z22.good hE pv x0 x.1 hy⟩
 ·cases h;exact⟨_,rfl,λx0 x y hy=>Z75.good hE pv x0 x.1 hy⟩
 ·cases h
theorem Z105.good (hE:EnvOk Tryz.prog Q0)(pv:Nat->Value)(k:Nat)(a0:Cur){y:_}(h:Z105.F k a0=some y):QM Tryz.prog Q0 pv 52 (.bx .cur a0) (Qa [] (())) (.kep (.bx .cur y.1) (.t .entry y.2)):=
 Jm hE (Z105.G hE pv k) (f:=52) (fn:=Tryz.f52) (by kernel_rfl) rfl (by kernel_rfl) (.inl rfl) (by kernel_rfl) ((Z105.run k a0).trans h) (λr hr=>Ju (λr y h=>Q1 h) hr)
def Z70.F (k:Nat)(a0:Entry):Option (Entry):=(Z13.F k a0.authors).bind λr1=>(Z13.F k a0.editors).bind λr2=>some (⟨a0.key,a0.kind,r1,r2,a0.title,a0.container,a0.publisher,a0.date,a0.volume,a0.pages,a0.cross⟩:Entry)
def Z70.C (k:Nat):Cal->Option CArm:=λc=>match c with
 |.f 25=>some (.p [(.sl .name)] _ (λx=>Z13.F k x.1) (λr=>(.fr 55 .name r)))
 |_=>none
theorem Z70.run (k:Nat)(a0:Entry):Qk Q0 (Q7 (Z70.C k)) (Q6 12 0 (λ_=>none)) Tryz.f85 [.t .entry a0] (Q2 (.t .entry))=Z70.F k a0:=by kernel_rfl
theorem Z70.G (hE:EnvOk Tryz.prog Q0)(pv:Nat->Value)(k:Nat):∀cal A,Z70.C k cal=some A->Q9 Tryz.prog Q0 pv cal A:=by
 intro cal A h
 unfold Z70.C at h
 split at h
 ·cases h;exact λx y hy=>Z13.good hE pv k x.1 hy
 ·cases h
theorem Z70.good (hE:EnvOk Tryz.prog Q0)(pv:Nat->Value)(k:Nat)(a0:Entry){y:_}(h:Z70.F k a0=some y):Q8 Tryz.prog Q0 pv (.f 85) (Qa [.entry] (a0,())) (.t .entry y):=
 Q4 hE (Z70.G hE pv k) (f:=85) (fn:=Tryz.f85) (by kernel_rfl) rfl (by kernel_rfl) (by kernel_rfl) ((Z70.run k a0).trans h) (λr hr=>Q1 hr)
def Z17.l0:Nat->Library->Entry->(List Entry)->(List Entry)->Bool->Int->Option (Entry× (List Entry)× (List Entry)×Bool)
 |0,_,_,_,_,_,_=>none
 |k+1,x2,x3,x4,x5,x6,x7=>bif (decide (x7<(x2.entries.length:Int)))then(bif decide (0<=x7)then(bif decide (x7<(x2.entries.length:Int))then(bif (!ltS ((x2.entries.getD (x7:Int).toNat (Q5 .entry)).key) x3.key)then(bif (!x6)then((Z70.F k x3).bind λr1=>bif room (x5.length+([r1]:List Entry).length) .entry then(bif decide (0<=x7)then(bif decide (x7<(x2.entries.length:Int))then(bif (!Qo ((x2.entries.getD (x7:Int).toNat (Q5 .entry)).key) x3.key)then(bif decide (0<=x7)then(bif decide (x7<(x2.entries.length:Int))then((Z70.F k (x2.entries.getD (x7:Int).toNat (Q5 .entry))).bind λr2=>bif room ((x5++([r1]:List Entry)).length+([r2]:List Entry).length) .entry then(Z17.l0 k x2 x3 x4 ((x5++([r1]:List Entry))++([r2]:List Entry)) true (IntKind.wrap .i64 (x7+1)))else none)else none)else none)else(Z17.l0 k x2 x3 x4 (x5++([r1]:List Entry)) true (IntKind.wrap .i64 (x7+1))))else none)else none)else none)else(bif decide (0<=x7)then(bif decide (x7<(x2.entries.length:Int))then(bif (!Qo ((x2.entries.getD (x7:Int).toNat (Q5 .entry)).key) x3.key)then(bif decide (0<=x7)then(bif decide (x7<(x2.entries.length:Int))then((Z70.F k (x2.entries.getD (x7:Int).toNat (Q5 .entry))).bind λr3=>bif room (x5.length+([r3]:List Entry).length) .entry then(Z17.l0 k x2 x3 x4 (x5++([r3]:List Entry)) x6 (IntKind.wrap .i64 (x7+1)))else none)else none)else none)else(Z17.l0 k x2 x3 x4 x5 x6 (IntKind.wrap .i64 (x7+1))))else none)else none))else(bif decide (0<=x7)then(bif decide (x7<(x2.entries.length:Int))then(bif (!Qo ((x2.entries.getD (x7:Int).toNat (Q5 .entry)).key) x3.key)then(bif decide (0<=x7)then(bif decide (x7<(x2.entries.length:Int))then((Z70.F k (x2.entries.getD (x7:Int).toNat (Q5 .entry))).bind λr4=>bif room (x5.length+([r4]:List Entry).length) .entry then(Z17.l0 k x2 x3 x4 (x5++([r4]:List Entry)) x6 (IntKind.wrap .i64 (x7+1)))else none)else none)else none)else(Z17.l0 k x2 x3 x4 x5 x6 (IntKind.wrap .i64 (x7+1))))else none)else none))else none)else none)else(some (x3,x4,x5,x6))
def Z17.F (k:Nat)(a0:Library)(a1:Entry):Option (Library):=(Z17.l0 k a0 a1 ([]:List Entry) ([]) false 0).bind λy5=>bif (!y5.2.2.2)then((Z70.F k y5.1).bind λr6=>bif room (y5.2.2.1.length+([r6]:List Entry).length) .entry then(some (⟨(y5.2.2.1++([r6]:List Entry))⟩:Library))else none)else(some (⟨y5.2.2.1⟩:Library))
def Z17.C (k:Nat):Cal->Option CArm:=λc=>match c with
 |.f 85=>some (.p [.entry] _ (λx=>Z70.F k x.1) (λr=>(.t .entry r)))
 |_=>none
def Z17.sp0:List Sp:=[.boxT 2 0 .lib,.boxT 3 4 .entry,.boxF 4 8 .lib [.t (.sl .entry)],.boxF 5 1028 .lib [.own 1099511627859 43 .entry false true],.t 6 .bool,.t 7 (.int .i64)]
def Z17.sp0_0:List Sp:=[.boxT 3 4 .entry,.boxF 4 8 .lib [.t (.sl .entry)],.boxF 5 1028 .lib [.own 1099511627859 43 .entry false true],.t 6 .bool]
def Z17.A0:LArm:=.one Z17.sp0 Z17.sp0_0 (Entry× (List Entry)× (List Entry)×Bool) (λk x=>Z17.l0 k x.1 x.2.1 x.2.2.1.1 x.2.2.2.1.1 x.2.2.2.2.1 x.2.2.2.2.2.1) (.exit 0) (λy=>(y.1,(y.2.1,()),(y.2.2.1,()),y.2.2.2,())) (λx=>(x.1,x.2.1.1,x.2.2.1.1,x.2.2.2.1))
def Z17.L:Nat->Option LArm:=λb=>match b with
 |0=>some Z17.A0
 |_=>none
theorem Z17.run (k:Nat)(a0:Library)(a1:Entry):Qk Q0 (Q7 (Z17.C k)) (Q6 66 k Z17.L) Tryz.f54 [.t .lib a0,.t .entry a1] (Q2 (.sf .lib 43))=Z17.F k a0 a1:=by kernel_rfl
theorem Z17.step0 (k:Nat)(x2:Library)(x3:Entry)(x4:List Entry)(x5:List Entry)(x6:Bool)(x7:Int):Qs Q0 (Q7 (Z17.C k)) (Q6 66 k Z17.L) 0 (Qj Tryz.f54 0) (QA 66 Z17.sp0 (x2,x3,(x4,()),(x5,()),x6,x7,())) (Z17.A0.cont 66 k)=Z17.l0 (k+1) x2 x3 x4 x5 x6 x7:=by kernel_rfl
theorem Z17.G (hE:EnvOk Tryz.prog Q0)(pv:Nat->Value)(k:Nat):∀cal A,Z17.C k cal=some A->Q9 Tryz.prog Q0 pv cal A:=by
 intro cal A h
 unfold Z17.C at h
 split at h
 ·cases h;exact λx y hy=>Z70.good hE pv k x.1 hy
 ·cases h
theorem Z17.good (hE:EnvOk Tryz.prog Q0)(pv:Nat->Value)(k:Nat)(a0:Library)(a1:Entry){y:_}(h:Z17.F k a0 a1=some y):Q8 Tryz.prog Q0 pv (.f 54) (Qa [.lib,.entry] (a0,a1,())) (sfV 43 .lib y):=
 Qh hE (t:=Z17.C) k (λk _=>Z17.G hE pv k) (f:=54) (fn:=Tryz.f54) (by kernel_rfl) rfl (by kernel_rfl) (by kernel_rfl) (lt:=Z17.L) (by kernel_rfl) (λb A h=>by
  unfold Z17.L at h;split at h
  ·cases h;exact⟨by kernel_rfl,by kernel_rfl,λ_=>rfl,λ_=>rfl⟩
  ·cases h) (λb A h=>by
  unfold Z17.L at h;split at h
  ·cases h;exact λk x=>Z17.step0 k x.1 x.2.1 x.2.2.1.1 x.2.2.2.1.1 x.2.2.2.2.1 x.2.2.2.2.2.1
  ·cases h) ((Z17.run k a0 a1).trans h) (λr hr=>Q1 hr)
def Z36.l0:Nat->Cur->(List Entry)->(List Entry)->Int->Option (Cur× (List Entry)× (List Entry))
 |0,_,_,_,_=>none
 |k+1,x0,x2,x3,x4=>bif (decide (x4 > 0))then((Z105.F k x0).bind λr2=>(Z22.F r2.1 4).bind λr3=>bif r3.2 then((Z27.F r3.1 ([(⟨#[97,49]⟩:ByteArray),(⟨#[98,50]⟩:ByteArray),(⟨#[99,51]⟩:ByteArray)]:List ByteArray)).bind λr4=>bif (Qo r4.2 r2.2.key)then((Z17.F k (⟨x3⟩:Library) (⟨r2.2.key,r2.2.kind,r2.2.authors,r2.2.editors,r2.2.title,r2.2.container,r2.2.publisher,r2.2.date,r2.2.volume,r2.2.pages,(⟨#[]⟩:ByteArray)⟩:Entry)).bind λr5=>Z36.l0 k r4.1 x2 r5.entries (IntKind.wrap .i64 (x4-1)))else((Z17.F k (⟨x3⟩:Library) (⟨r2.2.key,r2.2.kind,r2.2.authors,r2.2.editors,r2.2.title,r2.2.container,r2.2.publisher,r2.2.date,r2.2.volume,r2.2.pages,r4.2⟩:Entry)).bind λr6=>Z36.l0 k r4.1 x2 r6.entries (IntKind.wrap .i64 (x4-1))))else((Z17.F k (⟨x3⟩:Library) r2.2).bind λr7=>Z36.l0 k r3.1 x2 r7.entries (IntKind.wrap .i64 (x4-1))))else(some (x0,x2,x3))
def Z36.F (k:Nat)(a0:Cur):Option (Cur×Library):=(Z26.F a0 6).bind λr1=>(Z36.l0 k r1.1 ([]:List Entry) ([]) r1.2).bind λy8=>some (y8.1,(⟨y8.2.2⟩:Library))
def Z36.C (k:Nat):Cal->Option CArm:=λc=>match c with
 |.f 35=>some (.m (.bx .cur) [(.int .i64)] _ (λx0 x=>Z26.F x0 x.1) (λr=>.kep (.bx .cur r.1) (.t (.int .i64) r.2)))
 |.f 52=>some (.m (.bx .cur) [] _ (λx0 x=>Z105.F k x0) (λr=>.kep (.bx .cur r.1) (.t .entry r.2)))
 |.f 34=>some (.m (.bx .cur) [(.int .i64)] _ (λx0 x=>Z22.F x0 x.1) (λr=>.kep (.bx .cur r.1) (.t .bool r.2)))
 |.f 53=>some (.m (.bx .cur) [(.sl .str)] _ (λx0 x=>Z27.F x0 x.1) (λr=>.kep (.bx .cur r.1) (.t .str r.2)))
 |.f 54=>some (.p [.lib,.entry] _ (λx=>Z17.F k x.1 x.2.1) (λr=>(sfV 43 .lib r)))
 |_=>none
def Z36.sp0:List Sp:=[.boxT 0 1099511627776 .cur,.boxF 2 0 .lib [.t (.sl .entry)],.boxF 3 1028 .lib [.own 1099511627827 43 .entry false true],.t 4 (.int .i64)]
def Z36.sp0_0:List Sp:=[.boxT 0 1099511627776 .cur,.boxF 2 0 .lib [.t (.sl .entry)],.boxF 3 1028 .lib [.own 1099511627827 43 .entry false true]]
def Z36.A0:LArm:=.one Z36.sp0 Z36.sp0_0 (Cur× (List Entry)× (List Entry)) (λk x=>Z36.l0 k x.1 x.2.1.1 x.2.2.1.1 x.2.2.2.1) (.exit 0) (λy=>(y.1,(y.2.1,()),(y.2.2,()),())) (λx=>(x.1,x.2.1.1,x.2.2.1.1))
def Z36.L:Nat->Option LArm:=λb=>match b with
 |0=>some Z36.A0
 |_=>none
theorem Z36.run (k:Nat)(a0:Cur):YP Q0 (Q7 (Z36.C k)) (Q6 31 k Z36.L) Tryz.f33 Qg (.bx .cur a0) [] (U8 (.bx .cur) (Q2 (.sf .lib 43)))=Z36.F k a0:=by kernel_rfl
theorem Z36.step0 (k:Nat)(x0:Cur)(x2:List Entry)(x3:List Entry)(x4:Int):Qs Q0 (Q7 (Z36.C k)) (Q6 31 k Z36.L) 0 (Qj Tryz.f33 0) (QA 31 Z36.sp0 (x0,(x2,()),(x3,()),x4,())) (Z36.A0.cont 31 k)=Z36.l0 (k+1) x0 x2 x3 x4:=by kernel_rfl
theorem Z36.G (hE:EnvOk Tryz.prog Q0)(pv:Nat->Value)(k:Nat):∀cal A,Z36.C k cal=some A->Q9 Tryz.prog Q0 pv cal A:=by
 intro cal A h
 unfold Z36.C at h
 split at h
 ·cases h;exact⟨_,rfl,λx0 x y hy=>Z26.good hE pv x0 x.1 hy⟩
 ·cases h;exact⟨_,rfl,λx0 x y hy=>Z105.good hE pv k x0 hy⟩
 ·cases h;exact⟨_,rfl,λx0 x y hy=>Z22.good hE pv x0 x.1 hy⟩
 ·cases h;exact⟨_,rfl,λx0 x y hy=>Z27.good hE pv x0 x.1 hy⟩
 ·cases h;exact λx y hy=>Z17.good hE pv k x.1 x.2.1 hy
 ·cases h
theorem Z36.good (hE:EnvOk Tryz.prog Q0)(pv:Nat->Value)(k:Nat)(a0:Cur){y:_}(h:Z36.F k a0=some y):QM Tryz.prog Q0 pv 33 (.bx .cur a0) (Qa [] (())) (.kep (.bx .cur y.1) (sfV 43 .lib y.2)):=
 JB hE (t:=Z36.C) k (λk _=>Z36.G hE pv k) (f:=33) (fn:=Tryz.f33) (by kernel_rfl) rfl (by kernel_rfl) (.inl rfl) (by kernel_rfl) (lt:=Z36.L) (by kernel_rfl) (λb A h=>by
  unfold Z36.L at h;split at h
  ·cases h;exact⟨by kernel_rfl,by kernel_rfl,λ_=>rfl,λ_=>rfl⟩
  ·cases h) (λb A h=>by
  unfold Z36.L at h;split at h
  ·cases h;exact λk x=>Z36.step0 k x.1 x.2.1.1 x.2.2.1.1 x.2.2.2.1
  ·cases h) ((Z36.run k a0).trans h) (λr hr=>Ju (λr y h=>Q1 h) hr)
def Z45.l0:Nat->Cur->(List Entry)->(List Entry)->Int->Option (Cur× (List Entry)× (List Entry))
 |0,_,_,_,_=>none
 |k+1,x0,x2,x3,x4=>bif (decide (x4<(x3.length:Int)))then((Z22.F x0 2).bind λr2=>bif r2.2 then(bif decide (0<=x4)then(bif decide (x4<(x3.length:Int))then(bif decide (0<=0)then(bif decide (0<(x3.length:Int))then((Z13.F k ((x3.getD ((0:Int).toNat) (Q5 .entry)).authors)).bind λr3=>bif decide (0<=x4)then(bif decide (x4<(x3.length:Int))then(Z45.l0 k r2.1 x2 (x3.set ((x4:Int).toNat) (⟨(x3.getD ((x4:Int).toNat) (Q5 .entry)).key,(x3.getD ((x4:Int).toNat) (Q5 .entry)).kind,r3,(x3.getD ((x4:Int).toNat) (Q5 .entry)).editors,(x3.getD ((x4:Int).toNat) (Q5 .entry)).title,(x3.getD ((x4:Int).toNat) (Q5 .entry)).container,(x3.getD ((x4:Int).toNat) (Q5 .entry)).publisher,(x3.getD ((x4:Int).toNat) (Q5 .entry)).date,(x3.getD ((x4:Int).toNat) (Q5 .entry)).volume,(x3.getD ((x4:Int).toNat) (Q5 .entry)).pages,(x3.getD ((x4:Int).toNat) (Q5 .entry)).cross⟩:Entry)) (IntKind.wrap .i64 (x4+1)))else none)else none)else none)else none)else none)else none)else(Z45.l0 k r2.1 x2 x3 (IntKind.wrap .i64 (x4+1))))else(some (x0,x2,x3))
def Z45.F (k:Nat)(a0:Cur):Option (Cur×Library):=(Z36.F k a0).bind λr1=>(Z45.l0 k r1.1 ([]:List Entry) r1.2.entries 1).bind λy4=>some (y4.1,(⟨y4.2.2⟩:Library))
def Z45.C (k:Nat):Cal->Option CArm:=λc=>match c with
 |.f 33=>some (.m (.bx .cur) [] _ (λx0 x=>Z36.F k x0) (λr=>.kep (.bx .cur r.1) (sfV 43 .lib r.2)))
 |.f 34=>some (.m (.bx .cur) [(.int .i64)] _ (λx0 x=>Z22.F x0 x.1) (λr=>.kep (.bx .cur r.1) (.t .bool r.2)))
 |.f 25=>some (.p [(.sl .name)] _ (λx=>Z13.F k x.1) (λr=>(.fr 55 .name r)))
 |_=>none
def Z45.sp0:List Sp:=[.boxT 0 1099511627776 .cur,.boxF 2 0 .lib [.t (.sl .entry)],.boxF 3 1032 .lib [.own 1028 43 .entry false true],.t 4 (.int .i64)]
def Z45.sp0_0:List Sp:=[.boxT 0 1099511627776 .cur,.boxF 2 0 .lib [.t (.sl .entry)],.boxF 3 1032 .lib [.own 1028 43 .entry false true]]
def Z45.A0:LArm:=.one Z45.sp0 Z45.sp0_0 (Cur× (List Entry)× (List Entry)) (λk x=>Z45.l0 k x.1 x.2.1.1 x.2.2.1.1 x.2.2.2.1) (.exit 0) (λy=>(y.1,(y.2.1,()),(y.2.2,()),())) (λx=>(x.1,x.2.1.1,x.2.2.1.1))
def Z45.L:Nat->Option LArm:=λb=>match b with
 |0=>some Z45.A0
 |_=>none
theorem Z45.run (k:Nat)(a0:Cur):YP Q0 (Q7 (Z45.C k)) (Q6 35 k Z45.L) Tryz.f13 Qg (.bx .cur a0) [] (U8 (.bx .cur) (Q2 (.sf .lib 43)))=Z45.F k a0:=by kernel_rfl
theorem Z45.step0 (k:Nat)(x0:Cur)(x2:List Entry)(x3:List Entry)(x4:Int):Qs Q0 (Q7 (Z45.C k)) (Q6 35 k Z45.L) 0 (Qj Tryz.f13 0) (QA 35 Z45.sp0 (x0,(x2,()),(x3,()),x4,())) (Z45.A0.cont 35 k)=Z45.l0 (k+1) x0 x2 x3 x4:=by kernel_rfl
theorem Z45.G (hE:EnvOk Tryz.prog Q0)(pv:Nat->Value)(k:Nat):∀cal A,Z45.C k cal=some A->Q9 Tryz.prog Q0 pv cal A:=by
 intro cal A h
 unfold Z45.C at h
 split at h
 ·cases h;exact⟨_,rfl,λx0 x y hy=>Z36.good hE pv k x0 hy⟩
 ·cases h;exact⟨_,rfl,λx0 x y hy=>Z22.good hE pv x0 x.1 hy⟩
 ·cases h;exact λx y hy=>Z13.good hE pv k x.1 hy
 ·cases h
theorem Z45.good (hE:EnvOk Tryz.prog Q0)(pv:Nat->Value)(k:Nat)(a0:Cur){y:_}(h:Z45.F k a0=some y):QM Tryz.prog Q0 pv 13 (.bx .cur a0) (Qa [] (())) (.kep (.bx .cur y.1) (sfV 43 .lib y.2)):=
 JB hE (t:=Z45.C) k (λk _=>Z45.G hE pv k) (f:=13) (fn:=Tryz.f13) (by kernel_rfl) rfl (by kernel_rfl) (.inl rfl) (by kernel_rfl) (lt:=Z45.L) (by kernel_rfl) (λb A h=>by
  unfold Z45.L at h;split at h
  ·cases h;exact⟨by kernel_rfl,by kernel_rfl,λ_=>rfl,λ_=>rfl⟩
  ·cases h) (λb A h=>by
  unfold Z45.L at h;split at h
  ·cases h;exact λk x=>Z45.step0 k x.1 x.2.1.1 x.2.2.1.1 x.2.2.2.1
  ·cases h) ((Z45.run k a0).trans h) (λr hr=>Ju (λr y h=>Q1 h) hr)
def Z106.F (a0:Cur)(a1:Library):Option (Cur×ByteArray):=bif ((a1.entries.length:Int)==0)then((Z27.F a0 ([(⟨#[97,49]⟩:ByteArray),(⟨#[98,50]⟩:ByteArray),(⟨#[122,122]⟩:ByteArray),(⟨#[]⟩:ByteArray),(⟨#[65]⟩:ByteArray)]:List ByteArray)).bind λr1=>some (r1.1,r1.2))else((Z22.F a0 8).bind λr2=>bif r2.2 then((Z27.F r2.1 ([(⟨#[97,49]⟩:ByteArray),(⟨#[98,50]⟩:ByteArray),(⟨#[122,122]⟩:ByteArray),(⟨#[]⟩:ByteArray),(⟨#[65]⟩:ByteArray)]:List ByteArray)).bind λr3=>some (r3.1,r3.2))else((Z26.F r2.1 (a1.entries.length:Int)).bind λr4=>bif decide (0<=r4.2)then(bif decide (r4.2<(a1.entries.length:Int))then(some (r4.1,(a1.entries.getD (r4.2:Int).toNat (Q5 .entry)).key))else none)else none))
def Z106.C:Cal->Option CArm:=λc=>match c with
 |.f 53=>some (.m (.bx .cur) [(.sl .str)] _ (λx0 x=>Z27.F x0 x.1) (λr=>.kep (.bx .cur r.1) (.t .str r.2)))
 |.f 34=>some (.m (.bx .cur) [(.int .i64)] _ (λx0 x=>Z22.F x0 x.1) (λr=>.kep (.bx .cur r.1) (.t .bool r.2)))
 |.f 35=>some (.m (.bx .cur) [(.int .i64)] _ (λx0 x=>Z26.F x0 x.1) (λr=>.kep (.bx .cur r.1) (.t (.int .i64) r.2)))
 |_=>none
theorem Z106.run (a0:Cur)(a1:Library):YP Q0 (Q7 Z106.C) (Q6 26 0 (λ_=>none)) Tryz.f36 Qg (.bx .cur a0) [.t .lib a1] (U8 (.bx .cur) (Q2 (.t .str)))=Z106.F a0 a1:=by kernel_rfl
theorem Z106.G (hE:EnvOk Tryz.prog Q0)(pv:Nat->Value):∀cal A,Z106.C cal=some A->Q9 Tryz.prog Q0 pv cal A:=by
 intro cal A h
 unfold Z106.C at h
 split at h
 ·cases h;exact⟨_,rfl,λx0 x y hy=>Z27.good hE pv x0 x.1 hy⟩
 ·cases h;exact⟨_,rfl,λx0 x y hy=>Z22.good hE pv x0 x.1 hy⟩
 ·cases h;exact⟨_,rfl,λx0 x y hy=>Z26.good hE pv x0 x.1 hy⟩
 ·cases h
theorem Z106.good (hE:EnvOk Tryz.prog Q0)(pv:Nat->Value)(a0:Cur)(a1:Library){y:_}(h:Z106.F a0 a1=some y):QM Tryz.prog Q0 pv 36 (.bx .cur a0) (Qa [.lib] (a1,())) (.kep (.bx .cur y.1) (.t .str y.2)):=
 Jm hE (Z106.G hE pv) (f:=36) (fn:=Tryz.f36) (by kernel_rfl) rfl (by kernel_rfl) (.inl rfl) (by kernel_rfl) ((Z106.run a0 a1).trans h) (λr hr=>Ju (λr y h=>Q1 h) hr)
def Z46.l0:Nat->Cur->Library->(List ByteArray)->Int->Option (Cur×Library× (List ByteArray))
 |0,_,_,_,_=>none
 |k+1,x0,x3,x5,x6=>bif (decide (x6<(x3.entries.length:Int)))then((Z22.F x0 3).bind λr1=>bif (!r1.2)then((Z26.F r1.1 (IntKind.wrap .i64 ((x5.length:Int)+1))).bind λr2=>bif decide (0<=r2.2)then(bif decide (r2.2<=(x5.length:Int))then(bif room (([]:List ByteArray).length+(x5.take (r2.2:Int).toNat).length) .str then(bif decide (0<=x6)then(bif decide (x6<(x3.entries.length:Int))then(bif room ((([]:List ByteArray)++(x5.take (r2.2:Int).toNat)).length+([(x3.entries.getD (x6:Int).toNat (Q5 .entry)).key]:List ByteArray).length) .str then(bif decide (0<=r2.2)then(bif decide (r2.2<=(x5.length:Int))then(bif room (((([]:List ByteArray)++(x5.take (r2.2:Int).toNat))++([(x3.entries.getD (x6:Int).toNat (Q5 .entry)).key]:List ByteArray)).length+(x5.drop (r2.2:Int).toNat).length) .str then(Z46.l0 k r2.1 x3 (((([]:List ByteArray)++(x5.take (r2.2:Int).toNat))++([(x3.entries.getD (x6:Int).toNat (Q5 .entry)).key]:List ByteArray))++(x5.drop (r2.2:Int).toNat)) (IntKind.wrap .i64 (x6+1)))else none)else none)else none)else none)else none)else none)else none)else none)else none)else(Z46.l0 k r1.1 x3 x5 (IntKind.wrap .i64 (x6+1))))else(some (x0,x3,x5))
def Z46.F (k:Nat)(a0:Cur)(a1:Library):Option (Cur×List ByteArray):=(Z46.l0 k a0 a1 ([]:List ByteArray) 0).bind λy3=>(Z22.F y3.1 12).bind λr4=>bif r4.2 then((Z106.F r4.1 y3.2.1).bind λr5=>bif room (y3.2.2.length+([r5.2]:List ByteArray).length) .str then(some (r5.1,(y3.2.2++([r5.2]:List ByteArray))))else none)else(some (r4.1,y3.2.2))
def Z46.C (k:Nat):Cal->Option CArm:=λc=>match c with
 |.f 34=>some (.m (.bx .cur) [(.int .i64)] _ (λx0 x=>Z22.F x0 x.1) (λr=>.kep (.bx .cur r.1) (.t .bool r.2)))
 |.f 35=>some (.m (.bx .cur) [(.int .i64)] _ (λx0 x=>Z26.F x0 x.1) (λr=>.kep (.bx .cur r.1) (.t (.int .i64) r.2)))
 |.f 36=>some (.m (.bx .cur) [.lib] _ (λx0 x=>Z106.F x0 x.1) (λr=>.kep (.bx .cur r.1) (.t .str r.2)))
 |_=>none
def Z46.sp0:List Sp:=[.boxT 0 1099511627776 .cur,.rp 3 .lib,.own 5 1024 9 .str false true,.t 6 (.int .i64)]
def Z46.sp0_0:List Sp:=[.boxT 0 1099511627776 .cur,.rp 3 .lib,.own 5 1024 9 .str false true]
def Z46.A0:LArm:=.one Z46.sp0 Z46.sp0_0 (Cur×Library× (List ByteArray)) (λk x=>Z46.l0 k x.1 x.2.1 x.2.2.1 x.2.2.2.1) (.exit 0) (λy=>(y.1,y.2.1,y.2.2,())) (λx=>(x.1,x.2.1,x.2.2.1))
def Z46.L:Nat->Option LArm:=λb=>match b with
 |0=>some Z46.A0
 |_=>none
theorem Z46.run (k:Nat)(a0:Cur)(a1:Library):YP Q0 (Q7 (Z46.C k)) (Q6 50 k Z46.L) Tryz.f14 Qg (.bx .cur a0) [.t .lib a1] (U8 (.bx .cur) (Q2 (.fr 9 .str)))=Z46.F k a0 a1:=by kernel_rfl
theorem Z46.step0 (k:Nat)(x0:Cur)(x3:Library)(x5:List ByteArray)(x6:Int):Qs Q0 (Q7 (Z46.C k)) (Q6 50 k Z46.L) 0 (Qj Tryz.f14 0) (QA 50 Z46.sp0 (x0,x3,x5,x6,())) (Z46.A0.cont 50 k)=Z46.l0 (k+1) x0 x3 x5 x6:=by kernel_rfl
theorem Z46.G (hE:EnvOk Tryz.prog Q0)(pv:Nat->Value)(k:Nat):∀cal A,Z46.C k cal=some A->Q9 Tryz.prog Q0 pv cal A:=by
 intro cal A h
 unfold Z46.C at h
 split at h
 ·cases h;exact⟨_,rfl,λx0 x y hy=>Z22.good hE pv x0 x.1 hy⟩
 ·cases h;exact⟨_,rfl,λx0 x y hy=>Z26.good hE pv x0 x.1 hy⟩
 ·cases h;exact⟨_,rfl,λx0 x y hy=>Z106.good hE pv x0 x.1 hy⟩
 ·cases h
theorem Z46.good (hE:EnvOk Tryz.prog Q0)(pv:Nat->Value)(k:Nat)(a0:Cur)(a1:Library){y:_}(h:Z46.F k a0 a1=some y):QM Tryz.prog Q0 pv 14 (.bx .cur a0) (Qa [.lib] (a1,())) (.kep (.bx .cur y.1) (.fr 9 .str y.2)):=
 JB hE (t:=Z46.C) k (λk _=>Z46.G hE pv k) (f:=14) (fn:=Tryz.f14) (by kernel_rfl) rfl (by kernel_rfl) (.inl rfl) (by kernel_rfl) (lt:=Z46.L) (by kernel_rfl) (λb A h=>by
  unfold Z46.L at h;split at h
  ·cases h;exact⟨by kernel_rfl,by kernel_rfl,λ_=>rfl,λ_=>rfl⟩
  ·cases h) (λb A h=>by
  unfold Z46.L at h;split at h
  ·cases h;exact λk x=>Z46.step0 k x.1 x.2.1 x.2.2.1 x.2.2.2.1
  ·cases h) ((Z46.run k a0 a1).trans h) (λr hr=>Ju (λr y h=>Q1 h) hr)
def Z107.F (k:Nat)(a0:List Int):Option (Library× (List ByteArray)):=(Z45.F k (⟨a0,0,0⟩:Cur)).bind λr1=>(Z46.F k r1.1 (⟨r1.2.entries⟩:Library)).bind λr2=>some ((⟨r1.2.entries⟩:Library),r2.2)
def Z107.C (k:Nat):Cal->Option CArm:=λc=>match c with
 |.f 13=>some (.m (.bx .cur) [] _ (λx0 x=>Z45.F k x0) (λr=>.kep (.bx .cur r.1) (sfV 43 .lib r.2)))
 |.f 14=>some (.m (.bx .cur) [.lib] _ (λx0 x=>Z46.F k x0 x.1) (λr=>.kep (.bx .cur r.1) (.fr 9 .str r.2)))
 |_=>none
theorem Z107.run (k:Nat)(a0:List Int):Qk Q0 (Q7 (Z107.C k)) (Q6 15 0 (λ_=>none)) Tryz.f5 [.t (.sl (.int .u8)) a0] (DL (.t .lib) (.t (.sl .str)))=Z107.F k a0:=by kernel_rfl
theorem Z107.G (hE:EnvOk Tryz.prog Q0)(pv:Nat->Value)(k:Nat):∀cal A,Z107.C k cal=some A->Q9 Tryz.prog Q0 pv cal A:=by
 intro cal A h
 unfold Z107.C at h
 split at h
 ·cases h;exact⟨_,rfl,λx0 x y hy=>Z45.good hE pv k x0 hy⟩
 ·cases h;exact⟨_,rfl,λx0 x y hy=>Z46.good hE pv k x0 x.1 hy⟩
 ·cases h
theorem Z107.good (hE:EnvOk Tryz.prog Q0)(pv:Nat->Value)(k:Nat)(a0:List Int){y:_}(h:Z107.F k a0=some y):Q8 Tryz.prog Q0 pv (.f 5) (Qa [(.sl (.int .u8))] (a0,())) (.tup [.t .lib y.1,.t (.sl .str) y.2]):=
 Q4 hE (Z107.G hE pv k) (f:=5) (fn:=Tryz.f5) (by kernel_rfl) rfl (by kernel_rfl) (by kernel_rfl) ((Z107.run k a0).trans h) (λr hr=>Dw hr)
def Z129.F (a0:Entry)(a1:ByteArray):Option (Bool):=some (Qo a0.key a1)
def Z129.C:Cal->Option CArm:=λc=>match c with
 |_=>none
theorem Z129.run (a0:Entry)(a1:ByteArray):Qk Q0 (Q7 Z129.C) (Q6 8 0 (λ_=>none)) Tryz.f50 [.t .entry a0,.tp (.t .str a1)] (Q2 (.t .bool))=Z129.F a0 a1:=by kernel_rfl
theorem Z129.G (hE:EnvOk Tryz.prog Q0)(pv:Nat->Value):∀cal A,Z129.C cal=some A->Q9 Tryz.prog Q0 pv cal A:=by
 intro cal A h
 unfold Z129.C at h
 cases h
theorem Z129.good (hE:EnvOk Tryz.prog Q0)(pv:Nat->Value)(a0:Entry)(a1:ByteArray){y:_}(h:Z129.F a0 a1=some y):Q8 Tryz.prog Q0 pv (.f 50) (Jc [.t .entry,.tp .str] (a0,a1,())) (.t .bool y):=
 Q4 hE (Z129.G hE pv) (f:=50) (fn:=Tryz.f50) (by kernel_rfl) rfl (by kernel_rfl) (by kernel_rfl) ((Z129.run a0 a1).trans h) (λr hr=>Q1 hr)
def Z39.l0:Nat->(List Entry)->ByteArray->Int->Int->Option (Sum Int Unit)
 |0,_,_,_,_=>none
 |k+1,x0,x1,x7,x8=>bif (decide (x8<x7))then(bif decide (0<=x8)then(bif decide (x8<(x0.length:Int))then((Z129.F (x0.getD (x8:Int).toNat (Q5 .entry)) x1).bind λr1=>bif r1 then(some (.inl x8))else(Z39.l0 k x0 x1 x7 (IntKind.wrap .i64 (x8+1))))else none)else none)else(some (.inr ()))
def Z39.F (k:Nat)(a0:List Entry)(a1c0:ByteArray):Option (Int):=(Z39.l0 k a0 a1c0 (a0.length:Int) 0).bind λy2=>match y2 with|.inl z3=>some z3|.inr z3=>some (-1)
def Z39.C (k:Nat):Cal->Option CArm:=λc=>match c with
 |.f 50=>some (.q [.t .entry,.tp .str] _ (λx=>Z129.F x.1 x.2.1) (λr=>(.t .bool r)))
 |_=>none
def Z39.sp0:List Sp:=[.t 0 (.sl .entry),.cl 1 50 [.tp .str],.t 7 (.int .i64),.t 8 (.int .i64)]
def Z39.sp0_0:List Sp:=[.t 4 (.int .i64)]
def Z39.sp0_1:List Sp:=[]
def Z39.A0:LArm:=.two Z39.sp0 Z39.sp0_0 Z39.sp0_1 (Int) (Unit) (λk x=>Z39.l0 k x.1 x.2.1.1 x.2.2.1 x.2.2.2.1) .ret (.exit 0) (λy=>(y,())) (λx=>x.1) (λy=>()) (λx=>())
def Z39.L:Nat->Option LArm:=λb=>match b with
 |0=>some Z39.A0
 |_=>none
theorem Z39.run (k:Nat)(a0:List Entry)(a1c0:ByteArray):Qk Q0 (Q7 (Z39.C k)) (Q6 19 k Z39.L) Tryz.f49 [.t (.sl .entry) a0,.clo 50 [.tp (.t .str a1c0)]] (Q2 (.t (.int .i64)))=Z39.F k a0 a1c0:=by kernel_rfl
theorem Z39.step0 (k:Nat)(x0:List Entry)(x1:ByteArray)(x7:Int)(x8:Int):Qs Q0 (Q7 (Z39.C k)) (Q6 19 k Z39.L) 0 (Qj Tryz.f49 0) (QA 19 Z39.sp0 (x0,(x1,()),x7,x8,())) (Z39.A0.cont 19 k)=Z39.l0 (k+1) x0 x1 x7 x8:=by kernel_rfl
theorem Z39.G (hE:EnvOk Tryz.prog Q0)(pv:Nat->Value)(k:Nat):∀cal A,Z39.C k cal=some A->Q9 Tryz.prog Q0 pv cal A:=by
 intro cal A h
 unfold Z39.C at h
 split at h
 ·cases h;exact λx y hy=>Z129.good hE pv x.1 x.2.1 hy
 ·cases h
theorem Z39.good (hE:EnvOk Tryz.prog Q0)(pv:Nat->Value)(k:Nat)(a0:List Entry)(a1c0:ByteArray){y:_}(h:Z39.F k a0 a1c0=some y):Q8 Tryz.prog Q0 pv (.f 49) (Jc [.t (.sl .entry),.clo 50 [.tp .str]] (a0,(a1c0,()),())) (.t (.int .i64) y):=
 Qh hE (t:=Z39.C) k (λk _=>Z39.G hE pv k) (f:=49) (fn:=Tryz.f49) (by kernel_rfl) rfl (by kernel_rfl) (by kernel_rfl) (lt:=Z39.L) (by kernel_rfl) (λb A h=>by
  unfold Z39.L at h;split at h
  ·cases h;exact⟨by kernel_rfl,by kernel_rfl,by kernel_rfl,λ_=>rfl,λ_=>rfl,λ_=>rfl⟩
  ·cases h) (λb A h=>by
  unfold Z39.L at h;split at h
  ·cases h;exact λk x=>Z39.step0 k x.1 x.2.1.1 x.2.2.1 x.2.2.2.1
  ·cases h) ((Z39.run k a0 a1c0).trans h) (λr hr=>Q1 hr)
def Z60.F (k:Nat)(a0:Library)(a1:ByteArray):Option (Int):=(Z39.F k a0.entries a1).bind λr1=>some r1
def Z60.C (k:Nat):Cal->Option CArm:=λc=>match c with
 |.f 49=>some (.q [.t (.sl .entry),.clo 50 [.tp .str]] _ (λx=>Z39.F k x.1 x.2.1.1) (λr=>(.t (.int .i64) r)))
 |_=>none
theorem Z60.run (k:Nat)(a0:Library)(a1:ByteArray):Qk Q0 (Q7 (Z60.C k)) (Q6 9 0 (λ_=>none)) Tryz.f31 [.t .lib a0,.t .str a1] (Q2 (.t (.int .i64)))=Z60.F k a0 a1:=by kernel_rfl
theorem Z60.G (hE:EnvOk Tryz.prog Q0)(pv:Nat->Value)(k:Nat):∀cal A,Z60.C k cal=some A->Q9 Tryz.prog Q0 pv cal A:=by
 intro cal A h
 unfold Z60.C at h
 split at h
 ·cases h;exact λx y hy=>Z39.good hE pv k x.1 x.2.1.1 hy
 ·cases h
theorem Z60.good (hE:EnvOk Tryz.prog Q0)(pv:Nat->Value)(k:Nat)(a0:Library)(a1:ByteArray){y:_}(h:Z60.F k a0 a1=some y):Q8 Tryz.prog Q0 pv (.f 31) (Qa [.lib,.str] (a0,a1,())) (.t (.int .i64) y):=
 Q4 hE (Z60.G hE pv k) (f:=31) (fn:=Tryz.f31) (by kernel_rfl) rfl (by kernel_rfl) (by kernel_rfl) ((Z60.run k a0 a1).trans h) (λr hr=>Q1 hr)
def Z61.F (a0:Int)(a1:Int)(a2:Int):Option (Bool):=bif (decide (a0 ≥ a1))then(some (decide (a0<=a2)))else(some false)
def Z61.C:Cal->Option CArm:=λc=>match c with
 |_=>none
theorem Z61.run (a0:Int)(a1:Int)(a2:Int):Qk Q0 (Q7 Z61.C) (Q6 15 0 (λ_=>none)) Tryz.f79 [.t (.int .i64) a0,.t (.int .i64) a1,.t (.int .i64) a2] (Q2 (.t .bool))=Z61.F a0 a1 a2:=by kernel_rfl
theorem Z61.G (hE:EnvOk Tryz.prog Q0)(pv:Nat->Value):∀cal A,Z61.C cal=some A->Q9 Tryz.prog Q0 pv cal A:=by
 intro cal A h
 unfold Z61.C at h
 cases h
theorem Z61.good (hE:EnvOk Tryz.prog Q0)(pv:Nat->Value)(a0:Int)(a1:Int)(a2:Int){y:_}(h:Z61.F a0 a1 a2=some y):Q8 Tryz.prog Q0 pv (.f 79) (Qa [(.int .i64),(.int .i64),(.int .i64)] (a0,a1,a2,())) (.t .bool y):=
 Q4 hE (Z61.G hE pv) (f:=79) (fn:=Tryz.f79) (by kernel_rfl) rfl (by kernel_rfl) (by kernel_rfl) ((Z61.run a0 a1 a2).trans h) (λr hr=>Q1 hr)
def Z63.F (a0:Int):Option (Bool):=bif (decide (a0 ≥ 97))then(some (decide (a0<=122)))else(some false)
def Z63.C:Cal->Option CArm:=λc=>match c with
 |_=>none
theorem Z63.run (a0:Int):Qk Q0 (Q7 Z63.C) (Q6 9 0 (λ_=>none)) Tryz.f112 [.t (.int .u8) a0] (Q2 (.t .bool))=Z63.F a0:=by kernel_rfl
theorem Z63.G (hE:EnvOk Tryz.prog Q0)(pv:Nat->Value):∀cal A,Z63.C cal=some A->Q9 Tryz.prog Q0 pv cal A:=by
 intro cal A h
 unfold Z63.C at h
 cases h
theorem Z63.good (hE:EnvOk Tryz.prog Q0)(pv:Nat->Value)(a0:Int){y:_}(h:Z63.F a0=some y):Q8 Tryz.prog Q0 pv (.f 112) (Qa [(.int .u8)] (a0,())) (.t .bool y):=
 Q4 hE (Z63.G hE pv) (f:=112) (fn:=Tryz.f112) (by kernel_rfl) rfl (by kernel_rfl) (by kernel_rfl) ((Z63.run a0).trans h) (λr hr=>Q1 hr)
def Z80.F (a0:Int):Option (Bool):=bif (decide (a0 ≥ 48))then(some (decide (a0<=57)))else(some false)
def Z80.C:Cal->Option CArm:=λc=>match c with
 |_=>none
theorem Z80.run (a0:Int):Qk Q0 (Q7 Z80.C) (Q6 9 0 (λ_=>none)) Tryz.f113 [.t (.int .u8) a0] (Q2 (.t .bool))=Z80.F a0:=by kernel_rfl
theorem Z80.G (hE:EnvOk Tryz.prog Q0)(pv:Nat->Value):∀cal A,Z80.C cal=some A->Q9 Tryz.prog Q0 pv cal A:=by
 intro cal A h
 unfold Z80.C at h
 cases h
theorem Z80.good (hE:EnvOk Tryz.prog Q0)(pv:Nat->Value)(a0:Int){y:_}(h:Z80.F a0=some y):Q8 Tryz.prog Q0 pv (.f 113) (Qa [(.int .u8)] (a0,())) (.t .bool y):=
 Q4 hE (Z80.G hE pv) (f:=113) (fn:=Tryz.f113) (by kernel_rfl) rfl (by kernel_rfl) (by kernel_rfl) ((Z80.run a0).trans h) (λr hr=>Q1 hr)
def Z23.l0:Nat->ByteArray->Int->Option (Sum Bool Unit)
 |0,_,_=>none
 |k+1,x0,x3=>bif (decide (x3<(x0.size:Int)))then(bif decide (0<=x3)then(bif decide (x3<(x0.size:Int))then((Z63.F (bt x0 (x3:Int).toNat)).bind λr3=>bif (!r3)then(bif decide (0<=x3)then(bif decide (x3<(x0.size:Int))then((Z80.F (bt x0 (x3:Int).toNat)).bind λr4=>bif (!r4)then(some (.inl false))else(Z23.l0 k x0 (IntKind.wrap .i64 (x3+1))))else none)else none)else(Z23.l0 k x0 (IntKind.wrap .i64 (x3+1))))else none)else none)else(some (.inr ()))
def Z23.F (k:Nat)(a0:ByteArray):Option (Bool):=(Z61.F (a0.size:Int) 1 10).bind λr1=>bif (!r1)then(some false)else(bif decide (0<=0)then(bif decide (0<(a0.size:Int))then((Z63.F (bt a0 (0:Int).toNat)).bind λr2=>bif (!r2)then(some false)else((Z23.l0 k a0 0).bind λy5=>match y5 with|.inl z6=>some z6|.inr z6=>some true))else none)else none)
def Z23.C (k:Nat):Cal->Option CArm:=λc=>match c with
 |.f 79=>some (.p [(.int .i64),(.int .i64),(.int .i64)] _ (λx=>Z61.F x.1 x.2.1 x.2.2.1) (λr=>(.t .bool r)))
 |.f 112=>some (.p [(.int .u8)] _ (λx=>Z63.F x.1) (λr=>(.t .bool r)))
 |.f 113=>some (.p [(.int .u8)] _ (λx=>Z80.F x.1) (λr=>(.t .bool r)))
 |_=>none
def Z23.sp0:List Sp:=[.t 0 .str,.t 3 (.int .i64)]
def Z23.sp0_0:List Sp:=[.t 2 .bool]
def Z23.sp0_1:List Sp:=[]
def Z23.A0:LArm:=.two Z23.sp0 Z23.sp0_0 Z23.sp0_1 (Bool) (Unit) (λk x=>Z23.l0 k x.1 x.2.1) .ret (.exit 0) (λy=>(y,())) (λx=>x.1) (λy=>()) (λx=>())
def Z23.L:Nat->Option LArm:=λb=>match b with
 |0=>some Z23.A0
 |_=>none
theorem Z23.run (k:Nat)(a0:ByteArray):Qk Q0 (Q7 (Z23.C k)) (Q6 32 k Z23.L) Tryz.f75 [.t .str a0] (Q2 (.t .bool))=Z23.F k a0:=by kernel_rfl
theorem Z23.step0 (k:Nat)(x0:ByteArray)(x3:Int):Qs Q0 (Q7 (Z23.C k)) (Q6 32 k Z23.L) 0 (Qj Tryz.f75 0) (QA 32 Z23.sp0 (x0,x3,())) (Z23.A0.cont 32 k)=Z23.l0 (k+1) x0 x3:=by kernel_rfl
theorem Z23.G (hE:EnvOk Tryz.prog Q0)(pv:Nat->Value)(k:Nat):∀cal A,Z23.C k cal=some A->Q9 Tryz.prog Q0 pv cal A:=by
 intro cal A h
 unfold Z23.C at h
 split at h
 ·cases h;exact λx y hy=>Z61.good hE pv x.1 x.2.1 x.2.2.1 hy
 ·cases h;exact λx y hy=>Z63.good hE pv x.1 hy
 ·cases h;exact λx y hy=>Z80.good hE pv x.1 hy
 ·cases h
theorem Z23.good (hE:EnvOk Tryz.prog Q0)(pv:Nat->Value)(k:Nat)(a0:ByteArray){y:_}(h:Z23.F k a0=some y):Q8 Tryz.prog Q0 pv (.f 75) (Qa [.str] (a0,())) (.t .bool y):=
 Qh hE (t:=Z23.C) k (λk _=>Z23.G hE pv k) (f:=75) (fn:=Tryz.f75) (by kernel_rfl) rfl (by kernel_rfl) (by kernel_rfl) (lt:=Z23.L) (by kernel_rfl) (λb A h=>by
  unfold Z23.L at h;split at h
  ·cases h;exact⟨by kernel_rfl,by kernel_rfl,by kernel_rfl,λ_=>rfl,λ_=>rfl,λ_=>rfl⟩
  ·cases h) (λb A h=>by
  unfold Z23.L at h;split at h
  ·cases h;exact λk x=>Z23.step0 k x.1 x.2.1
  ·cases h) ((Z23.run k a0).trans h) (λr hr=>Q1 hr)
def Z130.F (a0:Int):Option (Bool):=(Z61.F a0 1 4).bind λr1=>some r1
def Z130.C:Cal->Option CArm:=λc=>match c with
 |.f 79=>some (.p [(.int .i64),(.int .i64),(.int .i64)] _ (λx=>Z61.F x.1 x.2.1 x.2.2.1) (λr=>(.t .bool r)))
 |_=>none
theorem Z130.run (a0:Int):Qk Q0 (Q7 Z130.C) (Q6 5 0 (λ_=>none)) Tryz.f76 [.t (.int .i64) a0] (Q2 (.t .bool))=Z130.F a0:=by kernel_rfl
theorem Z130.G (hE:EnvOk Tryz.prog Q0)(pv:Nat->Value):∀cal A,Z130.C cal=some A->Q9 Tryz.prog Q0 pv cal A:=by
 intro cal A h
 unfold Z130.C at h
 split at h
 ·cases h;exact λx y hy=>Z61.good hE pv x.1 x.2.1 x.2.2.1 hy
 ·cases h
theorem Z130.good (hE:EnvOk Tryz.prog Q0)(pv:Nat->Value)(a0:Int){y:_}(h:Z130.F a0=some y):Q8 Tryz.prog Q0 pv (.f 76) (Qa [(.int .i64)] (a0,())) (.t .bool y):=
 Q4 hE (Z130.G hE pv) (f:=76) (fn:=Tryz.f76) (by kernel_rfl) rfl (by kernel_rfl) (by kernel_rfl) ((Z130.run a0).trans h) (λr hr=>Q1 hr)
def Z66.F (a0:Int):Option (Bool):=bif (decide (a0 ≥ 65))then(some (decide (a0<=90)))else(some false)
def Z66.C:Cal->Option CArm:=λc=>match c with
 |_=>none
theorem Z66.run (a0:Int):Qk Q0 (Q7 Z66.C) (Q6 9 0 (λ_=>none)) Tryz.f127 [.t (.int .u8) a0] (Q2 (.t .bool))=Z66.F a0:=by kernel_rfl
theorem Z66.G (hE:EnvOk Tryz.prog Q0)(pv:Nat->Value):∀cal A,Z66.C cal=some A->Q9 Tryz.prog Q0 pv cal A:=by
 intro cal A h
 unfold Z66.C at h
 cases h
theorem Z66.good (hE:EnvOk Tryz.prog Q0)(pv:Nat->Value)(a0:Int){y:_}(h:Z66.F a0=some y):Q8 Tryz.prog Q0 pv (.f 127) (Qa [(.int .u8)] (a0,())) (.t .bool y):=
 Q4 hE (Z66.G hE pv) (f:=127) (fn:=Tryz.f127) (by kernel_rfl) rfl (by kernel_rfl) (by kernel_rfl) ((Z66.run a0).trans h) (λr hr=>Q1 hr)
def Z71.F (a0:Int):Option (Bool):=(Z66.F a0).bind λr1=>bif r1 then(some true)else((Z63.F a0).bind λr2=>some r2)
def Z71.C:Cal->Option CArm:=λc=>match c with
 |.f 127=>some (.p [(.int .u8)] _ (λx=>Z66.F x.1) (λr=>(.t .bool r)))
 |.f 112=>some (.p [(.int .u8)] _ (λx=>Z63.F x.1) (λr=>(.t .bool r)))
 |_=>none
theorem Z71.run (a0:Int):Qk Q0 (Q7 Z71.C) (Q6 9 0 (λ_=>none)) Tryz.f152 [.t (.int .u8) a0] (Q2 (.t .bool))=Z71.F a0:=by kernel_rfl
theorem Z71.G (hE:EnvOk Tryz.prog Q0)(pv:Nat->Value):∀cal A,Z71.C cal=some A->Q9 Tryz.prog Q0 pv cal A:=by
 intro cal A h
 unfold Z71.C at h
 split at h
 ·cases h;exact λx y hy=>Z66.good hE pv x.1 hy
 ·cases h;exact λx y hy=>Z63.good hE pv x.1 hy
 ·cases h
theorem Z71.good (hE:EnvOk Tryz.prog Q0)(pv:Nat->Value)(a0:Int){y:_}(h:Z71.F a0=some y):Q8 Tryz.prog Q0 pv (.f 152) (Qa [(.int .u8)] (a0,())) (.t .bool y):=
 Q4 hE (Z71.G hE pv) (f:=152) (fn:=Tryz.f152) (by kernel_rfl) rfl (by kernel_rfl) (by kernel_rfl) ((Z71.run a0).trans h) (λr hr=>Q1 hr)
def Z18.l0:Nat->ByteArray->Int->Option (Sum Bool Unit)
 |0,_,_=>none
 |k+1,x0,x3=>bif (decide (x3<(x0.size:Int)))then(bif decide (0<=x3)then(bif decide (x3<(x0.size:Int))then((Z71.F (bt x0 (x3:Int).toNat)).bind λr4=>bif (!r4)then(bif decide (0<=x3)then(bif decide (x3<(x0.size:Int))then(bif ((bt x0 (x3:Int).toNat) != 45)then(bif decide (0<=x3)then(bif decide (x3<(x0.size:Int))then(bif ((bt x0 (x3:Int).toNat) != 39)then(some (.inl false))else(bif decide (0<=(IntKind.wrap .i64 (x3-1)))then(bif decide ((IntKind.wrap .i64 (x3-1))<(x0.size:Int))then((Z71.F (bt x0 ((IntKind.wrap .i64 (x3-1)):Int).toNat)).bind λr5=>bif (!r5)then(some (.inl false))else(Z18.l0 k x0 (IntKind.wrap .i64 (x3+1))))else none)else none))else none)else none)else(bif decide (0<=(IntKind.wrap .i64 (x3-1)))then(bif decide ((IntKind.wrap .i64 (x3-1))<(x0.size:Int))then((Z71.F (bt x0 ((IntKind.wrap .i64 (x3-1)):Int).toNat)).bind λr6=>bif (!r6)then(some (.inl false))else(Z18.l0 k x0 (IntKind.wrap .i64 (x3+1))))else none)else none))else none)else none)else(Z18.l0 k x0 (IntKind.wrap .i64 (x3+1))))else none)else none)else(some (.inr ()))
def Z18.F (k:Nat)(a0:ByteArray):Option (Bool):=(Z61.F (a0.size:Int) 1 12).bind λr1=>bif (!r1)then(some false)else(bif decide (0<=(IntKind.wrap .i64 ((a0.size:Int)-1)))then(bif decide ((IntKind.wrap .i64 ((a0.size:Int)-1))<(a0.size:Int))then((Z71.F (bt a0 ((IntKind.wrap .i64 ((a0.size:Int)-1)):Int).toNat)).bind λr2=>bif (!r2)then(some false)else(bif decide (0<=0)then(bif decide (0<(a0.size:Int))then((Z71.F (bt a0 (0:Int).toNat)).bind λr3=>bif (!r3)then(some false)else((Z18.l0 k a0 0).bind λy7=>match y7 with|.inl z8=>some z8|.inr z8=>some true))else none)else none))else none)else none)
def Z18.C (k:Nat):Cal->Option CArm:=λc=>match c with
 |.f 79=>some (.p [(.int .i64),(.int .i64),(.int .i64)] _ (λx=>Z61.F x.1 x.2.1 x.2.2.1) (λr=>(.t .bool r)))
 |.f 152=>some (.p [(.int .u8)] _ (λx=>Z71.F x.1) (λr=>(.t .bool r)))
 |_=>none
def Z18.sp0:List Sp:=[.t 0 .str,.t 3 (.int .i64)]
def Z18.sp0_0:List Sp:=[.t 2 .bool]
def Z18.sp0_1:List Sp:=[]
def Z18.A0:LArm:=.two Z18.sp0 Z18.sp0_0 Z18.sp0_1 (Bool) (Unit) (λk x=>Z18.l0 k x.1 x.2.1) .ret (.exit 0) (λy=>(y,())) (λx=>x.1) (λy=>()) (λx=>())
def Z18.L:Nat->Option LArm:=λb=>match b with
 |0=>some Z18.A0
 |_=>none
theorem Z18.run (k:Nat)(a0:ByteArray):Qk Q0 (Q7 (Z18.C k)) (Q6 54 k Z18.L) Tryz.f140 [.t .str a0] (Q2 (.t .bool))=Z18.F k a0:=by kernel_rfl
theorem Z18.step0 (k:Nat)(x0:ByteArray)(x3:Int):Qs Q0 (Q7 (Z18.C k)) (Q6 54 k Z18.L) 0 (Qj Tryz.f140 0) (QA 54 Z18.sp0 (x0,x3,())) (Z18.A0.cont 54 k)=Z18.l0 (k+1) x0 x3:=by kernel_rfl
theorem Z18.G (hE:EnvOk Tryz.prog Q0)(pv:Nat->Value)(k:Nat):∀cal A,Z18.C k cal=some A->Q9 Tryz.prog Q0 pv cal A:=by
 intro cal A h
 unfold Z18.C at h
 split at h
 ·cases h;exact λx y hy=>Z61.good hE pv x.1 x.2.1 x.2.2.1 hy
 ·cases h;exact λx y hy=>Z71.good hE pv x.1 hy
 ·cases h
theorem Z18.good (hE:EnvOk Tryz.prog Q0)(pv:Nat->Value)(k:Nat)(a0:ByteArray){y:_}(h:Z18.F k a0=some y):Q8 Tryz.prog Q0 pv (.f 140) (Qa [.str] (a0,())) (.t .bool y):=
 Qh hE (t:=Z18.C) k (λk _=>Z18.G hE pv k) (f:=140) (fn:=Tryz.f140) (by kernel_rfl) rfl (by kernel_rfl) (by kernel_rfl) (lt:=Z18.L) (by kernel_rfl) (λb A h=>by
  unfold Z18.L at h;split at h
  ·cases h;exact⟨by kernel_rfl,by kernel_rfl,by kernel_rfl,λ_=>rfl,λ_=>rfl,λ_=>rfl⟩
  ·cases h) (λb A h=>by
  unfold Z18.L at h;split at h
  ·cases h;exact λk x=>Z18.step0 k x.1 x.2.1
  ·cases h) ((Z18.run k a0).trans h) (λr hr=>Q1 hr)
def Z81.F (k:Nat)(a0:ByteArray):Option (Bool):=(Z18.F k a0).bind λr1=>bif r1 then(bif decide (0<=0)then(bif decide (0<(a0.size:Int))then((Z66.F (bt a0 (0:Int).toNat)).bind λr2=>some r2)else none)else none)else(some false)
def Z81.C (k:Nat):Cal->Option CArm:=λc=>match c with
 |.f 140=>some (.p [.str] _ (λx=>Z18.F k x.1) (λr=>(.t .bool r)))
 |.f 127=>some (.p [(.int .u8)] _ (λx=>Z66.F x.1) (λr=>(.t .bool r)))
 |_=>none
theorem Z81.run (k:Nat)(a0:ByteArray):Qk Q0 (Q7 (Z81.C k)) (Q6 10 0 (λ_=>none)) Tryz.f138 [.t .str a0] (Q2 (.t .bool))=Z81.F k a0:=by kernel_rfl
theorem Z81.G (hE:EnvOk Tryz.prog Q0)(pv:Nat->Value)(k:Nat):∀cal A,Z81.C k cal=some A->Q9 Tryz.prog Q0 pv cal A:=by
 intro cal A h
 unfold Z81.C at h
 split at h
 ·cases h;exact λx y hy=>Z18.good hE pv k x.1 hy
 ·cases h;exact λx y hy=>Z66.good hE pv x.1 hy
 ·cases h
theorem Z81.good (hE:EnvOk Tryz.prog Q0)(pv:Nat->Value)(k:Nat)(a0:ByteArray){y:_}(h:Z81.F k a0=some y):Q8 Tryz.prog Q0 pv (.f 138) (Qa [.str] (a0,())) (.t .bool y):=
 Q4 hE (Z81.G hE pv k) (f:=138) (fn:=Tryz.f138) (by kernel_rfl) rfl (by kernel_rfl) (by kernel_rfl) ((Z81.run k a0).trans h) (λr hr=>Q1 hr)
def Z91.F (k:Nat)(a0:ByteArray):Option (Bool):=(Z81.F k a0).bind λr1=>some (!r1)
def Z91.C (k:Nat):Cal->Option CArm:=λc=>match c with
 |.f 138=>some (.p [.str] _ (λx=>Z81.F k x.1) (λr=>(.t .bool r)))
 |_=>none
theorem Z91.run (k:Nat)(a0:ByteArray):Qk Q0 (Q7 (Z91.C k)) (Q6 6 0 (λ_=>none)) Tryz.f137 [.t .str a0] (Q2 (.t .bool))=Z91.F k a0:=by kernel_rfl
theorem Z91.G (hE:EnvOk Tryz.prog Q0)(pv:Nat->Value)(k:Nat):∀cal A,Z91.C k cal=some A->Q9 Tryz.prog Q0 pv cal A:=by
 intro cal A h
 unfold Z91.C at h
 split at h
 ·cases h;exact λx y hy=>Z81.good hE pv k x.1 hy
 ·cases h
theorem Z91.good (hE:EnvOk Tryz.prog Q0)(pv:Nat->Value)(k:Nat)(a0:ByteArray){y:_}(h:Z91.F k a0=some y):Q8 Tryz.prog Q0 pv (.f 137) (Qa [.str] (a0,())) (.t .bool y):=
 Q4 hE (Z91.G hE pv k) (f:=137) (fn:=Tryz.f137) (by kernel_rfl) rfl (by kernel_rfl) (by kernel_rfl) ((Z91.run k a0).trans h) (λr hr=>Q1 hr)
def Z138.F (a0:ByteArray)(a1:ByteArray):Option (List ByteArray):=Q3c a0 a1
theorem Z138.good (hE:EnvOk Tryz.prog Q0)(pv:Nat->Value)(a0:ByteArray)(a1:ByteArray){y:_}(h:Z138.F a0 a1=some y):Q8 Tryz.prog Q0 pv (.f 151) (Qa [.str,.str] (a0,a1,())) (.fr 9 .str y):=
 Q7p (fn:=Tryz.f151) (by kernel_rfl) rfl (by kernel_rfl) (mx:=0) (by kernel_rfl) Tryz.strings_Split h
def Z3.l2:Nat->(List ByteArray)->ByteArray->Int->Int->Int->Option (Sum Bool ((List ByteArray)×Int×Int))
 |0,_,_,_,_,_=>none
 |k+1,x3,x5,x6,x12,x13=>bif (decide (x6<(x5.size:Int)))then(bif decide (0<=x6)then(bif decide (x6<(x5.size:Int))then((Z63.F (bt x5 (x6:Int).toNat)).bind λr3=>bif (!r3)then(some (.inl false))else(Z3.l2 k x3 x5 (IntKind.wrap .i64 (x6+1)) x12 x13))else none)else none)else(some (.inr (x3,x12,x13)))
def Z3.l0:Nat->(List ByteArray)->Int->Int->Option (Sum Bool (List ByteArray))
 |0,_,_,_=>none
 |k+1,x3,x12,x13=>bif (decide (x13<x12))then(bif decide (0<=x13)then(bif decide (x13<(x3.length:Int))then((Z61.F ((x3.getD ((x13:Int).toNat) (⟨#[]⟩:ByteArray)).size:Int) 1 12).bind λr2=>bif (!r2)then(some (.inl false))else((Z3.l2 k x3 (x3.getD ((x13:Int).toNat) (⟨#[]⟩:ByteArray)) 0 x12 x13).bind λy4=>match y4 with|.inl z5=>some (.inl z5)|.inr z5=>Z3.l0 k z5.1 z5.2.1 (IntKind.wrap .i64 (z5.2.2+1))))else none)else none)else(some (.inr x3))
def Z3.F (k:Nat)(a0:ByteArray):Option (Bool):=bif (Qo a0 (⟨#[]⟩:ByteArray))then(some true)else((Z138.F a0 (⟨#[32]⟩:ByteArray)).bind λr1=>(Z3.l0 k r1 (r1.length:Int) 0).bind λy6=>match y6 with|.inl z7=>some z7|.inr z7=>some (decide ((z7.length:Int)<=2)))
def Z3.C (k:Nat):Cal->Option CArm:=λc=>match c with
 |.f 151=>some (.p [.str,.str] _ (λx=>Z138.F x.1 x.2.1) (λr=>(.fr 9 .str r)))
 |.f 79=>some (.p [(.int .i64),(.int .i64),(.int .i64)] _ (λx=>Z61.F x.1 x.2.1 x.2.2.1) (λr=>(.t .bool r)))
 |.f 112=>some (.p [(.int .u8)] _ (λx=>Z63.F x.1) (λr=>(.t .bool r)))
 |_=>none
def Z3.sp2:List Sp:=[.own 3 3076 9 .str false true,.t 5 .str,.t 6 (.int .i64),.con 11 (.own 3076),.t 12 (.int .i64),.t 13 (.int .i64)]
def Z3.sp2_0:List Sp:=[.t 2 .bool]
def Z3.sp2_1:List Sp:=[.own 3 3076 9 .str false true,.con 11 (.own 3076),.t 12 (.int .i64),.t 13 (.int .i64)]
def Z3.A2:LArm:=.two Z3.sp2 Z3.sp2_0 Z3.sp2_1 (Bool) ((List ByteArray)×Int×Int) (λk x=>Z3.l2 k x.1 x.2.1 x.2.2.1 x.2.2.2.2.1 x.2.2.2.2.2.1) .ret (.exit 2) (λy=>(y,())) (λx=>x.1) (λy=>(y.1,(),y.2.1,y.2.2,())) (λx=>(x.1,x.2.2.1,x.2.2.2.1))
def Z3.sp0:List Sp:=[.own 3 3076 9 .str false true,.con 11 (.own 3076),.t 12 (.int .i64),.t 13 (.int .i64)]
def Z3.sp0_0:List Sp:=[.t 2 .bool]
def Z3.sp0_1:List Sp:=[.own 3 3076 9 .str false true]
def Z3.A0:LArm:=.two Z3.sp0 Z3.sp0_0 Z3.sp0_1 (Bool) ((List ByteArray)) (λk x=>Z3.l0 k x.1 x.2.2.1 x.2.2.2.1) .ret (.exit 0) (λy=>(y,())) (λx=>x.1) (λy=>(y,())) (λx=>x.1)
def Z3.L:Nat->Option LArm:=λb=>match b with
 |2=>some Z3.A2
 |0=>some Z3.A0
 |_=>none
theorem Z3.run (k:Nat)(a0:ByteArray):Qk Q0 (Q7 (Z3.C k)) (Q6 36 k Z3.L) Tryz.f139 [.t .str a0] (Q2 (.t .bool))=Z3.F k a0:=by kernel_rfl
theorem Z3.step2 (k:Nat)(x3:List ByteArray)(x5:ByteArray)(x6:Int)(x12:Int)(x13:Int):Qs Q0 (Q7 (Z3.C k)) (Q6 36 k Z3.L) 2 (Qj Tryz.f139 2) (QA 36 Z3.sp2 (x3,x5,x6,(),x12,x13,())) (Z3.A2.cont 36 k)=Z3.l2 (k+1) x3 x5 x6 x12 x13:=by kernel_rfl
theorem Z3.step0 (k:Nat)(x3:List ByteArray)(x12:Int)(x13:Int):Qs Q0 (Q7 (Z3.C k)) (Q6 36 k Z3.L) 0 (Qj Tryz.f139 0) (QA 36 Z3.sp0 (x3,(),x12,x13,())) (Z3.A0.cont 36 k)=Z3.l0 (k+1) x3 x12 x13:=by kernel_rfl
theorem Z3.G (hE:EnvOk Tryz.prog Q0)(pv:Nat->Value)(k:Nat):∀cal A,Z3.C k cal=some A->Q9 Tryz.prog Q0 pv cal A:=by
 intro cal A h
 unfold Z3.C at h
 split at h
 ·cases h;exact λx y hy=>Z138.good hE pv x.1 x.2.1 hy
 ·cases h;exact λx y hy=>Z61.good hE pv x.1 x.2.1 x.2.2.1 hy
 ·cases h;exact λx y hy=>Z63.good hE pv x.1 hy
 ·cases h
theorem Z3.good (hE:EnvOk Tryz.prog Q0)(pv:Nat->Value)(k:Nat)(a0:ByteArray){y:_}(h:Z3.F k a0=some y):Q8 Tryz.prog Q0 pv (.f 139) (Qa [.str] (a0,())) (.t .bool y):=
 Qh hE (t:=Z3.C) k (λk _=>Z3.G hE pv k) (f:=139) (fn:=Tryz.f139) (by kernel_rfl) rfl (by kernel_rfl) (by kernel_rfl) (lt:=Z3.L) (by kernel_rfl) (λb A h=>by
  unfold Z3.L at h;split at h
  ·cases h;exact⟨by kernel_rfl,by kernel_rfl,by kernel_rfl,λ_=>rfl,λ_=>rfl,λ_=>rfl⟩
  ·cases h;exact⟨by kernel_rfl,by kernel_rfl,by kernel_rfl,λ_=>rfl,λ_=>rfl,λ_=>rfl⟩
  ·cases h) (λb A h=>by
  unfold Z3.L at h;split at h
  ·cases h;exact λk x=>Z3.step2 k x.1 x.2.1 x.2.2.1 x.2.2.2.2.1 x.2.2.2.2.2.1
  ·cases h;exact λk x=>Z3.step0 k x.1 x.2.2.1 x.2.2.2.1
  ·cases h) ((Z3.run k a0).trans h) (λr hr=>Q1 hr)
def Z51.l0:Nat->(List ByteArray)->Int->Int->Option (Sum Int Unit)
 |0,_,_,_=>none
 |k+1,x0,x7,x8=>bif (decide (x8<x7))then(bif decide (0<=x8)then(bif decide (x8<(x0.length:Int))then((Z91.F k (x0.getD (x8:Int).toNat (⟨#[]⟩:ByteArray))).bind λr1=>bif r1 then(some (.inl x8))else(Z51.l0 k x0 x7 (IntKind.wrap .i64 (x8+1))))else none)else none)else(some (.inr ()))
def Z51.F (k:Nat)(a0:List ByteArray):Option (Int):=(Z51.l0 k a0 (a0.length:Int) 0).bind λy2=>match y2 with|.inl z3=>some z3|.inr z3=>some (-1)
def Z51.C (k:Nat):Cal->Option CArm:=λc=>match c with
 |.f 137=>some (.p [.str] _ (λx=>Z91.F k x.1) (λr=>(.t .bool r)))
 |_=>none
def Z51.sp0:List Sp:=[.t 0 (.sl .str),.con 1 (.clo 137),.t 7 (.int .i64),.t 8 (.int .i64)]
def Z51.sp0_0:List Sp:=[.t 4 (.int .i64)]
def Z51.sp0_1:List Sp:=[]
def Z51.A0:LArm:=.two Z51.sp0 Z51.sp0_0 Z51.sp0_1 (Int) (Unit) (λk x=>Z51.l0 k x.1 x.2.2.1 x.2.2.2.1) .ret (.exit 0) (λy=>(y,())) (λx=>x.1) (λy=>()) (λx=>())
def Z51.L:Nat->Option LArm:=λb=>match b with
 |0=>some Z51.A0
 |_=>none
theorem Z51.run (k:Nat)(a0:List ByteArray):Qk Q0 (Q7 (Z51.C k)) (Q6 19 k Z51.L) Tryz.f44 [.t (.sl .str) a0,.clo 137 []] (Q2 (.t (.int .i64)))=Z51.F k a0:=by kernel_rfl
theorem Z51.step0 (k:Nat)(x0:List ByteArray)(x7:Int)(x8:Int):Qs Q0 (Q7 (Z51.C k)) (Q6 19 k Z51.L) 0 (Qj Tryz.f44 0) (QA 19 Z51.sp0 (x0,(),x7,x8,())) (Z51.A0.cont 19 k)=Z51.l0 (k+1) x0 x7 x8:=by kernel_rfl
theorem Z51.G (hE:EnvOk Tryz.prog Q0)(pv:Nat->Value)(k:Nat):∀cal A,Z51.C k cal=some A->Q9 Tryz.prog Q0 pv cal A:=by
 intro cal A h
 unfold Z51.C at h
 split at h
 ·cases h;exact λx y hy=>Z91.good hE pv k x.1 hy
 ·cases h
theorem Z51.good (hE:EnvOk Tryz.prog Q0)(pv:Nat->Value)(k:Nat)(a0:List ByteArray){y:_}(h:Z51.F k a0=some y):Q8 Tryz.prog Q0 pv (.f 44) (Jc [.t (.sl .str),.clo 137 []] (a0,(()),())) (.t (.int .i64) y):=
 Qh hE (t:=Z51.C) k (λk _=>Z51.G hE pv k) (f:=44) (fn:=Tryz.f44) (by kernel_rfl) rfl (by kernel_rfl) (by kernel_rfl) (lt:=Z51.L) (by kernel_rfl) (λb A h=>by
  unfold Z51.L at h;split at h
  ·cases h;exact⟨by kernel_rfl,by kernel_rfl,by kernel_rfl,λ_=>rfl,λ_=>rfl,λ_=>rfl⟩
  ·cases h) (λb A h=>by
  unfold Z51.L at h;split at h
  ·cases h;exact λk x=>Z51.step0 k x.1 x.2.2.1 x.2.2.2.1
  ·cases h) ((Z51.run k a0).trans h) (λr hr=>Q1 hr)
def Z131.F (k:Nat)(a0:List ByteArray):Option (Bool):=(Z51.F k a0).bind λr1=>some (decide (r1 ≥ 0))
def Z131.C (k:Nat):Cal->Option CArm:=λc=>match c with
 |.f 44=>some (.q [.t (.sl .str),.clo 137 []] _ (λx=>Z51.F k x.1) (λr=>(.t (.int .i64) r)))
 |_=>none
theorem Z131.run (k:Nat)(a0:List ByteArray):Qk Q0 (Q7 (Z131.C k)) (Q6 9 0 (λ_=>none)) Tryz.f136 [.t (.sl .str) a0,.clo 137 []] (Q2 (.t .bool))=Z131.F k a0:=by kernel_rfl
theorem Z131.G (hE:EnvOk Tryz.prog Q0)(pv:Nat->Value)(k:Nat):∀cal A,Z131.C k cal=some A->Q9 Tryz.prog Q0 pv cal A:=by
 intro cal A h
 unfold Z131.C at h
 split at h
 ·cases h;exact λx y hy=>Z51.good hE pv k x.1 hy
 ·cases h
theorem Z131.good (hE:EnvOk Tryz.prog Q0)(pv:Nat->Value)(k:Nat)(a0:List ByteArray){y:_}(h:Z131.F k a0=some y):Q8 Tryz.prog Q0 pv (.f 136) (Jc [.t (.sl .str),.clo 137 []] (a0,(()),())) (.t .bool y):=
 Q4 hE (Z131.G hE pv k) (f:=136) (fn:=Tryz.f136) (by kernel_rfl) rfl (by kernel_rfl) (by kernel_rfl) ((Z131.run k a0).trans h) (λr hr=>Q1 hr)
def Z108.F (k:Nat)(a0:Name):Option (Bool):=bif (decide ((a0.given.length:Int) > 3))then(some false)else((Z131.F k a0.given).bind λr1=>bif r1 then(some false)else((Z3.F k a0.particle).bind λr2=>bif r2 then((Z81.F k a0.family).bind λr3=>bif r3 then(bif (Qo a0.suffix (⟨#[]⟩:ByteArray))then(some true)else((Z18.F k a0.suffix).bind λr4=>some r4))else(some false))else(some false)))
def Z108.C (k:Nat):Cal->Option CArm:=λc=>match c with
 |.f 136=>some (.q [.t (.sl .str),.clo 137 []] _ (λx=>Z131.F k x.1) (λr=>(.t .bool r)))
 |.f 139=>some (.p [.str] _ (λx=>Z3.F k x.1) (λr=>(.t .bool r)))
 |.f 138=>some (.p [.str] _ (λx=>Z81.F k x.1) (λr=>(.t .bool r)))
 |.f 140=>some (.p [.str] _ (λx=>Z18.F k x.1) (λr=>(.t .bool r)))
 |_=>none
theorem Z108.run (k:Nat)(a0:Name):Qk Q0 (Q7 (Z108.C k)) (Q6 30 0 (λ_=>none)) Tryz.f115 [.t .name a0] (Q2 (.t .bool))=Z108.F k a0:=by kernel_rfl
theorem Z108.G (hE:EnvOk Tryz.prog Q0)(pv:Nat->Value)(k:Nat):∀cal A,Z108.C k cal=some A->Q9 Tryz.prog Q0 pv cal A:=by
 intro cal A h
 unfold Z108.C at h
 split at h
 ·cases h;exact λx y hy=>Z131.good hE pv k x.1 hy
 ·cases h;exact λx y hy=>Z3.good hE pv k x.1 hy
 ·cases h;exact λx y hy=>Z81.good hE pv k x.1 hy
 ·cases h;exact λx y hy=>Z18.good hE pv k x.1 hy
 ·cases h
theorem Z108.good (hE:EnvOk Tryz.prog Q0)(pv:Nat->Value)(k:Nat)(a0:Name){y:_}(h:Z108.F k a0=some y):Q8 Tryz.prog Q0 pv (.f 115) (Qa [.name] (a0,())) (.t .bool y):=
 Q4 hE (Z108.G hE pv k) (f:=115) (fn:=Tryz.f115) (by kernel_rfl) rfl (by kernel_rfl) (by kernel_rfl) ((Z108.run k a0).trans h) (λr hr=>Q1 hr)
def Z92.F (k:Nat)(a0:Name):Option (Bool):=(Z108.F k a0).bind λr1=>some (!r1)
def Z92.C (k:Nat):Cal->Option CArm:=λc=>match c with
 |.f 115=>some (.p [.name] _ (λx=>Z108.F k x.1) (λr=>(.t .bool r)))
 |_=>none
theorem Z92.run (k:Nat)(a0:Name):Qk Q0 (Q7 (Z92.C k)) (Q6 6 0 (λ_=>none)) Tryz.f114 [.t .name a0] (Q2 (.t .bool))=Z92.F k a0:=by kernel_rfl
theorem Z92.G (hE:EnvOk Tryz.prog Q0)(pv:Nat->Value)(k:Nat):∀cal A,Z92.C k cal=some A->Q9 Tryz.prog Q0 pv cal A:=by
 intro cal A h
 unfold Z92.C at h
 split at h
 ·cases h;exact λx y hy=>Z108.good hE pv k x.1 hy
 ·cases h
theorem Z92.good (hE:EnvOk Tryz.prog Q0)(pv:Nat->Value)(k:Nat)(a0:Name){y:_}(h:Z92.F k a0=some y):Q8 Tryz.prog Q0 pv (.f 114) (Qa [.name] (a0,())) (.t .bool y):=
 Q4 hE (Z92.G hE pv k) (f:=114) (fn:=Tryz.f114) (by kernel_rfl) rfl (by kernel_rfl) (by kernel_rfl) ((Z92.run k a0).trans h) (λr hr=>Q1 hr)
def Z52.l0:Nat->(List Name)->Int->Int->Option (Sum Int Unit)
 |0,_,_,_=>none
 |k+1,x0,x7,x8=>bif (decide (x8<x7))then(bif decide (0<=x8)then(bif decide (x8<(x0.length:Int))then((Z92.F k (x0.getD (x8:Int).toNat (Q5 .name))).bind λr1=>bif r1 then(some (.inl x8))else(Z52.l0 k x0 x7 (IntKind.wrap .i64 (x8+1))))else none)else none)else(some (.inr ()))
def Z52.F (k:Nat)(a0:List Name):Option (Int):=(Z52.l0 k a0 (a0.length:Int) 0).bind λy2=>match y2 with|.inl z3=>some z3|.inr z3=>some (-1)
def Z52.C (k:Nat):Cal->Option CArm:=λc=>match c with
 |.f 114=>some (.p [.name] _ (λx=>Z92.F k x.1) (λr=>(.t .bool r)))
 |_=>none
def Z52.sp0:List Sp:=[.t 0 (.sl .name),.con 1 (.clo 114),.t 7 (.int .i64),.t 8 (.int .i64)]
def Z52.sp0_0:List Sp:=[.t 4 (.int .i64)]
def Z52.sp0_1:List Sp:=[]
def Z52.A0:LArm:=.two Z52.sp0 Z52.sp0_0 Z52.sp0_1 (Int) (Unit) (λk x=>Z52.l0 k x.1 x.2.2.1 x.2.2.2.1) .ret (.exit 0) (λy=>(y,())) (λx=>x.1) (λy=>()) (λx=>())
def Z52.L:Nat->Option LArm:=λb=>match b with
 |0=>some Z52.A0
 |_=>none
theorem Z52.run (k:Nat)(a0:List Name):Qk Q0 (Q7 (Z52.C k)) (Q6 19 k Z52.L) Tryz.f38 [.t (.sl .name) a0,.clo 114 []] (Q2 (.t (.int .i64)))=Z52.F k a0:=by kernel_rfl
theorem Z52.step0 (k:Nat)(x0:List Name)(x7:Int)(x8:Int):Qs Q0 (Q7 (Z52.C k)) (Q6 19 k Z52.L) 0 (Qj Tryz.f38 0) (QA 19 Z52.sp0 (x0,(),x7,x8,())) (Z52.A0.cont 19 k)=Z52.l0 (k+1) x0 x7 x8:=by kernel_rfl
theorem Z52.G (hE:EnvOk Tryz.prog Q0)(pv:Nat->Value)(k:Nat):∀cal A,Z52.C k cal=some A->Q9 Tryz.prog Q0 pv cal A:=by
 intro cal A h
 unfold Z52.C at h
 split at h
 ·cases h;exact λx y hy=>Z92.good hE pv k x.1 hy
 ·cases h
theorem Z52.good (hE:EnvOk Tryz.prog Q0)(pv:Nat->Value)(k:Nat)(a0:List Name){y:_}(h:Z52.F k a0=some y):Q8 Tryz.prog Q0 pv (.f 38) (Jc [.t (.sl .name),.clo 114 []] (a0,(()),())) (.t (.int .i64) y):=
 Qh hE (t:=Z52.C) k (λk _=>Z52.G hE pv k) (f:=38) (fn:=Tryz.f38) (by kernel_rfl) rfl (by kernel_rfl) (by kernel_rfl) (lt:=Z52.L) (by kernel_rfl) (λb A h=>by
  unfold Z52.L at h;split at h
  ·cases h;exact⟨by kernel_rfl,by kernel_rfl,by kernel_rfl,λ_=>rfl,λ_=>rfl,λ_=>rfl⟩
  ·cases h) (λb A h=>by
  unfold Z52.L at h;split at h
  ·cases h;exact λk x=>Z52.step0 k x.1 x.2.2.1 x.2.2.2.1
  ·cases h) ((Z52.run k a0).trans h) (λr hr=>Q1 hr)
def Z132.F (k:Nat)(a0:List Name):Option (Bool):=(Z52.F k a0).bind λr1=>some (decide (r1 ≥ 0))
def Z132.C (k:Nat):Cal->Option CArm:=λc=>match c with
 |.f 38=>some (.q [.t (.sl .name),.clo 114 []] _ (λx=>Z52.F k x.1) (λr=>(.t (.int .i64) r)))
 |_=>none
theorem Z132.run (k:Nat)(a0:List Name):Qk Q0 (Q7 (Z132.C k)) (Q6 9 0 (λ_=>none)) Tryz.f18 [.t (.sl .name) a0,.clo 114 []] (Q2 (.t .bool))=Z132.F k a0:=by kernel_rfl
theorem Z132.G (hE:EnvOk Tryz.prog Q0)(pv:Nat->Value)(k:Nat):∀cal A,Z132.C k cal=some A->Q9 Tryz.prog Q0 pv cal A:=by
 intro cal A h
 unfold Z132.C at h
 split at h
 ·cases h;exact λx y hy=>Z52.good hE pv k x.1 hy
 ·cases h
theorem Z132.good (hE:EnvOk Tryz.prog Q0)(pv:Nat->Value)(k:Nat)(a0:List Name){y:_}(h:Z132.F k a0=some y):Q8 Tryz.prog Q0 pv (.f 18) (Jc [.t (.sl .name),.clo 114 []] (a0,(()),())) (.t .bool y):=
 Q4 hE (Z132.G hE pv k) (f:=18) (fn:=Tryz.f18) (by kernel_rfl) rfl (by kernel_rfl) (by kernel_rfl) ((Z132.run k a0).trans h) (λr hr=>Q1 hr)
def Z93.F (k:Nat)(a0:List Name):Option (Bool):=bif (decide ((a0.length:Int)<=4))then((Z132.F k a0).bind λr1=>some (!r1))else(some false)
def Z93.C (k:Nat):Cal->Option CArm:=λc=>match c with
 |.f 18=>some (.q [.t (.sl .name),.clo 114 []] _ (λx=>Z132.F k x.1) (λr=>(.t .bool r)))
 |_=>none
theorem Z93.run (k:Nat)(a0:List Name):Qk Q0 (Q7 (Z93.C k)) (Q6 11 0 (λ_=>none)) Tryz.f77 [.t (.sl .name) a0] (Q2 (.t .bool))=Z93.F k a0:=by kernel_rfl
theorem Z93.G (hE:EnvOk Tryz.prog Q0)(pv:Nat->Value)(k:Nat):∀cal A,Z93.C k cal=some A->Q9 Tryz.prog Q0 pv cal A:=by
 intro cal A h
 unfold Z93.C at h
 split at h
 ·cases h;exact λx y hy=>Z132.good hE pv k x.1 hy
 ·cases h
theorem Z93.good (hE:EnvOk Tryz.prog Q0)(pv:Nat->Value)(k:Nat)(a0:List Name){y:_}(h:Z93.F k a0=some y):Q8 Tryz.prog Q0 pv (.f 77) (Qa [(.sl .name)] (a0,())) (.t .bool y):=
 Q4 hE (Z93.G hE pv k) (f:=77) (fn:=Tryz.f77) (by kernel_rfl) rfl (by kernel_rfl) (by kernel_rfl) ((Z93.run k a0).trans h) (λr hr=>Q1 hr)
def Z76.F (a0:Int)(a1:Int):Option (Int):=bif (a1==2)then(bif (4==0)then(none)else(bif ((Int.tmod a0 4)==0)then(bif (100==0)then(none)else(bif ((Int.tmod a0 100) != 0)then(some 29)else(bif (400==0)then(none)else(bif ((Int.tmod a0 400)==0)then(some 29)else(some 28)))))else(some 28)))else(bif (a1==4)then(bif (a1==4)then(some 30)else(some 31))else(bif (a1==6)then(bif (a1==6)then(some 30)else(some 31))else(bif (a1==9)then(bif (a1==9)then(some 30)else(some 31))else(bif (a1==11)then(some 30)else(some 31)))))
def Z76.C:Cal->Option CArm:=λc=>match c with
 |_=>none
theorem Z76.run (a0:Int)(a1:Int):Qk Q0 (Q7 Z76.C) (Q6 26 0 (λ_=>none)) Tryz.f116 [.t (.int .i64) a0,.t (.int .i64) a1] (Q2 (.t (.int .i64)))=Z76.F a0 a1:=by kernel_rfl
theorem Z76.G (hE:EnvOk Tryz.prog Q0)(pv:Nat->Value):∀cal A,Z76.C cal=some A->Q9 Tryz.prog Q0 pv cal A:=by
 intro cal A h
 unfold Z76.C at h
 cases h
theorem Z76.good (hE:EnvOk Tryz.prog Q0)(pv:Nat->Value)(a0:Int)(a1:Int){y:_}(h:Z76.F a0 a1=some y):Q8 Tryz.prog Q0 pv (.f 116) (Qa [(.int .i64),(.int .i64)] (a0,a1,())) (.t (.int .i64) y):=
 Q4 hE (Z76.G hE pv) (f:=116) (fn:=Tryz.f116) (by kernel_rfl) rfl (by kernel_rfl) (by kernel_rfl) ((Z76.run a0 a1).trans h) (λr hr=>Q1 hr)
def Z85.F (a0:Date):Option (Bool):=bif ((a0.y==0&&(a0.m==0&&(a0.d==0&&a0.c==false))))then(some true)else((Z61.F a0.y 1 2999).bind λr1=>bif (!r1)then(some false)else((Z61.F a0.m 0 12).bind λr2=>bif (!r2)then(some false)else(bif a0.c then(bif (a0.m != 0)then(some false)else(bif (a0.m==0)then(some (a0.d==0))else((Z76.F a0.y a0.m).bind λr3=>(Z61.F a0.d 0 r3).bind λr4=>some r4)))else(bif (a0.m==0)then(some (a0.d==0))else((Z76.F a0.y a0.m).bind λr5=>(Z61.F a0.d 0 r5).bind λr6=>some r6)))))
def Z85.C:Cal->Option CArm:=λc=>match c with
 |.f 79=>some (.p [(.int .i64),(.int .i64),(.int .i64)] _ (λx=>Z61.F x.1 x.2.1 x.2.2.1) (λr=>(.t .bool r)))
 |.f 116=>some (.p [(.int .i64),(.int .i64)] _ (λx=>Z76.F x.1 x.2.1) (λr=>(.t (.int .i64) r)))
 |_=>none
theorem Z85.run (a0:Date):Qk Q0 (Q7 Z85.C) (Q6 39 0 (λ_=>none)) Tryz.f78 [.t .date a0] (Q2 (.t .bool))=Z85.F a0:=by kernel_rfl
theorem Z85.G (hE:EnvOk Tryz.prog Q0)(pv:Nat->Value):∀cal A,Z85.C cal=some A->Q9 Tryz.prog Q0 pv cal A:=by
 intro cal A h
 unfold Z85.C at h
 split at h
 ·cases h;exact λx y hy=>Z61.good hE pv x.1 x.2.1 x.2.2.1 hy
 ·cases h;exact λx y hy=>Z76.good hE pv x.1 x.2.1 hy
 ·cases h
theorem Z85.good (hE:EnvOk Tryz.prog Q0)(pv:Nat->Value)(a0:Date){y:_}(h:Z85.F a0=some y):Q8 Tryz.prog Q0 pv (.f 78) (Qa [.date] (a0,())) (.t .bool y):=
 Q4 hE (Z85.G hE pv) (f:=78) (fn:=Tryz.f78) (by kernel_rfl) rfl (by kernel_rfl) (by kernel_rfl) ((Z85.run a0).trans h) (λr hr=>Q1 hr)
def Z139.F (a0:ByteArray)(a1:ByteArray):Option (ByteArray):=Q3d a0 a1
theorem Z139.good (hE:EnvOk Tryz.prog Q0)(pv:Nat->Value)(a0:ByteArray)(a1:ByteArray){y:_}(h:Z139.F a0 a1=some y):Q8 Tryz.prog Q0 pv (.f 141) (Qa [.str,.str] (a0,a1,())) (.t .str y):=
 Q7q (fn:=Tryz.f141) (by kernel_rfl) rfl (by kernel_rfl) Tryz.strings_Trim_one h
def Z47.l0:Nat->ByteArray->Int->Option (Sum Bool ByteArray)
 |0,_,_=>none
 |k+1,x0,x3=>bif (decide (x3<(x0.size:Int)))then(bif decide (0<=x3)then(bif decide (x3<(x0.size:Int))then(bif (decide ((bt x0 (x3:Int).toNat)<32))then(some (.inl false))else(bif decide (0<=x3)then(bif decide (x3<(x0.size:Int))then(bif (decide ((bt x0 (x3:Int).toNat) > 126))then(some (.inl false))else(Z47.l0 k x0 (IntKind.wrap .i64 (x3+1))))else none)else none))else none)else none)else(some (.inr x0))
def Z47.F (k:Nat)(a0:ByteArray):Option (Bool):=(Z47.l0 k a0 0).bind λy1=>match y1 with|.inl z2=>some z2|.inr z2=>(Z139.F z2 (⟨#[32]⟩:ByteArray)).bind λr3=>some (Qo r3 z2)
def Z47.C (k:Nat):Cal->Option CArm:=λc=>match c with
 |.f 141=>some (.p [.str,.str] _ (λx=>Z139.F x.1 x.2.1) (λr=>(.t .str r)))
 |_=>none
def Z47.sp0:List Sp:=[.t 0 .str,.t 3 (.int .i64)]
def Z47.sp0_0:List Sp:=[.t 2 .bool]
def Z47.sp0_1:List Sp:=[.t 0 .str]
def Z47.A0:LArm:=.two Z47.sp0 Z47.sp0_0 Z47.sp0_1 (Bool) (ByteArray) (λk x=>Z47.l0 k x.1 x.2.1) .ret (.exit 0) (λy=>(y,())) (λx=>x.1) (λy=>(y,())) (λx=>x.1)
def Z47.L:Nat->Option LArm:=λb=>match b with
 |0=>some Z47.A0
 |_=>none
theorem Z47.run (k:Nat)(a0:ByteArray):Qk Q0 (Q7 (Z47.C k)) (Q6 24 k Z47.L) Tryz.f117 [.t .str a0] (Q2 (.t .bool))=Z47.F k a0:=by kernel_rfl
theorem Z47.step0 (k:Nat)(x0:ByteArray)(x3:Int):Qs Q0 (Q7 (Z47.C k)) (Q6 24 k Z47.L) 0 (Qj Tryz.f117 0) (QA 24 Z47.sp0 (x0,x3,())) (Z47.A0.cont 24 k)=Z47.l0 (k+1) x0 x3:=by kernel_rfl
theorem Z47.G (hE:EnvOk Tryz.prog Q0)(pv:Nat->Value)(k:Nat):∀cal A,Z47.C k cal=some A->Q9 Tryz.prog Q0 pv cal A:=by
 intro cal A h
 unfold Z47.C at h
 split at h
 ·cases h;exact λx y hy=>Z139.good hE pv x.1 x.2.1 hy
 ·cases h
theorem Z47.good (hE:EnvOk Tryz.prog Q0)(pv:Nat->Value)(k:Nat)(a0:ByteArray){y:_}(h:Z47.F k a0=some y):Q8 Tryz.prog Q0 pv (.f 117) (Qa [.str] (a0,())) (.t .bool y):=
 Qh hE (t:=Z47.C) k (λk _=>Z47.G hE pv k) (f:=117) (fn:=Tryz.f117) (by kernel_rfl) rfl (by kernel_rfl) (by kernel_rfl) (lt:=Z47.L) (by kernel_rfl) (λb A h=>by
  unfold Z47.L at h;split at h
  ·cases h;exact⟨by kernel_rfl,by kernel_rfl,by kernel_rfl,λ_=>rfl,λ_=>rfl,λ_=>rfl⟩
  ·cases h) (λb A h=>by
  unfold Z47.L at h;split at h
  ·cases h;exact λk x=>Z47.step0 k x.1 x.2.1
  ·cases h) ((Z47.run k a0).trans h) (λr hr=>Q1 hr)
def Z82.F (k:Nat)(a0:ByteArray):Option (Bool):=bif (decide ((a0.size:Int)<=40))then((Z47.F k a0).bind λr1=>some r1)else(some false)
def Z82.C (k:Nat):Cal->Option CArm:=λc=>match c with
 |.f 117=>some (.p [.str] _ (λx=>Z47.F k x.1) (λr=>(.t .bool r)))
 |_=>none
theorem Z82.run (k:Nat)(a0:ByteArray):Qk Q0 (Q7 (Z82.C k)) (Q6 10 0 (λ_=>none)) Tryz.f80 [.t .str a0] (Q2 (.t .bool))=Z82.F k a0:=by kernel_rfl
theorem Z82.G (hE:EnvOk Tryz.prog Q0)(pv:Nat->Value)(k:Nat):∀cal A,Z82.C k cal=some A->Q9 Tryz.prog Q0 pv cal A:=by
 intro cal A h
 unfold Z82.C at h
 split at h
 ·cases h;exact λx y hy=>Z47.good hE pv k x.1 hy
 ·cases h
theorem Z82.good (hE:EnvOk Tryz.prog Q0)(pv:Nat->Value)(k:Nat)(a0:ByteArray){y:_}(h:Z82.F k a0=some y):Q8 Tryz.prog Q0 pv (.f 80) (Qa [.str] (a0,())) (.t .bool y):=
 Q4 hE (Z82.G hE pv k) (f:=80) (fn:=Tryz.f80) (by kernel_rfl) rfl (by kernel_rfl) (by kernel_rfl) ((Z82.run k a0).trans h) (λr hr=>Q1 hr)
def Z94.F (k:Nat)(a0:Entry):Option (Bool):=(Z23.F k a0.key).bind λr1=>bif (!r1)then(some false)else((Z130.F a0.kind).bind λr2=>bif (!r2)then(some false)else((Z93.F k a0.authors).bind λr3=>bif (!r3)then(some false)else((Z93.F k a0.editors).bind λr4=>bif (!r4)then(some false)else((Z85.F a0.date).bind λr5=>bif (!r5)then(some false)else((Z61.F a0.volume 0 9999).bind λr6=>bif (!r6)then(some false)else((Z82.F k a0.title).bind λr7=>bif r7 then((Z82.F k a0.container).bind λr8=>bif r8 then((Z82.F k a0.publisher).bind λr9=>bif r9 then((Z82.F k a0.pages).bind λr10=>bif r10 then(bif (Qo a0.cross (⟨#[]⟩:ByteArray))then(some true)else((Z23.F k a0.cross).bind λr11=>bif r11 then(some (!Qo a0.cross a0.key))else(some false)))else(some false))else(some false))else(some false))else(some false)))))))
def Z94.C (k:Nat):Cal->Option CArm:=λc=>match c with
 |.f 75=>some (.p [.str] _ (λx=>Z23.F k x.1) (λr=>(.t .bool r)))
 |.f 76=>some (.p [(.int .i64)] _ (λx=>Z130.F x.1) (λr=>(.t .bool r)))
 |.f 77=>some (.p [(.sl .name)] _ (λx=>Z93.F k x.1) (λr=>(.t .bool r)))
 |.f 78=>some (.p [.date] _ (λx=>Z85.F x.1) (λr=>(.t .bool r)))
 |.f 79=>some (.p [(.int .i64),(.int .i64),(.int .i64)] _ (λx=>Z61.F x.1 x.2.1 x.2.2.1) (λr=>(.t .bool r)))
 |.f 80=>some (.p [.str] _ (λx=>Z82.F k x.1) (λr=>(.t .bool r)))
 |_=>none
theorem Z94.run (k:Nat)(a0:Entry):Qk Q0 (Q7 (Z94.C k)) (Q6 72 0 (λ_=>none)) Tryz.f51 [.t .entry a0] (Q2 (.t .bool))=Z94.F k a0:=by kernel_rfl
theorem Z94.G (hE:EnvOk Tryz.prog Q0)(pv:Nat->Value)(k:Nat):∀cal A,Z94.C k cal=some A->Q9 Tryz.prog Q0 pv cal A:=by
 intro cal A h
 unfold Z94.C at h
 split at h
 ·cases h;exact λx y hy=>Z23.good hE pv k x.1 hy
 ·cases h;exact λx y hy=>Z130.good hE pv x.1 hy
 ·cases h;exact λx y hy=>Z93.good hE pv k x.1 hy
 ·cases h;exact λx y hy=>Z85.good hE pv x.1 hy
 ·cases h;exact λx y hy=>Z61.good hE pv x.1 x.2.1 x.2.2.1 hy
 ·cases h;exact λx y hy=>Z82.good hE pv k x.1 hy
 ·cases h
theorem Z94.good (hE:EnvOk Tryz.prog Q0)(pv:Nat->Value)(k:Nat)(a0:Entry){y:_}(h:Z94.F k a0=some y):Q8 Tryz.prog Q0 pv (.f 51) (Qa [.entry] (a0,())) (.t .bool y):=
 Q4 hE (Z94.G hE pv k) (f:=51) (fn:=Tryz.f51) (by kernel_rfl) rfl (by kernel_rfl) (by kernel_rfl) ((Z94.run k a0).trans h) (λr hr=>Q1 hr)
def Z19.l0:Nat->Library->(List Entry)->Int->Int->Option (Sum Bool Library)
 |0,_,_,_,_=>none
 |k+1,x1,x6,x7,x8=>bif (decide (x8<x7))then(bif decide (0<=x8)then(bif decide (x8<(x6.length:Int))then((Z94.F k (x6.getD (x8:Int).toNat (Q5 .entry))).bind λr1=>bif (!r1)then(some (.inl false))else(bif (decide (x8 > 0))then(bif decide (0<=(IntKind.wrap .i64 (x8-1)))then(bif decide ((IntKind.wrap .i64 (x8-1))<(x1.entries.length:Int))then(bif (!ltS ((x1.entries.getD ((IntKind.wrap .i64 (x8-1)):Int).toNat (Q5 .entry)).key) ((x6.getD (x8:Int).toNat (Q5 .entry)).key))then(some (.inl false))else(Z19.l0 k x1 x6 x7 (IntKind.wrap .i64 (x8+1))))else none)else none)else(Z19.l0 k x1 x6 x7 (IntKind.wrap .i64 (x8+1)))))else none)else none)else(some (.inr x1))
def Z19.F (k:Nat)(a0:Library):Option (Bool):=(Z19.l0 k a0 a0.entries (a0.entries.length:Int) 0).bind λy2=>match y2 with|.inl z3=>some z3|.inr z3=>some (decide ((z3.entries.length:Int)<=8))
def Z19.C (k:Nat):Cal->Option CArm:=λc=>match c with
 |.f 51=>some (.p [.entry] _ (λx=>Z94.F k x.1) (λr=>(.t .bool r)))
 |_=>none
def Z19.sp0:List Sp:=[.boxT 1 0 .lib,.t 6 (.sl .entry),.t 7 (.int .i64),.t 8 (.int .i64)]
def Z19.sp0_0:List Sp:=[.t 2 .bool]
def Z19.sp0_1:List Sp:=[.boxT 1 0 .lib]
def Z19.A0:LArm:=.two Z19.sp0 Z19.sp0_0 Z19.sp0_1 (Bool) (Library) (λk x=>Z19.l0 k x.1 x.2.1 x.2.2.1 x.2.2.2.1) .ret (.exit 0) (λy=>(y,())) (λx=>x.1) (λy=>(y,())) (λx=>x.1)
def Z19.L:Nat->Option LArm:=λb=>match b with
 |0=>some Z19.A0
 |_=>none
theorem Z19.run (k:Nat)(a0:Library):Qk Q0 (Q7 (Z19.C k)) (Q6 37 k Z19.L) Tryz.f32 [.t .lib a0] (Q2 (.t .bool))=Z19.F k a0:=by kernel_rfl
theorem Z19.step0 (k:Nat)(x1:Library)(x6:List Entry)(x7:Int)(x8:Int):Qs Q0 (Q7 (Z19.C k)) (Q6 37 k Z19.L) 0 (Qj Tryz.f32 0) (QA 37 Z19.sp0 (x1,x6,x7,x8,())) (Z19.A0.cont 37 k)=Z19.l0 (k+1) x1 x6 x7 x8:=by kernel_rfl
theorem Z19.G (hE:EnvOk Tryz.prog Q0)(pv:Nat->Value)(k:Nat):∀cal A,Z19.C k cal=some A->Q9 Tryz.prog Q0 pv cal A:=by
 intro cal A h
 unfold Z19.C at h
 split at h
 ·cases h;exact λx y hy=>Z94.good hE pv k x.1 hy
 ·cases h
theorem Z19.good (hE:EnvOk Tryz.prog Q0)(pv:Nat->Value)(k:Nat)(a0:Library){y:_}(h:Z19.F k a0=some y):Q8 Tryz.prog Q0 pv (.f 32) (Qa [.lib] (a0,())) (.t .bool y):=
 Qh hE (t:=Z19.C) k (λk _=>Z19.G hE pv k) (f:=32) (fn:=Tryz.f32) (by kernel_rfl) rfl (by kernel_rfl) (by kernel_rfl) (lt:=Z19.L) (by kernel_rfl) (λb A h=>by
  unfold Z19.L at h;split at h
  ·cases h;exact⟨by kernel_rfl,by kernel_rfl,by kernel_rfl,λ_=>rfl,λ_=>rfl,λ_=>rfl⟩
  ·cases h) (λb A h=>by
  unfold Z19.L at h;split at h
  ·cases h;exact λk x=>Z19.step0 k x.1 x.2.1 x.2.2.1 x.2.2.2.1
  ·cases h) ((Z19.run k a0).trans h) (λr hr=>Q1 hr)
def Z37.l0:Nat->(List ByteArray)->ByteArray->Int->Int->Option (Sum Int Unit)
 |0,_,_,_,_=>none
 |k+1,x0,x1,x7,x8=>bif (decide (x8<x7))then(bif decide (0<=x8)then(bif decide (x8<(x0.length:Int))then(bif (Qo x1 (x0.getD (x8:Int).toNat (⟨#[]⟩:ByteArray)))then(some (.inl x8))else(Z37.l0 k x0 x1 x7 (IntKind.wrap .i64 (x8+1))))else none)else none)else(some (.inr ()))
def Z37.F (k:Nat)(a0:List ByteArray)(a1:ByteArray):Option (Int):=(Z37.l0 k a0 a1 (a0.length:Int) 0).bind λy1=>match y1 with|.inl z2=>some z2|.inr z2=>some (-1)
def Z37.C (k:Nat):Cal->Option CArm:=λc=>match c with
 |_=>none
def Z37.sp0:List Sp:=[.t 0 (.sl .str),.t 1 .str,.t 7 (.int .i64),.t 8 (.int .i64)]
def Z37.sp0_0:List Sp:=[.t 4 (.int .i64)]
def Z37.sp0_1:List Sp:=[]
def Z37.A0:LArm:=.two Z37.sp0 Z37.sp0_0 Z37.sp0_1 (Int) (Unit) (λk x=>Z37.l0 k x.1 x.2.1 x.2.2.1 x.2.2.2.1) .ret (.exit 0) (λy=>(y,())) (λx=>x.1) (λy=>()) (λx=>())
def Z37.L:Nat->Option LArm:=λb=>match b with
 |0=>some Z37.A0
 |_=>none
theorem Z37.run (k:Nat)(a0:List ByteArray)(a1:ByteArray):Qk Q0 (Q7 (Z37.C k)) (Q6 19 k Z37.L) Tryz.f56 [.t (.sl .str) a0,.t .str a1] (Q2 (.t (.int .i64)))=Z37.F k a0 a1:=by kernel_rfl
theorem Z37.step0 (k:Nat)(x0:List ByteArray)(x1:ByteArray)(x7:Int)(x8:Int):Qs Q0 (Q7 (Z37.C k)) (Q6 19 k Z37.L) 0 (Qj Tryz.f56 0) (QA 19 Z37.sp0 (x0,x1,x7,x8,())) (Z37.A0.cont 19 k)=Z37.l0 (k+1) x0 x1 x7 x8:=by kernel_rfl
theorem Z37.G (hE:EnvOk Tryz.prog Q0)(pv:Nat->Value)(k:Nat):∀cal A,Z37.C k cal=some A->Q9 Tryz.prog Q0 pv cal A:=by
 intro cal A h
 unfold Z37.C at h
 cases h
theorem Z37.good (hE:EnvOk Tryz.prog Q0)(pv:Nat->Value)(k:Nat)(a0:List ByteArray)(a1:ByteArray){y:_}(h:Z37.F k a0 a1=some y):Q8 Tryz.prog Q0 pv (.f 56) (Qa [(.sl .str),.str] (a0,a1,())) (.t (.int .i64) y):=
 Qh hE (t:=Z37.C) k (λk _=>Z37.G hE pv k) (f:=56) (fn:=Tryz.f56) (by kernel_rfl) rfl (by kernel_rfl) (by kernel_rfl) (lt:=Z37.L) (by kernel_rfl) (λb A h=>by
  unfold Z37.L at h;split at h
  ·cases h;exact⟨by kernel_rfl,by kernel_rfl,by kernel_rfl,λ_=>rfl,λ_=>rfl,λ_=>rfl⟩
  ·cases h) (λb A h=>by
  unfold Z37.L at h;split at h
  ·cases h;exact λk x=>Z37.step0 k x.1 x.2.1 x.2.2.1 x.2.2.2.1
  ·cases h) ((Z37.run k a0 a1).trans h) (λr hr=>Q1 hr)
def Z109.F (k:Nat)(a0:List ByteArray)(a1:ByteArray):Option (Bool):=(Z37.F k a0 a1).bind λr1=>some (decide (r1 ≥ 0))
def Z109.C (k:Nat):Cal->Option CArm:=λc=>match c with
 |.f 56=>some (.p [(.sl .str),.str] _ (λx=>Z37.F k x.1 x.2.1) (λr=>(.t (.int .i64) r)))
 |_=>none
theorem Z109.run (k:Nat)(a0:List ByteArray)(a1:ByteArray):Qk Q0 (Q7 (Z109.C k)) (Q6 9 0 (λ_=>none)) Tryz.f37 [.t (.sl .str) a0,.t .str a1] (Q2 (.t .bool))=Z109.F k a0 a1:=by kernel_rfl
theorem Z109.G (hE:EnvOk Tryz.prog Q0)(pv:Nat->Value)(k:Nat):∀cal A,Z109.C k cal=some A->Q9 Tryz.prog Q0 pv cal A:=by
 intro cal A h
 unfold Z109.C at h
 split at h
 ·cases h;exact λx y hy=>Z37.good hE pv k x.1 x.2.1 hy
 ·cases h
theorem Z109.good (hE:EnvOk Tryz.prog Q0)(pv:Nat->Value)(k:Nat)(a0:List ByteArray)(a1:ByteArray){y:_}(h:Z109.F k a0 a1=some y):Q8 Tryz.prog Q0 pv (.f 37) (Qa [(.sl .str),.str] (a0,a1,())) (.t .bool y):=
 Q4 hE (Z109.G hE pv k) (f:=37) (fn:=Tryz.f37) (by kernel_rfl) rfl (by kernel_rfl) (by kernel_rfl) ((Z109.run k a0 a1).trans h) (λr hr=>Q1 hr)
def Z21.l0:Nat->(List ByteArray)->Library->(List ByteArray)->Int->Int->Option (Sum Bool Library)
 |0,_,_,_,_,_=>none
 |k+1,x1,x2,x7,x8,x9=>bif (decide (x9<x8))then(bif decide (0<=x9)then(bif decide (x9<(x7.length:Int))then((Z60.F k x2 (x7.getD (x9:Int).toNat (⟨#[]⟩:ByteArray))).bind λr1=>bif (decide (r1<0))then(some (.inl false))else(bif decide (0<=x9)then(bif decide (x9<=(x1.length:Int))then((Z109.F k (x1.take (x9:Int).toNat) (x7.getD (x9:Int).toNat (⟨#[]⟩:ByteArray))).bind λr2=>bif r2 then(some (.inl false))else(Z21.l0 k x1 x2 x7 x8 (IntKind.wrap .i64 (x9+1))))else none)else none))else none)else none)else(some (.inr x2))
def Z21.F (k:Nat)(a0:Library)(a1:List ByteArray):Option (Bool):=(Z21.l0 k a1 a0 a1 (a1.length:Int) 0).bind λy3=>match y3 with|.inl z4=>some z4|.inr z4=>(Z19.F k z4).bind λr5=>some r5
def Z21.C (k:Nat):Cal->Option CArm:=λc=>match c with
 |.f 31=>some (.p [.lib,.str] _ (λx=>Z60.F k x.1 x.2.1) (λr=>(.t (.int .i64) r)))
 |.f 37=>some (.p [(.sl .str),.str] _ (λx=>Z109.F k x.1 x.2.1) (λr=>(.t .bool r)))
 |.f 32=>some (.p [.lib] _ (λx=>Z19.F k x.1) (λr=>(.t .bool r)))
 |_=>none
def Z21.sp0:List Sp:=[.t 1 (.sl .str),.boxT 2 0 .lib,.t 7 (.sl .str),.t 8 (.int .i64),.t 9 (.int .i64)]
def Z21.sp0_0:List Sp:=[.t 4 .bool]
def Z21.sp0_1:List Sp:=[.boxT 2 0 .lib]
def Z21.A0:LArm:=.two Z21.sp0 Z21.sp0_0 Z21.sp0_1 (Bool) (Library) (λk x=>Z21.l0 k x.1 x.2.1 x.2.2.1 x.2.2.2.1 x.2.2.2.2.1) .ret (.exit 0) (λy=>(y,())) (λx=>x.1) (λy=>(y,())) (λx=>x.1)
def Z21.L:Nat->Option LArm:=λb=>match b with
 |0=>some Z21.A0
 |_=>none
theorem Z21.run (k:Nat)(a0:Library)(a1:List ByteArray):Qk Q0 (Q7 (Z21.C k)) (Q6 28 k Z21.L) Tryz.f15 [.t .lib a0,.t (.sl .str) a1] (Q2 (.t .bool))=Z21.F k a0 a1:=by kernel_rfl
theorem Z21.step0 (k:Nat)(x1:List ByteArray)(x2:Library)(x7:List ByteArray)(x8:Int)(x9:Int):Qs Q0 (Q7 (Z21.C k)) (Q6 28 k Z21.L) 0 (Qj Tryz.f15 0) (QA 28 Z21.sp0 (x1,x2,x7,x8,x9,())) (Z21.A0.cont 28 k)=Z21.l0 (k+1) x1 x2 x7 x8 x9:=by kernel_rfl
theorem Z21.G (hE:EnvOk Tryz.prog Q0)(pv:Nat->Value)(k:Nat):∀cal A,Z21.C k cal=some A->Q9 Tryz.prog Q0 pv cal A:=by
 intro cal A h
 unfold Z21.C at h
 split at h
 ·cases h;exact λx y hy=>Z60.good hE pv k x.1 x.2.1 hy
 ·cases h;exact λx y hy=>Z109.good hE pv k x.1 x.2.1 hy
 ·cases h;exact λx y hy=>Z19.good hE pv k x.1 hy
 ·cases h
theorem Z21.good (hE:EnvOk Tryz.prog Q0)(pv:Nat->Value)(k:Nat)(a0:Library)(a1:List ByteArray){y:_}(h:Z21.F k a0 a1=some y):Q8 Tryz.prog Q0 pv (.f 15) (Qa [.lib,(.sl .str)] (a0,a1,())) (.t .bool y):=
 Qh hE (t:=Z21.C) k (λk _=>Z21.G hE pv k) (f:=15) (fn:=Tryz.f15) (by kernel_rfl) rfl (by kernel_rfl) (by kernel_rfl) (lt:=Z21.L) (by kernel_rfl) (λb A h=>by
  unfold Z21.L at h;split at h
  ·cases h;exact⟨by kernel_rfl,by kernel_rfl,by kernel_rfl,λ_=>rfl,λ_=>rfl,λ_=>rfl⟩
  ·cases h) (λb A h=>by
  unfold Z21.L at h;split at h
  ·cases h;exact λk x=>Z21.step0 k x.1 x.2.1 x.2.2.1 x.2.2.2.1 x.2.2.2.2.1
  ·cases h) ((Z21.run k a0 a1).trans h) (λr hr=>Q1 hr)
def Z53.l0:Nat->(List Name)->(List Name)->Int->Int->Option ((List Name))
 |0,_,_,_,_=>none
 |k+1,x3,x7,x8,x9=>bif (decide (x9<x8))then(bif decide (0<=x9)then(bif decide (x9<(x7.length:Int))then(bif room (([]:List ByteArray).length+((x7.getD (x9:Int).toNat (Q5 .name)).given).length) .str then(bif room (x3.length+([(⟨(([]:List ByteArray)++((x7.getD (x9:Int).toNat (Q5 .name)).given)),(x7.getD (x9:Int).toNat (Q5 .name)).particle,(x7.getD (x9:Int).toNat (Q5 .name)).family,(x7.getD (x9:Int).toNat (Q5 .name)).suffix⟩:Name)]:List Name).length) .name then(Z53.l0 k (x3++([(⟨(([]:List ByteArray)++((x7.getD (x9:Int).toNat (Q5 .name)).given)),(x7.getD (x9:Int).toNat (Q5 .name)).particle,(x7.getD (x9:Int).toNat (Q5 .name)).family,(x7.getD (x9:Int).toNat (Q5 .name)).suffix⟩:Name)]:List Name)) x7 x8 (IntKind.wrap .i64 (x9+1)))else none)else none)else none)else none)else(some x3)
def Z53.F (k:Nat)(a0:List Name):Option (List Name):=(Z53.l0 k ([]:List Name) a0 (a0.length:Int) 0).bind λy1=>some y1
def Z53.C (k:Nat):Cal->Option CArm:=λc=>match c with
 |_=>none
def Z53.sp0:List Sp:=[.own 3 1024 55 .name false true,.t 7 (.sl .name),.t 8 (.int .i64),.t 9 (.int .i64)]
def Z53.sp0_0:List Sp:=[.own 3 1024 55 .name false true]
def Z53.A0:LArm:=.one Z53.sp0 Z53.sp0_0 ((List Name)) (λk x=>Z53.l0 k x.1 x.2.1 x.2.2.1 x.2.2.2.1) (.exit 0) (λy=>(y,())) (λx=>x.1)
def Z53.L:Nat->Option LArm:=λb=>match b with
 |0=>some Z53.A0
 |_=>none
theorem Z53.run (k:Nat)(a0:List Name):Qk Q0 (Q7 (Z53.C k)) (Q6 24 k Z53.L) Tryz.f16 [.t (.sl .name) a0] (Q2 (.fr 55 .name))=Z53.F k a0:=by kernel_rfl
theorem Z53.step0 (k:Nat)(x3:List Name)(x7:List Name)(x8:Int)(x9:Int):Qs Q0 (Q7 (Z53.C k)) (Q6 24 k Z53.L) 0 (Qj Tryz.f16 0) (QA 24 Z53.sp0 (x3,x7,x8,x9,())) (Z53.A0.cont 24 k)=Z53.l0 (k+1) x3 x7 x8 x9:=by kernel_rfl
theorem Z53.G (hE:EnvOk Tryz.prog Q0)(pv:Nat->Value)(k:Nat):∀cal A,Z53.C k cal=some A->Q9 Tryz.prog Q0 pv cal A:=by
 intro cal A h
 unfold Z53.C at h
 cases h
theorem Z53.good (hE:EnvOk Tryz.prog Q0)(pv:Nat->Value)(k:Nat)(a0:List Name){y:_}(h:Z53.F k a0=some y):Q8 Tryz.prog Q0 pv (.f 16) (Qa [(.sl .name)] (a0,())) (.fr 55 .name y):=
 Qh hE (t:=Z53.C) k (λk _=>Z53.G hE pv k) (f:=16) (fn:=Tryz.f16) (by kernel_rfl) rfl (by kernel_rfl) (by kernel_rfl) (lt:=Z53.L) (by kernel_rfl) (λb A h=>by
  unfold Z53.L at h;split at h
  ·cases h;exact⟨by kernel_rfl,by kernel_rfl,λ_=>rfl,λ_=>rfl⟩
  ·cases h) (λb A h=>by
  unfold Z53.L at h;split at h
  ·cases h;exact λk x=>Z53.step0 k x.1 x.2.1 x.2.2.1 x.2.2.2.1
  ·cases h) ((Z53.run k a0).trans h) (λr hr=>Q1 hr)
def Z72.F (k:Nat)(a0:Library)(a1:ByteArray):Option (Entry):=(Z60.F k a0 a1).bind λr1=>bif decide (0<=r1)then(bif decide (r1<(a0.entries.length:Int))then(some (a0.entries.getD (r1:Int).toNat (Q5 .entry)))else none)else none
def Z72.C (k:Nat):Cal->Option CArm:=λc=>match c with
 |.f 31=>some (.p [.lib,.str] _ (λx=>Z60.F k x.1 x.2.1) (λr=>(.t (.int .i64) r)))
 |_=>none
theorem Z72.run (k:Nat)(a0:Library)(a1:ByteArray):Qk Q0 (Q7 (Z72.C k)) (Q6 12 0 (λ_=>none)) Tryz.f17 [.t .lib a0,.t .str a1] (Q2 (.t .entry))=Z72.F k a0 a1:=by kernel_rfl
theorem Z72.G (hE:EnvOk Tryz.prog Q0)(pv:Nat->Value)(k:Nat):∀cal A,Z72.C k cal=some A->Q9 Tryz.prog Q0 pv cal A:=by
 intro cal A h
 unfold Z72.C at h
 split at h
 ·cases h;exact λx y hy=>Z60.good hE pv k x.1 x.2.1 hy
 ·cases h
theorem Z72.good (hE:EnvOk Tryz.prog Q0)(pv:Nat->Value)(k:Nat)(a0:Library)(a1:ByteArray){y:_}(h:Z72.F k a0 a1=some y):Q8 Tryz.prog Q0 pv (.f 17) (Qa [.lib,.str] (a0,a1,())) (.t .entry y):=
 Q4 hE (Z72.G hE pv k) (f:=17) (fn:=Tryz.f17) (by kernel_rfl) rfl (by kernel_rfl) (by kernel_rfl) ((Z72.run k a0 a1).trans h) (λr hr=>Q1 hr)
def Z38.l0:Nat->(List ByteArray)->(List ByteArray)->Int->Int->Option (Sum Bool Unit)
 |0,_,_,_,_=>none
 |k+1,x0,x1,x12,x13=>bif (decide (x13<x12))then(bif decide (0<=x13)then(bif decide (x13<(x0.length:Int))then(bif decide (0<=x13)then(bif decide (x13<(x1.length:Int))then(bif (!Qo (x0.getD (x13:Int).toNat (⟨#[]⟩:ByteArray)) (x1.getD (x13:Int).toNat (⟨#[]⟩:ByteArray)))then(some (.inl false))else(Z38.l0 k x0 x1 x12 (IntKind.wrap .i64 (x13+1))))else none)else none)else none)else none)else(some (.inr ()))
def Z38.F (k:Nat)(a0:List ByteArray)(a1:List ByteArray):Option (Bool):=bif ((a0.length:Int) != (a1.length:Int))then(some false)else((Z38.l0 k a0 a1 (a0.length:Int) 0).bind λy1=>match y1 with|.inl z2=>some z2|.inr z2=>some true)
def Z38.C (k:Nat):Cal->Option CArm:=λc=>match c with
 |_=>none
def Z38.sp0:List Sp:=[.t 0 (.sl .str),.t 1 (.sl .str),.t 12 (.int .i64),.t 13 (.int .i64)]
def Z38.sp0_0:List Sp:=[.t 4 .bool]
def Z38.sp0_1:List Sp:=[]
def Z38.A0:LArm:=.two Z38.sp0 Z38.sp0_0 Z38.sp0_1 (Bool) (Unit) (λk x=>Z38.l0 k x.1 x.2.1 x.2.2.1 x.2.2.2.1) .ret (.exit 0) (λy=>(y,())) (λx=>x.1) (λy=>()) (λx=>())
def Z38.L:Nat->Option LArm:=λb=>match b with
 |0=>some Z38.A0
 |_=>none
theorem Z38.run (k:Nat)(a0:List ByteArray)(a1:List ByteArray):Qk Q0 (Q7 (Z38.C k)) (Q6 26 k Z38.L) Tryz.f39 [.t (.sl .str) a0,.t (.sl .str) a1] (Q2 (.t .bool))=Z38.F k a0 a1:=by kernel_rfl
theorem Z38.step0 (k:Nat)(x0:List ByteArray)(x1:List ByteArray)(x12:Int)(x13:Int):Qs Q0 (Q7 (Z38.C k)) (Q6 26 k Z38.L) 0 (Qj Tryz.f39 0) (QA 26 Z38.sp0 (x0,x1,x12,x13,())) (Z38.A0.cont 26 k)=Z38.l0 (k+1) x0 x1 x12 x13:=by kernel_rfl
theorem Z38.G (hE:EnvOk Tryz.prog Q0)(pv:Nat->Value)(k:Nat):∀cal A,Z38.C k cal=some A->Q9 Tryz.prog Q0 pv cal A:=by
 intro cal A h
 unfold Z38.C at h
 cases h
theorem Z38.good (hE:EnvOk Tryz.prog Q0)(pv:Nat->Value)(k:Nat)(a0:List ByteArray)(a1:List ByteArray){y:_}(h:Z38.F k a0 a1=some y):Q8 Tryz.prog Q0 pv (.f 39) (Qa [(.sl .str),(.sl .str)] (a0,a1,())) (.t .bool y):=
 Qh hE (t:=Z38.C) k (λk _=>Z38.G hE pv k) (f:=39) (fn:=Tryz.f39) (by kernel_rfl) rfl (by kernel_rfl) (by kernel_rfl) (lt:=Z38.L) (by kernel_rfl) (λb A h=>by
  unfold Z38.L at h;split at h
  ·cases h;exact⟨by kernel_rfl,by kernel_rfl,by kernel_rfl,λ_=>rfl,λ_=>rfl,λ_=>rfl⟩
  ·cases h) (λb A h=>by
  unfold Z38.L at h;split at h
  ·cases h;exact λk x=>Z38.step0 k x.1 x.2.1 x.2.2.1 x.2.2.2.1
  ·cases h) ((Z38.run k a0 a1).trans h) (λr hr=>Q1 hr)
def Z83.F (k:Nat)(a0:Name)(a1:Name):Option (Bool):=(Z38.F k a0.given a1.given).bind λr1=>bif r1 then(bif (Qo a0.particle a1.particle)then(bif (Qo a0.family a1.family)then(some (Qo a0.suffix a1.suffix))else(some false))else(some false))else(some false)
def Z83.C (k:Nat):Cal->Option CArm:=λc=>match c with
 |.f 39=>some (.p [(.sl .str),(.sl .str)] _ (λx=>Z38.F k x.1 x.2.1) (λr=>(.t .bool r)))
 |_=>none
theorem Z83.run (k:Nat)(a0:Name)(a1:Name):Qk Q0 (Q7 (Z83.C k)) (Q6 31 0 (λ_=>none)) Tryz.f20 [.t .name a0,.t .name a1] (Q2 (.t .bool))=Z83.F k a0 a1:=by kernel_rfl
theorem Z83.G (hE:EnvOk Tryz.prog Q0)(pv:Nat->Value)(k:Nat):∀cal A,Z83.C k cal=some A->Q9 Tryz.prog Q0 pv cal A:=by
 intro cal A h
 unfold Z83.C at h
 split at h
 ·cases h;exact λx y hy=>Z38.good hE pv k x.1 x.2.1 hy
 ·cases h
theorem Z83.good (hE:EnvOk Tryz.prog Q0)(pv:Nat->Value)(k:Nat)(a0:Name)(a1:Name){y:_}(h:Z83.F k a0 a1=some y):Q8 Tryz.prog Q0 pv (.f 20) (Qa [.name,.name] (a0,a1,())) (.t .bool y):=
 Q4 hE (Z83.G hE pv k) (f:=20) (fn:=Tryz.f20) (by kernel_rfl) rfl (by kernel_rfl) (by kernel_rfl) ((Z83.run k a0 a1).trans h) (λr hr=>Q1 hr)
def Z86.F (k:Nat)(a0:Name)(a1:Name):Option (Bool):=(Z83.F k a0 a1).bind λr1=>some r1
def Z86.C (k:Nat):Cal->Option CArm:=λc=>match c with
 |.f 20=>some (.p [.name,.name] _ (λx=>Z83.F k x.1 x.2.1) (λr=>(.t .bool r)))
 |_=>none
theorem Z86.run (k:Nat)(a0:Name)(a1:Name):Qk Q0 (Q7 (Z86.C k)) (Q6 7 0 (λ_=>none)) Tryz.f40 [.t .name a0,.tp (.t .name a1)] (Q2 (.t .bool))=Z86.F k a0 a1:=by kernel_rfl
theorem Z86.G (hE:EnvOk Tryz.prog Q0)(pv:Nat->Value)(k:Nat):∀cal A,Z86.C k cal=some A->Q9 Tryz.prog Q0 pv cal A:=by
 intro cal A h
 unfold Z86.C at h
 split at h
 ·cases h;exact λx y hy=>Z83.good hE pv k x.1 x.2.1 hy
 ·cases h
theorem Z86.good (hE:EnvOk Tryz.prog Q0)(pv:Nat->Value)(k:Nat)(a0:Name)(a1:Name){y:_}(h:Z86.F k a0 a1=some y):Q8 Tryz.prog Q0 pv (.f 40) (Jc [.t .name,.tp .name] (a0,a1,())) (.t .bool y):=
 Q4 hE (Z86.G hE pv k) (f:=40) (fn:=Tryz.f40) (by kernel_rfl) rfl (by kernel_rfl) (by kernel_rfl) ((Z86.run k a0 a1).trans h) (λr hr=>Q1 hr)
def Z54.l0:Nat->(List Name)->Name->Int->Int->Option (Sum Int Unit)
 |0,_,_,_,_=>none
 |k+1,x0,x1,x7,x8=>bif (decide (x8<x7))then(bif decide (0<=x8)then(bif decide (x8<(x0.length:Int))then((Z86.F k (x0.getD (x8:Int).toNat (Q5 .name)) x1).bind λr1=>bif r1 then(some (.inl x8))else(Z54.l0 k x0 x1 x7 (IntKind.wrap .i64 (x8+1))))else none)else none)else(some (.inr ()))
def Z54.F (k:Nat)(a0:List Name)(a1c0:Name):Option (Int):=(Z54.l0 k a0 a1c0 (a0.length:Int) 0).bind λy2=>match y2 with|.inl z3=>some z3|.inr z3=>some (-1)
def Z54.C (k:Nat):Cal->Option CArm:=λc=>match c with
 |.f 40=>some (.q [.t .name,.tp .name] _ (λx=>Z86.F k x.1 x.2.1) (λr=>(.t .bool r)))
 |_=>none
def Z54.sp0:List Sp:=[.t 0 (.sl .name),.cl 1 40 [.tp .name],.t 7 (.int .i64),.t 8 (.int .i64)]
def Z54.sp0_0:List Sp:=[.t 4 (.int .i64)]
def Z54.sp0_1:List Sp:=[]
def Z54.A0:LArm:=.two Z54.sp0 Z54.sp0_0 Z54.sp0_1 (Int) (Unit) (λk x=>Z54.l0 k x.1 x.2.1.1 x.2.2.1 x.2.2.2.1) .ret (.exit 0) (λy=>(y,())) (λx=>x.1) (λy=>()) (λx=>())
def Z54.L:Nat->Option LArm:=λb=>match b with
 |0=>some Z54.A0
 |_=>none
theorem Z54.run (k:Nat)(a0:List Name)(a1c0:Name):Qk Q0 (Q7 (Z54.C k)) (Q6 19 k Z54.L) Tryz.f38 [.t (.sl .name) a0,.clo 40 [.tp (.t .name a1c0)]] (Q2 (.t (.int .i64)))=Z54.F k a0 a1c0:=by kernel_rfl
theorem Z54.step0 (k:Nat)(x0:List Name)(x1:Name)(x7:Int)(x8:Int):Qs Q0 (Q7 (Z54.C k)) (Q6 19 k Z54.L) 0 (Qj Tryz.f38 0) (QA 19 Z54.sp0 (x0,(x1,()),x7,x8,())) (Z54.A0.cont 19 k)=Z54.l0 (k+1) x0 x1 x7 x8:=by kernel_rfl
theorem Z54.G (hE:EnvOk Tryz.prog Q0)(pv:Nat->Value)(k:Nat):∀cal A,Z54.C k cal=some A->Q9 Tryz.prog Q0 pv cal A:=by
 intro cal A h
 unfold Z54.C at h
 split at h
 ·cases h;exact λx y hy=>Z86.good hE pv k x.1 x.2.1 hy
 ·cases h
theorem Z54.good (hE:EnvOk Tryz.prog Q0)(pv:Nat->Value)(k:Nat)(a0:List Name)(a1c0:Name){y:_}(h:Z54.F k a0 a1c0=some y):Q8 Tryz.prog Q0 pv (.f 38) (Jc [.t (.sl .name),.clo 40 [.tp .name]] (a0,(a1c0,()),())) (.t (.int .i64) y):=
 Qh hE (t:=Z54.C) k (λk _=>Z54.G hE pv k) (f:=38) (fn:=Tryz.f38) (by kernel_rfl) rfl (by kernel_rfl) (by kernel_rfl) (lt:=Z54.L) (by kernel_rfl) (λb A h=>by
  unfold Z54.L at h;split at h
  ·cases h;exact⟨by kernel_rfl,by kernel_rfl,by kernel_rfl,λ_=>rfl,λ_=>rfl,λ_=>rfl⟩
  ·cases h) (λb A h=>by
  unfold Z54.L at h;split at h
  ·cases h;exact λk x=>Z54.step0 k x.1 x.2.1.1 x.2.2.1 x.2.2.2.1
  ·cases h) ((Z54.run k a0 a1c0).trans h) (λr hr=>Q1 hr)
def Z133.F (k:Nat)(a0:List Name)(a1c0:Name):Option (Bool):=(Z54.F k a0 a1c0).bind λr1=>some (decide (r1 ≥ 0))
def Z133.C (k:Nat):Cal->Option CArm:=λc=>match c with
 |.f 38=>some (.q [.t (.sl .name),.clo 40 [.tp .name]] _ (λx=>Z54.F k x.1 x.2.1.1) (λr=>(.t (.int .i64) r)))
 |_=>none
theorem Z133.run (k:Nat)(a0:List Name)(a1c0:Name):Qk Q0 (Q7 (Z133.C k)) (Q6 9 0 (λ_=>none)) Tryz.f18 [.t (.sl .name) a0,.clo 40 [.tp (.t .name a1c0)]] (Q2 (.t .bool))=Z133.F k a0 a1c0:=by kernel_rfl
theorem Z133.G (hE:EnvOk Tryz.prog Q0)(pv:Nat->Value)(k:Nat):∀cal A,Z133.C k cal=some A->Q9 Tryz.prog Q0 pv cal A:=by
 intro cal A h
 unfold Z133.C at h
 split at h
 ·cases h;exact λx y hy=>Z54.good hE pv k x.1 x.2.1.1 hy
 ·cases h
theorem Z133.good (hE:EnvOk Tryz.prog Q0)(pv:Nat->Value)(k:Nat)(a0:List Name)(a1c0:Name){y:_}(h:Z133.F k a0 a1c0=some y):Q8 Tryz.prog Q0 pv (.f 18) (Jc [.t (.sl .name),.clo 40 [.tp .name]] (a0,(a1c0,()),())) (.t .bool y):=
 Q4 hE (Z133.G hE pv k) (f:=18) (fn:=Tryz.f18) (by kernel_rfl) rfl (by kernel_rfl) (by kernel_rfl) ((Z133.run k a0 a1c0).trans h) (λr hr=>Q1 hr)
def Z110.F (k:Nat)(a0:Entry)(a1:Name):Option (Bool):=(Z133.F k a0.authors a1).bind λr1=>some r1
def Z110.C (k:Nat):Cal->Option CArm:=λc=>match c with
 |.f 18=>some (.q [.t (.sl .name),.clo 40 [.tp .name]] _ (λx=>Z133.F k x.1 x.2.1.1) (λr=>(.t .bool r)))
 |_=>none
theorem Z110.run (k:Nat)(a0:Entry)(a1:Name):Qk Q0 (Q7 (Z110.C k)) (Q6 9 0 (λ_=>none)) Tryz.f21 [.t .entry a0,.t .name a1] (Q2 (.t .bool))=Z110.F k a0 a1:=by kernel_rfl
theorem Z110.G (hE:EnvOk Tryz.prog Q0)(pv:Nat->Value)(k:Nat):∀cal A,Z110.C k cal=some A->Q9 Tryz.prog Q0 pv cal A:=by
 intro cal A h
 unfold Z110.C at h
 split at h
 ·cases h;exact λx y hy=>Z133.good hE pv k x.1 x.2.1.1 hy
 ·cases h
theorem Z110.good (hE:EnvOk Tryz.prog Q0)(pv:Nat->Value)(k:Nat)(a0:Entry)(a1:Name){y:_}(h:Z110.F k a0 a1=some y):Q8 Tryz.prog Q0 pv (.f 21) (Qa [.entry,.name] (a0,a1,())) (.t .bool y):=
 Q4 hE (Z110.G hE pv k) (f:=21) (fn:=Tryz.f21) (by kernel_rfl) rfl (by kernel_rfl) (by kernel_rfl) ((Z110.run k a0 a1).trans h) (λr hr=>Q1 hr)
def Z87.F (k:Nat)(a0:Name)(a1:Name):Option (Bool):=(Z83.F k a0 a1).bind λr1=>some r1
def Z87.C (k:Nat):Cal->Option CArm:=λc=>match c with
 |.f 20=>some (.p [.name,.name] _ (λx=>Z83.F k x.1 x.2.1) (λr=>(.t .bool r)))
 |_=>none
theorem Z87.run (k:Nat)(a0:Name)(a1:Name):Qk Q0 (Q7 (Z87.C k)) (Q6 7 0 (λ_=>none)) Tryz.f19 [.t .name a0,.tp (.t .name a1)] (Q2 (.t .bool))=Z87.F k a0 a1:=by kernel_rfl
theorem Z87.G (hE:EnvOk Tryz.prog Q0)(pv:Nat->Value)(k:Nat):∀cal A,Z87.C k cal=some A->Q9 Tryz.prog Q0 pv cal A:=by
 intro cal A h
 unfold Z87.C at h
 split at h
 ·cases h;exact λx y hy=>Z83.good hE pv k x.1 x.2.1 hy
 ·cases h
theorem Z87.good (hE:EnvOk Tryz.prog Q0)(pv:Nat->Value)(k:Nat)(a0:Name)(a1:Name){y:_}(h:Z87.F k a0 a1=some y):Q8 Tryz.prog Q0 pv (.f 19) (Jc [.t .name,.tp .name] (a0,a1,())) (.t .bool y):=
 Q4 hE (Z87.G hE pv k) (f:=19) (fn:=Tryz.f19) (by kernel_rfl) rfl (by kernel_rfl) (by kernel_rfl) ((Z87.run k a0 a1).trans h) (λr hr=>Q1 hr)
def Z55.l0:Nat->(List Name)->Name->Int->Int->Option (Sum Int Unit)
 |0,_,_,_,_=>none
 |k+1,x0,x1,x7,x8=>bif (decide (x8<x7))then(bif decide (0<=x8)then(bif decide (x8<(x0.length:Int))then((Z87.F k (x0.getD (x8:Int).toNat (Q5 .name)) x1).bind λr1=>bif r1 then(some (.inl x8))else(Z55.l0 k x0 x1 x7 (IntKind.wrap .i64 (x8+1))))else none)else none)else(some (.inr ()))
def Z55.F (k:Nat)(a0:List Name)(a1c0:Name):Option (Int):=(Z55.l0 k a0 a1c0 (a0.length:Int) 0).bind λy2=>match y2 with|.inl z3=>some z3|.inr z3=>some (-1)
def Z55.C (k:Nat):Cal->Option CArm:=λc=>match c with
 |.f 19=>some (.q [.t .name,.tp .name] _ (λx=>Z87.F k x.1 x.2.1) (λr=>(.t .bool r)))
 |_=>none
def Z55.sp0:List Sp:=[.t 0 (.sl .name),.cl 1 19 [.tp .name],.t 7 (.int .i64),.t 8 (.int .i64)]
def Z55.sp0_0:List Sp:=[.t 4 (.int .i64)]
def Z55.sp0_1:List Sp:=[]
def Z55.A0:LArm:=.two Z55.sp0 Z55.sp0_0 Z55.sp0_1 (Int) (Unit) (λk x=>Z55.l0 k x.1 x.2.1.1 x.2.2.1 x.2.2.2.1) .ret (.exit 0) (λy=>(y,())) (λx=>x.1) (λy=>()) (λx=>())
def Z55.L:Nat->Option LArm:=λb=>match b with
 |0=>some Z55.A0
 |_=>none
theorem Z55.run (k:Nat)(a0:List Name)(a1c0:Name):Qk Q0 (Q7 (Z55.C k)) (Q6 19 k Z55.L) Tryz.f38 [.t (.sl .name) a0,.clo 19 [.tp (.t .name a1c0)]] (Q2 (.t (.int .i64)))=Z55.F k a0 a1c0:=by kernel_rfl
theorem Z55.step0 (k:Nat)(x0:List Name)(x1:Name)(x7:Int)(x8:Int):Qs Q0 (Q7 (Z55.C k)) (Q6 19 k Z55.L) 0 (Qj Tryz.f38 0) (QA 19 Z55.sp0 (x0,(x1,()),x7,x8,())) (Z55.A0.cont 19 k)=Z55.l0 (k+1) x0 x1 x7 x8:=by kernel_rfl
theorem Z55.G (hE:EnvOk Tryz.prog Q0)(pv:Nat->Value)(k:Nat):∀cal A,Z55.C k cal=some A->Q9 Tryz.prog Q0 pv cal A:=by
 intro cal A h
 unfold Z55.C at h
 split at h
 ·cases h;exact λx y hy=>Z87.good hE pv k x.1 x.2.1 hy
 ·cases h
theorem Z55.good (hE:EnvOk Tryz.prog Q0)(pv:Nat->Value)(k:Nat)(a0:List Name)(a1c0:Name){y:_}(h:Z55.F k a0 a1c0=some y):Q8 Tryz.prog Q0 pv (.f 38) (Jc [.t (.sl .name),.clo 19 [.tp .name]] (a0,(a1c0,()),())) (.t (.int .i64) y):=
 Qh hE (t:=Z55.C) k (λk _=>Z55.G hE pv k) (f:=38) (fn:=Tryz.f38) (by kernel_rfl) rfl (by kernel_rfl) (by kernel_rfl) (lt:=Z55.L) (by kernel_rfl) (λb A h=>by
  unfold Z55.L at h;split at h
  ·cases h;exact⟨by kernel_rfl,by kernel_rfl,by kernel_rfl,λ_=>rfl,λ_=>rfl,λ_=>rfl⟩
  ·cases h) (λb A h=>by
  unfold Z55.L at h;split at h
  ·cases h;exact λk x=>Z55.step0 k x.1 x.2.1.1 x.2.2.1 x.2.2.2.1
  ·cases h) ((Z55.run k a0 a1c0).trans h) (λr hr=>Q1 hr)
def Z111.F (k:Nat)(a0:List Name)(a1c0:Name):Option (Bool):=(Z55.F k a0 a1c0).bind λr1=>some (decide (r1 ≥ 0))
def Z111.C (k:Nat):Cal->Option CArm:=λc=>match c with
 |.f 38=>some (.q [.t (.sl .name),.clo 19 [.tp .name]] _ (λx=>Z55.F k x.1 x.2.1.1) (λr=>(.t (.int .i64) r)))
 |_=>none
theorem Z111.run (k:Nat)(a0:List Name)(a1c0:Name):Qk Q0 (Q7 (Z111.C k)) (Q6 9 0 (λ_=>none)) Tryz.f18 [.t (.sl .name) a0,.clo 19 [.tp (.t .name a1c0)]] (Q2 (.t .bool))=Z111.F k a0 a1c0:=by kernel_rfl
theorem Z111.G (hE:EnvOk Tryz.prog Q0)(pv:Nat->Value)(k:Nat):∀cal A,Z111.C k cal=some A->Q9 Tryz.prog Q0 pv cal A:=by
 intro cal A h
 unfold Z111.C at h
 split at h
 ·cases h;exact λx y hy=>Z55.good hE pv k x.1 x.2.1.1 hy
 ·cases h
theorem Z111.good (hE:EnvOk Tryz.prog Q0)(pv:Nat->Value)(k:Nat)(a0:List Name)(a1c0:Name){y:_}(h:Z111.F k a0 a1c0=some y):Q8 Tryz.prog Q0 pv (.f 18) (Jc [.t (.sl .name),.clo 19 [.tp .name]] (a0,(a1c0,()),())) (.t .bool y):=
 Q4 hE (Z111.G hE pv k) (f:=18) (fn:=Tryz.f18) (by kernel_rfl) rfl (by kernel_rfl) (by kernel_rfl) ((Z111.run k a0 a1c0).trans h) (λr hr=>Q1 hr)
def Z5.l2:Nat->(List ByteArray)->Library->(List Name)->Name->Bool->(List Name)->Int->Int->(List ByteArray)->Int->Int->Option ((List ByteArray)×Library× (List Name)×Name×Bool× (List Name)×Int×Int)
 |0,_,_,_,_,_,_,_,_,_,_,_=>none
 |k+1,x1,x2,x6,x8,x9,x27,x28,x29,x37,x38,x39=>bif (decide (x39<x38))then(bif decide (0<=x39)then(bif decide (x39<(x37.length:Int))then(bif x9 then((Z72.F k x2 (x37.getD (x39:Int).toNat (⟨#[]⟩:ByteArray))).bind λr5=>(Z110.F k r5 x8).bind λr6=>Z5.l2 k x1 x2 x6 x8 r6 x27 x28 x29 x37 x38 (IntKind.wrap .i64 (x39+1)))else(Z5.l2 k x1 x2 x6 x8 false x27 x28 x29 x37 x38 (IntKind.wrap .i64 (x39+1))))else none)else none)else(some (x1,x2,x6,x8,x9,x27,x28,x29))
def Z5.l0:Nat->(List ByteArray)->Library->(List Name)->(List Name)->Int->Int->Option ((List Name))
 |0,_,_,_,_,_,_=>none
 |k+1,x1,x2,x6,x27,x28,x29=>bif (decide (x29<x28))then(bif decide (0<=x29)then(bif decide (x29<(x27.length:Int))then((Z111.F k x6 (x27.getD ((x29:Int).toNat) (Q5 .name))).bind λr4=>(Z5.l2 k x1 x2 x6 (x27.getD ((x29:Int).toNat) (Q5 .name)) (!r4) x27 x28 x29 x1 (x1.length:Int) 0).bind λy7=>bif y7.2.2.2.2.1 then(bif room (y7.2.2.1.length+([y7.2.2.2.1]:List Name).length) .name then(Z5.l0 k y7.1 y7.2.1 (y7.2.2.1++([y7.2.2.2.1]:List Name)) y7.2.2.2.2.2.1 y7.2.2.2.2.2.2.1 (IntKind.wrap .i64 (y7.2.2.2.2.2.2.2+1)))else none)else(Z5.l0 k y7.1 y7.2.1 y7.2.2.1 y7.2.2.2.2.2.1 y7.2.2.2.2.2.2.1 (IntKind.wrap .i64 (y7.2.2.2.2.2.2.2+1))))else none)else none)else(some x6)
def Z5.F (k:Nat)(a0:Library)(a1:List ByteArray):Option ((List Name)×Bool):=(Z21.F k a0 a1).bind λr1=>bif (!r1)then(some ([],false))else(bif ((a1.length:Int)==0)then(some (([]:List Name),true))else(bif decide (0<=0)then(bif decide (0<(a1.length:Int))then((Z72.F k a0 (a1.getD (0:Int).toNat (⟨#[]⟩:ByteArray))).bind λr2=>(Z53.F k r2.authors).bind λr3=>(Z5.l0 k a1 a0 ([]:List Name) r3 (r3.length:Int) 0).bind λy8=>some (y8,true))else none)else none))
def Z5.C (k:Nat):Cal->Option CArm:=λc=>match c with
 |.f 15=>some (.p [.lib,(.sl .str)] _ (λx=>Z21.F k x.1 x.2.1) (λr=>(.t .bool r)))
 |.f 17=>some (.p [.lib,.str] _ (λx=>Z72.F k x.1 x.2.1) (λr=>(.t .entry r)))
 |.f 16=>some (.p [(.sl .name)] _ (λx=>Z53.F k x.1) (λr=>(.fr 55 .name r)))
 |.f 18=>some (.q [.t (.sl .name),.clo 19 [.tp .name]] _ (λx=>Z111.F k x.1 x.2.1.1) (λr=>(.t .bool r)))
 |.f 21=>some (.p [.entry,.name] _ (λx=>Z110.F k x.1 x.2.1) (λr=>(.t .bool r)))
 |_=>none
def Z5.sp2:List Sp:=[.t 1 (.sl .str),.boxT 2 0 .lib,.own 6 3072 55 .name false true,.boxT 8 8200 .name,.t 9 .bool,.own 27 6168 55 .name false true,.t 28 (.int .i64),.t 29 (.int .i64),.t 37 (.sl .str),.t 38 (.int .i64),.t 39 (.int .i64)]
def Z5.sp2_0:List Sp:=[.t 1 (.sl .str),.boxT 2 0 .lib,.own 6 3072 55 .name false true,.boxT 8 8200 .name,.t 9 .bool,.own 27 6168 55 .name false true,.t 28 (.int .i64),.t 29 (.int .i64)]
def Z5.A2:LArm:=.one Z5.sp2 Z5.sp2_0 ((List ByteArray)×Library× (List Name)×Name×Bool× (List Name)×Int×Int) (λk x=>Z5.l2 k x.1 x.2.1 x.2.2.1 x.2.2.2.1 x.2.2.2.2.1 x.2.2.2.2.2.1 x.2.2.2.2.2.2.1 x.2.2.2.2.2.2.2.1 x.2.2.2.2.2.2.2.2.1 x.2.2.2.2.2.2.2.2.2.1 x.2.2.2.2.2.2.2.2.2.2.1) (.exit 2) (λy=>(y.1,y.2.1,y.2.2.1,y.2.2.2.1,y.2.2.2.2.1,y.2.2.2.2.2.1,y.2.2.2.2.2.2.1,y.2.2.2.2.2.2.2,())) (λx=>(x.1,x.2.1,x.2.2.1,x.2.2.2.1,x.2.2.2.2.1,x.2.2.2.2.2.1,x.2.2.2.2.2.2.1,x.2.2.2.2.2.2.2.1))
def Z5.sp0:List Sp:=[.t 1 (.sl .str),.boxT 2 0 .lib,.own 6 3072 55 .name false true,.own 27 6168 55 .name false true,.t 28 (.int .i64),.t 29 (.int .i64)]
def Z5.sp0_0:List Sp:=[.own 6 3072 55 .name false true]
def Z5.A0:LArm:=.one Z5.sp0 Z5.sp0_0 ((List Name)) (λk x=>Z5.l0 k x.1 x.2.1 x.2.2.1 x.2.2.2.1 x.2.2.2.2.1 x.2.2.2.2.2.1) (.exit 0) (λy=>(y,())) (λx=>x.1)
def Z5.L:Nat->Option LArm:=λb=>match b with
 |2=>some Z5.A2
 |0=>some Z5.A0
 |_=>none
theorem Z5.run (k:Nat)(a0:Library)(a1:List ByteArray):Qk Q0 (Q7 (Z5.C k)) (Q6 59 k Z5.L) Tryz.f6 [.t .lib a0,.t (.sl .str) a1] (DL (.fr 55 .name) (.t .bool))=Z5.F k a0 a1:=by kernel_rfl
theorem Z5.step2 (k:Nat)(x1:List ByteArray)(x2:Library)(x6:List Name)(x8:Name)(x9:Bool)(x27:List Name)(x28:Int)(x29:Int)(x37:List ByteArray)(x38:Int)(x39:Int):Qs Q0 (Q7 (Z5.C k)) (Q6 59 k Z5.L) 2 (Qj Tryz.f6 2) (QA 59 Z5.sp2 (x1,x2,x6,x8,x9,x27,x28,x29,x37,x38,x39,())) (Z5.A2.cont 59 k)=Z5.l2 (k+1) x1 x2 x6 x8 x9 x27 x28 x29 x37 x38 x39:=by kernel_rfl
theorem Z5.step0 (k:Nat)(x1:List ByteArray)(x2:Library)(x6:List Name)(x27:List Name)(x28:Int)(x29:Int):Qs Q0 (Q7 (Z5.C k)) (Q6 59 k Z5.L) 0 (Qj Tryz.f6 0) (QA 59 Z5.sp0 (x1,x2,x6,x27,x28,x29,())) (Z5.A0.cont 59 k)=Z5.l0 (k+1) x1 x2 x6 x27 x28 x29:=by kernel_rfl
theorem Z5.G (hE:EnvOk Tryz.prog Q0)(pv:Nat->Value)(k:Nat):∀cal A,Z5.C k cal=some A->Q9 Tryz.prog Q0 pv cal A:=by
 intro cal A h
 unfold Z5.C at h
 split at h
 ·cases h;exact λx y hy=>Z21.good hE pv k x.1 x.2.1 hy
 ·cases h;exact λx y hy=>Z72.good hE pv k x.1 x.2.1 hy
 ·cases h;exact λx y hy=>Z53.good hE pv k x.1 hy
 ·cases h;exact λx y hy=>Z111.good hE pv k x.1 x.2.1.1 hy
 ·cases h;exact λx y hy=>Z110.good hE pv k x.1 x.2.1 hy
 ·cases h
theorem Z5.good (hE:EnvOk Tryz.prog Q0)(pv:Nat->Value)(k:Nat)(a0:Library)(a1:List ByteArray){y:_}(h:Z5.F k a0 a1=some y):Q8 Tryz.prog Q0 pv (.f 6) (Qa [.lib,(.sl .str)] (a0,a1,())) (.tup [.fr 55 .name y.1,.t .bool y.2]):=
 Qh hE (t:=Z5.C) k (λk _=>Z5.G hE pv k) (f:=6) (fn:=Tryz.f6) (by kernel_rfl) rfl (by kernel_rfl) (by kernel_rfl) (lt:=Z5.L) (by kernel_rfl) (λb A h=>by
  unfold Z5.L at h;split at h
  ·cases h;exact⟨by kernel_rfl,by kernel_rfl,λ_=>rfl,λ_=>rfl⟩
  ·cases h;exact⟨by kernel_rfl,by kernel_rfl,λ_=>rfl,λ_=>rfl⟩
  ·cases h) (λb A h=>by
  unfold Z5.L at h;split at h
  ·cases h;exact λk x=>Z5.step2 k x.1 x.2.1 x.2.2.1 x.2.2.2.1 x.2.2.2.2.1 x.2.2.2.2.2.1 x.2.2.2.2.2.2.1 x.2.2.2.2.2.2.2.1 x.2.2.2.2.2.2.2.2.1 x.2.2.2.2.2.2.2.2.2.1 x.2.2.2.2.2.2.2.2.2.2.1
  ·cases h;exact λk x=>Z5.step0 k x.1 x.2.1 x.2.2.1 x.2.2.2.1 x.2.2.2.2.1 x.2.2.2.2.2.1
  ·cases h) ((Z5.run k a0 a1).trans h) (λr hr=>Dw hr)
def Z1.l0:Nat->ByteArray->Library->Int->Option (Sum Int Unit)
 |0,_,_,_=>none
 |k+1,x1,x2,x5=>bif (decide (x5<(x2.entries.length:Int)))then(bif decide (0<=x5)then(bif decide (x5<(x2.entries.length:Int))then(bif (Qo ((x2.entries.getD (x5:Int).toNat (Q5 .entry)).key) x1)then(some (.inl x5))else(Z1.l0 k x1 x2 (IntKind.wrap .i64 (x5+1))))else none)else none)else(some (.inr ()))
def Z1.F (k:Nat)(a0:Library)(a1:ByteArray):Option (Int):=(Z1.l0 k a1 a0 0).bind λy1=>match y1 with|.inl z2=>some z2|.inr z2=>some (-1)
def Z1.C (k:Nat):Cal->Option CArm:=λc=>match c with
 |_=>none
def Z1.sp0:List Sp:=[.t 1 .str,.boxT 2 0 .lib,.t 5 (.int .i64)]
def Z1.sp0_0:List Sp:=[.t 4 (.int .i64)]
def Z1.sp0_1:List Sp:=[]
def Z1.A0:LArm:=.two Z1.sp0 Z1.sp0_0 Z1.sp0_1 (Int) (Unit) (λk x=>Z1.l0 k x.1 x.2.1 x.2.2.1) .ret (.exit 0) (λy=>(y,())) (λx=>x.1) (λy=>()) (λx=>())
def Z1.L:Nat->Option LArm:=λb=>match b with
 |0=>some Z1.A0
 |_=>none
theorem Z1.run (k:Nat)(a0:Library)(a1:ByteArray):Qk Q0 (Q7 (Z1.C k)) (Q6 22 k Z1.L) Tryz.f23 [.t .lib a0,.t .str a1] (Q2 (.t (.int .i64)))=Z1.F k a0 a1:=by kernel_rfl
theorem Z1.step0 (k:Nat)(x1:ByteArray)(x2:Library)(x5:Int):Qs Q0 (Q7 (Z1.C k)) (Q6 22 k Z1.L) 0 (Qj Tryz.f23 0) (QA 22 Z1.sp0 (x1,x2,x5,())) (Z1.A0.cont 22 k)=Z1.l0 (k+1) x1 x2 x5:=by kernel_rfl
theorem Z1.G (hE:EnvOk Tryz.prog Q0)(pv:Nat->Value)(k:Nat):∀cal A,Z1.C k cal=some A->Q9 Tryz.prog Q0 pv cal A:=by
 intro cal A h
 unfold Z1.C at h
 cases h
theorem Z1.good (hE:EnvOk Tryz.prog Q0)(pv:Nat->Value)(k:Nat)(a0:Library)(a1:ByteArray){y:_}(h:Z1.F k a0 a1=some y):Q8 Tryz.prog Q0 pv (.f 23) (Qa [.lib,.str] (a0,a1,())) (.t (.int .i64) y):=
 Qh hE (t:=Z1.C) k (λk _=>Z1.G hE pv k) (f:=23) (fn:=Tryz.f23) (by kernel_rfl) rfl (by kernel_rfl) (by kernel_rfl) (lt:=Z1.L) (by kernel_rfl) (λb A h=>by
  unfold Z1.L at h;split at h
  ·cases h;exact⟨by kernel_rfl,by kernel_rfl,by kernel_rfl,λ_=>rfl,λ_=>rfl,λ_=>rfl⟩
  ·cases h) (λb A h=>by
  unfold Z1.L at h;split at h
  ·cases h;exact λk x=>Z1.step0 k x.1 x.2.1 x.2.2.1
  ·cases h) ((Z1.run k a0 a1).trans h) (λr hr=>Q1 hr)
def Z62.F (a0:Int)(a1:Int)(a2:Int):Option (Bool):=bif (decide (a0 ≥ a1))then(some (decide (a0<=a2)))else(some false)
def Z62.C:Cal->Option CArm:=λc=>match c with
 |_=>none
theorem Z62.run (a0:Int)(a1:Int)(a2:Int):Qk Q0 (Q7 Z62.C) (Q6 15 0 (λ_=>none)) Tryz.f87 [.t (.int .i64) a0,.t (.int .i64) a1,.t (.int .i64) a2] (Q2 (.t .bool))=Z62.F a0 a1 a2:=by kernel_rfl
theorem Z62.G (hE:EnvOk Tryz.prog Q0)(pv:Nat->Value):∀cal A,Z62.C cal=some A->Q9 Tryz.prog Q0 pv cal A:=by
 intro cal A h
 unfold Z62.C at h
 cases h
theorem Z62.good (hE:EnvOk Tryz.prog Q0)(pv:Nat->Value)(a0:Int)(a1:Int)(a2:Int){y:_}(h:Z62.F a0 a1 a2=some y):Q8 Tryz.prog Q0 pv (.f 87) (Qa [(.int .i64),(.int .i64),(.int .i64)] (a0,a1,a2,())) (.t .bool y):=
 Q4 hE (Z62.G hE pv) (f:=87) (fn:=Tryz.f87) (by kernel_rfl) rfl (by kernel_rfl) (by kernel_rfl) ((Z62.run a0 a1 a2).trans h) (λr hr=>Q1 hr)
def Z64.F (a0:Int):Option (Bool):=bif (decide (a0 ≥ 97))then(some (decide (a0<=122)))else(some false)
def Z64.C:Cal->Option CArm:=λc=>match c with
 |_=>none
theorem Z64.run (a0:Int):Qk Q0 (Q7 Z64.C) (Q6 9 0 (λ_=>none)) Tryz.f119 [.t (.int .u8) a0] (Q2 (.t .bool))=Z64.F a0:=by kernel_rfl
theorem Z64.G (hE:EnvOk Tryz.prog Q0)(pv:Nat->Value):∀cal A,Z64.C cal=some A->Q9 Tryz.prog Q0 pv cal A:=by
 intro cal A h
 unfold Z64.C at h
 cases h
theorem Z64.good (hE:EnvOk Tryz.prog Q0)(pv:Nat->Value)(a0:Int){y:_}(h:Z64.F a0=some y):Q8 Tryz.prog Q0 pv (.f 119) (Qa [(.int .u8)] (a0,())) (.t .bool y):=
 Q4 hE (Z64.G hE pv) (f:=119) (fn:=Tryz.f119) (by kernel_rfl) rfl (by kernel_rfl) (by kernel_rfl) ((Z64.run a0).trans h) (λr hr=>Q1 hr)
def Z24.l0:Nat->ByteArray->Int->Option (Sum Bool Unit)
 |0,_,_=>none
 |k+1,x0,x3=>bif (decide (x3<(x0.size:Int)))then(bif decide (0<=x3)then(bif decide (x3<(x0.size:Int))then((Z64.F (bt x0 (x3:Int).toNat)).bind λr3=>bif (!r3)then(bif decide (0<=x3)then(bif decide (x3<(x0.size:Int))then(bif (decide ((bt x0 (x3:Int).toNat)<48))then(some (.inl false))else(bif decide (0<=x3)then(bif decide (x3<(x0.size:Int))then(bif (decide ((bt x0 (x3:Int).toNat) > 57))then(some (.inl false))else(Z24.l0 k x0 (IntKind.wrap .i64 (x3+1))))else none)else none))else none)else none)else(Z24.l0 k x0 (IntKind.wrap .i64 (x3+1))))else none)else none)else(some (.inr ()))
def Z24.F (k:Nat)(a0:ByteArray):Option (Bool):=(Z62.F (a0.size:Int) 1 10).bind λr1=>bif (!r1)then(some false)else(bif decide (0<=0)then(bif decide (0<(a0.size:Int))then((Z64.F (bt a0 (0:Int).toNat)).bind λr2=>bif (!r2)then(some false)else((Z24.l0 k a0 0).bind λy4=>match y4 with|.inl z5=>some z5|.inr z5=>some true))else none)else none)
def Z24.C (k:Nat):Cal->Option CArm:=λc=>match c with
 |.f 87=>some (.p [(.int .i64),(.int .i64),(.int .i64)] _ (λx=>Z62.F x.1 x.2.1 x.2.2.1) (λr=>(.t .bool r)))
 |.f 119=>some (.p [(.int .u8)] _ (λx=>Z64.F x.1) (λr=>(.t .bool r)))
 |_=>none
def Z24.sp0:List Sp:=[.t 0 .str,.t 3 (.int .i64)]
def Z24.sp0_0:List Sp:=[.t 2 .bool]
def Z24.sp0_1:List Sp:=[]
def Z24.A0:LArm:=.two Z24.sp0 Z24.sp0_0 Z24.sp0_1 (Bool) (Unit) (λk x=>Z24.l0 k x.1 x.2.1) .ret (.exit 0) (λy=>(y,())) (λx=>x.1) (λy=>()) (λx=>())
def Z24.L:Nat->Option LArm:=λb=>match b with
 |0=>some Z24.A0
 |_=>none
theorem Z24.run (k:Nat)(a0:ByteArray):Qk Q0 (Q7 (Z24.C k)) (Q6 37 k Z24.L) Tryz.f86 [.t .str a0] (Q2 (.t .bool))=Z24.F k a0:=by kernel_rfl
theorem Z24.step0 (k:Nat)(x0:ByteArray)(x3:Int):Qs Q0 (Q7 (Z24.C k)) (Q6 37 k Z24.L) 0 (Qj Tryz.f86 0) (QA 37 Z24.sp0 (x0,x3,())) (Z24.A0.cont 37 k)=Z24.l0 (k+1) x0 x3:=by kernel_rfl
theorem Z24.G (hE:EnvOk Tryz.prog Q0)(pv:Nat->Value)(k:Nat):∀cal A,Z24.C k cal=some A->Q9 Tryz.prog Q0 pv cal A:=by
 intro cal A h
 unfold Z24.C at h
 split at h
 ·cases h;exact λx y hy=>Z62.good hE pv x.1 x.2.1 x.2.2.1 hy
 ·cases h;exact λx y hy=>Z64.good hE pv x.1 hy
 ·cases h
theorem Z24.good (hE:EnvOk Tryz.prog Q0)(pv:Nat->Value)(k:Nat)(a0:ByteArray){y:_}(h:Z24.F k a0=some y):Q8 Tryz.prog Q0 pv (.f 86) (Qa [.str] (a0,())) (.t .bool y):=
 Qh hE (t:=Z24.C) k (λk _=>Z24.G hE pv k) (f:=86) (fn:=Tryz.f86) (by kernel_rfl) rfl (by kernel_rfl) (by kernel_rfl) (lt:=Z24.L) (by kernel_rfl) (λb A h=>by
  unfold Z24.L at h;split at h
  ·cases h;exact⟨by kernel_rfl,by kernel_rfl,by kernel_rfl,λ_=>rfl,λ_=>rfl,λ_=>rfl⟩
  ·cases h) (λb A h=>by
  unfold Z24.L at h;split at h
  ·cases h;exact λk x=>Z24.step0 k x.1 x.2.1
  ·cases h) ((Z24.run k a0).trans h) (λr hr=>Q1 hr)
def Z67.F (a0:Int):Option (Bool):=bif (decide (a0 ≥ 65))then(some (decide (a0<=90)))else(some false)
def Z67.C:Cal->Option CArm:=λc=>match c with
 |_=>none
theorem Z67.run (a0:Int):Qk Q0 (Q7 Z67.C) (Q6 9 0 (λ_=>none)) Tryz.f135 [.t (.int .u8) a0] (Q2 (.t .bool))=Z67.F a0:=by kernel_rfl
theorem Z67.G (hE:EnvOk Tryz.prog Q0)(pv:Nat->Value):∀cal A,Z67.C cal=some A->Q9 Tryz.prog Q0 pv cal A:=by
 intro cal A h
 unfold Z67.C at h
 cases h
theorem Z67.good (hE:EnvOk Tryz.prog Q0)(pv:Nat->Value)(a0:Int){y:_}(h:Z67.F a0=some y):Q8 Tryz.prog Q0 pv (.f 135) (Qa [(.int .u8)] (a0,())) (.t .bool y):=
 Q4 hE (Z67.G hE pv) (f:=135) (fn:=Tryz.f135) (by kernel_rfl) rfl (by kernel_rfl) (by kernel_rfl) ((Z67.run a0).trans h) (λr hr=>Q1 hr)
def Z73.F (a0:Int):Option (Bool):=(Z67.F a0).bind λr1=>bif r1 then(some true)else((Z64.F a0).bind λr2=>some r2)
def Z73.C:Cal->Option CArm:=λc=>match c with
 |.f 135=>some (.p [(.int .u8)] _ (λx=>Z67.F x.1) (λr=>(.t .bool r)))
 |.f 119=>some (.p [(.int .u8)] _ (λx=>Z64.F x.1) (λr=>(.t .bool r)))
 |_=>none
theorem Z73.run (a0:Int):Qk Q0 (Q7 Z73.C) (Q6 9 0 (λ_=>none)) Tryz.f160 [.t (.int .u8) a0] (Q2 (.t .bool))=Z73.F a0:=by kernel_rfl
theorem Z73.G (hE:EnvOk Tryz.prog Q0)(pv:Nat->Value):∀cal A,Z73.C cal=some A->Q9 Tryz.prog Q0 pv cal A:=by
 intro cal A h
 unfold Z73.C at h
 split at h
 ·cases h;exact λx y hy=>Z67.good hE pv x.1 hy
 ·cases h;exact λx y hy=>Z64.good hE pv x.1 hy
 ·cases h
theorem Z73.good (hE:EnvOk Tryz.prog Q0)(pv:Nat->Value)(a0:Int){y:_}(h:Z73.F a0=some y):Q8 Tryz.prog Q0 pv (.f 160) (Qa [(.int .u8)] (a0,())) (.t .bool y):=
 Q4 hE (Z73.G hE pv) (f:=160) (fn:=Tryz.f160) (by kernel_rfl) rfl (by kernel_rfl) (by kernel_rfl) ((Z73.run a0).trans h) (λr hr=>Q1 hr)
def Z15.l0:Nat->ByteArray->Int->Option (Sum Bool Unit)
 |0,_,_=>none
 |k+1,x0,x3=>bif (decide (x3<(x0.size:Int)))then(bif decide (0<=x3)then(bif decide (x3<(x0.size:Int))then((Z73.F (bt x0 (x3:Int).toNat)).bind λr4=>bif (!r4)then(bif decide (0<=x3)then(bif decide (x3<(x0.size:Int))then(bif ((bt x0 (x3:Int).toNat) != 45)then(bif decide (0<=x3)then(bif decide (x3<(x0.size:Int))then(bif ((bt x0 (x3:Int).toNat) != 39)then(some (.inl false))else(bif decide (0<=(IntKind.wrap .i64 (x3-1)))then(bif decide ((IntKind.wrap .i64 (x3-1))<(x0.size:Int))then((Z73.F (bt x0 ((IntKind.wrap .i64 (x3-1)):Int).toNat)).bind λr5=>bif (!r5)then(some (.inl false))else(Z15.l0 k x0 (IntKind.wrap .i64 (x3+1))))else none)else none))else none)else none)else(bif decide (0<=(IntKind.wrap .i64 (x3-1)))then(bif decide ((IntKind.wrap .i64 (x3-1))<(x0.size:Int))then((Z73.F (bt x0 ((IntKind.wrap .i64 (x3-1)):Int).toNat)).bind λr6=>bif (!r6)then(some (.inl false))else(Z15.l0 k x0 (IntKind.wrap .i64 (x3+1))))else none)else none))else none)else none)else(Z15.l0 k x0 (IntKind.wrap .i64 (x3+1))))else none)else none)else(some (.inr ()))
def Z15.F (k:Nat)(a0:ByteArray):Option (Bool):=(Z62.F (a0.size:Int) 1 12).bind λr1=>bif (!r1)then(some false)else(bif decide (0<=0)then(bif decide (0<(a0.size:Int))then((Z73.F (bt a0 (0:Int).toNat)).bind λr2=>bif (!r2)then(some false)else(bif decide (0<=(IntKind.wrap .i64 ((a0.size:Int)-1)))then(bif decide ((IntKind.wrap .i64 ((a0.size:Int)-1))<(a0.size:Int))then((Z73.F (bt a0 ((IntKind.wrap .i64 ((a0.size:Int)-1)):Int).toNat)).bind λr3=>bif (!r3)then(some false)else((Z15.l0 k a0 1).bind λy7=>match y7 with|.inl z8=>some z8|.inr z8=>some true))else none)else none))else none)else none)
def Z15.C (k:Nat):Cal->Option CArm:=λc=>match c with
 |.f 87=>some (.p [(.int .i64),(.int .i64),(.int .i64)] _ (λx=>Z62.F x.1 x.2.1 x.2.2.1) (λr=>(.t .bool r)))
 |.f 160=>some (.p [(.int .u8)] _ (λx=>Z73.F x.1) (λr=>(.t .bool r)))
 |_=>none
def Z15.sp0:List Sp:=[.t 0 .str,.t 3 (.int .i64)]
def Z15.sp0_0:List Sp:=[.t 2 .bool]
def Z15.sp0_1:List Sp:=[]
def Z15.A0:LArm:=.two Z15.sp0 Z15.sp0_0 Z15.sp0_1 (Bool) (Unit) (λk x=>Z15.l0 k x.1 x.2.1) .ret (.exit 0) (λy=>(y,())) (λx=>x.1) (λy=>()) (λx=>())
def Z15.L:Nat->Option LArm:=λb=>match b with
 |0=>some Z15.A0
 |_=>none
theorem Z15.run (k:Nat)(a0:ByteArray):Qk Q0 (Q7 (Z15.C k)) (Q6 54 k Z15.L) Tryz.f142 [.t .str a0] (Q2 (.t .bool))=Z15.F k a0:=by kernel_rfl
theorem Z15.step0 (k:Nat)(x0:ByteArray)(x3:Int):Qs Q0 (Q7 (Z15.C k)) (Q6 54 k Z15.L) 0 (Qj Tryz.f142 0) (QA 54 Z15.sp0 (x0,x3,())) (Z15.A0.cont 54 k)=Z15.l0 (k+1) x0 x3:=by kernel_rfl
theorem Z15.G (hE:EnvOk Tryz.prog Q0)(pv:Nat->Value)(k:Nat):∀cal A,Z15.C k cal=some A->Q9 Tryz.prog Q0 pv cal A:=by
 intro cal A h
 unfold Z15.C at h
 split at h
 ·cases h;exact λx y hy=>Z62.good hE pv x.1 x.2.1 x.2.2.1 hy
 ·cases h;exact λx y hy=>Z73.good hE pv x.1 hy
 ·cases h
theorem Z15.good (hE:EnvOk Tryz.prog Q0)(pv:Nat->Value)(k:Nat)(a0:ByteArray){y:_}(h:Z15.F k a0=some y):Q8 Tryz.prog Q0 pv (.f 142) (Qa [.str] (a0,())) (.t .bool y):=
 Qh hE (t:=Z15.C) k (λk _=>Z15.G hE pv k) (f:=142) (fn:=Tryz.f142) (by kernel_rfl) rfl (by kernel_rfl) (by kernel_rfl) (lt:=Z15.L) (by kernel_rfl) (λb A h=>by
  unfold Z15.L at h;split at h
  ·cases h;exact⟨by kernel_rfl,by kernel_rfl,by kernel_rfl,λ_=>rfl,λ_=>rfl,λ_=>rfl⟩
  ·cases h) (λb A h=>by
  unfold Z15.L at h;split at h
  ·cases h;exact λk x=>Z15.step0 k x.1 x.2.1
  ·cases h) ((Z15.run k a0).trans h) (λr hr=>Q1 hr)
def Z40.l0:Nat->ByteArray->Int->(List ByteArray)->Int->Int->Option (ByteArray× (List ByteArray)×Int)
 |0,_,_,_,_,_=>none
 |k+1,x0,x1,x5,x6,x7=>bif (decide (x7<(x0.size:Int)))then(bif decide (0<=x7)then(bif decide (x7<(x0.size:Int))then(bif ((bt x0 (x7:Int).toNat)==x1)then(bif decide (0<=x7)then(bif decide (x7<=(x0.size:Int))then(bif decide (0<=x6)then(bif decide (x6<=x7)then(bif room (x5.length+([(x0.extract (x6:Int).toNat (x7:Int).toNat)]:List ByteArray).length) .str then(Z40.l0 k x0 x1 (x5++([(x0.extract (x6:Int).toNat (x7:Int).toNat)]:List ByteArray)) (IntKind.wrap .i64 (x7+1)) (IntKind.wrap .i64 (x7+1)))else none)else none)else none)else none)else none)else(Z40.l0 k x0 x1 x5 x6 (IntKind.wrap .i64 (x7+1))))else none)else none)else(some (x0,x5,x6))
def Z40.F (k:Nat)(a0:ByteArray)(a1:Int):Option (List ByteArray):=(Z40.l0 k a0 a1 ([]:List ByteArray) 0 0).bind λy1=>bif decide (0<=y1.2.2)then(bif decide (y1.2.2<=(y1.1.size:Int))then(bif room (y1.2.1.length+([(y1.1.extract (y1.2.2:Int).toNat y1.1.size)]:List ByteArray).length) .str then(some (y1.2.1++([(y1.1.extract (y1.2.2:Int).toNat y1.1.size)]:List ByteArray)))else none)else none)else none
def Z40.C (k:Nat):Cal->Option CArm:=λc=>match c with
 |_=>none
def Z40.sp0:List Sp:=[.t 0 .str,.t 1 (.int .u8),.own 5 1024 9 .str false true,.t 6 (.int .i64),.t 7 (.int .i64)]
def Z40.sp0_0:List Sp:=[.t 0 .str,.own 5 1024 9 .str false true,.t 6 (.int .i64)]
def Z40.A0:LArm:=.one Z40.sp0 Z40.sp0_0 (ByteArray× (List ByteArray)×Int) (λk x=>Z40.l0 k x.1 x.2.1 x.2.2.1 x.2.2.2.1 x.2.2.2.2.1) (.exit 0) (λy=>(y.1,y.2.1,y.2.2,())) (λx=>(x.1,x.2.1,x.2.2.1))
def Z40.L:Nat->Option LArm:=λb=>match b with
 |0=>some Z40.A0
 |_=>none
theorem Z40.run (k:Nat)(a0:ByteArray)(a1:Int):Qk Q0 (Q7 (Z40.C k)) (Q6 35 k Z40.L) Tryz.f161 [.t .str a0,.t (.int .u8) a1] (Q2 (.fr 9 .str))=Z40.F k a0 a1:=by kernel_rfl
theorem Z40.step0 (k:Nat)(x0:ByteArray)(x1:Int)(x5:List ByteArray)(x6:Int)(x7:Int):Qs Q0 (Q7 (Z40.C k)) (Q6 35 k Z40.L) 0 (Qj Tryz.f161 0) (QA 35 Z40.sp0 (x0,x1,x5,x6,x7,())) (Z40.A0.cont 35 k)=Z40.l0 (k+1) x0 x1 x5 x6 x7:=by kernel_rfl
theorem Z40.G (hE:EnvOk Tryz.prog Q0)(pv:Nat->Value)(k:Nat):∀cal A,Z40.C k cal=some A->Q9 Tryz.prog Q0 pv cal A:=by
 intro cal A h
 unfold Z40.C at h
 cases h
theorem Z40.good (hE:EnvOk Tryz.prog Q0)(pv:Nat->Value)(k:Nat)(a0:ByteArray)(a1:Int){y:_}(h:Z40.F k a0 a1=some y):Q8 Tryz.prog Q0 pv (.f 161) (Qa [.str,(.int .u8)] (a0,a1,())) (.fr 9 .str y):=
 Qh hE (t:=Z40.C) k (λk _=>Z40.G hE pv k) (f:=161) (fn:=Tryz.f161) (by kernel_rfl) rfl (by kernel_rfl) (by kernel_rfl) (lt:=Z40.L) (by kernel_rfl) (λb A h=>by
  unfold Z40.L at h;split at h
  ·cases h;exact⟨by kernel_rfl,by kernel_rfl,λ_=>rfl,λ_=>rfl⟩
  ·cases h) (λb A h=>by
  unfold Z40.L at h;split at h
  ·cases h;exact λk x=>Z40.step0 k x.1 x.2.1 x.2.2.1 x.2.2.2.1 x.2.2.2.2.1
  ·cases h) ((Z40.run k a0 a1).trans h) (λr hr=>Q1 hr)
def Z4.l2:Nat->(List ByteArray)->Int->Int->Option (Sum Bool ((List ByteArray)×Int))
 |0,_,_,_=>none
 |k+1,x3,x4,x5=>bif decide (0<=x4)then(bif decide (x4<(x3.length:Int))then(bif (decide (x5<((x3.getD ((x4:Int).toNat) (⟨#[]⟩:ByteArray)).size:Int)))then(bif decide (0<=x4)then(bif decide (x4<(x3.length:Int))then(bif decide (0<=x5)then(bif decide (x5<((x3.getD ((x4:Int).toNat) (⟨#[]⟩:ByteArray)).size:Int))then((Z64.F (bt (x3.getD ((x4:Int).toNat) (⟨#[]⟩:ByteArray)) (x5:Int).toNat)).bind λr3=>bif (!r3)then(some (.inl false))else(Z4.l2 k x3 x4 (IntKind.wrap .i64 (x5+1))))else none)else none)else none)else none)else(some (.inr (x3,x4))))else none)else none
def Z4.l0:Nat->(List ByteArray)->Int->Option (Sum Bool (List ByteArray))
 |0,_,_=>none
 |k+1,x3,x4=>bif (decide (x4<(x3.length:Int)))then(bif decide (0<=x4)then(bif decide (x4<(x3.length:Int))then((Z15.F k (x3.getD ((x4:Int).toNat) (⟨#[]⟩:ByteArray))).bind λr2=>bif (!r2)then(some (.inl false))else((Z4.l2 k x3 x4 0).bind λy4=>match y4 with|.inl z5=>some (.inl z5)|.inr z5=>Z4.l0 k z5.1 (IntKind.wrap .i64 (z5.2+1))))else none)else none)else(some (.inr x3))
def Z4.F (k:Nat)(a0:ByteArray):Option (Bool):=bif (Qo a0 (⟨#[]⟩:ByteArray))then(some true)else((Z40.F k a0 32).bind λr1=>(Z4.l0 k r1 0).bind λy6=>match y6 with|.inl z7=>some z7|.inr z7=>some (decide ((z7.length:Int)<=2)))
def Z4.C (k:Nat):Cal->Option CArm:=λc=>match c with
 |.f 161=>some (.p [.str,(.int .u8)] _ (λx=>Z40.F k x.1 x.2.1) (λr=>(.fr 9 .str r)))
 |.f 142=>some (.p [.str] _ (λx=>Z15.F k x.1) (λr=>(.t .bool r)))
 |.f 119=>some (.p [(.int .u8)] _ (λx=>Z64.F x.1) (λr=>(.t .bool r)))
 |_=>none
def Z4.sp2:List Sp:=[.own 3 3076 9 .str false true,.t 4 (.int .i64),.t 5 (.int .i64)]
def Z4.sp2_0:List Sp:=[.t 2 .bool]
def Z4.sp2_1:List Sp:=[.own 3 3076 9 .str false true,.t 4 (.int .i64)]
def Z4.A2:LArm:=.two Z4.sp2 Z4.sp2_0 Z4.sp2_1 (Bool) ((List ByteArray)×Int) (λk x=>Z4.l2 k x.1 x.2.1 x.2.2.1) .ret (.exit 2) (λy=>(y,())) (λx=>x.1) (λy=>(y.1,y.2,())) (λx=>(x.1,x.2.1))
def Z4.sp0:List Sp:=[.own 3 3076 9 .str false true,.t 4 (.int .i64)]
def Z4.sp0_0:List Sp:=[.t 2 .bool]
def Z4.sp0_1:List Sp:=[.own 3 3076 9 .str false true]
def Z4.A0:LArm:=.two Z4.sp0 Z4.sp0_0 Z4.sp0_1 (Bool) ((List ByteArray)) (λk x=>Z4.l0 k x.1 x.2.1) .ret (.exit 0) (λy=>(y,())) (λx=>x.1) (λy=>(y,())) (λx=>x.1)
def Z4.L:Nat->Option LArm:=λb=>match b with
 |2=>some Z4.A2
 |0=>some Z4.A0
 |_=>none
theorem Z4.run (k:Nat)(a0:ByteArray):Qk Q0 (Q7 (Z4.C k)) (Q6 42 k Z4.L) Tryz.f143 [.t .str a0] (Q2 (.t .bool))=Z4.F k a0:=by kernel_rfl
theorem Z4.step2 (k:Nat)(x3:List ByteArray)(x4:Int)(x5:Int):Qs Q0 (Q7 (Z4.C k)) (Q6 42 k Z4.L) 2 (Qj Tryz.f143 2) (QA 42 Z4.sp2 (x3,x4,x5,())) (Z4.A2.cont 42 k)=Z4.l2 (k+1) x3 x4 x5:=by kernel_rfl
theorem Z4.step0 (k:Nat)(x3:List ByteArray)(x4:Int):Qs Q0 (Q7 (Z4.C k)) (Q6 42 k Z4.L) 0 (Qj Tryz.f143 0) (QA 42 Z4.sp0 (x3,x4,())) (Z4.A0.cont 42 k)=Z4.l0 (k+1) x3 x4:=by kernel_rfl
theorem Z4.G (hE:EnvOk Tryz.prog Q0)(pv:Nat->Value)(k:Nat):∀cal A,Z4.C k cal=some A->Q9 Tryz.prog Q0 pv cal A:=by
 intro cal A h
 unfold Z4.C at h
 split at h
 ·cases h;exact λx y hy=>Z40.good hE pv k x.1 x.2.1 hy
 ·cases h;exact λx y hy=>Z15.good hE pv k x.1 hy
 ·cases h;exact λx y hy=>Z64.good hE pv x.1 hy
 ·cases h
theorem Z4.good (hE:EnvOk Tryz.prog Q0)(pv:Nat->Value)(k:Nat)(a0:ByteArray){y:_}(h:Z4.F k a0=some y):Q8 Tryz.prog Q0 pv (.f 143) (Qa [.str] (a0,())) (.t .bool y):=
 Qh hE (t:=Z4.C) k (λk _=>Z4.G hE pv k) (f:=143) (fn:=Tryz.f143) (by kernel_rfl) rfl (by kernel_rfl) (by kernel_rfl) (lt:=Z4.L) (by kernel_rfl) (λb A h=>by
  unfold Z4.L at h;split at h
  ·cases h;exact⟨by kernel_rfl,by kernel_rfl,by kernel_rfl,λ_=>rfl,λ_=>rfl,λ_=>rfl⟩
  ·cases h;exact⟨by kernel_rfl,by kernel_rfl,by kernel_rfl,λ_=>rfl,λ_=>rfl,λ_=>rfl⟩
  ·cases h) (λb A h=>by
  unfold Z4.L at h;split at h
  ·cases h;exact λk x=>Z4.step2 k x.1 x.2.1 x.2.2.1
  ·cases h;exact λk x=>Z4.step0 k x.1 x.2.1
  ·cases h) ((Z4.run k a0).trans h) (λr hr=>Q1 hr)
def Z32.l0:Nat->Name->Int->Option (Sum Bool Name)
 |0,_,_=>none
 |k+1,x1,x3=>bif (decide (x3<(x1.given.length:Int)))then(bif decide (0<=x3)then(bif decide (x3<(x1.given.length:Int))then((Z15.F k (x1.given.getD (x3:Int).toNat (⟨#[]⟩:ByteArray))).bind λr1=>bif (!r1)then(some (.inl false))else(bif decide (0<=x3)then(bif decide (x3<(x1.given.length:Int))then(bif decide (0<=0)then(bif decide (0<((x1.given.getD (x3:Int).toNat (⟨#[]⟩:ByteArray)).size:Int))then((Z67.F (bt (x1.given.getD (x3:Int).toNat (⟨#[]⟩:ByteArray)) (0:Int).toNat)).bind λr2=>bif (!r2)then(some (.inl false))else(Z32.l0 k x1 (IntKind.wrap .i64 (x3+1))))else none)else none)else none)else none))else none)else none)else(some (.inr x1))
def Z32.F (k:Nat)(a0:Name):Option (Bool):=(Z32.l0 k a0 0).bind λy3=>match y3 with|.inl z4=>some z4|.inr z4=>bif (decide ((z4.given.length:Int)<=3))then((Z4.F k z4.particle).bind λr5=>bif r5 then((Z15.F k z4.family).bind λr6=>bif r6 then(bif decide (0<=0)then(bif decide (0<(z4.family.size:Int))then((Z67.F (bt z4.family (0:Int).toNat)).bind λr7=>bif r7 then(bif (Qo z4.suffix (⟨#[]⟩:ByteArray))then(some true)else((Z15.F k z4.suffix).bind λr8=>some r8))else(some false))else none)else none)else(some false))else(some false))else(some false)
def Z32.C (k:Nat):Cal->Option CArm:=λc=>match c with
 |.f 142=>some (.p [.str] _ (λx=>Z15.F k x.1) (λr=>(.t .bool r)))
 |.f 135=>some (.p [(.int .u8)] _ (λx=>Z67.F x.1) (λr=>(.t .bool r)))
 |.f 143=>some (.p [.str] _ (λx=>Z4.F k x.1) (λr=>(.t .bool r)))
 |_=>none
def Z32.sp0:List Sp:=[.boxT 1 0 .name,.t 3 (.int .i64)]
def Z32.sp0_0:List Sp:=[.t 2 .bool]
def Z32.sp0_1:List Sp:=[.boxT 1 0 .name]
def Z32.A0:LArm:=.two Z32.sp0 Z32.sp0_0 Z32.sp0_1 (Bool) (Name) (λk x=>Z32.l0 k x.1 x.2.1) .ret (.exit 0) (λy=>(y,())) (λx=>x.1) (λy=>(y,())) (λx=>x.1)
def Z32.L:Nat->Option LArm:=λb=>match b with
 |0=>some Z32.A0
 |_=>none
theorem Z32.run (k:Nat)(a0:Name):Qk Q0 (Q7 (Z32.C k)) (Q6 58 k Z32.L) Tryz.f120 [.t .name a0] (Q2 (.t .bool))=Z32.F k a0:=by kernel_rfl
theorem Z32.step0 (k:Nat)(x1:Name)(x3:Int):Qs Q0 (Q7 (Z32.C k)) (Q6 58 k Z32.L) 0 (Qj Tryz.f120 0) (QA 58 Z32.sp0 (x1,x3,())) (Z32.A0.cont 58 k)=Z32.l0 (k+1) x1 x3:=by kernel_rfl
theorem Z32.G (hE:EnvOk Tryz.prog Q0)(pv:Nat->Value)(k:Nat):∀cal A,Z32.C k cal=some A->Q9 Tryz.prog Q0 pv cal A:=by
 intro cal A h
 unfold Z32.C at h
 split at h
 ·cases h;exact λx y hy=>Z15.good hE pv k x.1 hy
 ·cases h;exact λx y hy=>Z67.good hE pv x.1 hy
 ·cases h;exact λx y hy=>Z4.good hE pv k x.1 hy
 ·cases h
theorem Z32.good (hE:EnvOk Tryz.prog Q0)(pv:Nat->Value)(k:Nat)(a0:Name){y:_}(h:Z32.F k a0=some y):Q8 Tryz.prog Q0 pv (.f 120) (Qa [.name] (a0,())) (.t .bool y):=
 Qh hE (t:=Z32.C) k (λk _=>Z32.G hE pv k) (f:=120) (fn:=Tryz.f120) (by kernel_rfl) rfl (by kernel_rfl) (by kernel_rfl) (lt:=Z32.L) (by kernel_rfl) (λb A h=>by
  unfold Z32.L at h;split at h
  ·cases h;exact⟨by kernel_rfl,by kernel_rfl,by kernel_rfl,λ_=>rfl,λ_=>rfl,λ_=>rfl⟩
  ·cases h) (λb A h=>by
  unfold Z32.L at h;split at h
  ·cases h;exact λk x=>Z32.step0 k x.1 x.2.1
  ·cases h) ((Z32.run k a0).trans h) (λr hr=>Q1 hr)
def Z28.l0:Nat->(List Name)->Int->Option (Sum Bool (List Name))
 |0,_,_=>none
 |k+1,x0,x3=>bif (decide (x3<(x0.length:Int)))then(bif (decide (x3<=4))then(bif decide (0<=x3)then(bif decide (x3<(x0.length:Int))then((Z32.F k (x0.getD (x3:Int).toNat (Q5 .name))).bind λr1=>bif (!r1)then(some (.inl false))else(Z28.l0 k x0 (IntKind.wrap .i64 (x3+1))))else none)else none)else(some (.inr x0)))else(some (.inr x0))
def Z28.F (k:Nat)(a0:List Name):Option (Bool):=(Z28.l0 k a0 0).bind λy2=>match y2 with|.inl z3=>some z3|.inr z3=>some (decide ((z3.length:Int)<=4))
def Z28.C (k:Nat):Cal->Option CArm:=λc=>match c with
 |.f 120=>some (.p [.name] _ (λx=>Z32.F k x.1) (λr=>(.t .bool r)))
 |_=>none
def Z28.sp0:List Sp:=[.t 0 (.sl .name),.t 3 (.int .i64)]
def Z28.sp0_0:List Sp:=[.t 2 .bool]
def Z28.sp0_1:List Sp:=[.t 0 (.sl .name)]
def Z28.A0:LArm:=.two Z28.sp0 Z28.sp0_0 Z28.sp0_1 (Bool) ((List Name)) (λk x=>Z28.l0 k x.1 x.2.1) .ret (.exit 0) (λy=>(y,())) (λx=>x.1) (λy=>(y,())) (λx=>x.1)
def Z28.L:Nat->Option LArm:=λb=>match b with
 |0=>some Z28.A0
 |_=>none
theorem Z28.run (k:Nat)(a0:List Name):Qk Q0 (Q7 (Z28.C k)) (Q6 23 k Z28.L) Tryz.f88 [.t (.sl .name) a0] (Q2 (.t .bool))=Z28.F k a0:=by kernel_rfl
theorem Z28.step0 (k:Nat)(x0:List Name)(x3:Int):Qs Q0 (Q7 (Z28.C k)) (Q6 23 k Z28.L) 0 (Qj Tryz.f88 0) (QA 23 Z28.sp0 (x0,x3,())) (Z28.A0.cont 23 k)=Z28.l0 (k+1) x0 x3:=by kernel_rfl
theorem Z28.G (hE:EnvOk Tryz.prog Q0)(pv:Nat->Value)(k:Nat):∀cal A,Z28.C k cal=some A->Q9 Tryz.prog Q0 pv cal A:=by
 intro cal A h
 unfold Z28.C at h
 split at h
 ·cases h;exact λx y hy=>Z32.good hE pv k x.1 hy
 ·cases h
theorem Z28.good (hE:EnvOk Tryz.prog Q0)(pv:Nat->Value)(k:Nat)(a0:List Name){y:_}(h:Z28.F k a0=some y):Q8 Tryz.prog Q0 pv (.f 88) (Qa [(.sl .name)] (a0,())) (.t .bool y):=
 Qh hE (t:=Z28.C) k (λk _=>Z28.G hE pv k) (f:=88) (fn:=Tryz.f88) (by kernel_rfl) rfl (by kernel_rfl) (by kernel_rfl) (lt:=Z28.L) (by kernel_rfl) (λb A h=>by
  unfold Z28.L at h;split at h
  ·cases h;exact⟨by kernel_rfl,by kernel_rfl,by kernel_rfl,λ_=>rfl,λ_=>rfl,λ_=>rfl⟩
  ·cases h) (λb A h=>by
  unfold Z28.L at h;split at h
  ·cases h;exact λk x=>Z28.step0 k x.1 x.2.1
  ·cases h) ((Z28.run k a0).trans h) (λr hr=>Q1 hr)
def Z29.l0:Nat->ByteArray->Int->Option (Sum Bool ByteArray)
 |0,_,_=>none
 |k+1,x0,x3=>bif (decide (x3<(x0.size:Int)))then(bif decide (0<=x3)then(bif decide (x3<(x0.size:Int))then(bif (decide ((bt x0 (x3:Int).toNat)<32))then(some (.inl false))else(bif decide (0<=x3)then(bif decide (x3<(x0.size:Int))then(bif (decide ((bt x0 (x3:Int).toNat) > 126))then(some (.inl false))else(Z29.l0 k x0 (IntKind.wrap .i64 (x3+1))))else none)else none))else none)else none)else(some (.inr x0))
def Z29.F (k:Nat)(a0:ByteArray):Option (Bool):=bif (decide ((a0.size:Int) > 40))then(some false)else((Z29.l0 k a0 0).bind λy1=>match y1 with|.inl z2=>some z2|.inr z2=>bif (Qo z2 (⟨#[]⟩:ByteArray))then(some true)else(bif decide (0<=0)then(bif decide (0<(z2.size:Int))then(bif ((bt z2 (0:Int).toNat) != 32)then(bif decide (0<=(IntKind.wrap .i64 ((z2.size:Int)-1)))then(bif decide ((IntKind.wrap .i64 ((z2.size:Int)-1))<(z2.size:Int))then(some ((bt z2 ((IntKind.wrap .i64 ((z2.size:Int)-1)):Int).toNat) != 32))else none)else none)else(some false))else none)else none))
def Z29.C (k:Nat):Cal->Option CArm:=λc=>match c with
 |_=>none
def Z29.sp0:List Sp:=[.t 0 .str,.t 3 (.int .i64)]
def Z29.sp0_0:List Sp:=[.t 2 .bool]
def Z29.sp0_1:List Sp:=[.t 0 .str]
def Z29.A0:LArm:=.two Z29.sp0 Z29.sp0_0 Z29.sp0_1 (Bool) (ByteArray) (λk x=>Z29.l0 k x.1 x.2.1) .ret (.exit 0) (λy=>(y,())) (λx=>x.1) (λy=>(y,())) (λx=>x.1)
def Z29.L:Nat->Option LArm:=λb=>match b with
 |0=>some Z29.A0
 |_=>none
theorem Z29.run (k:Nat)(a0:ByteArray):Qk Q0 (Q7 (Z29.C k)) (Q6 38 k Z29.L) Tryz.f89 [.t .str a0] (Q2 (.t .bool))=Z29.F k a0:=by kernel_rfl
theorem Z29.step0 (k:Nat)(x0:ByteArray)(x3:Int):Qs Q0 (Q7 (Z29.C k)) (Q6 38 k Z29.L) 0 (Qj Tryz.f89 0) (QA 38 Z29.sp0 (x0,x3,())) (Z29.A0.cont 38 k)=Z29.l0 (k+1) x0 x3:=by kernel_rfl
theorem Z29.G (hE:EnvOk Tryz.prog Q0)(pv:Nat->Value)(k:Nat):∀cal A,Z29.C k cal=some A->Q9 Tryz.prog Q0 pv cal A:=by
 intro cal A h
 unfold Z29.C at h
 cases h
theorem Z29.good (hE:EnvOk Tryz.prog Q0)(pv:Nat->Value)(k:Nat)(a0:ByteArray){y:_}(h:Z29.F k a0=some y):Q8 Tryz.prog Q0 pv (.f 89) (Qa [.str] (a0,())) (.t .bool y):=
 Qh hE (t:=Z29.C) k (λk _=>Z29.G hE pv k) (f:=89) (fn:=Tryz.f89) (by kernel_rfl) rfl (by kernel_rfl) (by kernel_rfl) (lt:=Z29.L) (by kernel_rfl) (λb A h=>by
  unfold Z29.L at h;split at h
  ·cases h;exact⟨by kernel_rfl,by kernel_rfl,by kernel_rfl,λ_=>rfl,λ_=>rfl,λ_=>rfl⟩
  ·cases h) (λb A h=>by
  unfold Z29.L at h;split at h
  ·cases h;exact λk x=>Z29.step0 k x.1 x.2.1
  ·cases h) ((Z29.run k a0).trans h) (λr hr=>Q1 hr)
def Z112.F (a0:Int)(a1:Int):Option (Int):=bif (a1==2)then(bif (4==0)then(none)else(bif ((Int.tmod a0 4)==0)then(bif (100==0)then(none)else(bif ((Int.tmod a0 100) != 0)then(some 29)else(bif (400==0)then(none)else(bif ((Int.tmod a0 400)==0)then(some 29)else(some 28)))))else(bif (400==0)then(none)else(bif ((Int.tmod a0 400)==0)then(some 29)else(some 28)))))else(bif (a1==4)then(some 30)else(bif (a1==6)then(some 30)else(bif (a1==9)then(some 30)else(bif (a1==11)then(some 30)else(some 31)))))
def Z112.C:Cal->Option CArm:=λc=>match c with
 |_=>none
theorem Z112.run (a0:Int)(a1:Int):Qk Q0 (Q7 Z112.C) (Q6 34 0 (λ_=>none)) Tryz.f121 [.t (.int .i64) a0,.t (.int .i64) a1] (Q2 (.t (.int .i64)))=Z112.F a0 a1:=by kernel_rfl
theorem Z112.G (hE:EnvOk Tryz.prog Q0)(pv:Nat->Value):∀cal A,Z112.C cal=some A->Q9 Tryz.prog Q0 pv cal A:=by
 intro cal A h
 unfold Z112.C at h
 cases h
theorem Z112.good (hE:EnvOk Tryz.prog Q0)(pv:Nat->Value)(a0:Int)(a1:Int){y:_}(h:Z112.F a0 a1=some y):Q8 Tryz.prog Q0 pv (.f 121) (Qa [(.int .i64),(.int .i64)] (a0,a1,())) (.t (.int .i64) y):=
 Q4 hE (Z112.G hE pv) (f:=121) (fn:=Tryz.f121) (by kernel_rfl) rfl (by kernel_rfl) (by kernel_rfl) ((Z112.run a0 a1).trans h) (λr hr=>Q1 hr)
def Z95.F (a0:Date):Option (Bool):=bif ((a0.y==0&&(a0.m==0&&(a0.d==0&&a0.c==false))))then(some true)else((Z62.F a0.y 1 2999).bind λr1=>bif (!r1)then(some false)else((Z62.F a0.m 0 12).bind λr2=>bif (!r2)then(some false)else(bif a0.c then(bif (a0.m==0)then(some (a0.d==0))else(some false))else(bif (a0.m==0)then(some (a0.d==0))else((Z112.F a0.y a0.m).bind λr3=>(Z62.F a0.d 0 r3).bind λr4=>some r4)))))
def Z95.C:Cal->Option CArm:=λc=>match c with
 |.f 87=>some (.p [(.int .i64),(.int .i64),(.int .i64)] _ (λx=>Z62.F x.1 x.2.1 x.2.2.1) (λr=>(.t .bool r)))
 |.f 121=>some (.p [(.int .i64),(.int .i64)] _ (λx=>Z112.F x.1 x.2.1) (λr=>(.t (.int .i64) r)))
 |_=>none
theorem Z95.run (a0:Date):Qk Q0 (Q7 Z95.C) (Q6 44 0 (λ_=>none)) Tryz.f90 [.t .date a0] (Q2 (.t .bool))=Z95.F a0:=by kernel_rfl
theorem Z95.G (hE:EnvOk Tryz.prog Q0)(pv:Nat->Value):∀cal A,Z95.C cal=some A->Q9 Tryz.prog Q0 pv cal A:=by
 intro cal A h
 unfold Z95.C at h
 split at h
 ·cases h;exact λx y hy=>Z62.good hE pv x.1 x.2.1 x.2.2.1 hy
 ·cases h;exact λx y hy=>Z112.good hE pv x.1 x.2.1 hy
 ·cases h
theorem Z95.good (hE:EnvOk Tryz.prog Q0)(pv:Nat->Value)(a0:Date){y:_}(h:Z95.F a0=some y):Q8 Tryz.prog Q0 pv (.f 90) (Qa [.date] (a0,())) (.t .bool y):=
 Q4 hE (Z95.G hE pv) (f:=90) (fn:=Tryz.f90) (by kernel_rfl) rfl (by kernel_rfl) (by kernel_rfl) ((Z95.run a0).trans h) (λr hr=>Q1 hr)
end Go.Proofs.YtpmlmdfbhmgikaaGreatDoor
end
