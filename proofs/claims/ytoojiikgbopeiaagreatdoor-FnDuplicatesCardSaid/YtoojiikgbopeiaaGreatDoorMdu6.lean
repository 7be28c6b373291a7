/- Library functions: their contracts,proved once for any program,as what a callee keeps to. By an AI agent's session. -/
import Derived.Test.YtoojiikgbopeiaaGreatDoorMdu4
import Derived.Shelf.Vars
import Derived.Below
import Derived.Lib.IndexMore
import Derived.Lib.Split
import Derived.Lib.SplitLaws
import Derived.Lib.Repeat
import Derived.Deep.Draws
import Derived.Lib.Join
import Derived.Lib.SlTrimSet
import Derived.Lib.IndexAny
import Derived.Lib.TrimByte
import Derived.Laws.AppendOwn
import Derived.Lib.ItoaNum
import Derived.Sort.Grow
import Derived.Test.YtoojiikgbopeiaaGreatDoorMdu5
import Derived.Test.YtoojiikgbopeiaaGreatDoorProg
import Derived.KernelRfl
set_option linter.unusedVariables false
set_option linter.unusedSimpArgs false
set_option maxRecDepth 100000
section
namespace Go.Gx
open Go.RowKit Go.Lib
theorem Q4A {P:Program}{f:FuncId}{fn:Func}{c:Code}(hf:P.funcs[f]? =some fn)(hb:fn.body=some c)(hname:(fn.name== "runtime.NumGoroutine")=false){args:Array Value}{w:World}{R:Value->World->Prop}
  (h:Calls P f args w λe w'=>∃v,e= .returned v/\R v w'):Goes P f args w R:=by
 have hcall:(callFunc f args).run P w= .ok (.enter f args) w:=by
  have hn':fn.name≠ "runtime.NumGoroutine":=by simpa using hname
  simp[callFunc,hf,hn',hb]
 unfold Goes
 rw[hcall]
 exact h
theorem DK {S:Nat->Prop}{w:World}{pv:Nat->Value}{vs:List Value}(h:Jb S w pv [] vs):vs=[]:=List.eq_nil_of_length_eq_zero h.1
theorem Gp {S:Nat->Prop}{w:World}{pv:Nat->Value}{a:AV}{al:List AV}{vs:List Value}(h:Jb S w pv (a::al) vs):∃cs vs',AR S w (λ_=>none) (λ_=>none) pv a cs/\vs=valOf a cs::vs'/\Jb S w pv al vs':=by
 match vs,h with
 |[],h=>cases h.1
 |v::vs',⟨h1,h2⟩=>
  obtain⟨cs,hc,rfl⟩:=h2 0 a v rfl rfl
  exact⟨cs,vs',hc,rfl,by simpa using h1,λi b u hb hu=>h2 (i+1) b u (by simpa using hb) (by simpa using hu)⟩
theorem XV {S:Nat->Prop}{w:World}{pv:Nat->Value}{s:ByteArray}{al:List AV}{vs:List Value}(h:Jb S w pv (.t .str s::al) vs):∃vs',vs= .string s::vs'/\Jb S w pv al vs':=by
 obtain⟨cs,vs',hc,rfl,h'⟩:=Gp h
 cases hc with|t _ _ _ hc=>cases hc;exact⟨vs',rfl,h'⟩
theorem Q9F {S:Nat->Prop}{w:World}{pv:Nat->Value}{k:IntKind}{n:Int}{al:List AV}{vs:List Value}(h:Jb S w pv (.t (.int k) n::al) vs):∃vs',vs= .int k n::vs'/\Jb S w pv al vs':=by
 obtain⟨cs,vs',hc,rfl,h'⟩:=Gp h
 cases hc with|t _ _ _ hc=>cases hc;exact⟨vs',rfl,h'⟩
section
variable {P:Program} {E:Env} {pv:Nat->Value} {f:FuncId} {fn:Func} {c:Code}
theorem Q1i (hf:P.funcs[f]? =some fn)(hb:fn.body=some c)(hname:(fn.name== "runtime.NumGoroutine")=false){args:List AV}{τ:Ty}{y:den τ}{v:Value}(hy:∀S w,∃cs,CR S w τ y cs/\v=valOf (.t τ y) cs)
  (h:∀S w vs,(∀b,S b->b<w.heap.size)->Qy E pv S w->Jb S w pv args vs->Calls P f vs.toArray w λe w'=>e= .returned v/\Below w.heap.size w w'):Qd P E pv (.f f) args (.t τ y):=by
 intro S w vs hS hgl hargs
 refine Q4A hf hb hname ((h S w vs hS hgl hargs).mono λe w' ⟨he,hbl⟩=>⟨v,he,hbl,S,λb hb=>hb,λb hb=>.inl hb,?_⟩)
 obtain⟨cs,hc,rfl⟩:=hy S w'
 exact⟨none,.plain _ _ (.t _ _ _ hc)⟩
theorem Q9G (hf:P.funcs[f]? =some fn)(hb:fn.body=some c)(hname:(fn.name== "runtime.NumGoroutine")=false){args:List AV}{te:Nat}{xs:List ByteArray}(hx:xs.length<=maxLen)
  (h:∀S w vs,(∀b,S b->b<w.heap.size)->Qy E pv S w->Jb S w pv args vs->Calls P f vs.toArray w λe w'=>e= .returned (.slice (some ⟨w.heap.size,0,none⟩) xs.length xs.length)/\w'=w.alloc (.cells (xs.map Value.string).toArray te)):Qd P E pv (.f f) args (.fr te .str xs):=by
 intro S w vs hS hgl hargs
 refine Q4A hf hb hname ((h S w vs hS hgl hargs).mono λe w' ⟨he,hw⟩=>⟨_,he,?_⟩)
 subst hw
 refine⟨(Below.refl _ w).alloc (Nat.le_refl _) _,S,λb hb=>hb,λb hb=>.inl hb,some w.heap.size,.fr te .str xs w.heap.size xs.length (Nat.le_refl _) (λhs=>absurd (hS _ hs) (Nat.lt_irrefl _)) ⟨(xs.map Value.string).toArray,(0,0),?_,?_,Nat.le_refl _,hx,λ_=>rfl,.inl (Nat.le_refl _),by decide,λi hi=>⟨[.string xs[i]],.str _,λj v hj=>?_⟩⟩⟩
 ·show(w.heap.push _)[w.heap.size]? =_
  simp
 ·simp[nc]
 ·cases j with
  |zero=>
   simp only[List.getElem?_cons_zero,Option.some.injEq]at hj
   subst hj
   simp[nc,hi]
  |succ j=>simp at hj
end
def Q3n (s sep:ByteArray):Option (List ByteArray):=bif Nat.ble s.size 4294967280&&Nat.ble 1 sep.size then some (Lib.splitB sep 0 (Lib.countB s sep) s)else none
theorem Q7X {P:Program}{E:Env}{pv:Nat->Value}{f:FuncId}{fn:Func}{c:Code}(hf:P.funcs[f]? =some fn)(hb:fn.body=some c)(hname:(fn.name== "runtime.NumGoroutine")=false){mx:Nat}(hmx:E.gi mx=true){te:Nat}
  (hc:∀(s sep:ByteArray) (m:Int) (w:World),s.size<4294967281->w.cell? ⟨mx,0,none⟩=some (.int .i64 m)->1<=sep.size->Calls P f #[.string s,.string sep] w λe w'=>
   e= .returned (.slice (some ⟨w.heap.size,0,none⟩) (Lib.countB s sep+1) (Lib.countB s sep+1))/\w'=w.alloc (.cells ((Lib.splitB sep 0 (Lib.countB s sep) s).map Value.string).toArray te))
  {s sep:ByteArray} {y:List ByteArray} (h:Q3n s sep=some y):Qd P E pv (.f f) (Q7 [.str,.str] (s,sep,())) (.fr te .str y):=by
 unfold Q3n at h
 cases hs:Nat.ble s.size 4294967280&&Nat.ble 1 sep.size with
 |false=>rw[hs]at h;cases h
 |true=>
  rw[hs]at h
  cases h
  rw[Bool.and_eq_true]at hs
  have h1:=Nat.le_of_ble_eq_true hs.1
  have h2:=Nat.le_of_ble_eq_true hs.2
  have hl:=Lib.splitB_all sep h2 0 _ s rfl
  have hle:=Lib.countB_le sep h2 s.size s (Nat.le_refl _)
  have hm:maxLen=9223372036854775807:=by decide
  refine Q9G hf hb hname (by rw[hl,hm];omega) λS w vs hS hgl ha=>?_
  obtain⟨_,rfl,ha1⟩:=XV ha
  obtain⟨_,rfl,ha2⟩:=XV ha1
  obtain rfl:=DK ha2
  obtain⟨_,m,hm⟩:=hgl.2.1 mx hmx
  rw[hl]
  exact hc s sep m w (by omega) hm h2
def Q6O (xs:List ByteArray)(sep:ByteArray):Option ByteArray:=bif Nat.ble xs.length 140737488355328&&Nat.ble (Lib.join (xs.map (·.data.toList)) sep.data.toList).length 140737488355328 then some ⟨(Lib.join (xs.map (·.data.toList)) sep.data.toList).toArray⟩else none
theorem Q9H {P:Program}{E:Env}{pv:Nat->Value}{f:FuncId}{fn:Func}{c:Code}(hf:P.funcs[f]? =some fn)(hb:fn.body=some c)(hname:(fn.name== "runtime.NumGoroutine")=false)
  (hc0:∀(a:Option Addr) (c:Nat) (sep:ByteArray) (w:World),Calls P f #[.slice a 0 c,.string sep] w λe w'=>e= .returned (.string ⟨#[]⟩)/\w'=w)
  (hc:∀(bk o c:Nat) (xs:List ByteArray) (sep:ByteArray) (w:World),(∀(j:Nat) x,xs[j]? =some x->w.cell? ⟨bk,o+j,none⟩=some (.string x))->bk<w.heap.size->xs.length<=140737488355328->xs.length<=c->
   (Lib.join (xs.map (·.data.toList)) sep.data.toList).length<=140737488355328->Calls P f #[.slice (some ⟨bk,o,none⟩) xs.length c,.string sep] w λe w'=>e= .returned (.string ⟨(Lib.join (xs.map (·.data.toList)) sep.data.toList).toArray⟩)/\Below w.heap.size w w')
  {xs:List ByteArray} {sep:ByteArray} {y:ByteArray} (h:Q6O xs sep=some y):Qd P E pv (.f f) (Q7 [.sl .str,.str] (xs,sep,())) (.t .str y):=by
 unfold Q6O at h
 cases hs:Nat.ble xs.length 140737488355328&&Nat.ble (Lib.join (xs.map (·.data.toList)) sep.data.toList).length 140737488355328 with
 |false=>rw[hs]at h;cases h
 |true=>
  rw[hs]at h
  cases h
  rw[Bool.and_eq_true]at hs
  refine Q1i hf hb hname (v:=.string _) (λS w=>⟨_,.str _,rfl⟩) λS w vs hS hgl ha=>?_
  obtain⟨cs,_,hcr,rfl,ha1⟩:=Gp ha
  obtain⟨_,rfl,ha2⟩:=XV ha1
  obtain rfl:=DK ha2
  cases hcr with
  |t _ _ _ hcr=>
   cases hcr with
   |sl e xs A c cv hle hm h1 h2=>
    match xs,A,hle,h1,h2,hs with
    |[],A,_,_,_,_=>exact(hc0 A c sep w).mono λe w' ⟨he,hw⟩=>⟨he,hw▸Below.refl _ _⟩
    |x::l,A,hle,h1,h2,hs=>
     obtain⟨g,o,rfl,hg,_⟩:=h2 0 (Nat.succ_pos _)
     refine hc g o c (x::l) sep w (λj z hj=>?_) (hS g hg) (Nat.le_of_ble_eq_true hs.1) hle (Nat.le_of_ble_eq_true hs.2)
     obtain⟨hj',hz⟩:=List.getElem?_eq_some_iff.1 hj
     obtain⟨g',o',e',_,hcell⟩:=h2 j hj'
     cases e'
     have hcv:=h1 j hj'
     rw[hz]at hcv
     have hq:∀q,CR S w .str z q->q[0]? =some (.string z):=λq hq=>by cases hq;rfl
     have:=hcell 0 (.string z) (hq _ hcv)
     simpa[nc]using this
def Q3o (s cs:ByteArray):Option ByteArray:=match cs with
 |⟨⟨[c]⟩⟩=>bif Nat.ble s.size 9223372036854775807&&Nat.blt c.toNat 128 then some ⟨(Lib.trimB s.data.toList c).toArray⟩else none
 |_=>none
theorem Q7Y {P:Program}{E:Env}{pv:Nat->Value}{f:FuncId}{fn:Func}{c:Code}(hf:P.funcs[f]? =some fn)(hb:fn.body=some c)(hname:(fn.name== "runtime.NumGoroutine")=false)
  (hc:∀(s:ByteArray) (c:UInt8),c.toNat<128->∀(w:World),s.size<=9223372036854775807->Calls P f #[.string s,.string ⟨#[c]⟩] w λe w'=>e= .returned (.string ⟨(Lib.trimB s.data.toList c).toArray⟩)/\(w'=w\/w'=w.drew))
  {s cs:ByteArray} {y:ByteArray} (h:Q3o s cs=some y):Qd P E pv (.f f) (Q7 [.str,.str] (s,cs,())) (.t .str y):=by
 unfold Q3o at h
 split at h
 ·rename_i c0
  cases hs:Nat.ble s.size 9223372036854775807&&Nat.blt c0.toNat 128 with
  |false=>rw[hs]at h;cases h
  |true=>
   rw[hs]at h
   cases h
   rw[Bool.and_eq_true]at hs
   refine Q1i hf hb hname (v:=.string _) (λS w=>⟨_,.str _,rfl⟩) λS w vs hS hgl ha=>?_
   obtain⟨_,rfl,ha1⟩:=XV ha
   obtain⟨_,rfl,ha2⟩:=XV ha1
   obtain rfl:=DK ha2
   refine(hc s c0 (Nat.le_of_ble_eq_true hs.2) w (Nat.le_of_ble_eq_true hs.1)).mono λe w' ⟨he,hw⟩=>⟨he,?_⟩
   rcases hw with rfl|rfl
   ·exact Below.refl _ _
   ·exact(Below.refl _ _).drew
 ·cases h
end Go.Gx
end
section
/- A library function by its contract: strconv.Itoa. -/
namespace Go.Gx
def Q6P (n:Int):Option ByteArray:=bif decide (0<=n)&&decide (n<100)then some ⟨(Lib.decDigits n.toNat).toArray⟩else none
theorem Q9I {P:Program}{E:Env}{pv:Nat->Value}{f:FuncId}{fn:Func}{c:Code}(hf:P.funcs[f]? =some fn)(hb:fn.body=some c)(hname:(fn.name== "runtime.NumGoroutine")=false)
  (hc:∀(i:Nat) (hi:i<100) (w:World),Calls P f #[.int .i64 i] w λe w'=>e= .returned (.string ⟨(Lib.decDigits i).toArray⟩)/\w'=w)
  {n:Int} {y:ByteArray} (h:Q6P n=some y):Qd P E pv (.f f) (Q7 [.int .i64] (n,())) (.t .str y):=by
 unfold Q6P at h
 cases hs:decide (0<=n)&&decide (n<100)with
 |false=>rw[hs]at h;cases h
 |true=>
  rw[hs]at h
  cases h
  simp only[Bool.and_eq_true,decide_eq_true_eq]at hs
  refine Q1i hf hb hname (v:=.string _) (λS w=>⟨_,.str _,rfl⟩) λS w vs hS hgl ha=>?_
  obtain⟨_,rfl,ha1⟩:=Q9F ha
  obtain rfl:=DK ha1
  have e:n=(n.toNat:Int):=by omega
  have:=hc n.toNat (by omega) w
  rw[<-e]at this
  exact this.mono λe w' ⟨he,hw⟩=>⟨he,hw▸RowKit.Below.refl _ _⟩
end Go.Gx
end
section
namespace Go.Proofs.YtoojiikgbopeiaaGreatDoor
open Go.Gx
def tyT (t:Nat):Option Ty:=match t with
 |2=>some (.int .i64)
 |3=>some (.int .i64)
 |4=>some .bool
 |5=>some (.int .u8)
 |6=>some (.int .u8)
 |9=>some .str
 |10=>some .str
 |11=>some .str
 |21=>some (.int .i32)
 |22=>some (.sl .entry)
 |24=>some .lib
 |26=>some (.sl (.sl .str))
 |29=>some (.sl .entry)
 |31=>some .lib
 |38=>some (.sl (.int .u8))
 |44=>some (.sl .name)
 |46=>some .date
 |48=>some .entry
 |62=>some (.sl (.int .i64))
 |65=>some (.sl .str)
 |74=>some (.int .u64)
 |76=>some .cur
 |89=>some .name
 |97=>some (.sl .name)
 |98=>some .date
 |100=>some .entry
 |107=>some (.int .u64)
 |126=>some (.int .i64)
 |133=>some (.int .u32)
 |142=>some .name
 |145=>some (.int .u64)
 |167=>some (.arr 256 .bool)
 |177=>some (.arr 24 (.int .u8))
 |188=>some (.arr 20 (.int .u64))
 |189=>some (.arr 65 (.int .u8))
 |197=>some (.arr 256 (.int .u8))
 |202=>some (.arr 32 (.int .u8))
 |203=>some (.arr 64 (.int .u8))
 |212=>some (.int .u8)
 |_=>none
def elT (t:Nat):Nat:=match t with
 |22=>100
 |26=>65
 |29=>48
 |38=>5
 |44=>89
 |62=>3
 |65=>9
 |97=>142
 |_=>0
def mdT (f:Nat):Bool:=match f with
 |12=>true
 |36=>true
 |39=>true
 |40=>true
 |42=>true
 |43=>true
 |44=>true
 |47=>true
 |48=>true
 |49=>true
 |61=>true
 |72=>true
 |76=>true
 |77=>true
 |78=>true
 |83=>true
 |84=>true
 |85=>true
 |86=>true
 |98=>true
 |99=>true
 |100=>true
 |111=>true
 |131=>true
 |132=>true
 |166=>true
 |_=>false
def YY:ByteArray:=⟨#[0,1,2,2,3,3,3,3,4,4,4,4,4,4,4,4,5,5,5,5,5,5,5,5,5,5,5,5,5,5,5,5,6,6,6,6,6,6,6,6,6,6,6,6,6,6,6,6,6,6,6,6,6,6,6,6,6,6,6,6,6,6,6,6,7,7,7,7,7,7,7,7,7,7,7,7,7,7,7,7,7,7,7,7,7,7,7,7,7,7,7,7,7,7,7,7,7,7,7,7,7,7,7,7,7,7,7,7,7,7,7,7,7,7,7,7,7,7,7,7,7,7,7,7,7,7,7,7,8,8,8,8,8,8,8,8,8,8,8,8,8,8,8,8,8,8,8,8,8,8,8,8,8,8,8,8,8,8,8,8,8,8,8,8,8,8,8,8,8,8,8,8,8,8,8,8,8,8,8,8,8,8,8,8,8,8,8,8,8,8,8,8,8,8,8,8,8,8,8,8,8,8,8,8,8,8,8,8,8,8,8,8,8,8,8,8,8,8,8,8,8,8,8,8,8,8,8,8,8,8,8,8,8,8,8,8,8,8,8,8,8,8,8,8,8,8,8,8,8,8,8,8,8,8,8,8]⟩
def glT (g:Nat):Option AV:=match g with
 |_=>none
def giT (g:Nat):Bool:=match g with
 |1=>true
 |_=>false
def dmT (f:Nat):Bool:=match f with
 |11=>true
 |12=>true
 |39=>true
 |40=>true
 |76=>true
 |_=>false
def pmT (f:Nat):Bool:=match f with
 |7=>true
 |68=>true
 |144=>true
 |_=>false
def tmX (f:Nat):Bool:=match f with
 |8=>true
 |_=>false
def tmT (f:Nat):Bool:=match f with
 |8=>true
 |_=>false
def vmT (f:Nat):Bool:=match f with
 |_=>false
def QcE (f:Nat):Bool:=match f with
 |12=>true
 |36=>true
 |39=>true
 |40=>true
 |42=>true
 |43=>true
 |44=>true
 |47=>true
 |48=>true
 |49=>true
 |61=>true
 |72=>true
 |76=>true
 |77=>true
 |78=>true
 |83=>true
 |84=>true
 |85=>true
 |86=>true
 |98=>true
 |99=>true
 |100=>true
 |111=>true
 |131=>true
 |132=>true
 |166=>true
 |_=>false
def Q0:Env:={ty:=tyT,el:=elT,gl:=glT,md:=mdT,gi:=giT,dm:=dmT,pm:=pmT,tm:=tmX}
def D9:Env:={ty:=tyT,el:=elT,gl:=glT,md:=QcE,gi:=giT,tm:=tmT,vm:=vmT,tr:=true}
theorem Q5X:∀T τ,Q0.ty T=some τ->TyOk Tryz.prog Q0 T τ:=λT τ h=>by
 dsimp only[Q0,tyT]at h
 split at h<;>first
  |(cases h;done)
  |(cases h;exact Q6r (by kernel_rfl) (by kernel_rfl))
theorem Q1j:EnvOk Tryz.prog Q0:=⟨Q5X,by kernel_rfl,λT h=>by
 dsimp only[Q0,tyT]at h
 split at h<;>first
  |(cases h;done)
  |exact Q6L Q5X rfl (by kernel_rfl) (by kernel_rfl) (by kernel_rfl),λT h=>by
 dsimp only[Q0,tyT]at h
 split at h<;>first
  |(cases h;done)
  |exact Q6M Q5X rfl (by kernel_rfl) (by kernel_rfl) (by kernel_rfl)⟩
theorem Q3p:∀T τ,D9.ty T=some τ->TyOk Tryz.prog D9 T τ:=λT τ h=>by
 dsimp only[D9,tyT]at h
 split at h<;>first
  |(cases h;done)
  |(cases h;exact Q6r (by kernel_rfl) (by kernel_rfl))
theorem QbY:EnvOk Tryz.prog D9:=⟨Q3p,by kernel_rfl,λT h=>by
 dsimp only[D9,tyT]at h
 split at h<;>first
  |(cases h;done)
  |exact Q6L Q3p rfl (by kernel_rfl) (by kernel_rfl) (by kernel_rfl),λT h=>by
 dsimp only[D9,tyT]at h
 split at h<;>first
  |(cases h;done)
  |exact Q6M Q3p rfl (by kernel_rfl) (by kernel_rfl) (by kernel_rfl)⟩
def Z96.l0:Nat->(List ByteArray)->Int->Int->Option (Sum Int Int)
 |0,_,_,_=>none
 |k+1,x0,x1,x5=>bif (decide (x5<(x0.length:Int)))then(bif decide (0<=x5)then(bif decide (x5<(x0.length:Int))then(bif (decide ((IntKind.wrap .i64 (x1-((x0.getD (x5:Int).toNat (⟨#[]⟩:ByteArray)).size:Int)))<0))then(some (.inl (-1)))else(Z96.l0 k x0 (IntKind.wrap .i64 (x1-((x0.getD (x5:Int).toNat (⟨#[]⟩:ByteArray)).size:Int))) (IntKind.wrap .i64 (x5+1))))else none)else none)else(some (.inr x1))
def Z96.F (k:Nat)(a0:List ByteArray)(a1:Int):Option (Int):=bif (decide ((IntKind.wrap .i64 (a1-(a0.length:Int)))<0))then(some (-1))else((Z96.l0 k a0 (IntKind.wrap .i64 (a1-(a0.length:Int))) 0).bind λy1=>match y1 with|.inl z2=>some z2|.inr z2=>some z2)
def Z96.C (k:Nat):Cal->Option CArm:=λc=>match c with
 |_=>none
def Z96.sp0:List Sp:=[.t 0 (.sl .str),.t 1 (.int .i64),.t 5 (.int .i64)]
def Z96.sp0_0:List Sp:=[.t 4 (.int .i64)]
def Z96.sp0_1:List Sp:=[.t 1 (.int .i64)]
def Z96.A0:LArm:=.two Z96.sp0 Z96.sp0_0 Z96.sp0_1 (Int) (Int) (λk x=>Z96.l0 k x.1 x.2.1 x.2.2.1) .ret (.exit 0) (λy=>(y,())) (λx=>x.1) (λy=>(y,())) (λx=>x.1)
def Z96.L:Nat->Option LArm:=λb=>match b with
 |0=>some Z96.A0
 |_=>none
def Z128.F (k:Nat)(a0:Name)(a1:Int):Option (Int):=(Z96.F k a0.given a1).bind λr1=>bif (decide (r1<0))then(some (-1))else(bif (decide ((IntKind.wrap .i64 (r1-(a0.particle.size:Int)))<0))then(some (-1))else(bif (decide ((IntKind.wrap .i64 ((IntKind.wrap .i64 (r1-(a0.particle.size:Int)))-(a0.family.size:Int)))<0))then(some (-1))else(bif (decide ((IntKind.wrap .i64 ((IntKind.wrap .i64 ((IntKind.wrap .i64 (r1-(a0.particle.size:Int)))-(a0.family.size:Int)))-(a0.suffix.size:Int)))<0))then(some (-1))else(some (IntKind.wrap .i64 ((IntKind.wrap .i64 ((IntKind.wrap .i64 (r1-(a0.particle.size:Int)))-(a0.family.size:Int)))-(a0.suffix.size:Int)))))))
def Z128.C (k:Nat):Cal->Option CArm:=λc=>match c with
 |.f 177=>some (.p [(.sl .str),(.int .i64)] _ (λx=>Z96.F k x.1 x.2.1) (λr=>(.t (.int .i64) r)))
 |_=>none
def laws_szNameS.l0:Nat->(List Name)->Int->Int->Option (Sum Int Int)
 |0,_,_,_=>none
 |k+1,x0,x1,x5=>bif (decide (x5<(x0.length:Int)))then(bif decide (0<=x5)then(bif decide (x5<(x0.length:Int))then((Z128.F k (x0.getD (x5:Int).toNat (Q4 .name)) x1).bind λr1=>bif (decide (r1<0))then(some (.inl (-1)))else(laws_szNameS.l0 k x0 r1 (IntKind.wrap .i64 (x5+1))))else none)else none)else(some (.inr x1))
def Z56.F (a0:Int)(a1:Int)(a2:Int):Option (Bool):=bif (decide (a0 ≥ a1))then(some (decide (a0<=a2)))else(some false)
def Z56.C:Cal->Option CArm:=λc=>match c with
 |_=>none
theorem Z56.run (a0:Int)(a1:Int)(a2:Int):Qm Q0 (Q8 Z56.C) (Q6 15 0 (λ_=>none)) Tryz.f28 [.t (.int .i64) a0,.t (.int .i64) a1,.t (.int .i64) a2] (Q5 (.t .bool))=Z56.F a0 a1 a2:=by kernel_rfl
theorem Z56.G (hE:EnvOk Tryz.prog Q0)(pv:Nat->Value):∀cal A,Z56.C cal=some A->Qc Tryz.prog Q0 pv cal A:=by
 intro cal A h
 unfold Z56.C at h
 cases h
theorem Z56.good (hE:EnvOk Tryz.prog Q0)(pv:Nat->Value)(a0:Int)(a1:Int)(a2:Int){y:_}(h:Z56.F a0 a1 a2=some y):Qd Tryz.prog Q0 pv (.f 28) (Q7 [(.int .i64),(.int .i64),(.int .i64)] (a0,a1,a2,())) (.t .bool y):=
 Qb hE (Z56.G hE pv) (f:=28) (fn:=Tryz.f28) (by kernel_rfl) rfl (by kernel_rfl) (by kernel_rfl) ((Z56.run a0 a1 a2).trans h) (λr hr=>Q1 hr)
def Z66.F (a0:Int):Option (Bool):=bif (decide (a0 ≥ 97))then(some (decide (a0<=122)))else(some false)
def Z66.C:Cal->Option CArm:=λc=>match c with
 |_=>none
theorem Z66.run (a0:Int):Qm Q0 (Q8 Z66.C) (Q6 9 0 (λ_=>none)) Tryz.f134 [.t (.int .u8) a0] (Q5 (.t .bool))=Z66.F a0:=by kernel_rfl
theorem Z66.G (hE:EnvOk Tryz.prog Q0)(pv:Nat->Value):∀cal A,Z66.C cal=some A->Qc Tryz.prog Q0 pv cal A:=by
 intro cal A h
 unfold Z66.C at h
 cases h
theorem Z66.good (hE:EnvOk Tryz.prog Q0)(pv:Nat->Value)(a0:Int){y:_}(h:Z66.F a0=some y):Qd Tryz.prog Q0 pv (.f 134) (Q7 [(.int .u8)] (a0,())) (.t .bool y):=
 Qb hE (Z66.G hE pv) (f:=134) (fn:=Tryz.f134) (by kernel_rfl) rfl (by kernel_rfl) (by kernel_rfl) ((Z66.run a0).trans h) (λr hr=>Q1 hr)
def Z21.l0:Nat->ByteArray->Int->Option (Sum Bool Unit)
 |0,_,_=>none
 |k+1,x0,x3=>bif (decide (x3<(x0.size:Int)))then(bif decide (0<=x3)then(bif decide (x3<(x0.size:Int))then((Z66.F (bt x0 (x3:Int).toNat)).bind λr3=>bif (!r3)then(bif decide (0<=x3)then(bif decide (x3<(x0.size:Int))then(bif (decide ((bt x0 (x3:Int).toNat)<48))then(some (.inl false))else(bif decide (0<=x3)then(bif decide (x3<(x0.size:Int))then(bif (decide ((bt x0 (x3:Int).toNat) > 57))then(some (.inl false))else(Z21.l0 k x0 (IntKind.wrap .i64 (x3+1))))else none)else none))else none)else none)else(Z21.l0 k x0 (IntKind.wrap .i64 (x3+1))))else none)else none)else(some (.inr ()))
def Z21.F (k:Nat)(a0:ByteArray):Option (Bool):=(Z56.F (a0.size:Int) 1 10).bind λr1=>bif (!r1)then(some false)else(bif decide (0<=0)then(bif decide (0<(a0.size:Int))then((Z66.F (bt a0 (0:Int).toNat)).bind λr2=>bif (!r2)then(some false)else((Z21.l0 k a0 0).bind λy4=>match y4 with|.inl z5=>some z5|.inr z5=>some true))else none)else none)
def Z21.C (k:Nat):Cal->Option CArm:=λc=>match c with
 |.f 28=>some (.p [(.int .i64),(.int .i64),(.int .i64)] _ (λx=>Z56.F x.1 x.2.1 x.2.2.1) (λr=>(.t .bool r)))
 |.f 134=>some (.p [(.int .u8)] _ (λx=>Z66.F x.1) (λr=>(.t .bool r)))
 |_=>none
def Z21.sp0:List Sp:=[.t 0 .str,.t 3 (.int .i64)]
def Z21.sp0_0:List Sp:=[.t 2 .bool]
def Z21.sp0_1:List Sp:=[]
def Z21.A0:LArm:=.two Z21.sp0 Z21.sp0_0 Z21.sp0_1 (Bool) (Unit) (λk x=>Z21.l0 k x.1 x.2.1) .ret (.exit 0) (λy=>(y,())) (λx=>x.1) (λy=>()) (λx=>())
def Z21.L:Nat->Option LArm:=λb=>match b with
 |0=>some Z21.A0
 |_=>none
theorem Z21.run (k:Nat)(a0:ByteArray):Qm Q0 (Q8 (Z21.C k)) (Q6 37 k Z21.L) Tryz.f93 [.t .str a0] (Q5 (.t .bool))=Z21.F k a0:=by kernel_rfl
theorem Z21.step0 (k:Nat)(x0:ByteArray)(x3:Int):Qs Q0 (Q8 (Z21.C k)) (Q6 37 k Z21.L) 0 (Qh Tryz.f93 0) (QA 37 Z21.sp0 (x0,x3,())) (Z21.A0.cont 37 k)=Z21.l0 (k+1) x0 x3:=by kernel_rfl
theorem Z21.G (hE:EnvOk Tryz.prog Q0)(pv:Nat->Value)(k:Nat):∀cal A,Z21.C k cal=some A->Qc Tryz.prog Q0 pv cal A:=by
 intro cal A h
 unfold Z21.C at h
 split at h
 ·cases h;exact λx y hy=>Z56.good hE pv x.1 x.2.1 x.2.2.1 hy
 ·cases h;exact λx y hy=>Z66.good hE pv x.1 hy
 ·cases h
theorem Z21.good (hE:EnvOk Tryz.prog Q0)(pv:Nat->Value)(k:Nat)(a0:ByteArray){y:_}(h:Z21.F k a0=some y):Qd Tryz.prog Q0 pv (.f 93) (Q7 [.str] (a0,())) (.t .bool y):=
 Qj hE (t:=Z21.C) k (λk _=>Z21.G hE pv k) (f:=93) (fn:=Tryz.f93) (by kernel_rfl) rfl (by kernel_rfl) (by kernel_rfl) (lt:=Z21.L) (by kernel_rfl) (λb A h=>by
  unfold Z21.L at h;split at h
  ·cases h;exact⟨by kernel_rfl,by kernel_rfl,by kernel_rfl,λ_=>rfl,λ_=>rfl,λ_=>rfl⟩
  ·cases h) (λb A h=>by
  unfold Z21.L at h;split at h
  ·cases h;exact λk x=>Z21.step0 k x.1 x.2.1
  ·cases h) ((Z21.run k a0).trans h) (λr hr=>Q1 hr)
def Z75.F (a0:Int):Option (Bool):=bif (decide (a0 ≥ 65))then(some (decide (a0<=90)))else(some false)
def Z75.C:Cal->Option CArm:=λc=>match c with
 |_=>none
theorem Z75.run (a0:Int):Qm Q0 (Q8 Z75.C) (Q6 9 0 (λ_=>none)) Tryz.f161 [.t (.int .u8) a0] (Q5 (.t .bool))=Z75.F a0:=by kernel_rfl
theorem Z75.G (hE:EnvOk Tryz.prog Q0)(pv:Nat->Value):∀cal A,Z75.C cal=some A->Qc Tryz.prog Q0 pv cal A:=by
 intro cal A h
 unfold Z75.C at h
 cases h
theorem Z75.good (hE:EnvOk Tryz.prog Q0)(pv:Nat->Value)(a0:Int){y:_}(h:Z75.F a0=some y):Qd Tryz.prog Q0 pv (.f 161) (Q7 [(.int .u8)] (a0,())) (.t .bool y):=
 Qb hE (Z75.G hE pv) (f:=161) (fn:=Tryz.f161) (by kernel_rfl) rfl (by kernel_rfl) (by kernel_rfl) ((Z75.run a0).trans h) (λr hr=>Q1 hr)
def Z72.F (a0:Int):Option (Bool):=(Z75.F a0).bind λr1=>bif r1 then(some true)else((Z66.F a0).bind λr2=>some r2)
def Z72.C:Cal->Option CArm:=λc=>match c with
 |.f 161=>some (.p [(.int .u8)] _ (λx=>Z75.F x.1) (λr=>(.t .bool r)))
 |.f 134=>some (.p [(.int .u8)] _ (λx=>Z66.F x.1) (λr=>(.t .bool r)))
 |_=>none
theorem Z72.run (a0:Int):Qm Q0 (Q8 Z72.C) (Q6 9 0 (λ_=>none)) Tryz.f186 [.t (.int .u8) a0] (Q5 (.t .bool))=Z72.F a0:=by kernel_rfl
theorem Z72.G (hE:EnvOk Tryz.prog Q0)(pv:Nat->Value):∀cal A,Z72.C cal=some A->Qc Tryz.prog Q0 pv cal A:=by
 intro cal A h
 unfold Z72.C at h
 split at h
 ·cases h;exact λx y hy=>Z75.good hE pv x.1 hy
 ·cases h;exact λx y hy=>Z66.good hE pv x.1 hy
 ·cases h
theorem Z72.good (hE:EnvOk Tryz.prog Q0)(pv:Nat->Value)(a0:Int){y:_}(h:Z72.F a0=some y):Qd Tryz.prog Q0 pv (.f 186) (Q7 [(.int .u8)] (a0,())) (.t .bool y):=
 Qb hE (Z72.G hE pv) (f:=186) (fn:=Tryz.f186) (by kernel_rfl) rfl (by kernel_rfl) (by kernel_rfl) ((Z72.run a0).trans h) (λr hr=>Q1 hr)
def Z17.l0:Nat->ByteArray->Int->Option (Sum Bool Unit)
 |0,_,_=>none
 |k+1,x0,x3=>bif (decide (x3<(x0.size:Int)))then(bif decide (0<=x3)then(bif decide (x3<(x0.size:Int))then((Z72.F (bt x0 (x3:Int).toNat)).bind λr4=>bif (!r4)then(bif decide (0<=x3)then(bif decide (x3<(x0.size:Int))then(bif ((bt x0 (x3:Int).toNat) != 45)then(bif decide (0<=x3)then(bif decide (x3<(x0.size:Int))then(bif ((bt x0 (x3:Int).toNat) != 39)then(some (.inl false))else(bif decide (0<=(IntKind.wrap .i64 (x3-1)))then(bif decide ((IntKind.wrap .i64 (x3-1))<(x0.size:Int))then((Z72.F (bt x0 ((IntKind.wrap .i64 (x3-1)):Int).toNat)).bind λr5=>bif (!r5)then(some (.inl false))else(Z17.l0 k x0 (IntKind.wrap .i64 (x3+1))))else none)else none))else none)else none)else(bif decide (0<=(IntKind.wrap .i64 (x3-1)))then(bif decide ((IntKind.wrap .i64 (x3-1))<(x0.size:Int))then((Z72.F (bt x0 ((IntKind.wrap .i64 (x3-1)):Int).toNat)).bind λr6=>bif (!r6)then(some (.inl false))else(Z17.l0 k x0 (IntKind.wrap .i64 (x3+1))))else none)else none))else none)else none)else(Z17.l0 k x0 (IntKind.wrap .i64 (x3+1))))else none)else none)else(some (.inr ()))
def Z17.F (k:Nat)(a0:ByteArray):Option (Bool):=(Z56.F (a0.size:Int) 1 12).bind λr1=>bif (!r1)then(some false)else(bif decide (0<=0)then(bif decide (0<(a0.size:Int))then((Z72.F (bt a0 (0:Int).toNat)).bind λr2=>bif (!r2)then(some false)else(bif decide (0<=(IntKind.wrap .i64 ((a0.size:Int)-1)))then(bif decide ((IntKind.wrap .i64 ((a0.size:Int)-1))<(a0.size:Int))then((Z72.F (bt a0 ((IntKind.wrap .i64 ((a0.size:Int)-1)):Int).toNat)).bind λr3=>bif (!r3)then(some false)else((Z17.l0 k a0 1).bind λy7=>match y7 with|.inl z8=>some z8|.inr z8=>some true))else none)else none))else none)else none)
def Z17.C (k:Nat):Cal->Option CArm:=λc=>match c with
 |.f 28=>some (.p [(.int .i64),(.int .i64),(.int .i64)] _ (λx=>Z56.F x.1 x.2.1 x.2.2.1) (λr=>(.t .bool r)))
 |.f 186=>some (.p [(.int .u8)] _ (λx=>Z72.F x.1) (λr=>(.t .bool r)))
 |_=>none
def Z17.sp0:List Sp:=[.t 0 .str,.t 3 (.int .i64)]
def Z17.sp0_0:List Sp:=[.t 2 .bool]
def Z17.sp0_1:List Sp:=[]
def Z17.A0:LArm:=.two Z17.sp0 Z17.sp0_0 Z17.sp0_1 (Bool) (Unit) (λk x=>Z17.l0 k x.1 x.2.1) .ret (.exit 0) (λy=>(y,())) (λx=>x.1) (λy=>()) (λx=>())
def Z17.L:Nat->Option LArm:=λb=>match b with
 |0=>some Z17.A0
 |_=>none
theorem Z17.run (k:Nat)(a0:ByteArray):Qm Q0 (Q8 (Z17.C k)) (Q6 54 k Z17.L) Tryz.f160 [.t .str a0] (Q5 (.t .bool))=Z17.F k a0:=by kernel_rfl
theorem Z17.step0 (k:Nat)(x0:ByteArray)(x3:Int):Qs Q0 (Q8 (Z17.C k)) (Q6 54 k Z17.L) 0 (Qh Tryz.f160 0) (QA 54 Z17.sp0 (x0,x3,())) (Z17.A0.cont 54 k)=Z17.l0 (k+1) x0 x3:=by kernel_rfl
theorem Z17.G (hE:EnvOk Tryz.prog Q0)(pv:Nat->Value)(k:Nat):∀cal A,Z17.C k cal=some A->Qc Tryz.prog Q0 pv cal A:=by
 intro cal A h
 unfold Z17.C at h
 split at h
 ·cases h;exact λx y hy=>Z56.good hE pv x.1 x.2.1 x.2.2.1 hy
 ·cases h;exact λx y hy=>Z72.good hE pv x.1 hy
 ·cases h
theorem Z17.good (hE:EnvOk Tryz.prog Q0)(pv:Nat->Value)(k:Nat)(a0:ByteArray){y:_}(h:Z17.F k a0=some y):Qd Tryz.prog Q0 pv (.f 160) (Q7 [.str] (a0,())) (.t .bool y):=
 Qj hE (t:=Z17.C) k (λk _=>Z17.G hE pv k) (f:=160) (fn:=Tryz.f160) (by kernel_rfl) rfl (by kernel_rfl) (by kernel_rfl) (lt:=Z17.L) (by kernel_rfl) (λb A h=>by
  unfold Z17.L at h;split at h
  ·cases h;exact⟨by kernel_rfl,by kernel_rfl,by kernel_rfl,λ_=>rfl,λ_=>rfl,λ_=>rfl⟩
  ·cases h) (λb A h=>by
  unfold Z17.L at h;split at h
  ·cases h;exact λk x=>Z17.step0 k x.1 x.2.1
  ·cases h) ((Z17.run k a0).trans h) (λr hr=>Q1 hr)
def Z38.l0:Nat->ByteArray->Int->(List ByteArray)->Int->Int->Option (ByteArray× (List ByteArray)×Int)
 |0,_,_,_,_,_=>none
 |k+1,x0,x1,x5,x6,x7=>bif (decide (x7<(x0.size:Int)))then(bif decide (0<=x7)then(bif decide (x7<(x0.size:Int))then(bif ((bt x0 (x7:Int).toNat)==x1)then(bif decide (0<=x7)then(bif decide (x7<=(x0.size:Int))then(bif decide (0<=x6)then(bif decide (x6<=x7)then(bif room (x5.length+([(x0.extract (x6:Int).toNat (x7:Int).toNat)]:List ByteArray).length) .str then(Z38.l0 k x0 x1 (x5++([(x0.extract (x6:Int).toNat (x7:Int).toNat)]:List ByteArray)) (IntKind.wrap .i64 (x7+1)) (IntKind.wrap .i64 (x7+1)))else none)else none)else none)else none)else none)else(Z38.l0 k x0 x1 x5 x6 (IntKind.wrap .i64 (x7+1))))else none)else none)else(some (x0,x5,x6))
def Z38.F (k:Nat)(a0:ByteArray)(a1:Int):Option (List ByteArray):=(Z38.l0 k a0 a1 ([]:List ByteArray) 0 0).bind λy1=>bif decide (0<=y1.2.2)then(bif decide (y1.2.2<=(y1.1.size:Int))then(bif room (y1.2.1.length+([(y1.1.extract (y1.2.2:Int).toNat y1.1.size)]:List ByteArray).length) .str then(some (y1.2.1++([(y1.1.extract (y1.2.2:Int).toNat y1.1.size)]:List ByteArray)))else none)else none)else none
def Z38.C (k:Nat):Cal->Option CArm:=λc=>match c with
 |_=>none
def Z38.sp0:List Sp:=[.t 0 .str,.t 1 (.int .u8),.own 5 1024 9 .str false true,.t 6 (.int .i64),.t 7 (.int .i64)]
def Z38.sp0_0:List Sp:=[.t 0 .str,.own 5 1024 9 .str false true,.t 6 (.int .i64)]
def Z38.A0:LArm:=.one Z38.sp0 Z38.sp0_0 (ByteArray× (List ByteArray)×Int) (λk x=>Z38.l0 k x.1 x.2.1 x.2.2.1 x.2.2.2.1 x.2.2.2.2.1) (.exit 0) (λy=>(y.1,y.2.1,y.2.2,())) (λx=>(x.1,x.2.1,x.2.2.1))
def Z38.L:Nat->Option LArm:=λb=>match b with
 |0=>some Z38.A0
 |_=>none
theorem Z38.run (k:Nat)(a0:ByteArray)(a1:Int):Qm Q0 (Q8 (Z38.C k)) (Q6 35 k Z38.L) Tryz.f187 [.t .str a0,.t (.int .u8) a1] (Q5 (.fr 9 .str))=Z38.F k a0 a1:=by kernel_rfl
theorem Z38.step0 (k:Nat)(x0:ByteArray)(x1:Int)(x5:List ByteArray)(x6:Int)(x7:Int):Qs Q0 (Q8 (Z38.C k)) (Q6 35 k Z38.L) 0 (Qh Tryz.f187 0) (QA 35 Z38.sp0 (x0,x1,x5,x6,x7,())) (Z38.A0.cont 35 k)=Z38.l0 (k+1) x0 x1 x5 x6 x7:=by kernel_rfl
theorem Z38.G (hE:EnvOk Tryz.prog Q0)(pv:Nat->Value)(k:Nat):∀cal A,Z38.C k cal=some A->Qc Tryz.prog Q0 pv cal A:=by
 intro cal A h
 unfold Z38.C at h
 cases h
theorem Z38.good (hE:EnvOk Tryz.prog Q0)(pv:Nat->Value)(k:Nat)(a0:ByteArray)(a1:Int){y:_}(h:Z38.F k a0 a1=some y):Qd Tryz.prog Q0 pv (.f 187) (Q7 [.str,(.int .u8)] (a0,a1,())) (.fr 9 .str y):=
 Qj hE (t:=Z38.C) k (λk _=>Z38.G hE pv k) (f:=187) (fn:=Tryz.f187) (by kernel_rfl) rfl (by kernel_rfl) (by kernel_rfl) (lt:=Z38.L) (by kernel_rfl) (λb A h=>by
  unfold Z38.L at h;split at h
  ·cases h;exact⟨by kernel_rfl,by kernel_rfl,λ_=>rfl,λ_=>rfl⟩
  ·cases h) (λb A h=>by
  unfold Z38.L at h;split at h
  ·cases h;exact λk x=>Z38.step0 k x.1 x.2.1 x.2.2.1 x.2.2.2.1 x.2.2.2.2.1
  ·cases h) ((Z38.run k a0 a1).trans h) (λr hr=>Q1 hr)
def Z7.l2:Nat->(List ByteArray)->Int->Int->Option (Sum Bool ((List ByteArray)×Int))
 |0,_,_,_=>none
 |k+1,x3,x4,x5=>bif decide (0<=x4)then(bif decide (x4<(x3.length:Int))then(bif (decide (x5<((x3.getD ((x4:Int).toNat) (⟨#[]⟩:ByteArray)).size:Int)))then(bif decide (0<=x4)then(bif decide (x4<(x3.length:Int))then(bif decide (0<=x5)then(bif decide (x5<((x3.getD ((x4:Int).toNat) (⟨#[]⟩:ByteArray)).size:Int))then((Z66.F (bt (x3.getD ((x4:Int).toNat) (⟨#[]⟩:ByteArray)) (x5:Int).toNat)).bind λr3=>bif (!r3)then(some (.inl false))else(Z7.l2 k x3 x4 (IntKind.wrap .i64 (x5+1))))else none)else none)else none)else none)else(some (.inr (x3,x4))))else none)else none
def Z7.l0:Nat->(List ByteArray)->Int->Option (Sum Bool (List ByteArray))
 |0,_,_=>none
 |k+1,x3,x4=>bif (decide (x4<(x3.length:Int)))then(bif decide (0<=x4)then(bif decide (x4<(x3.length:Int))then((Z17.F k (x3.getD ((x4:Int).toNat) (⟨#[]⟩:ByteArray))).bind λr2=>bif (!r2)then(some (.inl false))else((Z7.l2 k x3 x4 0).bind λy4=>match y4 with|.inl z5=>some (.inl z5)|.inr z5=>Z7.l0 k z5.1 (IntKind.wrap .i64 (z5.2+1))))else none)else none)else(some (.inr x3))
def Z7.F (k:Nat)(a0:ByteArray):Option (Bool):=bif (Qr a0 (⟨#[]⟩:ByteArray))then(some true)else((Z38.F k a0 32).bind λr1=>(Z7.l0 k r1 0).bind λy6=>match y6 with|.inl z7=>some z7|.inr z7=>some (decide ((z7.length:Int)<=2)))
def Z7.C (k:Nat):Cal->Option CArm:=λc=>match c with
 |.f 187=>some (.p [.str,(.int .u8)] _ (λx=>Z38.F k x.1 x.2.1) (λr=>(.fr 9 .str r)))
 |.f 160=>some (.p [.str] _ (λx=>Z17.F k x.1) (λr=>(.t .bool r)))
 |.f 134=>some (.p [(.int .u8)] _ (λx=>Z66.F x.1) (λr=>(.t .bool r)))
 |_=>none
def Z7.sp2:List Sp:=[.own 3 3076 9 .str false true,.t 4 (.int .i64),.t 5 (.int .i64)]
def Z7.sp2_0:List Sp:=[.t 2 .bool]
def Z7.sp2_1:List Sp:=[.own 3 3076 9 .str false true,.t 4 (.int .i64)]
def Z7.A2:LArm:=.two Z7.sp2 Z7.sp2_0 Z7.sp2_1 (Bool) ((List ByteArray)×Int) (λk x=>Z7.l2 k x.1 x.2.1 x.2.2.1) .ret (.exit 2) (λy=>(y,())) (λx=>x.1) (λy=>(y.1,y.2,())) (λx=>(x.1,x.2.1))
def Z7.sp0:List Sp:=[.own 3 3076 9 .str false true,.t 4 (.int .i64)]
def Z7.sp0_0:List Sp:=[.t 2 .bool]
def Z7.sp0_1:List Sp:=[.own 3 3076 9 .str false true]
def Z7.A0:LArm:=.two Z7.sp0 Z7.sp0_0 Z7.sp0_1 (Bool) ((List ByteArray)) (λk x=>Z7.l0 k x.1 x.2.1) .ret (.exit 0) (λy=>(y,())) (λx=>x.1) (λy=>(y,())) (λx=>x.1)
def Z7.L:Nat->Option LArm:=λb=>match b with
 |2=>some Z7.A2
 |0=>some Z7.A0
 |_=>none
theorem Z7.run (k:Nat)(a0:ByteArray):Qm Q0 (Q8 (Z7.C k)) (Q6 42 k Z7.L) Tryz.f162 [.t .str a0] (Q5 (.t .bool))=Z7.F k a0:=by kernel_rfl
theorem Z7.step2 (k:Nat)(x3:List ByteArray)(x4:Int)(x5:Int):Qs Q0 (Q8 (Z7.C k)) (Q6 42 k Z7.L) 2 (Qh Tryz.f162 2) (QA 42 Z7.sp2 (x3,x4,x5,())) (Z7.A2.cont 42 k)=Z7.l2 (k+1) x3 x4 x5:=by kernel_rfl
theorem Z7.step0 (k:Nat)(x3:List ByteArray)(x4:Int):Qs Q0 (Q8 (Z7.C k)) (Q6 42 k Z7.L) 0 (Qh Tryz.f162 0) (QA 42 Z7.sp0 (x3,x4,())) (Z7.A0.cont 42 k)=Z7.l0 (k+1) x3 x4:=by kernel_rfl
theorem Z7.G (hE:EnvOk Tryz.prog Q0)(pv:Nat->Value)(k:Nat):∀cal A,Z7.C k cal=some A->Qc Tryz.prog Q0 pv cal A:=by
 intro cal A h
 unfold Z7.C at h
 split at h
 ·cases h;exact λx y hy=>Z38.good hE pv k x.1 x.2.1 hy
 ·cases h;exact λx y hy=>Z17.good hE pv k x.1 hy
 ·cases h;exact λx y hy=>Z66.good hE pv x.1 hy
 ·cases h
theorem Z7.good (hE:EnvOk Tryz.prog Q0)(pv:Nat->Value)(k:Nat)(a0:ByteArray){y:_}(h:Z7.F k a0=some y):Qd Tryz.prog Q0 pv (.f 162) (Q7 [.str] (a0,())) (.t .bool y):=
 Qj hE (t:=Z7.C) k (λk _=>Z7.G hE pv k) (f:=162) (fn:=Tryz.f162) (by kernel_rfl) rfl (by kernel_rfl) (by kernel_rfl) (lt:=Z7.L) (by kernel_rfl) (λb A h=>by
  unfold Z7.L at h;split at h
  ·cases h;exact⟨by kernel_rfl,by kernel_rfl,by kernel_rfl,λ_=>rfl,λ_=>rfl,λ_=>rfl⟩
  ·cases h;exact⟨by kernel_rfl,by kernel_rfl,by kernel_rfl,λ_=>rfl,λ_=>rfl,λ_=>rfl⟩
  ·cases h) (λb A h=>by
  unfold Z7.L at h;split at h
  ·cases h;exact λk x=>Z7.step2 k x.1 x.2.1 x.2.2.1
  ·cases h;exact λk x=>Z7.step0 k x.1 x.2.1
  ·cases h) ((Z7.run k a0).trans h) (λr hr=>Q1 hr)
def Z31.l0:Nat->Name->Int->Option (Sum Bool Name)
 |0,_,_=>none
 |k+1,x1,x3=>bif (decide (x3<(x1.given.length:Int)))then(bif decide (0<=x3)then(bif decide (x3<(x1.given.length:Int))then((Z17.F k (x1.given.getD (x3:Int).toNat (⟨#[]⟩:ByteArray))).bind λr1=>bif (!r1)then(some (.inl false))else(bif decide (0<=x3)then(bif decide (x3<(x1.given.length:Int))then(bif decide (0<=0)then(bif decide (0<((x1.given.getD (x3:Int).toNat (⟨#[]⟩:ByteArray)).size:Int))then((Z75.F (bt (x1.given.getD (x3:Int).toNat (⟨#[]⟩:ByteArray)) (0:Int).toNat)).bind λr2=>bif (!r2)then(some (.inl false))else(Z31.l0 k x1 (IntKind.wrap .i64 (x3+1))))else none)else none)else none)else none))else none)else none)else(some (.inr x1))
def Z31.F (k:Nat)(a0:Name):Option (Bool):=(Z31.l0 k a0 0).bind λy3=>match y3 with|.inl z4=>some z4|.inr z4=>bif (decide ((z4.given.length:Int)<=3))then((Z7.F k z4.particle).bind λr5=>bif r5 then((Z17.F k z4.family).bind λr6=>bif r6 then(bif decide (0<=0)then(bif decide (0<(z4.family.size:Int))then((Z75.F (bt z4.family (0:Int).toNat)).bind λr7=>bif r7 then(bif (Qr z4.suffix (⟨#[]⟩:ByteArray))then(some true)else((Z17.F k z4.suffix).bind λr8=>some r8))else(some false))else none)else none)else(some false))else(some false))else(some false)
def Z31.C (k:Nat):Cal->Option CArm:=λc=>match c with
 |.f 160=>some (.p [.str] _ (λx=>Z17.F k x.1) (λr=>(.t .bool r)))
 |.f 161=>some (.p [(.int .u8)] _ (λx=>Z75.F x.1) (λr=>(.t .bool r)))
 |.f 162=>some (.p [.str] _ (λx=>Z7.F k x.1) (λr=>(.t .bool r)))
 |_=>none
def Z31.sp0:List Sp:=[.boxT 1 0 .name,.t 3 (.int .i64)]
def Z31.sp0_0:List Sp:=[.t 2 .bool]
def Z31.sp0_1:List Sp:=[.boxT 1 0 .name]
def Z31.A0:LArm:=.two Z31.sp0 Z31.sp0_0 Z31.sp0_1 (Bool) (Name) (λk x=>Z31.l0 k x.1 x.2.1) .ret (.exit 0) (λy=>(y,())) (λx=>x.1) (λy=>(y,())) (λx=>x.1)
def Z31.L:Nat->Option LArm:=λb=>match b with
 |0=>some Z31.A0
 |_=>none
theorem Z31.run (k:Nat)(a0:Name):Qm Q0 (Q8 (Z31.C k)) (Q6 58 k Z31.L) Tryz.f135 [.t .name a0] (Q5 (.t .bool))=Z31.F k a0:=by kernel_rfl
theorem Z31.step0 (k:Nat)(x1:Name)(x3:Int):Qs Q0 (Q8 (Z31.C k)) (Q6 58 k Z31.L) 0 (Qh Tryz.f135 0) (QA 58 Z31.sp0 (x1,x3,())) (Z31.A0.cont 58 k)=Z31.l0 (k+1) x1 x3:=by kernel_rfl
theorem Z31.G (hE:EnvOk Tryz.prog Q0)(pv:Nat->Value)(k:Nat):∀cal A,Z31.C k cal=some A->Qc Tryz.prog Q0 pv cal A:=by
 intro cal A h
 unfold Z31.C at h
 split at h
 ·cases h;exact λx y hy=>Z17.good hE pv k x.1 hy
 ·cases h;exact λx y hy=>Z75.good hE pv x.1 hy
 ·cases h;exact λx y hy=>Z7.good hE pv k x.1 hy
 ·cases h
theorem Z31.good (hE:EnvOk Tryz.prog Q0)(pv:Nat->Value)(k:Nat)(a0:Name){y:_}(h:Z31.F k a0=some y):Qd Tryz.prog Q0 pv (.f 135) (Q7 [.name] (a0,())) (.t .bool y):=
 Qj hE (t:=Z31.C) k (λk _=>Z31.G hE pv k) (f:=135) (fn:=Tryz.f135) (by kernel_rfl) rfl (by kernel_rfl) (by kernel_rfl) (lt:=Z31.L) (by kernel_rfl) (λb A h=>by
  unfold Z31.L at h;split at h
  ·cases h;exact⟨by kernel_rfl,by kernel_rfl,by kernel_rfl,λ_=>rfl,λ_=>rfl,λ_=>rfl⟩
  ·cases h) (λb A h=>by
  unfold Z31.L at h;split at h
  ·cases h;exact λk x=>Z31.step0 k x.1 x.2.1
  ·cases h) ((Z31.run k a0).trans h) (λr hr=>Q1 hr)
def Z27.l0:Nat->(List Name)->Int->Option (Sum Bool (List Name))
 |0,_,_=>none
 |k+1,x0,x3=>bif (decide (x3<(x0.length:Int)))then(bif (decide (x3<=4))then(bif decide (0<=x3)then(bif decide (x3<(x0.length:Int))then((Z31.F k (x0.getD (x3:Int).toNat (Q4 .name))).bind λr1=>bif (!r1)then(some (.inl false))else(Z27.l0 k x0 (IntKind.wrap .i64 (x3+1))))else none)else none)else(some (.inr x0)))else(some (.inr x0))
def Z27.F (k:Nat)(a0:List Name):Option (Bool):=(Z27.l0 k a0 0).bind λy2=>match y2 with|.inl z3=>some z3|.inr z3=>some (decide ((z3.length:Int)<=4))
def Z27.C (k:Nat):Cal->Option CArm:=λc=>match c with
 |.f 135=>some (.p [.name] _ (λx=>Z31.F k x.1) (λr=>(.t .bool r)))
 |_=>none
def Z27.sp0:List Sp:=[.t 0 (.sl .name),.t 3 (.int .i64)]
def Z27.sp0_0:List Sp:=[.t 2 .bool]
def Z27.sp0_1:List Sp:=[.t 0 (.sl .name)]
def Z27.A0:LArm:=.two Z27.sp0 Z27.sp0_0 Z27.sp0_1 (Bool) ((List Name)) (λk x=>Z27.l0 k x.1 x.2.1) .ret (.exit 0) (λy=>(y,())) (λx=>x.1) (λy=>(y,())) (λx=>x.1)
def Z27.L:Nat->Option LArm:=λb=>match b with
 |0=>some Z27.A0
 |_=>none
theorem Z27.run (k:Nat)(a0:List Name):Qm Q0 (Q8 (Z27.C k)) (Q6 23 k Z27.L) Tryz.f94 [.t (.sl .name) a0] (Q5 (.t .bool))=Z27.F k a0:=by kernel_rfl
theorem Z27.step0 (k:Nat)(x0:List Name)(x3:Int):Qs Q0 (Q8 (Z27.C k)) (Q6 23 k Z27.L) 0 (Qh Tryz.f94 0) (QA 23 Z27.sp0 (x0,x3,())) (Z27.A0.cont 23 k)=Z27.l0 (k+1) x0 x3:=by kernel_rfl
theorem Z27.G (hE:EnvOk Tryz.prog Q0)(pv:Nat->Value)(k:Nat):∀cal A,Z27.C k cal=some A->Qc Tryz.prog Q0 pv cal A:=by
 intro cal A h
 unfold Z27.C at h
 split at h
 ·cases h;exact λx y hy=>Z31.good hE pv k x.1 hy
 ·cases h
theorem Z27.good (hE:EnvOk Tryz.prog Q0)(pv:Nat->Value)(k:Nat)(a0:List Name){y:_}(h:Z27.F k a0=some y):Qd Tryz.prog Q0 pv (.f 94) (Q7 [(.sl .name)] (a0,())) (.t .bool y):=
 Qj hE (t:=Z27.C) k (λk _=>Z27.G hE pv k) (f:=94) (fn:=Tryz.f94) (by kernel_rfl) rfl (by kernel_rfl) (by kernel_rfl) (lt:=Z27.L) (by kernel_rfl) (λb A h=>by
  unfold Z27.L at h;split at h
  ·cases h;exact⟨by kernel_rfl,by kernel_rfl,by kernel_rfl,λ_=>rfl,λ_=>rfl,λ_=>rfl⟩
  ·cases h) (λb A h=>by
  unfold Z27.L at h;split at h
  ·cases h;exact λk x=>Z27.step0 k x.1 x.2.1
  ·cases h) ((Z27.run k a0).trans h) (λr hr=>Q1 hr)
def Z28.l0:Nat->ByteArray->Int->Option (Sum Bool ByteArray)
 |0,_,_=>none
 |k+1,x0,x3=>bif (decide (x3<(x0.size:Int)))then(bif decide (0<=x3)then(bif decide (x3<(x0.size:Int))then(bif (decide ((bt x0 (x3:Int).toNat)<32))then(some (.inl false))else(bif decide (0<=x3)then(bif decide (x3<(x0.size:Int))then(bif (decide ((bt x0 (x3:Int).toNat) > 126))then(some (.inl false))else(Z28.l0 k x0 (IntKind.wrap .i64 (x3+1))))else none)else none))else none)else none)else(some (.inr x0))
def Z28.F (k:Nat)(a0:ByteArray):Option (Bool):=bif (decide ((a0.size:Int) > 40))then(some false)else((Z28.l0 k a0 0).bind λy1=>match y1 with|.inl z2=>some z2|.inr z2=>bif (Qr z2 (⟨#[]⟩:ByteArray))then(some true)else(bif decide (0<=0)then(bif decide (0<(z2.size:Int))then(bif ((bt z2 (0:Int).toNat) != 32)then(bif decide (0<=(IntKind.wrap .i64 ((z2.size:Int)-1)))then(bif decide ((IntKind.wrap .i64 ((z2.size:Int)-1))<(z2.size:Int))then(some ((bt z2 ((IntKind.wrap .i64 ((z2.size:Int)-1)):Int).toNat) != 32))else none)else none)else(some false))else none)else none))
def Z28.C (k:Nat):Cal->Option CArm:=λc=>match c with
 |_=>none
def Z28.sp0:List Sp:=[.t 0 .str,.t 3 (.int .i64)]
def Z28.sp0_0:List Sp:=[.t 2 .bool]
def Z28.sp0_1:List Sp:=[.t 0 .str]
def Z28.A0:LArm:=.two Z28.sp0 Z28.sp0_0 Z28.sp0_1 (Bool) (ByteArray) (λk x=>Z28.l0 k x.1 x.2.1) .ret (.exit 0) (λy=>(y,())) (λx=>x.1) (λy=>(y,())) (λx=>x.1)
def Z28.L:Nat->Option LArm:=λb=>match b with
 |0=>some Z28.A0
 |_=>none
theorem Z28.run (k:Nat)(a0:ByteArray):Qm Q0 (Q8 (Z28.C k)) (Q6 38 k Z28.L) Tryz.f95 [.t .str a0] (Q5 (.t .bool))=Z28.F k a0:=by kernel_rfl
theorem Z28.step0 (k:Nat)(x0:ByteArray)(x3:Int):Qs Q0 (Q8 (Z28.C k)) (Q6 38 k Z28.L) 0 (Qh Tryz.f95 0) (QA 38 Z28.sp0 (x0,x3,())) (Z28.A0.cont 38 k)=Z28.l0 (k+1) x0 x3:=by kernel_rfl
theorem Z28.G (hE:EnvOk Tryz.prog Q0)(pv:Nat->Value)(k:Nat):∀cal A,Z28.C k cal=some A->Qc Tryz.prog Q0 pv cal A:=by
 intro cal A h
 unfold Z28.C at h
 cases h
theorem Z28.good (hE:EnvOk Tryz.prog Q0)(pv:Nat->Value)(k:Nat)(a0:ByteArray){y:_}(h:Z28.F k a0=some y):Qd Tryz.prog Q0 pv (.f 95) (Q7 [.str] (a0,())) (.t .bool y):=
 Qj hE (t:=Z28.C) k (λk _=>Z28.G hE pv k) (f:=95) (fn:=Tryz.f95) (by kernel_rfl) rfl (by kernel_rfl) (by kernel_rfl) (lt:=Z28.L) (by kernel_rfl) (λb A h=>by
  unfold Z28.L at h;split at h
  ·cases h;exact⟨by kernel_rfl,by kernel_rfl,by kernel_rfl,λ_=>rfl,λ_=>rfl,λ_=>rfl⟩
  ·cases h) (λb A h=>by
  unfold Z28.L at h;split at h
  ·cases h;exact λk x=>Z28.step0 k x.1 x.2.1
  ·cases h) ((Z28.run k a0).trans h) (λr hr=>Q1 hr)
def Z97.F (a0:Int)(a1:Int):Option (Int):=bif (a1==2)then(bif (4==0)then(none)else(bif ((Int.tmod a0 4)==0)then(bif (100==0)then(none)else(bif ((Int.tmod a0 100) != 0)then(some 29)else(bif (400==0)then(none)else(bif ((Int.tmod a0 400)==0)then(some 29)else(some 28)))))else(bif (400==0)then(none)else(bif ((Int.tmod a0 400)==0)then(some 29)else(some 28)))))else(bif (a1==4)then(some 30)else(bif (a1==6)then(some 30)else(bif (a1==9)then(some 30)else(bif (a1==11)then(some 30)else(some 31)))))
def Z97.C:Cal->Option CArm:=λc=>match c with
 |_=>none
theorem Z97.run (a0:Int)(a1:Int):Qm Q0 (Q8 Z97.C) (Q6 34 0 (λ_=>none)) Tryz.f136 [.t (.int .i64) a0,.t (.int .i64) a1] (Q5 (.t (.int .i64)))=Z97.F a0 a1:=by kernel_rfl
theorem Z97.G (hE:EnvOk Tryz.prog Q0)(pv:Nat->Value):∀cal A,Z97.C cal=some A->Qc Tryz.prog Q0 pv cal A:=by
 intro cal A h
 unfold Z97.C at h
 cases h
theorem Z97.good (hE:EnvOk Tryz.prog Q0)(pv:Nat->Value)(a0:Int)(a1:Int){y:_}(h:Z97.F a0 a1=some y):Qd Tryz.prog Q0 pv (.f 136) (Q7 [(.int .i64),(.int .i64)] (a0,a1,())) (.t (.int .i64) y):=
 Qb hE (Z97.G hE pv) (f:=136) (fn:=Tryz.f136) (by kernel_rfl) rfl (by kernel_rfl) (by kernel_rfl) ((Z97.run a0 a1).trans h) (λr hr=>Q1 hr)
def Z82.F (a0:Date):Option (Bool):=bif ((a0.y==0&&(a0.m==0&&(a0.d==0&&a0.c==false))))then(some true)else((Z56.F a0.y 1 2999).bind λr1=>bif (!r1)then(some false)else((Z56.F a0.m 0 12).bind λr2=>bif (!r2)then(some false)else(bif a0.c then(bif (a0.m==0)then(some (a0.d==0))else(some false))else(bif (a0.m==0)then(some (a0.d==0))else((Z97.F a0.y a0.m).bind λr3=>(Z56.F a0.d 0 r3).bind λr4=>some r4)))))
def Z82.C:Cal->Option CArm:=λc=>match c with
 |.f 28=>some (.p [(.int .i64),(.int .i64),(.int .i64)] _ (λx=>Z56.F x.1 x.2.1 x.2.2.1) (λr=>(.t .bool r)))
 |.f 136=>some (.p [(.int .i64),(.int .i64)] _ (λx=>Z97.F x.1 x.2.1) (λr=>(.t (.int .i64) r)))
 |_=>none
theorem Z82.run (a0:Date):Qm Q0 (Q8 Z82.C) (Q6 44 0 (λ_=>none)) Tryz.f96 [.t .date a0] (Q5 (.t .bool))=Z82.F a0:=by kernel_rfl
theorem Z82.G (hE:EnvOk Tryz.prog Q0)(pv:Nat->Value):∀cal A,Z82.C cal=some A->Qc Tryz.prog Q0 pv cal A:=by
 intro cal A h
 unfold Z82.C at h
 split at h
 ·cases h;exact λx y hy=>Z56.good hE pv x.1 x.2.1 x.2.2.1 hy
 ·cases h;exact λx y hy=>Z97.good hE pv x.1 x.2.1 hy
 ·cases h
theorem Z82.good (hE:EnvOk Tryz.prog Q0)(pv:Nat->Value)(a0:Date){y:_}(h:Z82.F a0=some y):Qd Tryz.prog Q0 pv (.f 96) (Q7 [.date] (a0,())) (.t .bool y):=
 Qb hE (Z82.G hE pv) (f:=96) (fn:=Tryz.f96) (by kernel_rfl) rfl (by kernel_rfl) (by kernel_rfl) ((Z82.run a0).trans h) (λr hr=>Q1 hr)
def Z62.F (k:Nat)(a0:Entry):Option (Bool):=(Z21.F k a0.key).bind λr1=>bif (!r1)then(some false)else((Z56.F a0.kind 1 4).bind λr2=>bif (!r2)then(some false)else((Z27.F k a0.authors).bind λr3=>bif (!r3)then(some false)else((Z27.F k a0.editors).bind λr4=>bif (!r4)then(some false)else((Z28.F k a0.title).bind λr5=>bif (!r5)then(some false)else((Z28.F k a0.container).bind λr6=>bif (!r6)then(some false)else((Z28.F k a0.publisher).bind λr7=>bif (!r7)then(some false)else((Z28.F k a0.pages).bind λr8=>bif (!r8)then(some false)else((Z82.F a0.date).bind λr9=>bif r9 then((Z56.F a0.volume 0 9999).bind λr10=>bif r10 then(bif (Qr a0.cross (⟨#[]⟩:ByteArray))then(some true)else((Z21.F k a0.cross).bind λr11=>bif r11 then(some (!Qr a0.cross a0.key))else(some false)))else(some false))else(some false)))))))))
def Z62.C (k:Nat):Cal->Option CArm:=λc=>match c with
 |.f 93=>some (.p [.str] _ (λx=>Z21.F k x.1) (λr=>(.t .bool r)))
 |.f 28=>some (.p [(.int .i64),(.int .i64),(.int .i64)] _ (λx=>Z56.F x.1 x.2.1 x.2.2.1) (λr=>(.t .bool r)))
 |.f 94=>some (.p [(.sl .name)] _ (λx=>Z27.F k x.1) (λr=>(.t .bool r)))
 |.f 95=>some (.p [.str] _ (λx=>Z28.F k x.1) (λr=>(.t .bool r)))
 |.f 96=>some (.p [.date] _ (λx=>Z82.F x.1) (λr=>(.t .bool r)))
 |_=>none
theorem Z62.run (k:Nat)(a0:Entry):Qm Q0 (Q8 (Z62.C k)) (Q6 72 0 (λ_=>none)) Tryz.f56 [.t .entry a0] (Q5 (.t .bool))=Z62.F k a0:=by kernel_rfl
theorem Z62.G (hE:EnvOk Tryz.prog Q0)(pv:Nat->Value)(k:Nat):∀cal A,Z62.C k cal=some A->Qc Tryz.prog Q0 pv cal A:=by
 intro cal A h
 unfold Z62.C at h
 split at h
 ·cases h;exact λx y hy=>Z21.good hE pv k x.1 hy
 ·cases h;exact λx y hy=>Z56.good hE pv x.1 x.2.1 x.2.2.1 hy
 ·cases h;exact λx y hy=>Z27.good hE pv k x.1 hy
 ·cases h;exact λx y hy=>Z28.good hE pv k x.1 hy
 ·cases h;exact λx y hy=>Z82.good hE pv x.1 hy
 ·cases h
theorem Z62.good (hE:EnvOk Tryz.prog Q0)(pv:Nat->Value)(k:Nat)(a0:Entry){y:_}(h:Z62.F k a0=some y):Qd Tryz.prog Q0 pv (.f 56) (Q7 [.entry] (a0,())) (.t .bool y):=
 Qb hE (Z62.G hE pv k) (f:=56) (fn:=Tryz.f56) (by kernel_rfl) rfl (by kernel_rfl) (by kernel_rfl) ((Z62.run k a0).trans h) (λr hr=>Q1 hr)
def Z9.l0:Nat->Library->Int->Option (Sum Bool Unit)
 |0,_,_=>none
 |k+1,x1,x3=>bif (decide (x3<(x1.entries.length:Int)))then(bif decide (0<=x3)then(bif decide (x3<(x1.entries.length:Int))then((Z62.F k (x1.entries.getD (x3:Int).toNat (Q4 .entry))).bind λr1=>bif (!r1)then(some (.inl false))else(bif (decide (x3 > 0))then(bif decide (0<=(IntKind.wrap .i64 (x3-1)))then(bif decide ((IntKind.wrap .i64 (x3-1))<(x1.entries.length:Int))then(bif decide (0<=x3)then(bif decide (x3<(x1.entries.length:Int))then(bif (!ltS ((x1.entries.getD ((IntKind.wrap .i64 (x3-1)):Int).toNat (Q4 .entry)).key) ((x1.entries.getD (x3:Int).toNat (Q4 .entry)).key))then(some (.inl false))else(Z9.l0 k x1 (IntKind.wrap .i64 (x3+1))))else none)else none)else none)else none)else(Z9.l0 k x1 (IntKind.wrap .i64 (x3+1)))))else none)else none)else(some (.inr ()))
def Z9.F (k:Nat)(a0:Library):Option (Bool):=bif (decide ((a0.entries.length:Int) > 8))then(some false)else((Z9.l0 k a0 0).bind λy2=>match y2 with|.inl z3=>some z3|.inr z3=>some true)
def Z9.C (k:Nat):Cal->Option CArm:=λc=>match c with
 |.f 56=>some (.p [.entry] _ (λx=>Z62.F k x.1) (λr=>(.t .bool r)))
 |_=>none
def Z9.sp0:List Sp:=[.boxT 1 0 .lib,.t 3 (.int .i64)]
def Z9.sp0_0:List Sp:=[.t 2 .bool]
def Z9.sp0_1:List Sp:=[]
def Z9.A0:LArm:=.two Z9.sp0 Z9.sp0_0 Z9.sp0_1 (Bool) (Unit) (λk x=>Z9.l0 k x.1 x.2.1) .ret (.exit 0) (λy=>(y,())) (λx=>x.1) (λy=>()) (λx=>())
def Z9.L:Nat->Option LArm:=λb=>match b with
 |0=>some Z9.A0
 |_=>none
theorem Z9.run (k:Nat)(a0:Library):Qm Q0 (Q8 (Z9.C k)) (Q6 42 k Z9.L) Tryz.f27 [.t .lib a0] (Q5 (.t .bool))=Z9.F k a0:=by kernel_rfl
theorem Z9.step0 (k:Nat)(x1:Library)(x3:Int):Qs Q0 (Q8 (Z9.C k)) (Q6 42 k Z9.L) 0 (Qh Tryz.f27 0) (QA 42 Z9.sp0 (x1,x3,())) (Z9.A0.cont 42 k)=Z9.l0 (k+1) x1 x3:=by kernel_rfl
theorem Z9.G (hE:EnvOk Tryz.prog Q0)(pv:Nat->Value)(k:Nat):∀cal A,Z9.C k cal=some A->Qc Tryz.prog Q0 pv cal A:=by
 intro cal A h
 unfold Z9.C at h
 split at h
 ·cases h;exact λx y hy=>Z62.good hE pv k x.1 hy
 ·cases h
theorem Z9.good (hE:EnvOk Tryz.prog Q0)(pv:Nat->Value)(k:Nat)(a0:Library){y:_}(h:Z9.F k a0=some y):Qd Tryz.prog Q0 pv (.f 27) (Q7 [.lib] (a0,())) (.t .bool y):=
 Qj hE (t:=Z9.C) k (λk _=>Z9.G hE pv k) (f:=27) (fn:=Tryz.f27) (by kernel_rfl) rfl (by kernel_rfl) (by kernel_rfl) (lt:=Z9.L) (by kernel_rfl) (λb A h=>by
  unfold Z9.L at h;split at h
  ·cases h;exact⟨by kernel_rfl,by kernel_rfl,by kernel_rfl,λ_=>rfl,λ_=>rfl,λ_=>rfl⟩
  ·cases h) (λb A h=>by
  unfold Z9.L at h;split at h
  ·cases h;exact λk x=>Z9.step0 k x.1 x.2.1
  ·cases h) ((Z9.run k a0).trans h) (λr hr=>Q1 hr)
def Z67.F (a0:Int)(a1:Int):Option (Int):=bif (decide (a0<a1))then(some a0)else(some a1)
def Z67.C:Cal->Option CArm:=λc=>match c with
 |_=>none
theorem Z67.run (a0:Int)(a1:Int):Qm Q0 (Q8 Z67.C) (Q6 10 0 (λ_=>none)) Tryz.f30 [.t (.int .i64) a0,.t (.int .i64) a1] (Q5 (.t (.int .i64)))=Z67.F a0 a1:=by kernel_rfl
theorem Z67.G (hE:EnvOk Tryz.prog Q0)(pv:Nat->Value):∀cal A,Z67.C cal=some A->Qc Tryz.prog Q0 pv cal A:=by
 intro cal A h
 unfold Z67.C at h
 cases h
theorem Z67.good (hE:EnvOk Tryz.prog Q0)(pv:Nat->Value)(a0:Int)(a1:Int){y:_}(h:Z67.F a0 a1=some y):Qd Tryz.prog Q0 pv (.f 30) (Q7 [(.int .i64),(.int .i64)] (a0,a1,())) (.t (.int .i64) y):=
 Qb hE (Z67.G hE pv) (f:=30) (fn:=Tryz.f30) (by kernel_rfl) rfl (by kernel_rfl) (by kernel_rfl) ((Z67.run a0 a1).trans h) (λr hr=>Q1 hr)
def Z4.l0:Nat->ByteArray->ByteArray->(List Int)->Int->Option (ByteArray×ByteArray× (List Int))
 |0,_,_,_,_=>none
 |k+1,x0,x1,x5,x6=>bif (decide (x6<=(x1.size:Int)))then(bif room (x5.length+([x6]:List Int).length) (.int .i64)then(Z4.l0 k x0 x1 (x5++([x6]:List Int)) (IntKind.wrap .i64 (x6+1)))else none)else(some (x0,x1,x5))
def Z4.l4:Nat->ByteArray->ByteArray->(List Int)->Int->(List Int)->Int->Option (ByteArray×ByteArray×Int× (List Int))
 |0,_,_,_,_,_,_=>none
 |k+1,x0,x1,x5,x7,x8,x9=>bif (decide (x9<=(x1.size:Int)))then(bif decide (0<=x9)then(bif decide (x9<(x5.length:Int))then(bif decide (0<=(IntKind.wrap .i64 (x9-1)))then(bif decide ((IntKind.wrap .i64 (x9-1))<(x8.length:Int))then((Z67.F (x5.getD ((x9:Int).toNat) 0) (x8.getD (((IntKind.wrap .i64 (x9-1)):Int).toNat) 0)).bind λr2=>bif decide (0<=(IntKind.wrap .i64 (x7-1)))then(bif decide ((IntKind.wrap .i64 (x7-1))<(x0.size:Int))then(bif decide (0<=(IntKind.wrap .i64 (x9-1)))then(bif decide ((IntKind.wrap .i64 (x9-1))<(x1.size:Int))then(bif ((bt x0 ((IntKind.wrap .i64 (x7-1)):Int).toNat)==(bt x1 ((IntKind.wrap .i64 (x9-1)):Int).toNat))then(bif decide (0<=(IntKind.wrap .i64 (x9-1)))then(bif decide ((IntKind.wrap .i64 (x9-1))<(x5.length:Int))then((Z67.F (IntKind.wrap .i64 (r2+1)) (x5.getD (((IntKind.wrap .i64 (x9-1)):Int).toNat) 0)).bind λr3=>bif room (x8.length+([r3]:List Int).length) (.int .i64)then(Z4.l4 k x0 x1 x5 x7 (x8++([r3]:List Int)) (IntKind.wrap .i64 (x9+1)))else none)else none)else none)else(bif decide (0<=(IntKind.wrap .i64 (x9-1)))then(bif decide ((IntKind.wrap .i64 (x9-1))<(x5.length:Int))then((Z67.F (IntKind.wrap .i64 (r2+1)) (IntKind.wrap .i64 ((x5.getD (((IntKind.wrap .i64 (x9-1)):Int).toNat) 0)+1))).bind λr4=>bif room (x8.length+([r4]:List Int).length) (.int .i64)then(Z4.l4 k x0 x1 x5 x7 (x8++([r4]:List Int)) (IntKind.wrap .i64 (x9+1)))else none)else none)else none))else none)else none)else none)else none)else none)else none)else none)else none)else(some (x0,x1,x7,x8))
def Z4.l2:Nat->ByteArray->ByteArray->(List Int)->Int->Option (ByteArray× (List Int))
 |0,_,_,_,_=>none
 |k+1,x0,x1,x5,x7=>bif (decide (x7<=(x0.size:Int)))then((Z4.l4 k x0 x1 x5 x7 ([x7]:List Int) 1).bind λy5=>Z4.l2 k y5.1 y5.2.1 y5.2.2.2 (IntKind.wrap .i64 (y5.2.2.1+1)))else(some (x1,x5))
def Z4.F (k:Nat)(a0:ByteArray)(a1:ByteArray):Option (Int):=(Z4.l0 k a0 a1 ([]:List Int) 0).bind λy1=>(Z4.l2 k y1.1 y1.2.1 y1.2.2 1).bind λy6=>bif decide (0<=(y6.1.size:Int))then(bif decide ((y6.1.size:Int)<(y6.2.length:Int))then(some (y6.2.getD (((y6.1.size:Int):Int).toNat) 0))else none)else none
def Z4.C (k:Nat):Cal->Option CArm:=λc=>match c with
 |.f 30=>some (.p [(.int .i64),(.int .i64)] _ (λx=>Z67.F x.1 x.2.1) (λr=>(.t (.int .i64) r)))
 |_=>none
def Z4.sp0:List Sp:=[.t 0 .str,.t 1 .str,.own 5 1024 3 (.int .i64) false true,.t 6 (.int .i64)]
def Z4.sp0_0:List Sp:=[.t 0 .str,.t 1 .str,.own 5 1024 3 (.int .i64) false true]
def Z4.A0:LArm:=.one Z4.sp0 Z4.sp0_0 (ByteArray×ByteArray× (List Int)) (λk x=>Z4.l0 k x.1 x.2.1 x.2.2.1 x.2.2.2.1) (.exit 0) (λy=>(y.1,y.2.1,y.2.2,())) (λx=>(x.1,x.2.1,x.2.2.1))
def Z4.sp4:List Sp:=[.t 0 .str,.t 1 .str,.own 5 1024 3 (.int .i64) false true,.t 7 (.int .i64),.own 8 9220 3 (.int .i64) false true,.t 9 (.int .i64)]
def Z4.sp4_0:List Sp:=[.t 0 .str,.t 1 .str,.t 7 (.int .i64),.own 8 9220 3 (.int .i64) false true]
def Z4.A4:LArm:=.one Z4.sp4 Z4.sp4_0 (ByteArray×ByteArray×Int× (List Int)) (λk x=>Z4.l4 k x.1 x.2.1 x.2.2.1 x.2.2.2.1 x.2.2.2.2.1 x.2.2.2.2.2.1) (.exit 4) (λy=>(y.1,y.2.1,y.2.2.1,y.2.2.2,())) (λx=>(x.1,x.2.1,x.2.2.1,x.2.2.2.1))
def Z4.sp2:List Sp:=[.t 0 .str,.t 1 .str,.own 5 1024 3 (.int .i64) false true,.t 7 (.int .i64)]
def Z4.sp2_0:List Sp:=[.t 1 .str,.own 5 1024 3 (.int .i64) false true]
def Z4.A2:LArm:=.one Z4.sp2 Z4.sp2_0 (ByteArray× (List Int)) (λk x=>Z4.l2 k x.1 x.2.1 x.2.2.1 x.2.2.2.1) (.exit 2) (λy=>(y.1,y.2,())) (λx=>(x.1,x.2.1))
def Z4.L:Nat->Option LArm:=λb=>match b with
 |0=>some Z4.A0
 |4=>some Z4.A4
 |2=>some Z4.A2
 |_=>none
theorem Z4.run (k:Nat)(a0:ByteArray)(a1:ByteArray):Qm Q0 (Q8 (Z4.C k)) (Q6 81 k Z4.L) Tryz.f102 [.t .str a0,.t .str a1] (Q5 (.t (.int .i64)))=Z4.F k a0 a1:=by kernel_rfl
theorem Z4.step0 (k:Nat)(x0:ByteArray)(x1:ByteArray)(x5:List Int)(x6:Int):Qs Q0 (Q8 (Z4.C k)) (Q6 81 k Z4.L) 0 (Qh Tryz.f102 0) (QA 81 Z4.sp0 (x0,x1,x5,x6,())) (Z4.A0.cont 81 k)=Z4.l0 (k+1) x0 x1 x5 x6:=by kernel_rfl
theorem Z4.step4 (k:Nat)(x0:ByteArray)(x1:ByteArray)(x5:List Int)(x7:Int)(x8:List Int)(x9:Int):Qs Q0 (Q8 (Z4.C k)) (Q6 81 k Z4.L) 4 (Qh Tryz.f102 4) (QA 81 Z4.sp4 (x0,x1,x5,x7,x8,x9,())) (Z4.A4.cont 81 k)=Z4.l4 (k+1) x0 x1 x5 x7 x8 x9:=by kernel_rfl
theorem Z4.step2 (k:Nat)(x0:ByteArray)(x1:ByteArray)(x5:List Int)(x7:Int):Qs Q0 (Q8 (Z4.C k)) (Q6 81 k Z4.L) 2 (Qh Tryz.f102 2) (QA 81 Z4.sp2 (x0,x1,x5,x7,())) (Z4.A2.cont 81 k)=Z4.l2 (k+1) x0 x1 x5 x7:=by kernel_rfl
theorem Z4.G (hE:EnvOk Tryz.prog Q0)(pv:Nat->Value)(k:Nat):∀cal A,Z4.C k cal=some A->Qc Tryz.prog Q0 pv cal A:=by
 intro cal A h
 unfold Z4.C at h
 split at h
 ·cases h;exact λx y hy=>Z67.good hE pv x.1 x.2.1 hy
 ·cases h
theorem Z4.good (hE:EnvOk Tryz.prog Q0)(pv:Nat->Value)(k:Nat)(a0:ByteArray)(a1:ByteArray){y:_}(h:Z4.F k a0 a1=some y):Qd Tryz.prog Q0 pv (.f 102) (Q7 [.str,.str] (a0,a1,())) (.t (.int .i64) y):=
 Qj hE (t:=Z4.C) k (λk _=>Z4.G hE pv k) (f:=102) (fn:=Tryz.f102) (by kernel_rfl) rfl (by kernel_rfl) (by kernel_rfl) (lt:=Z4.L) (by kernel_rfl) (λb A h=>by
  unfold Z4.L at h;split at h
  ·cases h;exact⟨by kernel_rfl,by kernel_rfl,λ_=>rfl,λ_=>rfl⟩
  ·cases h;exact⟨by kernel_rfl,by kernel_rfl,λ_=>rfl,λ_=>rfl⟩
  ·cases h;exact⟨by kernel_rfl,by kernel_rfl,λ_=>rfl,λ_=>rfl⟩
  ·cases h) (λb A h=>by
  unfold Z4.L at h;split at h
  ·cases h;exact λk x=>Z4.step0 k x.1 x.2.1 x.2.2.1 x.2.2.2.1
  ·cases h;exact λk x=>Z4.step4 k x.1 x.2.1 x.2.2.1 x.2.2.2.1 x.2.2.2.2.1 x.2.2.2.2.2.1
  ·cases h;exact λk x=>Z4.step2 k x.1 x.2.1 x.2.2.1 x.2.2.2.1
  ·cases h) ((Z4.run k a0 a1).trans h) (λr hr=>Q1 hr)
def Z29.l0:Nat->(List ByteArray)->ByteArray->Int->Option (ByteArray)
 |0,_,_,_=>none
 |k+1,x0,x3,x4=>bif (decide (x4<(x0.length:Int)))then(bif (decide (x4 > 0))then(bif Nat.ble (x3.size+(⟨#[32]⟩:ByteArray).size) 9223372036854775807 then(bif decide (0<=x4)then(bif decide (x4<(x0.length:Int))then(bif Nat.ble ((x3++(⟨#[32]⟩:ByteArray)).size+(x0.getD (x4:Int).toNat (⟨#[]⟩:ByteArray)).size) 9223372036854775807 then(Z29.l0 k x0 ((x3++(⟨#[32]⟩:ByteArray))++(x0.getD (x4:Int).toNat (⟨#[]⟩:ByteArray))) (IntKind.wrap .i64 (x4+1)))else none)else none)else none)else none)else(bif decide (0<=x4)then(bif decide (x4<(x0.length:Int))then(bif Nat.ble (x3.size+(x0.getD (x4:Int).toNat (⟨#[]⟩:ByteArray)).size) 9223372036854775807 then(Z29.l0 k x0 (x3++(x0.getD (x4:Int).toNat (⟨#[]⟩:ByteArray))) (IntKind.wrap .i64 (x4+1)))else none)else none)else none))else(some x3)
def Z29.F (k:Nat)(a0:List ByteArray):Option (ByteArray):=(Z29.l0 k a0 (⟨#[]⟩:ByteArray) 0).bind λy1=>some y1
def Z29.C (k:Nat):Cal->Option CArm:=λc=>match c with
 |_=>none
def Z29.sp0:List Sp:=[.t 0 (.sl .str),.t 3 .str,.t 4 (.int .i64)]
def Z29.sp0_0:List Sp:=[.t 3 .str]
def Z29.A0:LArm:=.one Z29.sp0 Z29.sp0_0 (ByteArray) (λk x=>Z29.l0 k x.1 x.2.1 x.2.2.1) (.exit 0) (λy=>(y,())) (λx=>x.1)
def Z29.L:Nat->Option LArm:=λb=>match b with
 |0=>some Z29.A0
 |_=>none
theorem Z29.run (k:Nat)(a0:List ByteArray):Qm Q0 (Q8 (Z29.C k)) (Q6 22 k Z29.L) Tryz.f139 [.t (.sl .str) a0] (Q5 (.t .str))=Z29.F k a0:=by kernel_rfl
theorem Z29.step0 (k:Nat)(x0:List ByteArray)(x3:ByteArray)(x4:Int):Qs Q0 (Q8 (Z29.C k)) (Q6 22 k Z29.L) 0 (Qh Tryz.f139 0) (QA 22 Z29.sp0 (x0,x3,x4,())) (Z29.A0.cont 22 k)=Z29.l0 (k+1) x0 x3 x4:=by kernel_rfl
theorem Z29.G (hE:EnvOk Tryz.prog Q0)(pv:Nat->Value)(k:Nat):∀cal A,Z29.C k cal=some A->Qc Tryz.prog Q0 pv cal A:=by
 intro cal A h
 unfold Z29.C at h
 cases h
theorem Z29.good (hE:EnvOk Tryz.prog Q0)(pv:Nat->Value)(k:Nat)(a0:List ByteArray){y:_}(h:Z29.F k a0=some y):Qd Tryz.prog Q0 pv (.f 139) (Q7 [(.sl .str)] (a0,())) (.t .str y):=
 Qj hE (t:=Z29.C) k (λk _=>Z29.G hE pv k) (f:=139) (fn:=Tryz.f139) (by kernel_rfl) rfl (by kernel_rfl) (by kernel_rfl) (lt:=Z29.L) (by kernel_rfl) (λb A h=>by
  unfold Z29.L at h;split at h
  ·cases h;exact⟨by kernel_rfl,by kernel_rfl,λ_=>rfl,λ_=>rfl⟩
  ·cases h) (λb A h=>by
  unfold Z29.L at h;split at h
  ·cases h;exact λk x=>Z29.step0 k x.1 x.2.1 x.2.2.1
  ·cases h) ((Z29.run k a0).trans h) (λr hr=>Q1 hr)
def Z77.F (a0:Int):Option (Bool):=bif (decide (a0 ≥ 65))then(bif (decide (a0<=90))then(some true)else(bif (decide (a0 ≥ 97))then(some (decide (a0<=122)))else(some false)))else(bif (decide (a0 ≥ 97))then(some (decide (a0<=122)))else(some false))
def Z77.C:Cal->Option CArm:=λc=>match c with
 |_=>none
theorem Z77.run (a0:Int):Qm Q0 (Q8 Z77.C) (Q6 17 0 (λ_=>none)) Tryz.f58 [.t (.int .u8) a0] (Q5 (.t .bool))=Z77.F a0:=by kernel_rfl
theorem Z77.G (hE:EnvOk Tryz.prog Q0)(pv:Nat->Value):∀cal A,Z77.C cal=some A->Qc Tryz.prog Q0 pv cal A:=by
 intro cal A h
 unfold Z77.C at h
 cases h
theorem Z77.good (hE:EnvOk Tryz.prog Q0)(pv:Nat->Value)(a0:Int){y:_}(h:Z77.F a0=some y):Qd Tryz.prog Q0 pv (.f 58) (Q7 [(.int .u8)] (a0,())) (.t .bool y):=
 Qb hE (Z77.G hE pv) (f:=58) (fn:=Tryz.f58) (by kernel_rfl) rfl (by kernel_rfl) (by kernel_rfl) ((Z77.run a0).trans h) (λr hr=>Q1 hr)
def Z73.F (a0:Int):Option (Int):=bif (decide (a0 ≥ 65))then(bif (decide (a0<=90))then(some (IntKind.wrap .u8 (a0+32)))else(some a0))else(some a0)
def Z73.C:Cal->Option CArm:=λc=>match c with
 |_=>none
theorem Z73.run (a0:Int):Qm Q0 (Q8 Z73.C) (Q6 12 0 (λ_=>none)) Tryz.f97 [.t (.int .u8) a0] (Q5 (.t (.int .u8)))=Z73.F a0:=by kernel_rfl
theorem Z73.G (hE:EnvOk Tryz.prog Q0)(pv:Nat->Value):∀cal A,Z73.C cal=some A->Qc Tryz.prog Q0 pv cal A:=by
 intro cal A h
 unfold Z73.C at h
 cases h
theorem Z73.good (hE:EnvOk Tryz.prog Q0)(pv:Nat->Value)(a0:Int){y:_}(h:Z73.F a0=some y):Qd Tryz.prog Q0 pv (.f 97) (Q7 [(.int .u8)] (a0,())) (.t (.int .u8) y):=
 Qb hE (Z73.G hE pv) (f:=97) (fn:=Tryz.f97) (by kernel_rfl) rfl (by kernel_rfl) (by kernel_rfl) ((Z73.run a0).trans h) (λr hr=>Q1 hr)
def Z98.F (a0:Int):Option (Bool):=bif (decide (a0 ≥ 48))then(some (decide (a0<=57)))else(some false)
def Z98.C:Cal->Option CArm:=λc=>match c with
 |_=>none
theorem Z98.run (a0:Int):Qm Q0 (Q8 Z98.C) (Q6 9 0 (λ_=>none)) Tryz.f169 [.t (.int .u8) a0] (Q5 (.t .bool))=Z98.F a0:=by kernel_rfl
theorem Z98.G (hE:EnvOk Tryz.prog Q0)(pv:Nat->Value):∀cal A,Z98.C cal=some A->Qc Tryz.prog Q0 pv cal A:=by
 intro cal A h
 unfold Z98.C at h
 cases h
theorem Z98.good (hE:EnvOk Tryz.prog Q0)(pv:Nat->Value)(a0:Int){y:_}(h:Z98.F a0=some y):Qd Tryz.prog Q0 pv (.f 169) (Q7 [(.int .u8)] (a0,())) (.t .bool y):=
 Qb hE (Z98.G hE pv) (f:=169) (fn:=Tryz.f169) (by kernel_rfl) rfl (by kernel_rfl) (by kernel_rfl) ((Z98.run a0).trans h) (λr hr=>Q1 hr)
def Z15.l0:Nat->ByteArray->(List ByteArray)->(List Int)->Int->Option ((List ByteArray))
 |0,_,_,_,_=>none
 |k+1,x0,x3,x4,x5=>bif (decide (x5<=(x0.size:Int)))then(bif (x5==(x0.size:Int))then(bif (decide ((x4.length:Int) > 0))then(bif room (x3.length+([(QY x4)]:List ByteArray).length) .str then(Z15.l0 k x0 (x3++([(QY x4)]:List ByteArray)) ([]:List Int) (IntKind.wrap .i64 (x5+1)))else none)else(Z15.l0 k x0 x3 ([]:List Int) (IntKind.wrap .i64 (x5+1))))else(bif decide (0<=x5)then(bif decide (x5<(x0.size:Int))then(bif ((bt x0 (x5:Int).toNat)==32)then(bif (decide ((x4.length:Int) > 0))then(bif room (x3.length+([(QY x4)]:List ByteArray).length) .str then(Z15.l0 k x0 (x3++([(QY x4)]:List ByteArray)) ([]:List Int) (IntKind.wrap .i64 (x5+1)))else none)else(Z15.l0 k x0 x3 ([]:List Int) (IntKind.wrap .i64 (x5+1))))else(bif decide (0<=x5)then(bif decide (x5<(x0.size:Int))then((Z77.F (bt x0 (x5:Int).toNat)).bind λr1=>bif r1 then(bif decide (0<=x5)then(bif decide (x5<(x0.size:Int))then((Z73.F (bt x0 (x5:Int).toNat)).bind λr2=>bif room (x4.length+([r2]:List Int).length) (.int .u8)then(Z15.l0 k x0 x3 (x4++([r2]:List Int)) (IntKind.wrap .i64 (x5+1)))else none)else none)else none)else(bif decide (0<=x5)then(bif decide (x5<(x0.size:Int))then((Z98.F (bt x0 (x5:Int).toNat)).bind λr3=>bif r3 then(bif decide (0<=x5)then(bif decide (x5<(x0.size:Int))then((Z73.F (bt x0 (x5:Int).toNat)).bind λr4=>bif room (x4.length+([r4]:List Int).length) (.int .u8)then(Z15.l0 k x0 x3 (x4++([r4]:List Int)) (IntKind.wrap .i64 (x5+1)))else none)else none)else none)else(Z15.l0 k x0 x3 x4 (IntKind.wrap .i64 (x5+1))))else none)else none))else none)else none))else none)else none))else(some x3)
def Z15.F (k:Nat)(a0:ByteArray):Option (List ByteArray):=(Z15.l0 k a0 ([]:List ByteArray) ([]:List Int) 0).bind λy5=>some y5
def Z15.C (k:Nat):Cal->Option CArm:=λc=>match c with
 |.f 58=>some (.p [(.int .u8)] _ (λx=>Z77.F x.1) (λr=>(.t .bool r)))
 |.f 97=>some (.p [(.int .u8)] _ (λx=>Z73.F x.1) (λr=>(.t (.int .u8) r)))
 |.f 169=>some (.p [(.int .u8)] _ (λx=>Z98.F x.1) (λr=>(.t .bool r)))
 |_=>none
def Z15.sp0:List Sp:=[.t 0 .str,.own 3 1024 9 .str false true,.own 4 2048 5 (.int .u8) false true,.t 5 (.int .i64)]
def Z15.sp0_0:List Sp:=[.own 3 1024 9 .str false true]
def Z15.A0:LArm:=.one Z15.sp0 Z15.sp0_0 ((List ByteArray)) (λk x=>Z15.l0 k x.1 x.2.1 x.2.2.1 x.2.2.2.1) (.exit 0) (λy=>(y,())) (λx=>x.1)
def Z15.L:Nat->Option LArm:=λb=>match b with
 |0=>some Z15.A0
 |_=>none
theorem Z15.run (k:Nat)(a0:ByteArray):Qm Q0 (Q8 (Z15.C k)) (Q6 51 k Z15.L) Tryz.f140 [.t .str a0] (Q5 (.fr 9 .str))=Z15.F k a0:=by kernel_rfl
theorem Z15.step0 (k:Nat)(x0:ByteArray)(x3:List ByteArray)(x4:List Int)(x5:Int):Qs Q0 (Q8 (Z15.C k)) (Q6 51 k Z15.L) 0 (Qh Tryz.f140 0) (QA 51 Z15.sp0 (x0,x3,x4,x5,())) (Z15.A0.cont 51 k)=Z15.l0 (k+1) x0 x3 x4 x5:=by kernel_rfl
theorem Z15.G (hE:EnvOk Tryz.prog Q0)(pv:Nat->Value)(k:Nat):∀cal A,Z15.C k cal=some A->Qc Tryz.prog Q0 pv cal A:=by
 intro cal A h
 unfold Z15.C at h
 split at h
 ·cases h;exact λx y hy=>Z77.good hE pv x.1 hy
 ·cases h;exact λx y hy=>Z73.good hE pv x.1 hy
 ·cases h;exact λx y hy=>Z98.good hE pv x.1 hy
 ·cases h
theorem Z15.good (hE:EnvOk Tryz.prog Q0)(pv:Nat->Value)(k:Nat)(a0:ByteArray){y:_}(h:Z15.F k a0=some y):Qd Tryz.prog Q0 pv (.f 140) (Q7 [.str] (a0,())) (.fr 9 .str y):=
 Qj hE (t:=Z15.C) k (λk _=>Z15.G hE pv k) (f:=140) (fn:=Tryz.f140) (by kernel_rfl) rfl (by kernel_rfl) (by kernel_rfl) (lt:=Z15.L) (by kernel_rfl) (λb A h=>by
  unfold Z15.L at h;split at h
  ·cases h;exact⟨by kernel_rfl,by kernel_rfl,λ_=>rfl,λ_=>rfl⟩
  ·cases h) (λb A h=>by
  unfold Z15.L at h;split at h
  ·cases h;exact λk x=>Z15.step0 k x.1 x.2.1 x.2.2.1 x.2.2.2.1
  ·cases h) ((Z15.run k a0).trans h) (λr hr=>Q1 hr)
def Z83.F (k:Nat)(a0:ByteArray):Option (ByteArray):=(Z15.F k a0).bind λr1=>(Z29.F k r1).bind λr2=>some r2
def Z83.C (k:Nat):Cal->Option CArm:=λc=>match c with
 |.f 140=>some (.p [.str] _ (λx=>Z15.F k x.1) (λr=>(.fr 9 .str r)))
 |.f 139=>some (.p [(.sl .str)] _ (λx=>Z29.F k x.1) (λr=>(.t .str r)))
 |_=>none
theorem Z83.run (k:Nat)(a0:ByteArray):Qm Q0 (Q8 (Z83.C k)) (Q6 6 0 (λ_=>none)) Tryz.f103 [.t .str a0] (Q5 (.t .str))=Z83.F k a0:=by kernel_rfl
theorem Z83.G (hE:EnvOk Tryz.prog Q0)(pv:Nat->Value)(k:Nat):∀cal A,Z83.C k cal=some A->Qc Tryz.prog Q0 pv cal A:=by
 intro cal A h
 unfold Z83.C at h
 split at h
 ·cases h;exact λx y hy=>Z15.good hE pv k x.1 hy
 ·cases h;exact λx y hy=>Z29.good hE pv k x.1 hy
 ·cases h
theorem Z83.good (hE:EnvOk Tryz.prog Q0)(pv:Nat->Value)(k:Nat)(a0:ByteArray){y:_}(h:Z83.F k a0=some y):Qd Tryz.prog Q0 pv (.f 103) (Q7 [.str] (a0,())) (.t .str y):=
 Qb hE (Z83.G hE pv k) (f:=103) (fn:=Tryz.f103) (by kernel_rfl) rfl (by kernel_rfl) (by kernel_rfl) ((Z83.run k a0).trans h) (λr hr=>Q1 hr)
def Z63.F (k:Nat)(a0:ByteArray)(a1:ByteArray):Option (Int):=(Z83.F k a0).bind λr1=>(Z83.F k a1).bind λr2=>(Z4.F k r1 r2).bind λr3=>some r3
def Z63.C (k:Nat):Cal->Option CArm:=λc=>match c with
 |.f 103=>some (.p [.str] _ (λx=>Z83.F k x.1) (λr=>(.t .str r)))
 |.f 102=>some (.p [.str,.str] _ (λx=>Z4.F k x.1 x.2.1) (λr=>(.t (.int .i64) r)))
 |_=>none
theorem Z63.run (k:Nat)(a0:ByteArray)(a1:ByteArray):Qm Q0 (Q8 (Z63.C k)) (Q6 10 0 (λ_=>none)) Tryz.f63 [.t .str a0,.t .str a1] (Q5 (.t (.int .i64)))=Z63.F k a0 a1:=by kernel_rfl
theorem Z63.G (hE:EnvOk Tryz.prog Q0)(pv:Nat->Value)(k:Nat):∀cal A,Z63.C k cal=some A->Qc Tryz.prog Q0 pv cal A:=by
 intro cal A h
 unfold Z63.C at h
 split at h
 ·cases h;exact λx y hy=>Z83.good hE pv k x.1 hy
 ·cases h;exact λx y hy=>Z4.good hE pv k x.1 x.2.1 hy
 ·cases h
theorem Z63.good (hE:EnvOk Tryz.prog Q0)(pv:Nat->Value)(k:Nat)(a0:ByteArray)(a1:ByteArray){y:_}(h:Z63.F k a0 a1=some y):Qd Tryz.prog Q0 pv (.f 63) (Q7 [.str,.str] (a0,a1,())) (.t (.int .i64) y):=
 Qb hE (Z63.G hE pv k) (f:=63) (fn:=Tryz.f63) (by kernel_rfl) rfl (by kernel_rfl) (by kernel_rfl) ((Z63.run k a0 a1).trans h) (λr hr=>Q1 hr)
def Z99.F (a0:ByteArray)(a1:ByteArray):Option (Bool):=bif (Qr a0 a1)then(some true)else(bif ((a0.size:Int)==1)then(bif decide (0<=0)then(bif decide (0<(a0.size:Int))then(bif decide (0<=0)then(bif decide (0<(a1.size:Int))then(bif ((bt a0 (0:Int).toNat)==(bt a1 (0:Int).toNat))then(some true)else(bif ((a1.size:Int)==1)then(bif decide (0<=0)then(bif decide (0<(a0.size:Int))then(bif decide (0<=0)then(bif decide (0<(a1.size:Int))then(some ((bt a0 (0:Int).toNat)==(bt a1 (0:Int).toNat)))else none)else none)else none)else none)else(some false)))else none)else none)else none)else none)else(bif ((a1.size:Int)==1)then(bif decide (0<=0)then(bif decide (0<(a0.size:Int))then(bif decide (0<=0)then(bif decide (0<(a1.size:Int))then(some ((bt a0 (0:Int).toNat)==(bt a1 (0:Int).toNat)))else none)else none)else none)else none)else(some false)))
def Z99.C:Cal->Option CArm:=λc=>match c with
 |_=>none
theorem Z99.run (a0:ByteArray)(a1:ByteArray):Qm Q0 (Q8 Z99.C) (Q6 32 0 (λ_=>none)) Tryz.f143 [.t .str a0,.t .str a1] (Q5 (.t .bool))=Z99.F a0 a1:=by kernel_rfl
theorem Z99.G (hE:EnvOk Tryz.prog Q0)(pv:Nat->Value):∀cal A,Z99.C cal=some A->Qc Tryz.prog Q0 pv cal A:=by
 intro cal A h
 unfold Z99.C at h
 cases h
theorem Z99.good (hE:EnvOk Tryz.prog Q0)(pv:Nat->Value)(a0:ByteArray)(a1:ByteArray){y:_}(h:Z99.F a0 a1=some y):Qd Tryz.prog Q0 pv (.f 143) (Q7 [.str,.str] (a0,a1,())) (.t .bool y):=
 Qb hE (Z99.G hE pv) (f:=143) (fn:=Tryz.f143) (by kernel_rfl) rfl (by kernel_rfl) (by kernel_rfl) ((Z99.run a0 a1).trans h) (λr hr=>Q1 hr)
def Z32.l0:Nat->Name->Name->Int->Option (Sum Bool (Name×Name))
 |0,_,_,_=>none
 |k+1,x2,x3,x5=>bif (decide (x5<(x2.given.length:Int)))then(bif (decide (x5<(x3.given.length:Int)))then(bif decide (0<=x5)then(bif decide (x5<(x2.given.length:Int))then(bif decide (0<=x5)then(bif decide (x5<(x3.given.length:Int))then((Z99.F (x2.given.getD (x5:Int).toNat (⟨#[]⟩:ByteArray)) (x3.given.getD (x5:Int).toNat (⟨#[]⟩:ByteArray))).bind λr1=>bif (!r1)then(some (.inl false))else(Z32.l0 k x2 x3 (IntKind.wrap .i64 (x5+1))))else none)else none)else none)else none)else(some (.inr (x2,x3))))else(some (.inr (x2,x3)))
def Z32.F (k:Nat)(a0:Name)(a1:Name):Option (Bool):=(Z32.l0 k a0 a1 0).bind λy2=>match y2 with|.inl z3=>some z3|.inr z3=>bif (Qr z3.1.particle z3.2.particle)then(bif (Qr z3.1.family z3.2.family)then(some (Qr z3.1.suffix z3.2.suffix))else(some false))else(some false)
def Z32.C (k:Nat):Cal->Option CArm:=λc=>match c with
 |.f 143=>some (.p [.str,.str] _ (λx=>Z99.F x.1 x.2.1) (λr=>(.t .bool r)))
 |_=>none
def Z32.sp0:List Sp:=[.boxT 2 0 .name,.boxT 3 4 .name,.t 5 (.int .i64)]
def Z32.sp0_0:List Sp:=[.t 4 .bool]
def Z32.sp0_1:List Sp:=[.boxT 2 0 .name,.boxT 3 4 .name]
def Z32.A0:LArm:=.two Z32.sp0 Z32.sp0_0 Z32.sp0_1 (Bool) (Name×Name) (λk x=>Z32.l0 k x.1 x.2.1 x.2.2.1) .ret (.exit 0) (λy=>(y,())) (λx=>x.1) (λy=>(y.1,y.2,())) (λx=>(x.1,x.2.1))
def Z32.L:Nat->Option LArm:=λb=>match b with
 |0=>some Z32.A0
 |_=>none
theorem Z32.run (k:Nat)(a0:Name)(a1:Name):Qm Q0 (Q8 (Z32.C k)) (Q6 51 k Z32.L) Tryz.f106 [.t .name a0,.t .name a1] (Q5 (.t .bool))=Z32.F k a0 a1:=by kernel_rfl
theorem Z32.step0 (k:Nat)(x2:Name)(x3:Name)(x5:Int):Qs Q0 (Q8 (Z32.C k)) (Q6 51 k Z32.L) 0 (Qh Tryz.f106 0) (QA 51 Z32.sp0 (x2,x3,x5,())) (Z32.A0.cont 51 k)=Z32.l0 (k+1) x2 x3 x5:=by kernel_rfl
theorem Z32.G (hE:EnvOk Tryz.prog Q0)(pv:Nat->Value)(k:Nat):∀cal A,Z32.C k cal=some A->Qc Tryz.prog Q0 pv cal A:=by
 intro cal A h
 unfold Z32.C at h
 split at h
 ·cases h;exact λx y hy=>Z99.good hE pv x.1 x.2.1 hy
 ·cases h
theorem Z32.good (hE:EnvOk Tryz.prog Q0)(pv:Nat->Value)(k:Nat)(a0:Name)(a1:Name){y:_}(h:Z32.F k a0 a1=some y):Qd Tryz.prog Q0 pv (.f 106) (Q7 [.name,.name] (a0,a1,())) (.t .bool y):=
 Qj hE (t:=Z32.C) k (λk _=>Z32.G hE pv k) (f:=106) (fn:=Tryz.f106) (by kernel_rfl) rfl (by kernel_rfl) (by kernel_rfl) (lt:=Z32.L) (by kernel_rfl) (λb A h=>by
  unfold Z32.L at h;split at h
  ·cases h;exact⟨by kernel_rfl,by kernel_rfl,by kernel_rfl,λ_=>rfl,λ_=>rfl,λ_=>rfl⟩
  ·cases h) (λb A h=>by
  unfold Z32.L at h;split at h
  ·cases h;exact λk x=>Z32.step0 k x.1 x.2.1 x.2.2.1
  ·cases h) ((Z32.run k a0 a1).trans h) (λr hr=>Q1 hr)
def Z33.l0:Nat->(List Name)->(List Name)->Int->Option (Sum Bool ((List Name)× (List Name)))
 |0,_,_,_=>none
 |k+1,x0,x1,x5=>bif (decide (x5<(x0.length:Int)))then(bif (decide (x5<(x1.length:Int)))then(bif decide (0<=x5)then(bif decide (x5<(x0.length:Int))then(bif decide (0<=x5)then(bif decide (x5<(x1.length:Int))then((Z32.F k (x0.getD (x5:Int).toNat (Q4 .name)) (x1.getD (x5:Int).toNat (Q4 .name))).bind λr1=>bif (!r1)then(some (.inl false))else(Z33.l0 k x0 x1 (IntKind.wrap .i64 (x5+1))))else none)else none)else none)else none)else(some (.inr (x0,x1))))else(some (.inr (x0,x1)))
def Z33.F (k:Nat)(a0:List Name)(a1:List Name):Option (Bool):=(Z33.l0 k a0 a1 0).bind λy2=>match y2 with|.inl z3=>some z3|.inr z3=>some ((z3.1.length:Int)==(z3.2.length:Int))
def Z33.C (k:Nat):Cal->Option CArm:=λc=>match c with
 |.f 106=>some (.p [.name,.name] _ (λx=>Z32.F k x.1 x.2.1) (λr=>(.t .bool r)))
 |_=>none
def Z33.sp0:List Sp:=[.t 0 (.sl .name),.t 1 (.sl .name),.t 5 (.int .i64)]
def Z33.sp0_0:List Sp:=[.t 4 .bool]
def Z33.sp0_1:List Sp:=[.t 0 (.sl .name),.t 1 (.sl .name)]
def Z33.A0:LArm:=.two Z33.sp0 Z33.sp0_0 Z33.sp0_1 (Bool) ((List Name)× (List Name)) (λk x=>Z33.l0 k x.1 x.2.1 x.2.2.1) .ret (.exit 0) (λy=>(y,())) (λx=>x.1) (λy=>(y.1,y.2,())) (λx=>(x.1,x.2.1))
def Z33.L:Nat->Option LArm:=λb=>match b with
 |0=>some Z33.A0
 |_=>none
theorem Z33.run (k:Nat)(a0:List Name)(a1:List Name):Qm Q0 (Q8 (Z33.C k)) (Q6 33 k Z33.L) Tryz.f66 [.t (.sl .name) a0,.t (.sl .name) a1] (Q5 (.t .bool))=Z33.F k a0 a1:=by kernel_rfl
theorem Z33.step0 (k:Nat)(x0:List Name)(x1:List Name)(x5:Int):Qs Q0 (Q8 (Z33.C k)) (Q6 33 k Z33.L) 0 (Qh Tryz.f66 0) (QA 33 Z33.sp0 (x0,x1,x5,())) (Z33.A0.cont 33 k)=Z33.l0 (k+1) x0 x1 x5:=by kernel_rfl
theorem Z33.G (hE:EnvOk Tryz.prog Q0)(pv:Nat->Value)(k:Nat):∀cal A,Z33.C k cal=some A->Qc Tryz.prog Q0 pv cal A:=by
 intro cal A h
 unfold Z33.C at h
 split at h
 ·cases h;exact λx y hy=>Z32.good hE pv k x.1 x.2.1 hy
 ·cases h
theorem Z33.good (hE:EnvOk Tryz.prog Q0)(pv:Nat->Value)(k:Nat)(a0:List Name)(a1:List Name){y:_}(h:Z33.F k a0 a1=some y):Qd Tryz.prog Q0 pv (.f 66) (Q7 [(.sl .name),(.sl .name)] (a0,a1,())) (.t .bool y):=
 Qj hE (t:=Z33.C) k (λk _=>Z33.G hE pv k) (f:=66) (fn:=Tryz.f66) (by kernel_rfl) rfl (by kernel_rfl) (by kernel_rfl) (lt:=Z33.L) (by kernel_rfl) (λb A h=>by
  unfold Z33.L at h;split at h
  ·cases h;exact⟨by kernel_rfl,by kernel_rfl,by kernel_rfl,λ_=>rfl,λ_=>rfl,λ_=>rfl⟩
  ·cases h) (λb A h=>by
  unfold Z33.L at h;split at h
  ·cases h;exact λk x=>Z33.step0 k x.1 x.2.1 x.2.2.1
  ·cases h) ((Z33.run k a0 a1).trans h) (λr hr=>Q1 hr)
def Z100.F (a0:Int)(a1:Int):Option (Bool):=bif (a0==a1)then(some true)else(bif (a0==0)then(some true)else(some (a1==0)))
def Z100.C:Cal->Option CArm:=λc=>match c with
 |_=>none
theorem Z100.run (a0:Int)(a1:Int):Qm Q0 (Q8 Z100.C) (Q6 16 0 (λ_=>none)) Tryz.f107 [.t (.int .i64) a0,.t (.int .i64) a1] (Q5 (.t .bool))=Z100.F a0 a1:=by kernel_rfl
theorem Z100.G (hE:EnvOk Tryz.prog Q0)(pv:Nat->Value):∀cal A,Z100.C cal=some A->Qc Tryz.prog Q0 pv cal A:=by
 intro cal A h
 unfold Z100.C at h
 cases h
theorem Z100.good (hE:EnvOk Tryz.prog Q0)(pv:Nat->Value)(a0:Int)(a1:Int){y:_}(h:Z100.F a0 a1=some y):Qd Tryz.prog Q0 pv (.f 107) (Q7 [(.int .i64),(.int .i64)] (a0,a1,())) (.t .bool y):=
 Qb hE (Z100.G hE pv) (f:=107) (fn:=Tryz.f107) (by kernel_rfl) rfl (by kernel_rfl) (by kernel_rfl) ((Z100.run a0 a1).trans h) (λr hr=>Q1 hr)
def Z101.F (a0:Date)(a1:Date):Option (Bool):=bif (a0.y==0)then(some true)else(bif (a1.y==0)then(some true)else(bif (a0.y==a1.y)then((Z100.F a0.m a1.m).bind λr1=>bif r1 then(bif (a0.m==0)then(some true)else(bif (a1.m==0)then(some true)else((Z100.F a0.d a1.d).bind λr2=>some r2)))else(some false))else(some false)))
def Z101.C:Cal->Option CArm:=λc=>match c with
 |.f 107=>some (.p [(.int .i64),(.int .i64)] _ (λx=>Z100.F x.1 x.2.1) (λr=>(.t .bool r)))
 |_=>none
theorem Z101.run (a0:Date)(a1:Date):Qm Q0 (Q8 Z101.C) (Q6 42 0 (λ_=>none)) Tryz.f67 [.t .date a0,.t .date a1] (Q5 (.t .bool))=Z101.F a0 a1:=by kernel_rfl
theorem Z101.G (hE:EnvOk Tryz.prog Q0)(pv:Nat->Value):∀cal A,Z101.C cal=some A->Qc Tryz.prog Q0 pv cal A:=by
 intro cal A h
 unfold Z101.C at h
 split at h
 ·cases h;exact λx y hy=>Z100.good hE pv x.1 x.2.1 hy
 ·cases h
theorem Z101.good (hE:EnvOk Tryz.prog Q0)(pv:Nat->Value)(a0:Date)(a1:Date){y:_}(h:Z101.F a0 a1=some y):Qd Tryz.prog Q0 pv (.f 67) (Q7 [.date,.date] (a0,a1,())) (.t .bool y):=
 Qb hE (Z101.G hE pv) (f:=67) (fn:=Tryz.f67) (by kernel_rfl) rfl (by kernel_rfl) (by kernel_rfl) ((Z101.run a0 a1).trans h) (λr hr=>Q1 hr)
def Z87.F (k:Nat)(a0:Entry)(a1:Entry)(a2:Int):Option (Bool):=bif (a0.kind==a1.kind)then((Z33.F k a0.authors a1.authors).bind λr1=>bif r1 then((Z101.F a0.date a1.date).bind λr2=>bif r2 then((Z63.F k a0.title a1.title).bind λr3=>some (decide (r3<=a2)))else(some false))else(some false))else(some false)
def Z87.C (k:Nat):Cal->Option CArm:=λc=>match c with
 |.f 66=>some (.p [(.sl .name),(.sl .name)] _ (λx=>Z33.F k x.1 x.2.1) (λr=>(.t .bool r)))
 |.f 67=>some (.p [.date,.date] _ (λx=>Z101.F x.1 x.2.1) (λr=>(.t .bool r)))
 |.f 63=>some (.p [.str,.str] _ (λx=>Z63.F k x.1 x.2.1) (λr=>(.t (.int .i64) r)))
 |_=>none
theorem Z87.run (k:Nat)(a0:Entry)(a1:Entry)(a2:Int):Qm Q0 (Q8 (Z87.C k)) (Q6 35 0 (λ_=>none)) Tryz.f29 [.t .entry a0,.t .entry a1,.t (.int .i64) a2] (Q5 (.t .bool))=Z87.F k a0 a1 a2:=by kernel_rfl
theorem Z87.G (hE:EnvOk Tryz.prog Q0)(pv:Nat->Value)(k:Nat):∀cal A,Z87.C k cal=some A->Qc Tryz.prog Q0 pv cal A:=by
 intro cal A h
 unfold Z87.C at h
 split at h
 ·cases h;exact λx y hy=>Z33.good hE pv k x.1 x.2.1 hy
 ·cases h;exact λx y hy=>Z101.good hE pv x.1 x.2.1 hy
 ·cases h;exact λx y hy=>Z63.good hE pv k x.1 x.2.1 hy
 ·cases h
theorem Z87.good (hE:EnvOk Tryz.prog Q0)(pv:Nat->Value)(k:Nat)(a0:Entry)(a1:Entry)(a2:Int){y:_}(h:Z87.F k a0 a1 a2=some y):Qd Tryz.prog Q0 pv (.f 29) (Q7 [.entry,.entry,(.int .i64)] (a0,a1,a2,())) (.t .bool y):=
 Qb hE (Z87.G hE pv k) (f:=29) (fn:=Tryz.f29) (by kernel_rfl) rfl (by kernel_rfl) (by kernel_rfl) ((Z87.run k a0 a1 a2).trans h) (λr hr=>Q1 hr)
def Z0.l0:Nat->Int->Library->(List (List ByteArray))->Int->(List Int)->Int->Option (Int×Library× (List (List ByteArray))×Int× (List Int))
 |0,_,_,_,_,_,_=>none
 |k+1,x1,x2,x6,x7,x8,x9=>bif (decide (x9<x7))then(bif room (x8.length+([x9]:List Int).length) (.int .i64)then(Z0.l0 k x1 x2 x6 x7 (x8++([x9]:List Int)) (IntKind.wrap .i64 (x9+1)))else none)else(some (x1,x2,x6,x7,x8))
def Z0.l6:Nat->Int->Library->(List (List ByteArray))->Int->(List Int)->Bool->Int->Int->Option (Int×Library× (List (List ByteArray))×Int× (List Int)×Bool×Int)
 |0,_,_,_,_,_,_,_,_=>none
 |k+1,x1,x2,x6,x7,x8,x10,x11,x12=>bif (decide (x12<x11))then(bif decide (0<=x11)then(bif decide (x11<(x8.length:Int))then(bif decide (0<=x12)then(bif decide (x12<(x8.length:Int))then(bif ((x8.getD ((x11:Int).toNat) 0) != (x8.getD ((x12:Int).toNat) 0))then(bif decide (0<=x12)then(bif decide (x12<(x2.entries.length:Int))then(bif decide (0<=x11)then(bif decide (x11<(x2.entries.length:Int))then((Z87.F k (x2.entries.getD (x12:Int).toNat (Q4 .entry)) (x2.entries.getD (x11:Int).toNat (Q4 .entry)) x1).bind λr4=>bif r4 then(bif decide (0<=x11)then(bif decide (x11<(x8.length:Int))then(bif decide (0<=x12)then(bif decide (x12<(x8.length:Int))then((Z67.F (x8.getD ((x11:Int).toNat) 0) (x8.getD ((x12:Int).toNat) 0)).bind λr5=>bif decide (0<=x11)then(bif decide (x11<(x8.length:Int))then(bif decide (0<=x12)then(bif decide (x12<((x8.set ((x11:Int).toNat) r5).length:Int))then(Z0.l6 k x1 x2 x6 x7 ((x8.set ((x11:Int).toNat) r5).set ((x12:Int).toNat) r5) true x11 (IntKind.wrap .i64 (x12+1)))else none)else none)else none)else none)else none)else none)else none)else none)else(Z0.l6 k x1 x2 x6 x7 x8 x10 x11 (IntKind.wrap .i64 (x12+1))))else none)else none)else none)else none)else(Z0.l6 k x1 x2 x6 x7 x8 x10 x11 (IntKind.wrap .i64 (x12+1))))else none)else none)else none)else none)else(some (x1,x2,x6,x7,x8,x10,x11))
def Z0.l4:Nat->Int->Library->(List (List ByteArray))->Int->(List Int)->Bool->Int->Option (Int×Library× (List (List ByteArray))×Int× (List Int)×Bool)
 |0,_,_,_,_,_,_,_=>none
 |k+1,x1,x2,x6,x7,x8,x10,x11=>bif (decide (x11<x7))then((Z0.l6 k x1 x2 x6 x7 x8 x10 x11 0).bind λy6=>Z0.l4 k y6.1 y6.2.1 y6.2.2.1 y6.2.2.2.1 y6.2.2.2.2.1 y6.2.2.2.2.2.1 (IntKind.wrap .i64 (y6.2.2.2.2.2.2+1)))else(some (x1,x2,x6,x7,x8,x10))
def Z0.l2:Nat->Int->Library->(List (List ByteArray))->Int->(List Int)->Bool->Option (Library× (List (List ByteArray))×Int× (List Int))
 |0,_,_,_,_,_,_=>none
 |k+1,x1,x2,x6,x7,x8,x10=>bif x10 then((Z0.l4 k x1 x2 x6 x7 x8 false 0).bind λy7=>Z0.l2 k y7.1 y7.2.1 y7.2.2.1 y7.2.2.2.1 y7.2.2.2.2.1 y7.2.2.2.2.2)else(some (x2,x6,x7,x8))
def Z0.l10:Nat->Library->(List (List ByteArray))->Int->(List Int)->Int->(List ByteArray)->Int->Option (Library× (List (List ByteArray))×Int× (List Int)×Int× (List ByteArray))
 |0,_,_,_,_,_,_,_=>none
 |k+1,x2,x6,x7,x8,x14,x15,x16=>bif (decide (x16<x7))then(bif decide (0<=x16)then(bif decide (x16<(x8.length:Int))then(bif ((x8.getD ((x16:Int).toNat) 0)==x14)then(bif decide (0<=x16)then(bif decide (x16<(x2.entries.length:Int))then(bif room (x15.length+([(x2.entries.getD (x16:Int).toNat (Q4 .entry)).key]:List ByteArray).length) .str then(Z0.l10 k x2 x6 x7 x8 x14 (x15++([(x2.entries.getD (x16:Int).toNat (Q4 .entry)).key]:List ByteArray)) (IntKind.wrap .i64 (x16+1)))else none)else none)else none)else(Z0.l10 k x2 x6 x7 x8 x14 x15 (IntKind.wrap .i64 (x16+1))))else none)else none)else(some (x2,x6,x7,x8,x14,x15))
def Z0.l8:Nat->Library->(List (List ByteArray))->Int->(List Int)->Int->Option ((List (List ByteArray)))
 |0,_,_,_,_,_=>none
 |k+1,x2,x6,x7,x8,x14=>bif (decide (x14<x7))then((Z0.l10 k x2 x6 x7 x8 x14 ([]:List ByteArray) x14).bind λy9=>bif (decide ((y9.2.2.2.2.2.length:Int) > 1))then(bif room (y9.2.1.length+([y9.2.2.2.2.2]:List (List ByteArray)).length) (.sl .str)then(Z0.l8 k y9.1 (y9.2.1++([y9.2.2.2.2.2]:List (List ByteArray))) y9.2.2.1 y9.2.2.2.1 (IntKind.wrap .i64 (y9.2.2.2.2.1+1)))else none)else(Z0.l8 k y9.1 y9.2.1 y9.2.2.1 y9.2.2.2.1 (IntKind.wrap .i64 (y9.2.2.2.2.1+1))))else(some x6)
def Z0.F (k:Nat)(a0:Library)(a1:Int):Option ((List (List ByteArray))×Bool):=(Z9.F k a0).bind λr1=>bif (!r1)then(some (([]:List (List ByteArray)),false))else((Z56.F a1 0 40).bind λr2=>bif (!r2)then(some (([]:List (List ByteArray)),false))else((Z0.l0 k a1 a0 ([]:List (List ByteArray)) (a0.entries.length:Int) ([]:List Int) 0).bind λy3=>(Z0.l2 k y3.1 y3.2.1 y3.2.2.1 y3.2.2.2.1 y3.2.2.2.2 true).bind λy8=>(Z0.l8 k y8.1 y8.2.1 y8.2.2.1 y8.2.2.2 0).bind λy10=>some (y10,true)))
def Z0.C (k:Nat):Cal->Option CArm:=λc=>match c with
 |.f 27=>some (.p [.lib] _ (λx=>Z9.F k x.1) (λr=>(.t .bool r)))
 |.f 28=>some (.p [(.int .i64),(.int .i64),(.int .i64)] _ (λx=>Z56.F x.1 x.2.1 x.2.2.1) (λr=>(.t .bool r)))
 |.f 29=>some (.p [.entry,.entry,(.int .i64)] _ (λx=>Z87.F k x.1 x.2.1 x.2.2.1) (λr=>(.t .bool r)))
 |.f 30=>some (.p [(.int .i64),(.int .i64)] _ (λx=>Z67.F x.1 x.2.1) (λr=>(.t (.int .i64) r)))
 |_=>none
def Z0.sp0:List Sp:=[.t 1 (.int .i64),.boxT 2 0 .lib,.own 6 1024 65 (.sl .str) false true,.t 7 (.int .i64),.own 8 5120 3 (.int .i64) false true,.t 9 (.int .i64)]
def Z0.sp0_0:List Sp:=[.t 1 (.int .i64),.boxT 2 0 .lib,.own 6 1024 65 (.sl .str) false true,.t 7 (.int .i64),.own 8 5120 3 (.int .i64) false true]
def Z0.A0:LArm:=.one Z0.sp0 Z0.sp0_0 (Int×Library× (List (List ByteArray))×Int× (List Int)) (λk x=>Z0.l0 k x.1 x.2.1 x.2.2.1 x.2.2.2.1 x.2.2.2.2.1 x.2.2.2.2.2.1) (.exit 0) (λy=>(y.1,y.2.1,y.2.2.1,y.2.2.2.1,y.2.2.2.2,())) (λx=>(x.1,x.2.1,x.2.2.1,x.2.2.2.1,x.2.2.2.2.1))
def Z0.sp6:List Sp:=[.t 1 (.int .i64),.boxT 2 0 .lib,.own 6 1024 65 (.sl .str) false true,.t 7 (.int .i64),.own 8 5120 3 (.int .i64) false true,.t 10 .bool,.t 11 (.int .i64),.t 12 (.int .i64)]
def Z0.sp6_0:List Sp:=[.t 1 (.int .i64),.boxT 2 0 .lib,.own 6 1024 65 (.sl .str) false true,.t 7 (.int .i64),.own 8 5120 3 (.int .i64) false true,.t 10 .bool,.t 11 (.int .i64)]
def Z0.A6:LArm:=.one Z0.sp6 Z0.sp6_0 (Int×Library× (List (List ByteArray))×Int× (List Int)×Bool×Int) (λk x=>Z0.l6 k x.1 x.2.1 x.2.2.1 x.2.2.2.1 x.2.2.2.2.1 x.2.2.2.2.2.1 x.2.2.2.2.2.2.1 x.2.2.2.2.2.2.2.1) (.exit 6) (λy=>(y.1,y.2.1,y.2.2.1,y.2.2.2.1,y.2.2.2.2.1,y.2.2.2.2.2.1,y.2.2.2.2.2.2,())) (λx=>(x.1,x.2.1,x.2.2.1,x.2.2.2.1,x.2.2.2.2.1,x.2.2.2.2.2.1,x.2.2.2.2.2.2.1))
def Z0.sp4:List Sp:=[.t 1 (.int .i64),.boxT 2 0 .lib,.own 6 1024 65 (.sl .str) false true,.t 7 (.int .i64),.own 8 5120 3 (.int .i64) false true,.t 10 .bool,.t 11 (.int .i64)]
def Z0.sp4_0:List Sp:=[.t 1 (.int .i64),.boxT 2 0 .lib,.own 6 1024 65 (.sl .str) false true,.t 7 (.int .i64),.own 8 5120 3 (.int .i64) false true,.t 10 .bool]
def Z0.A4:LArm:=.one Z0.sp4 Z0.sp4_0 (Int×Library× (List (List ByteArray))×Int× (List Int)×Bool) (λk x=>Z0.l4 k x.1 x.2.1 x.2.2.1 x.2.2.2.1 x.2.2.2.2.1 x.2.2.2.2.2.1 x.2.2.2.2.2.2.1) (.exit 4) (λy=>(y.1,y.2.1,y.2.2.1,y.2.2.2.1,y.2.2.2.2.1,y.2.2.2.2.2,())) (λx=>(x.1,x.2.1,x.2.2.1,x.2.2.2.1,x.2.2.2.2.1,x.2.2.2.2.2.1))
def Z0.sp2:List Sp:=[.t 1 (.int .i64),.boxT 2 0 .lib,.own 6 1024 65 (.sl .str) false true,.t 7 (.int .i64),.own 8 5120 3 (.int .i64) false true,.t 10 .bool]
def Z0.sp2_0:List Sp:=[.boxT 2 0 .lib,.own 6 1024 65 (.sl .str) false true,.t 7 (.int .i64),.own 8 5120 3 (.int .i64) false true]
def Z0.A2:LArm:=.one Z0.sp2 Z0.sp2_0 (Library× (List (List ByteArray))×Int× (List Int)) (λk x=>Z0.l2 k x.1 x.2.1 x.2.2.1 x.2.2.2.1 x.2.2.2.2.1 x.2.2.2.2.2.1) (.exit 2) (λy=>(y.1,y.2.1,y.2.2.1,y.2.2.2,())) (λx=>(x.1,x.2.1,x.2.2.1,x.2.2.2.1))
def Z0.sp10:List Sp:=[.boxT 2 0 .lib,.own 6 1024 65 (.sl .str) false true,.t 7 (.int .i64),.own 8 5120 3 (.int .i64) false true,.t 14 (.int .i64),.own 15 27648 9 .str false true,.t 16 (.int .i64)]
def Z0.sp10_0:List Sp:=[.boxT 2 0 .lib,.own 6 1024 65 (.sl .str) false true,.t 7 (.int .i64),.own 8 5120 3 (.int .i64) false true,.t 14 (.int .i64),.own 15 27648 9 .str false true]
def Z0.A10:LArm:=.one Z0.sp10 Z0.sp10_0 (Library× (List (List ByteArray))×Int× (List Int)×Int× (List ByteArray)) (λk x=>Z0.l10 k x.1 x.2.1 x.2.2.1 x.2.2.2.1 x.2.2.2.2.1 x.2.2.2.2.2.1 x.2.2.2.2.2.2.1) (.exit 10) (λy=>(y.1,y.2.1,y.2.2.1,y.2.2.2.1,y.2.2.2.2.1,y.2.2.2.2.2,())) (λx=>(x.1,x.2.1,x.2.2.1,x.2.2.2.1,x.2.2.2.2.1,x.2.2.2.2.2.1))
def Z0.sp8:List Sp:=[.boxT 2 0 .lib,.own 6 1024 65 (.sl .str) false true,.t 7 (.int .i64),.own 8 5120 3 (.int .i64) false true,.t 14 (.int .i64)]
def Z0.sp8_0:List Sp:=[.own 6 1024 65 (.sl .str) false true]
def Z0.A8:LArm:=.one Z0.sp8 Z0.sp8_0 ((List (List ByteArray))) (λk x=>Z0.l8 k x.1 x.2.1 x.2.2.1 x.2.2.2.1 x.2.2.2.2.1) (.exit 8) (λy=>(y,())) (λx=>x.1)
def Z0.L:Nat->Option LArm:=λb=>match b with
 |0=>some Z0.A0
 |6=>some Z0.A6
 |4=>some Z0.A4
 |2=>some Z0.A2
 |10=>some Z0.A10
 |8=>some Z0.A8
 |_=>none
theorem Z0.run (k:Nat)(a0:Library)(a1:Int):Qm Q0 (Q8 (Z0.C k)) (Q6 126 k Z0.L) Tryz.f6 [.t .lib a0,.t (.int .i64) a1] (Uc (.fr 65 (.sl .str)) (.t .bool))=Z0.F k a0 a1:=by kernel_rfl
theorem Z0.step0 (k:Nat)(x1:Int)(x2:Library)(x6:List (List ByteArray))(x7:Int)(x8:List Int)(x9:Int):Qs Q0 (Q8 (Z0.C k)) (Q6 126 k Z0.L) 0 (Qh Tryz.f6 0) (QA 126 Z0.sp0 (x1,x2,x6,x7,x8,x9,())) (Z0.A0.cont 126 k)=Z0.l0 (k+1) x1 x2 x6 x7 x8 x9:=by kernel_rfl
theorem Z0.step6 (k:Nat)(x1:Int)(x2:Library)(x6:List (List ByteArray))(x7:Int)(x8:List Int)(x10:Bool)(x11:Int)(x12:Int):Qs Q0 (Q8 (Z0.C k)) (Q6 126 k Z0.L) 6 (Qh Tryz.f6 6) (QA 126 Z0.sp6 (x1,x2,x6,x7,x8,x10,x11,x12,())) (Z0.A6.cont 126 k)=Z0.l6 (k+1) x1 x2 x6 x7 x8 x10 x11 x12:=by kernel_rfl
theorem Z0.step4 (k:Nat)(x1:Int)(x2:Library)(x6:List (List ByteArray))(x7:Int)(x8:List Int)(x10:Bool)(x11:Int):Qs Q0 (Q8 (Z0.C k)) (Q6 126 k Z0.L) 4 (Qh Tryz.f6 4) (QA 126 Z0.sp4 (x1,x2,x6,x7,x8,x10,x11,())) (Z0.A4.cont 126 k)=Z0.l4 (k+1) x1 x2 x6 x7 x8 x10 x11:=by kernel_rfl
theorem Z0.step2 (k:Nat)(x1:Int)(x2:Library)(x6:List (List ByteArray))(x7:Int)(x8:List Int)(x10:Bool):Qs Q0 (Q8 (Z0.C k)) (Q6 126 k Z0.L) 2 (Qh Tryz.f6 2) (QA 126 Z0.sp2 (x1,x2,x6,x7,x8,x10,())) (Z0.A2.cont 126 k)=Z0.l2 (k+1) x1 x2 x6 x7 x8 x10:=by kernel_rfl
theorem Z0.step10 (k:Nat)(x2:Library)(x6:List (List ByteArray))(x7:Int)(x8:List Int)(x14:Int)(x15:List ByteArray)(x16:Int):Qs Q0 (Q8 (Z0.C k)) (Q6 126 k Z0.L) 10 (Qh Tryz.f6 10) (QA 126 Z0.sp10 (x2,x6,x7,x8,x14,x15,x16,())) (Z0.A10.cont 126 k)=Z0.l10 (k+1) x2 x6 x7 x8 x14 x15 x16:=by kernel_rfl
theorem Z0.step8 (k:Nat)(x2:Library)(x6:List (List ByteArray))(x7:Int)(x8:List Int)(x14:Int):Qs Q0 (Q8 (Z0.C k)) (Q6 126 k Z0.L) 8 (Qh Tryz.f6 8) (QA 126 Z0.sp8 (x2,x6,x7,x8,x14,())) (Z0.A8.cont 126 k)=Z0.l8 (k+1) x2 x6 x7 x8 x14:=by kernel_rfl
theorem Z0.G (hE:EnvOk Tryz.prog Q0)(pv:Nat->Value)(k:Nat):∀cal A,Z0.C k cal=some A->Qc Tryz.prog Q0 pv cal A:=by
 intro cal A h
 unfold Z0.C at h
 split at h
 ·cases h;exact λx y hy=>Z9.good hE pv k x.1 hy
 ·cases h;exact λx y hy=>Z56.good hE pv x.1 x.2.1 x.2.2.1 hy
 ·cases h;exact λx y hy=>Z87.good hE pv k x.1 x.2.1 x.2.2.1 hy
 ·cases h;exact λx y hy=>Z67.good hE pv x.1 x.2.1 hy
 ·cases h
theorem Z0.good (hE:EnvOk Tryz.prog Q0)(pv:Nat->Value)(k:Nat)(a0:Library)(a1:Int){y:_}(h:Z0.F k a0 a1=some y):Qd Tryz.prog Q0 pv (.f 6) (Q7 [.lib,(.int .i64)] (a0,a1,())) (.tup [.fr 65 (.sl .str) y.1,.t .bool y.2]):=
 Qj hE (t:=Z0.C) k (λk _=>Z0.G hE pv k) (f:=6) (fn:=Tryz.f6) (by kernel_rfl) rfl (by kernel_rfl) (by kernel_rfl) (lt:=Z0.L) (by kernel_rfl) (λb A h=>by
  unfold Z0.L at h;split at h
  ·cases h;exact⟨by kernel_rfl,by kernel_rfl,λ_=>rfl,λ_=>rfl⟩
  ·cases h;exact⟨by kernel_rfl,by kernel_rfl,λ_=>rfl,λ_=>rfl⟩
  ·cases h;exact⟨by kernel_rfl,by kernel_rfl,λ_=>rfl,λ_=>rfl⟩
  ·cases h;exact⟨by kernel_rfl,by kernel_rfl,λ_=>rfl,λ_=>rfl⟩
  ·cases h;exact⟨by kernel_rfl,by kernel_rfl,λ_=>rfl,λ_=>rfl⟩
  ·cases h;exact⟨by kernel_rfl,by kernel_rfl,λ_=>rfl,λ_=>rfl⟩
  ·cases h) (λb A h=>by
  unfold Z0.L at h;split at h
  ·cases h;exact λk x=>Z0.step0 k x.1 x.2.1 x.2.2.1 x.2.2.2.1 x.2.2.2.2.1 x.2.2.2.2.2.1
  ·cases h;exact λk x=>Z0.step6 k x.1 x.2.1 x.2.2.1 x.2.2.2.1 x.2.2.2.2.1 x.2.2.2.2.2.1 x.2.2.2.2.2.2.1 x.2.2.2.2.2.2.2.1
  ·cases h;exact λk x=>Z0.step4 k x.1 x.2.1 x.2.2.1 x.2.2.2.1 x.2.2.2.2.1 x.2.2.2.2.2.1 x.2.2.2.2.2.2.1
  ·cases h;exact λk x=>Z0.step2 k x.1 x.2.1 x.2.2.1 x.2.2.2.1 x.2.2.2.2.1 x.2.2.2.2.2.1
  ·cases h;exact λk x=>Z0.step10 k x.1 x.2.1 x.2.2.1 x.2.2.2.1 x.2.2.2.2.1 x.2.2.2.2.2.1 x.2.2.2.2.2.2.1
  ·cases h;exact λk x=>Z0.step8 k x.1 x.2.1 x.2.2.1 x.2.2.2.1 x.2.2.2.2.1
  ·cases h) ((Z0.run k a0 a1).trans h) (λr hr=>Yw hr)
def Z52.F (a0:Int)(a1:Int)(a2:Int):Option (Bool):=bif (decide (a0 ≥ a1))then(some (decide (a0<=a2)))else(some false)
def Z52.C:Cal->Option CArm:=λc=>match c with
 |_=>none
theorem Z52.run (a0:Int)(a1:Int)(a2:Int):Qm Q0 (Q8 Z52.C) (Q6 15 0 (λ_=>none)) Tryz.f33 [.t (.int .i64) a0,.t (.int .i64) a1,.t (.int .i64) a2] (Q5 (.t .bool))=Z52.F a0 a1 a2:=by kernel_rfl
theorem Z52.G (hE:EnvOk Tryz.prog Q0)(pv:Nat->Value):∀cal A,Z52.C cal=some A->Qc Tryz.prog Q0 pv cal A:=by
 intro cal A h
 unfold Z52.C at h
 cases h
theorem Z52.good (hE:EnvOk Tryz.prog Q0)(pv:Nat->Value)(a0:Int)(a1:Int)(a2:Int){y:_}(h:Z52.F a0 a1 a2=some y):Qd Tryz.prog Q0 pv (.f 33) (Q7 [(.int .i64),(.int .i64),(.int .i64)] (a0,a1,a2,())) (.t .bool y):=
 Qb hE (Z52.G hE pv) (f:=33) (fn:=Tryz.f33) (by kernel_rfl) rfl (by kernel_rfl) (by kernel_rfl) ((Z52.run a0 a1 a2).trans h) (λr hr=>Q1 hr)
def Z125.F (a0:ByteArray)(a1:ByteArray):Option (ByteArray):=Q3o a0 a1
theorem Z125.good (hE:EnvOk Tryz.prog Q0)(pv:Nat->Value)(a0:ByteArray)(a1:ByteArray){y:_}(h:Z125.F a0 a1=some y):Qd Tryz.prog Q0 pv (.f 141) (Q7 [.str,.str] (a0,a1,())) (.t .str y):=
 Q7Y (fn:=Tryz.f141) (by kernel_rfl) rfl (by kernel_rfl) Tryz.strings_Trim_one h
def Z45.l0:Nat->ByteArray->Int->Option (Sum Bool ByteArray)
 |0,_,_=>none
 |k+1,x0,x3=>bif (decide (x3<(x0.size:Int)))then(bif decide (0<=x3)then(bif decide (x3<(x0.size:Int))then(bif (decide ((bt x0 (x3:Int).toNat)<32))then(some (.inl false))else(bif decide (0<=x3)then(bif decide (x3<(x0.size:Int))then(bif (decide ((bt x0 (x3:Int).toNat) > 126))then(some (.inl false))else(Z45.l0 k x0 (IntKind.wrap .i64 (x3+1))))else none)else none))else none)else none)else(some (.inr x0))
def Z45.F (k:Nat)(a0:ByteArray):Option (Bool):=(Z45.l0 k a0 0).bind λy1=>match y1 with|.inl z2=>some z2|.inr z2=>(Z125.F z2 (⟨#[32]⟩:ByteArray)).bind λr3=>some (Qr r3 z2)
def Z45.C (k:Nat):Cal->Option CArm:=λc=>match c with
 |.f 141=>some (.p [.str,.str] _ (λx=>Z125.F x.1 x.2.1) (λr=>(.t .str r)))
 |_=>none
def Z45.sp0:List Sp:=[.t 0 .str,.t 3 (.int .i64)]
def Z45.sp0_0:List Sp:=[.t 2 .bool]
def Z45.sp0_1:List Sp:=[.t 0 .str]
def Z45.A0:LArm:=.two Z45.sp0 Z45.sp0_0 Z45.sp0_1 (Bool) (ByteArray) (λk x=>Z45.l0 k x.1 x.2.1) .ret (.exit 0) (λy=>(y,())) (λx=>x.1) (λy=>(y,())) (λx=>x.1)
def Z45.L:Nat->Option LArm:=λb=>match b with
 |0=>some Z45.A0
 |_=>none
theorem Z45.run (k:Nat)(a0:ByteArray):Qm Q0 (Q8 (Z45.C k)) (Q6 24 k Z45.L) Tryz.f104 [.t .str a0] (Q5 (.t .bool))=Z45.F k a0:=by kernel_rfl
theorem Z45.step0 (k:Nat)(x0:ByteArray)(x3:Int):Qs Q0 (Q8 (Z45.C k)) (Q6 24 k Z45.L) 0 (Qh Tryz.f104 0) (QA 24 Z45.sp0 (x0,x3,())) (Z45.A0.cont 24 k)=Z45.l0 (k+1) x0 x3:=by kernel_rfl
theorem Z45.G (hE:EnvOk Tryz.prog Q0)(pv:Nat->Value)(k:Nat):∀cal A,Z45.C k cal=some A->Qc Tryz.prog Q0 pv cal A:=by
 intro cal A h
 unfold Z45.C at h
 split at h
 ·cases h;exact λx y hy=>Z125.good hE pv x.1 x.2.1 hy
 ·cases h
theorem Z45.good (hE:EnvOk Tryz.prog Q0)(pv:Nat->Value)(k:Nat)(a0:ByteArray){y:_}(h:Z45.F k a0=some y):Qd Tryz.prog Q0 pv (.f 104) (Q7 [.str] (a0,())) (.t .bool y):=
 Qj hE (t:=Z45.C) k (λk _=>Z45.G hE pv k) (f:=104) (fn:=Tryz.f104) (by kernel_rfl) rfl (by kernel_rfl) (by kernel_rfl) (lt:=Z45.L) (by kernel_rfl) (λb A h=>by
  unfold Z45.L at h;split at h
  ·cases h;exact⟨by kernel_rfl,by kernel_rfl,by kernel_rfl,λ_=>rfl,λ_=>rfl,λ_=>rfl⟩
  ·cases h) (λb A h=>by
  unfold Z45.L at h;split at h
  ·cases h;exact λk x=>Z45.step0 k x.1 x.2.1
  ·cases h) ((Z45.run k a0).trans h) (λr hr=>Q1 hr)
def Z68.F (k:Nat)(a0:ByteArray):Option (Bool):=bif (decide ((a0.size:Int)<=40))then((Z45.F k a0).bind λr1=>some r1)else(some false)
def Z68.C (k:Nat):Cal->Option CArm:=λc=>match c with
 |.f 104=>some (.p [.str] _ (λx=>Z45.F k x.1) (λr=>(.t .bool r)))
 |_=>none
theorem Z68.run (k:Nat)(a0:ByteArray):Qm Q0 (Q8 (Z68.C k)) (Q6 10 0 (λ_=>none)) Tryz.f64 [.t .str a0] (Q5 (.t .bool))=Z68.F k a0:=by kernel_rfl
theorem Z68.G (hE:EnvOk Tryz.prog Q0)(pv:Nat->Value)(k:Nat):∀cal A,Z68.C k cal=some A->Qc Tryz.prog Q0 pv cal A:=by
 intro cal A h
 unfold Z68.C at h
 split at h
 ·cases h;exact λx y hy=>Z45.good hE pv k x.1 hy
 ·cases h
theorem Z68.good (hE:EnvOk Tryz.prog Q0)(pv:Nat->Value)(k:Nat)(a0:ByteArray){y:_}(h:Z68.F k a0=some y):Qd Tryz.prog Q0 pv (.f 64) (Q7 [.str] (a0,())) (.t .bool y):=
 Qb hE (Z68.G hE pv k) (f:=64) (fn:=Tryz.f64) (by kernel_rfl) rfl (by kernel_rfl) (by kernel_rfl) ((Z68.run k a0).trans h) (λr hr=>Q1 hr)
def Z58.F (a0:Int):Option (Bool):=bif (decide (a0 ≥ 97))then(some (decide (a0<=122)))else(some false)
def Z58.C:Cal->Option CArm:=λc=>match c with
 |_=>none
theorem Z58.run (a0:Int):Qm Q0 (Q8 Z58.C) (Q6 9 0 (λ_=>none)) Tryz.f124 [.t (.int .u8) a0] (Q5 (.t .bool))=Z58.F a0:=by kernel_rfl
theorem Z58.G (hE:EnvOk Tryz.prog Q0)(pv:Nat->Value):∀cal A,Z58.C cal=some A->Qc Tryz.prog Q0 pv cal A:=by
 intro cal A h
 unfold Z58.C at h
 cases h
theorem Z58.good (hE:EnvOk Tryz.prog Q0)(pv:Nat->Value)(a0:Int){y:_}(h:Z58.F a0=some y):Qd Tryz.prog Q0 pv (.f 124) (Q7 [(.int .u8)] (a0,())) (.t .bool y):=
 Qb hE (Z58.G hE pv) (f:=124) (fn:=Tryz.f124) (by kernel_rfl) rfl (by kernel_rfl) (by kernel_rfl) ((Z58.run a0).trans h) (λr hr=>Q1 hr)
def Z74.F (a0:Int):Option (Bool):=bif (decide (a0 ≥ 48))then(some (decide (a0<=57)))else(some false)
def Z74.C:Cal->Option CArm:=λc=>match c with
 |_=>none
theorem Z74.run (a0:Int):Qm Q0 (Q8 Z74.C) (Q6 9 0 (λ_=>none)) Tryz.f125 [.t (.int .u8) a0] (Q5 (.t .bool))=Z74.F a0:=by kernel_rfl
theorem Z74.G (hE:EnvOk Tryz.prog Q0)(pv:Nat->Value):∀cal A,Z74.C cal=some A->Qc Tryz.prog Q0 pv cal A:=by
 intro cal A h
 unfold Z74.C at h
 cases h
theorem Z74.good (hE:EnvOk Tryz.prog Q0)(pv:Nat->Value)(a0:Int){y:_}(h:Z74.F a0=some y):Qd Tryz.prog Q0 pv (.f 125) (Q7 [(.int .u8)] (a0,())) (.t .bool y):=
 Qb hE (Z74.G hE pv) (f:=125) (fn:=Tryz.f125) (by kernel_rfl) rfl (by kernel_rfl) (by kernel_rfl) ((Z74.run a0).trans h) (λr hr=>Q1 hr)
def Z22.l0:Nat->ByteArray->Int->Option (Sum Bool Unit)
 |0,_,_=>none
 |k+1,x0,x3=>bif (decide (x3<(x0.size:Int)))then(bif decide (0<=x3)then(bif decide (x3<(x0.size:Int))then((Z58.F (bt x0 (x3:Int).toNat)).bind λr3=>bif (!r3)then(bif decide (0<=x3)then(bif decide (x3<(x0.size:Int))then((Z74.F (bt x0 (x3:Int).toNat)).bind λr4=>bif (!r4)then(some (.inl false))else(Z22.l0 k x0 (IntKind.wrap .i64 (x3+1))))else none)else none)else(Z22.l0 k x0 (IntKind.wrap .i64 (x3+1))))else none)else none)else(some (.inr ()))
def Z22.F (k:Nat)(a0:ByteArray):Option (Bool):=(Z52.F (a0.size:Int) 1 10).bind λr1=>bif (!r1)then(some false)else(bif decide (0<=0)then(bif decide (0<(a0.size:Int))then((Z58.F (bt a0 (0:Int).toNat)).bind λr2=>bif (!r2)then(some false)else((Z22.l0 k a0 0).bind λy5=>match y5 with|.inl z6=>some z6|.inr z6=>some true))else none)else none)
def Z22.C (k:Nat):Cal->Option CArm:=λc=>match c with
 |.f 33=>some (.p [(.int .i64),(.int .i64),(.int .i64)] _ (λx=>Z52.F x.1 x.2.1 x.2.2.1) (λr=>(.t .bool r)))
 |.f 124=>some (.p [(.int .u8)] _ (λx=>Z58.F x.1) (λr=>(.t .bool r)))
 |.f 125=>some (.p [(.int .u8)] _ (λx=>Z74.F x.1) (λr=>(.t .bool r)))
 |_=>none
def Z22.sp0:List Sp:=[.t 0 .str,.t 3 (.int .i64)]
def Z22.sp0_0:List Sp:=[.t 2 .bool]
def Z22.sp0_1:List Sp:=[]
def Z22.A0:LArm:=.two Z22.sp0 Z22.sp0_0 Z22.sp0_1 (Bool) (Unit) (λk x=>Z22.l0 k x.1 x.2.1) .ret (.exit 0) (λy=>(y,())) (λx=>x.1) (λy=>()) (λx=>())
def Z22.L:Nat->Option LArm:=λb=>match b with
 |0=>some Z22.A0
 |_=>none
theorem Z22.run (k:Nat)(a0:ByteArray):Qm Q0 (Q8 (Z22.C k)) (Q6 32 k Z22.L) Tryz.f79 [.t .str a0] (Q5 (.t .bool))=Z22.F k a0:=by kernel_rfl
theorem Z22.step0 (k:Nat)(x0:ByteArray)(x3:Int):Qs Q0 (Q8 (Z22.C k)) (Q6 32 k Z22.L) 0 (Qh Tryz.f79 0) (QA 32 Z22.sp0 (x0,x3,())) (Z22.A0.cont 32 k)=Z22.l0 (k+1) x0 x3:=by kernel_rfl
theorem Z22.G (hE:EnvOk Tryz.prog Q0)(pv:Nat->Value)(k:Nat):∀cal A,Z22.C k cal=some A->Qc Tryz.prog Q0 pv cal A:=by
 intro cal A h
 unfold Z22.C at h
 split at h
 ·cases h;exact λx y hy=>Z52.good hE pv x.1 x.2.1 x.2.2.1 hy
 ·cases h;exact λx y hy=>Z58.good hE pv x.1 hy
 ·cases h;exact λx y hy=>Z74.good hE pv x.1 hy
 ·cases h
theorem Z22.good (hE:EnvOk Tryz.prog Q0)(pv:Nat->Value)(k:Nat)(a0:ByteArray){y:_}(h:Z22.F k a0=some y):Qd Tryz.prog Q0 pv (.f 79) (Q7 [.str] (a0,())) (.t .bool y):=
 Qj hE (t:=Z22.C) k (λk _=>Z22.G hE pv k) (f:=79) (fn:=Tryz.f79) (by kernel_rfl) rfl (by kernel_rfl) (by kernel_rfl) (lt:=Z22.L) (by kernel_rfl) (λb A h=>by
  unfold Z22.L at h;split at h
  ·cases h;exact⟨by kernel_rfl,by kernel_rfl,by kernel_rfl,λ_=>rfl,λ_=>rfl,λ_=>rfl⟩
  ·cases h) (λb A h=>by
  unfold Z22.L at h;split at h
  ·cases h;exact λk x=>Z22.step0 k x.1 x.2.1
  ·cases h) ((Z22.run k a0).trans h) (λr hr=>Q1 hr)
def Z115.F (a0:Int):Option (Bool):=(Z52.F a0 1 4).bind λr1=>some r1
def Z115.C:Cal->Option CArm:=λc=>match c with
 |.f 33=>some (.p [(.int .i64),(.int .i64),(.int .i64)] _ (λx=>Z52.F x.1 x.2.1 x.2.2.1) (λr=>(.t .bool r)))
 |_=>none
theorem Z115.run (a0:Int):Qm Q0 (Q8 Z115.C) (Q6 5 0 (λ_=>none)) Tryz.f80 [.t (.int .i64) a0] (Q5 (.t .bool))=Z115.F a0:=by kernel_rfl
theorem Z115.G (hE:EnvOk Tryz.prog Q0)(pv:Nat->Value):∀cal A,Z115.C cal=some A->Qc Tryz.prog Q0 pv cal A:=by
 intro cal A h
 unfold Z115.C at h
 split at h
 ·cases h;exact λx y hy=>Z52.good hE pv x.1 x.2.1 x.2.2.1 hy
 ·cases h
theorem Z115.good (hE:EnvOk Tryz.prog Q0)(pv:Nat->Value)(a0:Int){y:_}(h:Z115.F a0=some y):Qd Tryz.prog Q0 pv (.f 80) (Q7 [(.int .i64)] (a0,())) (.t .bool y):=
 Qb hE (Z115.G hE pv) (f:=80) (fn:=Tryz.f80) (by kernel_rfl) rfl (by kernel_rfl) (by kernel_rfl) ((Z115.run a0).trans h) (λr hr=>Q1 hr)
def Z64.F (a0:Int):Option (Bool):=bif (decide (a0 ≥ 65))then(some (decide (a0<=90)))else(some false)
def Z64.C:Cal->Option CArm:=λc=>match c with
 |_=>none
theorem Z64.run (a0:Int):Qm Q0 (Q8 Z64.C) (Q6 9 0 (λ_=>none)) Tryz.f88 [.t (.int .u8) a0] (Q5 (.t .bool))=Z64.F a0:=by kernel_rfl
theorem Z64.G (hE:EnvOk Tryz.prog Q0)(pv:Nat->Value):∀cal A,Z64.C cal=some A->Qc Tryz.prog Q0 pv cal A:=by
 intro cal A h
 unfold Z64.C at h
 cases h
theorem Z64.good (hE:EnvOk Tryz.prog Q0)(pv:Nat->Value)(a0:Int){y:_}(h:Z64.F a0=some y):Qd Tryz.prog Q0 pv (.f 88) (Q7 [(.int .u8)] (a0,())) (.t .bool y):=
 Qb hE (Z64.G hE pv) (f:=88) (fn:=Tryz.f88) (by kernel_rfl) rfl (by kernel_rfl) (by kernel_rfl) ((Z64.run a0).trans h) (λr hr=>Q1 hr)
def Z65.F (a0:Int):Option (Bool):=(Z64.F a0).bind λr1=>bif r1 then(some true)else((Z58.F a0).bind λr2=>some r2)
def Z65.C:Cal->Option CArm:=λc=>match c with
 |.f 88=>some (.p [(.int .u8)] _ (λx=>Z64.F x.1) (λr=>(.t .bool r)))
 |.f 124=>some (.p [(.int .u8)] _ (λx=>Z58.F x.1) (λr=>(.t .bool r)))
 |_=>none
theorem Z65.run (a0:Int):Qm Q0 (Q8 Z65.C) (Q6 9 0 (λ_=>none)) Tryz.f89 [.t (.int .u8) a0] (Q5 (.t .bool))=Z65.F a0:=by kernel_rfl
theorem Z65.G (hE:EnvOk Tryz.prog Q0)(pv:Nat->Value):∀cal A,Z65.C cal=some A->Qc Tryz.prog Q0 pv cal A:=by
 intro cal A h
 unfold Z65.C at h
 split at h
 ·cases h;exact λx y hy=>Z64.good hE pv x.1 hy
 ·cases h;exact λx y hy=>Z58.good hE pv x.1 hy
 ·cases h
theorem Z65.good (hE:EnvOk Tryz.prog Q0)(pv:Nat->Value)(a0:Int){y:_}(h:Z65.F a0=some y):Qd Tryz.prog Q0 pv (.f 89) (Q7 [(.int .u8)] (a0,())) (.t .bool y):=
 Qb hE (Z65.G hE pv) (f:=89) (fn:=Tryz.f89) (by kernel_rfl) rfl (by kernel_rfl) (by kernel_rfl) ((Z65.run a0).trans h) (λr hr=>Q1 hr)
def Z18.l0:Nat->ByteArray->Int->Option (Sum Bool Unit)
 |0,_,_=>none
 |k+1,x0,x3=>bif (decide (x3<(x0.size:Int)))then(bif decide (0<=x3)then(bif decide (x3<(x0.size:Int))then((Z65.F (bt x0 (x3:Int).toNat)).bind λr4=>bif (!r4)then(bif decide (0<=x3)then(bif decide (x3<(x0.size:Int))then(bif ((bt x0 (x3:Int).toNat) != 45)then(bif decide (0<=x3)then(bif decide (x3<(x0.size:Int))then(bif ((bt x0 (x3:Int).toNat) != 39)then(some (.inl false))else(bif decide (0<=(IntKind.wrap .i64 (x3-1)))then(bif decide ((IntKind.wrap .i64 (x3-1))<(x0.size:Int))then((Z65.F (bt x0 ((IntKind.wrap .i64 (x3-1)):Int).toNat)).bind λr5=>bif (!r5)then(some (.inl false))else(Z18.l0 k x0 (IntKind.wrap .i64 (x3+1))))else none)else none))else none)else none)else(bif decide (0<=(IntKind.wrap .i64 (x3-1)))then(bif decide ((IntKind.wrap .i64 (x3-1))<(x0.size:Int))then((Z65.F (bt x0 ((IntKind.wrap .i64 (x3-1)):Int).toNat)).bind λr6=>bif (!r6)then(some (.inl false))else(Z18.l0 k x0 (IntKind.wrap .i64 (x3+1))))else none)else none))else none)else none)else(Z18.l0 k x0 (IntKind.wrap .i64 (x3+1))))else none)else none)else(some (.inr ()))
def Z18.F (k:Nat)(a0:ByteArray):Option (Bool):=(Z52.F (a0.size:Int) 1 12).bind λr1=>bif (!r1)then(some false)else(bif decide (0<=(IntKind.wrap .i64 ((a0.size:Int)-1)))then(bif decide ((IntKind.wrap .i64 ((a0.size:Int)-1))<(a0.size:Int))then((Z65.F (bt a0 ((IntKind.wrap .i64 ((a0.size:Int)-1)):Int).toNat)).bind λr2=>bif (!r2)then(some false)else(bif decide (0<=0)then(bif decide (0<(a0.size:Int))then((Z65.F (bt a0 (0:Int).toNat)).bind λr3=>bif (!r3)then(some false)else((Z18.l0 k a0 0).bind λy7=>match y7 with|.inl z8=>some z8|.inr z8=>some true))else none)else none))else none)else none)
def Z18.C (k:Nat):Cal->Option CArm:=λc=>match c with
 |.f 33=>some (.p [(.int .i64),(.int .i64),(.int .i64)] _ (λx=>Z52.F x.1 x.2.1 x.2.2.1) (λr=>(.t .bool r)))
 |.f 89=>some (.p [(.int .u8)] _ (λx=>Z65.F x.1) (λr=>(.t .bool r)))
 |_=>none
def Z18.sp0:List Sp:=[.t 0 .str,.t 3 (.int .i64)]
def Z18.sp0_0:List Sp:=[.t 2 .bool]
def Z18.sp0_1:List Sp:=[]
def Z18.A0:LArm:=.two Z18.sp0 Z18.sp0_0 Z18.sp0_1 (Bool) (Unit) (λk x=>Z18.l0 k x.1 x.2.1) .ret (.exit 0) (λy=>(y,())) (λx=>x.1) (λy=>()) (λx=>())
def Z18.L:Nat->Option LArm:=λb=>match b with
 |0=>some Z18.A0
 |_=>none
theorem Z18.run (k:Nat)(a0:ByteArray):Qm Q0 (Q8 (Z18.C k)) (Q6 54 k Z18.L) Tryz.f158 [.t .str a0] (Q5 (.t .bool))=Z18.F k a0:=by kernel_rfl
theorem Z18.step0 (k:Nat)(x0:ByteArray)(x3:Int):Qs Q0 (Q8 (Z18.C k)) (Q6 54 k Z18.L) 0 (Qh Tryz.f158 0) (QA 54 Z18.sp0 (x0,x3,())) (Z18.A0.cont 54 k)=Z18.l0 (k+1) x0 x3:=by kernel_rfl
theorem Z18.G (hE:EnvOk Tryz.prog Q0)(pv:Nat->Value)(k:Nat):∀cal A,Z18.C k cal=some A->Qc Tryz.prog Q0 pv cal A:=by
 intro cal A h
 unfold Z18.C at h
 split at h
 ·cases h;exact λx y hy=>Z52.good hE pv x.1 x.2.1 x.2.2.1 hy
 ·cases h;exact λx y hy=>Z65.good hE pv x.1 hy
 ·cases h
theorem Z18.good (hE:EnvOk Tryz.prog Q0)(pv:Nat->Value)(k:Nat)(a0:ByteArray){y:_}(h:Z18.F k a0=some y):Qd Tryz.prog Q0 pv (.f 158) (Q7 [.str] (a0,())) (.t .bool y):=
 Qj hE (t:=Z18.C) k (λk _=>Z18.G hE pv k) (f:=158) (fn:=Tryz.f158) (by kernel_rfl) rfl (by kernel_rfl) (by kernel_rfl) (lt:=Z18.L) (by kernel_rfl) (λb A h=>by
  unfold Z18.L at h;split at h
  ·cases h;exact⟨by kernel_rfl,by kernel_rfl,by kernel_rfl,λ_=>rfl,λ_=>rfl,λ_=>rfl⟩
  ·cases h) (λb A h=>by
  unfold Z18.L at h;split at h
  ·cases h;exact λk x=>Z18.step0 k x.1 x.2.1
  ·cases h) ((Z18.run k a0).trans h) (λr hr=>Q1 hr)
def Z78.F (k:Nat)(a0:ByteArray):Option (Bool):=(Z18.F k a0).bind λr1=>bif r1 then(bif decide (0<=0)then(bif decide (0<(a0.size:Int))then((Z64.F (bt a0 (0:Int).toNat)).bind λr2=>some r2)else none)else none)else(some false)
def Z78.C (k:Nat):Cal->Option CArm:=λc=>match c with
 |.f 158=>some (.p [.str] _ (λx=>Z18.F k x.1) (λr=>(.t .bool r)))
 |.f 88=>some (.p [(.int .u8)] _ (λx=>Z64.F x.1) (λr=>(.t .bool r)))
 |_=>none
theorem Z78.run (k:Nat)(a0:ByteArray):Qm Q0 (Q8 (Z78.C k)) (Q6 10 0 (λ_=>none)) Tryz.f156 [.t .str a0] (Q5 (.t .bool))=Z78.F k a0:=by kernel_rfl
theorem Z78.G (hE:EnvOk Tryz.prog Q0)(pv:Nat->Value)(k:Nat):∀cal A,Z78.C k cal=some A->Qc Tryz.prog Q0 pv cal A:=by
 intro cal A h
 unfold Z78.C at h
 split at h
 ·cases h;exact λx y hy=>Z18.good hE pv k x.1 hy
 ·cases h;exact λx y hy=>Z64.good hE pv x.1 hy
 ·cases h
theorem Z78.good (hE:EnvOk Tryz.prog Q0)(pv:Nat->Value)(k:Nat)(a0:ByteArray){y:_}(h:Z78.F k a0=some y):Qd Tryz.prog Q0 pv (.f 156) (Q7 [.str] (a0,())) (.t .bool y):=
 Qb hE (Z78.G hE pv k) (f:=156) (fn:=Tryz.f156) (by kernel_rfl) rfl (by kernel_rfl) (by kernel_rfl) ((Z78.run k a0).trans h) (λr hr=>Q1 hr)
def Z88.F (k:Nat)(a0:ByteArray):Option (Bool):=(Z78.F k a0).bind λr1=>some (!r1)
def Z88.C (k:Nat):Cal->Option CArm:=λc=>match c with
 |.f 156=>some (.p [.str] _ (λx=>Z78.F k x.1) (λr=>(.t .bool r)))
 |_=>none
theorem Z88.run (k:Nat)(a0:ByteArray):Qm Q0 (Q8 (Z88.C k)) (Q6 6 0 (λ_=>none)) Tryz.f155 [.t .str a0] (Q5 (.t .bool))=Z88.F k a0:=by kernel_rfl
theorem Z88.G (hE:EnvOk Tryz.prog Q0)(pv:Nat->Value)(k:Nat):∀cal A,Z88.C k cal=some A->Qc Tryz.prog Q0 pv cal A:=by
 intro cal A h
 unfold Z88.C at h
 split at h
 ·cases h;exact λx y hy=>Z78.good hE pv k x.1 hy
 ·cases h
theorem Z88.good (hE:EnvOk Tryz.prog Q0)(pv:Nat->Value)(k:Nat)(a0:ByteArray){y:_}(h:Z88.F k a0=some y):Qd Tryz.prog Q0 pv (.f 155) (Q7 [.str] (a0,())) (.t .bool y):=
 Qb hE (Z88.G hE pv k) (f:=155) (fn:=Tryz.f155) (by kernel_rfl) rfl (by kernel_rfl) (by kernel_rfl) ((Z88.run k a0).trans h) (λr hr=>Q1 hr)
def Z124.F (a0:ByteArray)(a1:ByteArray):Option (List ByteArray):=Q3n a0 a1
theorem Z124.good (hE:EnvOk Tryz.prog Q0)(pv:Nat->Value)(a0:ByteArray)(a1:ByteArray){y:_}(h:Z124.F a0 a1=some y):Qd Tryz.prog Q0 pv (.f 167) (Q7 [.str,.str] (a0,a1,())) (.fr 9 .str y):=
 Q7X (fn:=Tryz.f167) (by kernel_rfl) rfl (by kernel_rfl) (mx:=1) (by kernel_rfl) Tryz.strings_Split h
def Z8.l2:Nat->(List ByteArray)->ByteArray->Int->Int->Int->Option (Sum Bool ((List ByteArray)×Int×Int))
 |0,_,_,_,_,_=>none
 |k+1,x3,x5,x6,x12,x13=>bif (decide (x6<(x5.size:Int)))then(bif decide (0<=x6)then(bif decide (x6<(x5.size:Int))then((Z58.F (bt x5 (x6:Int).toNat)).bind λr3=>bif (!r3)then(some (.inl false))else(Z8.l2 k x3 x5 (IntKind.wrap .i64 (x6+1)) x12 x13))else none)else none)else(some (.inr (x3,x12,x13)))
def Z8.l0:Nat->(List ByteArray)->Int->Int->Option (Sum Bool (List ByteArray))
 |0,_,_,_=>none
 |k+1,x3,x12,x13=>bif (decide (x13<x12))then(bif decide (0<=x13)then(bif decide (x13<(x3.length:Int))then((Z52.F ((x3.getD ((x13:Int).toNat) (⟨#[]⟩:ByteArray)).size:Int) 1 12).bind λr2=>bif (!r2)then(some (.inl false))else((Z8.l2 k x3 (x3.getD ((x13:Int).toNat) (⟨#[]⟩:ByteArray)) 0 x12 x13).bind λy4=>match y4 with|.inl z5=>some (.inl z5)|.inr z5=>Z8.l0 k z5.1 z5.2.1 (IntKind.wrap .i64 (z5.2.2+1))))else none)else none)else(some (.inr x3))
def Z8.F (k:Nat)(a0:ByteArray):Option (Bool):=bif (Qr a0 (⟨#[]⟩:ByteArray))then(some true)else((Z124.F a0 (⟨#[32]⟩:ByteArray)).bind λr1=>(Z8.l0 k r1 (r1.length:Int) 0).bind λy6=>match y6 with|.inl z7=>some z7|.inr z7=>some (decide ((z7.length:Int)<=2)))
def Z8.C (k:Nat):Cal->Option CArm:=λc=>match c with
 |.f 167=>some (.p [.str,.str] _ (λx=>Z124.F x.1 x.2.1) (λr=>(.fr 9 .str r)))
 |.f 33=>some (.p [(.int .i64),(.int .i64),(.int .i64)] _ (λx=>Z52.F x.1 x.2.1 x.2.2.1) (λr=>(.t .bool r)))
 |.f 124=>some (.p [(.int .u8)] _ (λx=>Z58.F x.1) (λr=>(.t .bool r)))
 |_=>none
def Z8.sp2:List Sp:=[.own 3 3076 9 .str false true,.t 5 .str,.t 6 (.int .i64),.con 11 (.own 3076),.t 12 (.int .i64),.t 13 (.int .i64)]
def Z8.sp2_0:List Sp:=[.t 2 .bool]
def Z8.sp2_1:List Sp:=[.own 3 3076 9 .str false true,.con 11 (.own 3076),.t 12 (.int .i64),.t 13 (.int .i64)]
def Z8.A2:LArm:=.two Z8.sp2 Z8.sp2_0 Z8.sp2_1 (Bool) ((List ByteArray)×Int×Int) (λk x=>Z8.l2 k x.1 x.2.1 x.2.2.1 x.2.2.2.2.1 x.2.2.2.2.2.1) .ret (.exit 2) (λy=>(y,())) (λx=>x.1) (λy=>(y.1,(),y.2.1,y.2.2,())) (λx=>(x.1,x.2.2.1,x.2.2.2.1))
def Z8.sp0:List Sp:=[.own 3 3076 9 .str false true,.con 11 (.own 3076),.t 12 (.int .i64),.t 13 (.int .i64)]
def Z8.sp0_0:List Sp:=[.t 2 .bool]
def Z8.sp0_1:List Sp:=[.own 3 3076 9 .str false true]
def Z8.A0:LArm:=.two Z8.sp0 Z8.sp0_0 Z8.sp0_1 (Bool) ((List ByteArray)) (λk x=>Z8.l0 k x.1 x.2.2.1 x.2.2.2.1) .ret (.exit 0) (λy=>(y,())) (λx=>x.1) (λy=>(y,())) (λx=>x.1)
def Z8.L:Nat->Option LArm:=λb=>match b with
 |2=>some Z8.A2
 |0=>some Z8.A0
 |_=>none
theorem Z8.run (k:Nat)(a0:ByteArray):Qm Q0 (Q8 (Z8.C k)) (Q6 36 k Z8.L) Tryz.f157 [.t .str a0] (Q5 (.t .bool))=Z8.F k a0:=by kernel_rfl
theorem Z8.step2 (k:Nat)(x3:List ByteArray)(x5:ByteArray)(x6:Int)(x12:Int)(x13:Int):Qs Q0 (Q8 (Z8.C k)) (Q6 36 k Z8.L) 2 (Qh Tryz.f157 2) (QA 36 Z8.sp2 (x3,x5,x6,(),x12,x13,())) (Z8.A2.cont 36 k)=Z8.l2 (k+1) x3 x5 x6 x12 x13:=by kernel_rfl
theorem Z8.step0 (k:Nat)(x3:List ByteArray)(x12:Int)(x13:Int):Qs Q0 (Q8 (Z8.C k)) (Q6 36 k Z8.L) 0 (Qh Tryz.f157 0) (QA 36 Z8.sp0 (x3,(),x12,x13,())) (Z8.A0.cont 36 k)=Z8.l0 (k+1) x3 x12 x13:=by kernel_rfl
theorem Z8.G (hE:EnvOk Tryz.prog Q0)(pv:Nat->Value)(k:Nat):∀cal A,Z8.C k cal=some A->Qc Tryz.prog Q0 pv cal A:=by
 intro cal A h
 unfold Z8.C at h
 split at h
 ·cases h;exact λx y hy=>Z124.good hE pv x.1 x.2.1 hy
 ·cases h;exact λx y hy=>Z52.good hE pv x.1 x.2.1 x.2.2.1 hy
 ·cases h;exact λx y hy=>Z58.good hE pv x.1 hy
 ·cases h
theorem Z8.good (hE:EnvOk Tryz.prog Q0)(pv:Nat->Value)(k:Nat)(a0:ByteArray){y:_}(h:Z8.F k a0=some y):Qd Tryz.prog Q0 pv (.f 157) (Q7 [.str] (a0,())) (.t .bool y):=
 Qj hE (t:=Z8.C) k (λk _=>Z8.G hE pv k) (f:=157) (fn:=Tryz.f157) (by kernel_rfl) rfl (by kernel_rfl) (by kernel_rfl) (lt:=Z8.L) (by kernel_rfl) (λb A h=>by
  unfold Z8.L at h;split at h
  ·cases h;exact⟨by kernel_rfl,by kernel_rfl,by kernel_rfl,λ_=>rfl,λ_=>rfl,λ_=>rfl⟩
  ·cases h;exact⟨by kernel_rfl,by kernel_rfl,by kernel_rfl,λ_=>rfl,λ_=>rfl,λ_=>rfl⟩
  ·cases h) (λb A h=>by
  unfold Z8.L at h;split at h
  ·cases h;exact λk x=>Z8.step2 k x.1 x.2.1 x.2.2.1 x.2.2.2.2.1 x.2.2.2.2.2.1
  ·cases h;exact λk x=>Z8.step0 k x.1 x.2.2.1 x.2.2.2.1
  ·cases h) ((Z8.run k a0).trans h) (λr hr=>Q1 hr)
def Z48.l0:Nat->(List ByteArray)->Int->Int->Option (Sum Int Unit)
 |0,_,_,_=>none
 |k+1,x0,x7,x8=>bif (decide (x8<x7))then(bif decide (0<=x8)then(bif decide (x8<(x0.length:Int))then((Z88.F k (x0.getD (x8:Int).toNat (⟨#[]⟩:ByteArray))).bind λr1=>bif r1 then(some (.inl x8))else(Z48.l0 k x0 x7 (IntKind.wrap .i64 (x8+1))))else none)else none)else(some (.inr ()))
def Z48.F (k:Nat)(a0:List ByteArray):Option (Int):=(Z48.l0 k a0 (a0.length:Int) 0).bind λy2=>match y2 with|.inl z3=>some z3|.inr z3=>some (-1)
def Z48.C (k:Nat):Cal->Option CArm:=λc=>match c with
 |.f 155=>some (.p [.str] _ (λx=>Z88.F k x.1) (λr=>(.t .bool r)))
 |_=>none
def Z48.sp0:List Sp:=[.t 0 (.sl .str),.con 1 (.clo 155),.t 7 (.int .i64),.t 8 (.int .i64)]
def Z48.sp0_0:List Sp:=[.t 4 (.int .i64)]
def Z48.sp0_1:List Sp:=[]
def Z48.A0:LArm:=.two Z48.sp0 Z48.sp0_0 Z48.sp0_1 (Int) (Unit) (λk x=>Z48.l0 k x.1 x.2.2.1 x.2.2.2.1) .ret (.exit 0) (λy=>(y,())) (λx=>x.1) (λy=>()) (λx=>())
def Z48.L:Nat->Option LArm:=λb=>match b with
 |0=>some Z48.A0
 |_=>none
theorem Z48.run (k:Nat)(a0:List ByteArray):Qm Q0 (Q8 (Z48.C k)) (Q6 19 k Z48.L) Tryz.f181 [.t (.sl .str) a0,.clo 155 []] (Q5 (.t (.int .i64)))=Z48.F k a0:=by kernel_rfl
theorem Z48.step0 (k:Nat)(x0:List ByteArray)(x7:Int)(x8:Int):Qs Q0 (Q8 (Z48.C k)) (Q6 19 k Z48.L) 0 (Qh Tryz.f181 0) (QA 19 Z48.sp0 (x0,(),x7,x8,())) (Z48.A0.cont 19 k)=Z48.l0 (k+1) x0 x7 x8:=by kernel_rfl
theorem Z48.G (hE:EnvOk Tryz.prog Q0)(pv:Nat->Value)(k:Nat):∀cal A,Z48.C k cal=some A->Qc Tryz.prog Q0 pv cal A:=by
 intro cal A h
 unfold Z48.C at h
 split at h
 ·cases h;exact λx y hy=>Z88.good hE pv k x.1 hy
 ·cases h
theorem Z48.good (hE:EnvOk Tryz.prog Q0)(pv:Nat->Value)(k:Nat)(a0:List ByteArray){y:_}(h:Z48.F k a0=some y):Qd Tryz.prog Q0 pv (.f 181) (YX [.t (.sl .str),.clo 155 []] (a0,(()),())) (.t (.int .i64) y):=
 Qj hE (t:=Z48.C) k (λk _=>Z48.G hE pv k) (f:=181) (fn:=Tryz.f181) (by kernel_rfl) rfl (by kernel_rfl) (by kernel_rfl) (lt:=Z48.L) (by kernel_rfl) (λb A h=>by
  unfold Z48.L at h;split at h
  ·cases h;exact⟨by kernel_rfl,by kernel_rfl,by kernel_rfl,λ_=>rfl,λ_=>rfl,λ_=>rfl⟩
  ·cases h) (λb A h=>by
  unfold Z48.L at h;split at h
  ·cases h;exact λk x=>Z48.step0 k x.1 x.2.2.1 x.2.2.2.1
  ·cases h) ((Z48.run k a0).trans h) (λr hr=>Q1 hr)
def Z116.F (k:Nat)(a0:List ByteArray):Option (Bool):=(Z48.F k a0).bind λr1=>some (decide (r1 ≥ 0))
def Z116.C (k:Nat):Cal->Option CArm:=λc=>match c with
 |.f 181=>some (.q [.t (.sl .str),.clo 155 []] _ (λx=>Z48.F k x.1) (λr=>(.t (.int .i64) r)))
 |_=>none
theorem Z116.run (k:Nat)(a0:List ByteArray):Qm Q0 (Q8 (Z116.C k)) (Q6 9 0 (λ_=>none)) Tryz.f154 [.t (.sl .str) a0,.clo 155 []] (Q5 (.t .bool))=Z116.F k a0:=by kernel_rfl
theorem Z116.G (hE:EnvOk Tryz.prog Q0)(pv:Nat->Value)(k:Nat):∀cal A,Z116.C k cal=some A->Qc Tryz.prog Q0 pv cal A:=by
 intro cal A h
 unfold Z116.C at h
 split at h
 ·cases h;exact λx y hy=>Z48.good hE pv k x.1 hy
 ·cases h
theorem Z116.good (hE:EnvOk Tryz.prog Q0)(pv:Nat->Value)(k:Nat)(a0:List ByteArray){y:_}(h:Z116.F k a0=some y):Qd Tryz.prog Q0 pv (.f 154) (YX [.t (.sl .str),.clo 155 []] (a0,(()),())) (.t .bool y):=
 Qb hE (Z116.G hE pv k) (f:=154) (fn:=Tryz.f154) (by kernel_rfl) rfl (by kernel_rfl) (by kernel_rfl) ((Z116.run k a0).trans h) (λr hr=>Q1 hr)
def Z102.F (k:Nat)(a0:Name):Option (Bool):=bif (decide ((a0.given.length:Int) > 3))then(some false)else((Z116.F k a0.given).bind λr1=>bif r1 then(some false)else((Z8.F k a0.particle).bind λr2=>bif r2 then((Z78.F k a0.family).bind λr3=>bif r3 then(bif (Qr a0.suffix (⟨#[]⟩:ByteArray))then(some true)else((Z18.F k a0.suffix).bind λr4=>some r4))else(some false))else(some false)))
def Z102.C (k:Nat):Cal->Option CArm:=λc=>match c with
 |.f 154=>some (.q [.t (.sl .str),.clo 155 []] _ (λx=>Z116.F k x.1) (λr=>(.t .bool r)))
 |.f 157=>some (.p [.str] _ (λx=>Z8.F k x.1) (λr=>(.t .bool r)))
 |.f 156=>some (.p [.str] _ (λx=>Z78.F k x.1) (λr=>(.t .bool r)))
 |.f 158=>some (.p [.str] _ (λx=>Z18.F k x.1) (λr=>(.t .bool r)))
 |_=>none
theorem Z102.run (k:Nat)(a0:Name):Qm Q0 (Q8 (Z102.C k)) (Q6 30 0 (λ_=>none)) Tryz.f128 [.t .name a0] (Q5 (.t .bool))=Z102.F k a0:=by kernel_rfl
theorem Z102.G (hE:EnvOk Tryz.prog Q0)(pv:Nat->Value)(k:Nat):∀cal A,Z102.C k cal=some A->Qc Tryz.prog Q0 pv cal A:=by
 intro cal A h
 unfold Z102.C at h
 split at h
 ·cases h;exact λx y hy=>Z116.good hE pv k x.1 hy
 ·cases h;exact λx y hy=>Z8.good hE pv k x.1 hy
 ·cases h;exact λx y hy=>Z78.good hE pv k x.1 hy
 ·cases h;exact λx y hy=>Z18.good hE pv k x.1 hy
 ·cases h
theorem Z102.good (hE:EnvOk Tryz.prog Q0)(pv:Nat->Value)(k:Nat)(a0:Name){y:_}(h:Z102.F k a0=some y):Qd Tryz.prog Q0 pv (.f 128) (Q7 [.name] (a0,())) (.t .bool y):=
 Qb hE (Z102.G hE pv k) (f:=128) (fn:=Tryz.f128) (by kernel_rfl) rfl (by kernel_rfl) (by kernel_rfl) ((Z102.run k a0).trans h) (λr hr=>Q1 hr)
def Z89.F (k:Nat)(a0:Name):Option (Bool):=(Z102.F k a0).bind λr1=>some (!r1)
def Z89.C (k:Nat):Cal->Option CArm:=λc=>match c with
 |.f 128=>some (.p [.name] _ (λx=>Z102.F k x.1) (λr=>(.t .bool r)))
 |_=>none
theorem Z89.run (k:Nat)(a0:Name):Qm Q0 (Q8 (Z89.C k)) (Q6 6 0 (λ_=>none)) Tryz.f127 [.t .name a0] (Q5 (.t .bool))=Z89.F k a0:=by kernel_rfl
theorem Z89.G (hE:EnvOk Tryz.prog Q0)(pv:Nat->Value)(k:Nat):∀cal A,Z89.C k cal=some A->Qc Tryz.prog Q0 pv cal A:=by
 intro cal A h
 unfold Z89.C at h
 split at h
 ·cases h;exact λx y hy=>Z102.good hE pv k x.1 hy
 ·cases h
theorem Z89.good (hE:EnvOk Tryz.prog Q0)(pv:Nat->Value)(k:Nat)(a0:Name){y:_}(h:Z89.F k a0=some y):Qd Tryz.prog Q0 pv (.f 127) (Q7 [.name] (a0,())) (.t .bool y):=
 Qb hE (Z89.G hE pv k) (f:=127) (fn:=Tryz.f127) (by kernel_rfl) rfl (by kernel_rfl) (by kernel_rfl) ((Z89.run k a0).trans h) (λr hr=>Q1 hr)
def Z49.l0:Nat->(List Name)->Int->Int->Option (Sum Int Unit)
 |0,_,_,_=>none
 |k+1,x0,x7,x8=>bif (decide (x8<x7))then(bif decide (0<=x8)then(bif decide (x8<(x0.length:Int))then((Z89.F k (x0.getD (x8:Int).toNat (Q4 .name))).bind λr1=>bif r1 then(some (.inl x8))else(Z49.l0 k x0 x7 (IntKind.wrap .i64 (x8+1))))else none)else none)else(some (.inr ()))
def Z49.F (k:Nat)(a0:List Name):Option (Int):=(Z49.l0 k a0 (a0.length:Int) 0).bind λy2=>match y2 with|.inl z3=>some z3|.inr z3=>some (-1)
def Z49.C (k:Nat):Cal->Option CArm:=λc=>match c with
 |.f 127=>some (.p [.name] _ (λx=>Z89.F k x.1) (λr=>(.t .bool r)))
 |_=>none
def Z49.sp0:List Sp:=[.t 0 (.sl .name),.con 1 (.clo 127),.t 7 (.int .i64),.t 8 (.int .i64)]
def Z49.sp0_0:List Sp:=[.t 4 (.int .i64)]
def Z49.sp0_1:List Sp:=[]
def Z49.A0:LArm:=.two Z49.sp0 Z49.sp0_0 Z49.sp0_1 (Int) (Unit) (λk x=>Z49.l0 k x.1 x.2.2.1 x.2.2.2.1) .ret (.exit 0) (λy=>(y,())) (λx=>x.1) (λy=>()) (λx=>())
def Z49.L:Nat->Option LArm:=λb=>match b with
 |0=>some Z49.A0
 |_=>none
theorem Z49.run (k:Nat)(a0:List Name):Qm Q0 (Q8 (Z49.C k)) (Q6 19 k Z49.L) Tryz.f153 [.t (.sl .name) a0,.clo 127 []] (Q5 (.t (.int .i64)))=Z49.F k a0:=by kernel_rfl
theorem Z49.step0 (k:Nat)(x0:List Name)(x7:Int)(x8:Int):Qs Q0 (Q8 (Z49.C k)) (Q6 19 k Z49.L) 0 (Qh Tryz.f153 0) (QA 19 Z49.sp0 (x0,(),x7,x8,())) (Z49.A0.cont 19 k)=Z49.l0 (k+1) x0 x7 x8:=by kernel_rfl
theorem Z49.G (hE:EnvOk Tryz.prog Q0)(pv:Nat->Value)(k:Nat):∀cal A,Z49.C k cal=some A->Qc Tryz.prog Q0 pv cal A:=by
 intro cal A h
 unfold Z49.C at h
 split at h
 ·cases h;exact λx y hy=>Z89.good hE pv k x.1 hy
 ·cases h
theorem Z49.good (hE:EnvOk Tryz.prog Q0)(pv:Nat->Value)(k:Nat)(a0:List Name){y:_}(h:Z49.F k a0=some y):Qd Tryz.prog Q0 pv (.f 153) (YX [.t (.sl .name),.clo 127 []] (a0,(()),())) (.t (.int .i64) y):=
 Qj hE (t:=Z49.C) k (λk _=>Z49.G hE pv k) (f:=153) (fn:=Tryz.f153) (by kernel_rfl) rfl (by kernel_rfl) (by kernel_rfl) (lt:=Z49.L) (by kernel_rfl) (λb A h=>by
  unfold Z49.L at h;split at h
  ·cases h;exact⟨by kernel_rfl,by kernel_rfl,by kernel_rfl,λ_=>rfl,λ_=>rfl,λ_=>rfl⟩
  ·cases h) (λb A h=>by
  unfold Z49.L at h;split at h
  ·cases h;exact λk x=>Z49.step0 k x.1 x.2.2.1 x.2.2.2.1
  ·cases h) ((Z49.run k a0).trans h) (λr hr=>Q1 hr)
def Z117.F (k:Nat)(a0:List Name):Option (Bool):=(Z49.F k a0).bind λr1=>some (decide (r1 ≥ 0))
def Z117.C (k:Nat):Cal->Option CArm:=λc=>match c with
 |.f 153=>some (.q [.t (.sl .name),.clo 127 []] _ (λx=>Z49.F k x.1) (λr=>(.t (.int .i64) r)))
 |_=>none
theorem Z117.run (k:Nat)(a0:List Name):Qm Q0 (Q8 (Z117.C k)) (Q6 9 0 (λ_=>none)) Tryz.f126 [.t (.sl .name) a0,.clo 127 []] (Q5 (.t .bool))=Z117.F k a0:=by kernel_rfl
theorem Z117.G (hE:EnvOk Tryz.prog Q0)(pv:Nat->Value)(k:Nat):∀cal A,Z117.C k cal=some A->Qc Tryz.prog Q0 pv cal A:=by
 intro cal A h
 unfold Z117.C at h
 split at h
 ·cases h;exact λx y hy=>Z49.good hE pv k x.1 hy
 ·cases h
theorem Z117.good (hE:EnvOk Tryz.prog Q0)(pv:Nat->Value)(k:Nat)(a0:List Name){y:_}(h:Z117.F k a0=some y):Qd Tryz.prog Q0 pv (.f 126) (YX [.t (.sl .name),.clo 127 []] (a0,(()),())) (.t .bool y):=
 Qb hE (Z117.G hE pv k) (f:=126) (fn:=Tryz.f126) (by kernel_rfl) rfl (by kernel_rfl) (by kernel_rfl) ((Z117.run k a0).trans h) (λr hr=>Q1 hr)
def Z90.F (k:Nat)(a0:List Name):Option (Bool):=bif (decide ((a0.length:Int)<=4))then((Z117.F k a0).bind λr1=>some (!r1))else(some false)
def Z90.C (k:Nat):Cal->Option CArm:=λc=>match c with
 |.f 126=>some (.q [.t (.sl .name),.clo 127 []] _ (λx=>Z117.F k x.1) (λr=>(.t .bool r)))
 |_=>none
theorem Z90.run (k:Nat)(a0:List Name):Qm Q0 (Q8 (Z90.C k)) (Q6 11 0 (λ_=>none)) Tryz.f81 [.t (.sl .name) a0] (Q5 (.t .bool))=Z90.F k a0:=by kernel_rfl
theorem Z90.G (hE:EnvOk Tryz.prog Q0)(pv:Nat->Value)(k:Nat):∀cal A,Z90.C k cal=some A->Qc Tryz.prog Q0 pv cal A:=by
 intro cal A h
 unfold Z90.C at h
 split at h
 ·cases h;exact λx y hy=>Z117.good hE pv k x.1 hy
 ·cases h
theorem Z90.good (hE:EnvOk Tryz.prog Q0)(pv:Nat->Value)(k:Nat)(a0:List Name){y:_}(h:Z90.F k a0=some y):Qd Tryz.prog Q0 pv (.f 81) (Q7 [(.sl .name)] (a0,())) (.t .bool y):=
 Qb hE (Z90.G hE pv k) (f:=81) (fn:=Tryz.f81) (by kernel_rfl) rfl (by kernel_rfl) (by kernel_rfl) ((Z90.run k a0).trans h) (λr hr=>Q1 hr)
def Z91.F (a0:Int)(a1:Int):Option (Int):=bif (a1==2)then(bif (4==0)then(none)else(bif ((Int.tmod a0 4)==0)then(bif (100==0)then(none)else(bif ((Int.tmod a0 100) != 0)then(some 29)else(bif (400==0)then(none)else(bif ((Int.tmod a0 400)==0)then(some 29)else(some 28)))))else(some 28)))else(bif (a1==4)then(bif (a1==4)then(some 30)else(some 31))else(bif (a1==6)then(bif (a1==6)then(some 30)else(some 31))else(bif (a1==9)then(bif (a1==9)then(some 30)else(some 31))else(bif (a1==11)then(some 30)else(some 31)))))
def Z91.C:Cal->Option CArm:=λc=>match c with
 |_=>none
theorem Z91.run (a0:Int)(a1:Int):Qm Q0 (Q8 Z91.C) (Q6 26 0 (λ_=>none)) Tryz.f129 [.t (.int .i64) a0,.t (.int .i64) a1] (Q5 (.t (.int .i64)))=Z91.F a0 a1:=by kernel_rfl
theorem Z91.G (hE:EnvOk Tryz.prog Q0)(pv:Nat->Value):∀cal A,Z91.C cal=some A->Qc Tryz.prog Q0 pv cal A:=by
 intro cal A h
 unfold Z91.C at h
 cases h
theorem Z91.good (hE:EnvOk Tryz.prog Q0)(pv:Nat->Value)(a0:Int)(a1:Int){y:_}(h:Z91.F a0 a1=some y):Qd Tryz.prog Q0 pv (.f 129) (Q7 [(.int .i64),(.int .i64)] (a0,a1,())) (.t (.int .i64) y):=
 Qb hE (Z91.G hE pv) (f:=129) (fn:=Tryz.f129) (by kernel_rfl) rfl (by kernel_rfl) (by kernel_rfl) ((Z91.run a0 a1).trans h) (λr hr=>Q1 hr)
def Z92.F (a0:Date):Option (Bool):=bif ((a0.y==0&&(a0.m==0&&(a0.d==0&&a0.c==false))))then(some true)else((Z52.F a0.y 1 2999).bind λr1=>bif (!r1)then(some false)else((Z52.F a0.m 0 12).bind λr2=>bif (!r2)then(some false)else(bif a0.c then(bif (a0.m != 0)then(some false)else(bif (a0.m==0)then(some (a0.d==0))else((Z91.F a0.y a0.m).bind λr3=>(Z52.F a0.d 0 r3).bind λr4=>some r4)))else(bif (a0.m==0)then(some (a0.d==0))else((Z91.F a0.y a0.m).bind λr5=>(Z52.F a0.d 0 r5).bind λr6=>some r6)))))
def Z92.C:Cal->Option CArm:=λc=>match c with
 |.f 33=>some (.p [(.int .i64),(.int .i64),(.int .i64)] _ (λx=>Z52.F x.1 x.2.1 x.2.2.1) (λr=>(.t .bool r)))
 |.f 129=>some (.p [(.int .i64),(.int .i64)] _ (λx=>Z91.F x.1 x.2.1) (λr=>(.t (.int .i64) r)))
 |_=>none
theorem Z92.run (a0:Date):Qm Q0 (Q8 Z92.C) (Q6 39 0 (λ_=>none)) Tryz.f82 [.t .date a0] (Q5 (.t .bool))=Z92.F a0:=by kernel_rfl
theorem Z92.G (hE:EnvOk Tryz.prog Q0)(pv:Nat->Value):∀cal A,Z92.C cal=some A->Qc Tryz.prog Q0 pv cal A:=by
 intro cal A h
 unfold Z92.C at h
 split at h
 ·cases h;exact λx y hy=>Z52.good hE pv x.1 x.2.1 x.2.2.1 hy
 ·cases h;exact λx y hy=>Z91.good hE pv x.1 x.2.1 hy
 ·cases h
theorem Z92.good (hE:EnvOk Tryz.prog Q0)(pv:Nat->Value)(a0:Date){y:_}(h:Z92.F a0=some y):Qd Tryz.prog Q0 pv (.f 82) (Q7 [.date] (a0,())) (.t .bool y):=
 Qb hE (Z92.G hE pv) (f:=82) (fn:=Tryz.f82) (by kernel_rfl) rfl (by kernel_rfl) (by kernel_rfl) ((Z92.run a0).trans h) (λr hr=>Q1 hr)
def Z59.F (k:Nat)(a0:Entry):Option (Bool):=(Z22.F k a0.key).bind λr1=>bif (!r1)then(some false)else((Z115.F a0.kind).bind λr2=>bif (!r2)then(some false)else((Z90.F k a0.authors).bind λr3=>bif (!r3)then(some false)else((Z90.F k a0.editors).bind λr4=>bif (!r4)then(some false)else((Z92.F a0.date).bind λr5=>bif (!r5)then(some false)else((Z52.F a0.volume 0 9999).bind λr6=>bif (!r6)then(some false)else((Z68.F k a0.title).bind λr7=>bif r7 then((Z68.F k a0.container).bind λr8=>bif r8 then((Z68.F k a0.publisher).bind λr9=>bif r9 then((Z68.F k a0.pages).bind λr10=>bif r10 then(bif (Qr a0.cross (⟨#[]⟩:ByteArray))then(some true)else((Z22.F k a0.cross).bind λr11=>bif r11 then(some (!Qr a0.cross a0.key))else(some false)))else(some false))else(some false))else(some false))else(some false)))))))
def Z59.C (k:Nat):Cal->Option CArm:=λc=>match c with
 |.f 79=>some (.p [.str] _ (λx=>Z22.F k x.1) (λr=>(.t .bool r)))
 |.f 80=>some (.p [(.int .i64)] _ (λx=>Z115.F x.1) (λr=>(.t .bool r)))
 |.f 81=>some (.p [(.sl .name)] _ (λx=>Z90.F k x.1) (λr=>(.t .bool r)))
 |.f 82=>some (.p [.date] _ (λx=>Z92.F x.1) (λr=>(.t .bool r)))
 |.f 33=>some (.p [(.int .i64),(.int .i64),(.int .i64)] _ (λx=>Z52.F x.1 x.2.1 x.2.2.1) (λr=>(.t .bool r)))
 |.f 64=>some (.p [.str] _ (λx=>Z68.F k x.1) (λr=>(.t .bool r)))
 |_=>none
theorem Z59.run (k:Nat)(a0:Entry):Qm Q0 (Q8 (Z59.C k)) (Q6 72 0 (λ_=>none)) Tryz.f45 [.t .entry a0] (Q5 (.t .bool))=Z59.F k a0:=by kernel_rfl
theorem Z59.G (hE:EnvOk Tryz.prog Q0)(pv:Nat->Value)(k:Nat):∀cal A,Z59.C k cal=some A->Qc Tryz.prog Q0 pv cal A:=by
 intro cal A h
 unfold Z59.C at h
 split at h
 ·cases h;exact λx y hy=>Z22.good hE pv k x.1 hy
 ·cases h;exact λx y hy=>Z115.good hE pv x.1 hy
 ·cases h;exact λx y hy=>Z90.good hE pv k x.1 hy
 ·cases h;exact λx y hy=>Z92.good hE pv x.1 hy
 ·cases h;exact λx y hy=>Z52.good hE pv x.1 x.2.1 x.2.2.1 hy
 ·cases h;exact λx y hy=>Z68.good hE pv k x.1 hy
 ·cases h
theorem Z59.good (hE:EnvOk Tryz.prog Q0)(pv:Nat->Value)(k:Nat)(a0:Entry){y:_}(h:Z59.F k a0=some y):Qd Tryz.prog Q0 pv (.f 45) (Q7 [.entry] (a0,())) (.t .bool y):=
 Qb hE (Z59.G hE pv k) (f:=45) (fn:=Tryz.f45) (by kernel_rfl) rfl (by kernel_rfl) (by kernel_rfl) ((Z59.run k a0).trans h) (λr hr=>Q1 hr)
def Z14.l0:Nat->Library->(List Entry)->Int->Int->Option (Sum Bool Library)
 |0,_,_,_,_=>none
 |k+1,x1,x6,x7,x8=>bif (decide (x8<x7))then(bif decide (0<=x8)then(bif decide (x8<(x6.length:Int))then((Z59.F k (x6.getD (x8:Int).toNat (Q4 .entry))).bind λr1=>bif (!r1)then(some (.inl false))else(bif (decide (x8 > 0))then(bif decide (0<=(IntKind.wrap .i64 (x8-1)))then(bif decide ((IntKind.wrap .i64 (x8-1))<(x1.entries.length:Int))then(bif (!ltS ((x1.entries.getD ((IntKind.wrap .i64 (x8-1)):Int).toNat (Q4 .entry)).key) ((x6.getD (x8:Int).toNat (Q4 .entry)).key))then(some (.inl false))else(Z14.l0 k x1 x6 x7 (IntKind.wrap .i64 (x8+1))))else none)else none)else(Z14.l0 k x1 x6 x7 (IntKind.wrap .i64 (x8+1)))))else none)else none)else(some (.inr x1))
def Z14.F (k:Nat)(a0:Library):Option (Bool):=(Z14.l0 k a0 a0.entries (a0.entries.length:Int) 0).bind λy2=>match y2 with|.inl z3=>some z3|.inr z3=>some (decide ((z3.entries.length:Int)<=8))
def Z14.C (k:Nat):Cal->Option CArm:=λc=>match c with
 |.f 45=>some (.p [.entry] _ (λx=>Z59.F k x.1) (λr=>(.t .bool r)))
 |_=>none
def Z14.sp0:List Sp:=[.boxT 1 0 .lib,.t 6 (.sl .entry),.t 7 (.int .i64),.t 8 (.int .i64)]
def Z14.sp0_0:List Sp:=[.t 2 .bool]
def Z14.sp0_1:List Sp:=[.boxT 1 0 .lib]
def Z14.A0:LArm:=.two Z14.sp0 Z14.sp0_0 Z14.sp0_1 (Bool) (Library) (λk x=>Z14.l0 k x.1 x.2.1 x.2.2.1 x.2.2.2.1) .ret (.exit 0) (λy=>(y,())) (λx=>x.1) (λy=>(y,())) (λx=>x.1)
def Z14.L:Nat->Option LArm:=λb=>match b with
 |0=>some Z14.A0
 |_=>none
theorem Z14.run (k:Nat)(a0:Library):Qm Q0 (Q8 (Z14.C k)) (Q6 37 k Z14.L) Tryz.f32 [.t .lib a0] (Q5 (.t .bool))=Z14.F k a0:=by kernel_rfl
theorem Z14.step0 (k:Nat)(x1:Library)(x6:List Entry)(x7:Int)(x8:Int):Qs Q0 (Q8 (Z14.C k)) (Q6 37 k Z14.L) 0 (Qh Tryz.f32 0) (QA 37 Z14.sp0 (x1,x6,x7,x8,())) (Z14.A0.cont 37 k)=Z14.l0 (k+1) x1 x6 x7 x8:=by kernel_rfl
theorem Z14.G (hE:EnvOk Tryz.prog Q0)(pv:Nat->Value)(k:Nat):∀cal A,Z14.C k cal=some A->Qc Tryz.prog Q0 pv cal A:=by
 intro cal A h
 unfold Z14.C at h
 split at h
 ·cases h;exact λx y hy=>Z59.good hE pv k x.1 hy
 ·cases h
theorem Z14.good (hE:EnvOk Tryz.prog Q0)(pv:Nat->Value)(k:Nat)(a0:Library){y:_}(h:Z14.F k a0=some y):Qd Tryz.prog Q0 pv (.f 32) (Q7 [.lib] (a0,())) (.t .bool y):=
 Qj hE (t:=Z14.C) k (λk _=>Z14.G hE pv k) (f:=32) (fn:=Tryz.f32) (by kernel_rfl) rfl (by kernel_rfl) (by kernel_rfl) (lt:=Z14.L) (by kernel_rfl) (λb A h=>by
  unfold Z14.L at h;split at h
  ·cases h;exact⟨by kernel_rfl,by kernel_rfl,by kernel_rfl,λ_=>rfl,λ_=>rfl,λ_=>rfl⟩
  ·cases h) (λb A h=>by
  unfold Z14.L at h;split at h
  ·cases h;exact λk x=>Z14.step0 k x.1 x.2.1 x.2.2.1 x.2.2.2.1
  ·cases h) ((Z14.run k a0).trans h) (λr hr=>Q1 hr)
def Z39.l0:Nat->(List Int)->Int->Int->Int->Option (Sum Int Unit)
 |0,_,_,_,_=>none
 |k+1,x0,x1,x7,x8=>bif (decide (x8<x7))then(bif decide (0<=x8)then(bif decide (x8<(x0.length:Int))then(bif (x1==(x0.getD (x8:Int).toNat 0))then(some (.inl x8))else(Z39.l0 k x0 x1 x7 (IntKind.wrap .i64 (x8+1))))else none)else none)else(some (.inr ()))
def Z39.F (k:Nat)(a0:List Int)(a1:Int):Option (Int):=(Z39.l0 k a0 a1 (a0.length:Int) 0).bind λy1=>match y1 with|.inl z2=>some z2|.inr z2=>some (-1)
def Z39.C (k:Nat):Cal->Option CArm:=λc=>match c with
 |_=>none
def Z39.sp0:List Sp:=[.t 0 (.sl (.int .i64)),.t 1 (.int .i64),.t 7 (.int .i64),.t 8 (.int .i64)]
def Z39.sp0_0:List Sp:=[.t 4 (.int .i64)]
def Z39.sp0_1:List Sp:=[]
def Z39.A0:LArm:=.two Z39.sp0 Z39.sp0_0 Z39.sp0_1 (Int) (Unit) (λk x=>Z39.l0 k x.1 x.2.1 x.2.2.1 x.2.2.2.1) .ret (.exit 0) (λy=>(y,())) (λx=>x.1) (λy=>()) (λx=>())
def Z39.L:Nat->Option LArm:=λb=>match b with
 |0=>some Z39.A0
 |_=>none
theorem Z39.run (k:Nat)(a0:List Int)(a1:Int):Qm Q0 (Q8 (Z39.C k)) (Q6 19 k Z39.L) Tryz.f69 [.t (.sl (.int .i64)) a0,.t (.int .i64) a1] (Q5 (.t (.int .i64)))=Z39.F k a0 a1:=by kernel_rfl
theorem Z39.step0 (k:Nat)(x0:List Int)(x1:Int)(x7:Int)(x8:Int):Qs Q0 (Q8 (Z39.C k)) (Q6 19 k Z39.L) 0 (Qh Tryz.f69 0) (QA 19 Z39.sp0 (x0,x1,x7,x8,())) (Z39.A0.cont 19 k)=Z39.l0 (k+1) x0 x1 x7 x8:=by kernel_rfl
theorem Z39.G (hE:EnvOk Tryz.prog Q0)(pv:Nat->Value)(k:Nat):∀cal A,Z39.C k cal=some A->Qc Tryz.prog Q0 pv cal A:=by
 intro cal A h
 unfold Z39.C at h
 cases h
theorem Z39.good (hE:EnvOk Tryz.prog Q0)(pv:Nat->Value)(k:Nat)(a0:List Int)(a1:Int){y:_}(h:Z39.F k a0 a1=some y):Qd Tryz.prog Q0 pv (.f 69) (Q7 [(.sl (.int .i64)),(.int .i64)] (a0,a1,())) (.t (.int .i64) y):=
 Qj hE (t:=Z39.C) k (λk _=>Z39.G hE pv k) (f:=69) (fn:=Tryz.f69) (by kernel_rfl) rfl (by kernel_rfl) (by kernel_rfl) (lt:=Z39.L) (by kernel_rfl) (λb A h=>by
  unfold Z39.L at h;split at h
  ·cases h;exact⟨by kernel_rfl,by kernel_rfl,by kernel_rfl,λ_=>rfl,λ_=>rfl,λ_=>rfl⟩
  ·cases h) (λb A h=>by
  unfold Z39.L at h;split at h
  ·cases h;exact λk x=>Z39.step0 k x.1 x.2.1 x.2.2.1 x.2.2.2.1
  ·cases h) ((Z39.run k a0 a1).trans h) (λr hr=>Q1 hr)
def Z84.F (k:Nat)(a0:List Int)(a1:Int):Option (Bool):=(Z39.F k a0 a1).bind λr1=>some (decide (r1 ≥ 0))
def Z84.C (k:Nat):Cal->Option CArm:=λc=>match c with
 |.f 69=>some (.p [(.sl (.int .i64)),(.int .i64)] _ (λx=>Z39.F k x.1 x.2.1) (λr=>(.t (.int .i64) r)))
 |_=>none
theorem Z84.run (k:Nat)(a0:List Int)(a1:Int):Qm Q0 (Q8 (Z84.C k)) (Q6 9 0 (λ_=>none)) Tryz.f34 [.t (.sl (.int .i64)) a0,.t (.int .i64) a1] (Q5 (.t .bool))=Z84.F k a0 a1:=by kernel_rfl
theorem Z84.G (hE:EnvOk Tryz.prog Q0)(pv:Nat->Value)(k:Nat):∀cal A,Z84.C k cal=some A->Qc Tryz.prog Q0 pv cal A:=by
 intro cal A h
 unfold Z84.C at h
 split at h
 ·cases h;exact λx y hy=>Z39.good hE pv k x.1 x.2.1 hy
 ·cases h
theorem Z84.good (hE:EnvOk Tryz.prog Q0)(pv:Nat->Value)(k:Nat)(a0:List Int)(a1:Int){y:_}(h:Z84.F k a0 a1=some y):Qd Tryz.prog Q0 pv (.f 34) (Q7 [(.sl (.int .i64)),(.int .i64)] (a0,a1,())) (.t .bool y):=
 Qb hE (Z84.G hE pv k) (f:=34) (fn:=Tryz.f34) (by kernel_rfl) rfl (by kernel_rfl) (by kernel_rfl) ((Z84.run k a0 a1).trans h) (λr hr=>Q1 hr)
def Z30.l0:Nat->(List Int)->Int->Int->Option ((List Int))
 |0,_,_,_=>none
 |k+1,x3,x9,x10=>bif (decide (x10<x9))then(bif decide (0<=x10)then(bif decide (x10<(x3.length:Int))then((Z64.F (x3.getD ((x10:Int).toNat) 0)).bind λr1=>bif r1 then(bif decide (0<=x10)then(bif decide (x10<(x3.length:Int))then(Z30.l0 k (x3.set ((x10:Int).toNat) (IntKind.wrap .u8 ((IntKind.wrap .u8 ((x3.getD ((x10:Int).toNat) 0)+97))-65))) x9 (IntKind.wrap .i64 (x10+1)))else none)else none)else(Z30.l0 k x3 x9 (IntKind.wrap .i64 (x10+1))))else none)else none)else(some x3)
def Z30.F (k:Nat)(a0:ByteArray):Option (ByteArray):=bif Nat.ble a0.size 9223372036854775807 then((Z30.l0 k (Q2 a0) ((Q2 a0).length:Int) 0).bind λy2=>some (QY y2))else none
def Z30.C (k:Nat):Cal->Option CArm:=λc=>match c with
 |.f 88=>some (.p [(.int .u8)] _ (λx=>Z64.F x.1) (λr=>(.t .bool r)))
 |_=>none
def Z30.sp0:List Sp:=[.own 3 1028 5 (.int .u8) false false,.con 8 (.own 1028),.t 9 (.int .i64),.t 10 (.int .i64)]
def Z30.sp0_0:List Sp:=[.own 3 1028 5 (.int .u8) false false]
def Z30.A0:LArm:=.one Z30.sp0 Z30.sp0_0 ((List Int)) (λk x=>Z30.l0 k x.1 x.2.2.1 x.2.2.2.1) (.exit 0) (λy=>(y,())) (λx=>x.1)
def Z30.L:Nat->Option LArm:=λb=>match b with
 |0=>some Z30.A0
 |_=>none
theorem Z30.run (k:Nat)(a0:ByteArray):Qm Q0 (Q8 (Z30.C k)) (Q6 26 k Z30.L) Tryz.f52 [.t .str a0] (Q5 (.t .str))=Z30.F k a0:=by kernel_rfl
theorem Z30.step0 (k:Nat)(x3:List Int)(x9:Int)(x10:Int):Qs Q0 (Q8 (Z30.C k)) (Q6 26 k Z30.L) 0 (Qh Tryz.f52 0) (QA 26 Z30.sp0 (x3,(),x9,x10,())) (Z30.A0.cont 26 k)=Z30.l0 (k+1) x3 x9 x10:=by kernel_rfl
theorem Z30.G (hE:EnvOk Tryz.prog Q0)(pv:Nat->Value)(k:Nat):∀cal A,Z30.C k cal=some A->Qc Tryz.prog Q0 pv cal A:=by
 intro cal A h
 unfold Z30.C at h
 split at h
 ·cases h;exact λx y hy=>Z64.good hE pv x.1 hy
 ·cases h
theorem Z30.good (hE:EnvOk Tryz.prog Q0)(pv:Nat->Value)(k:Nat)(a0:ByteArray){y:_}(h:Z30.F k a0=some y):Qd Tryz.prog Q0 pv (.f 52) (Q7 [.str] (a0,())) (.t .str y):=
 Qj hE (t:=Z30.C) k (λk _=>Z30.G hE pv k) (f:=52) (fn:=Tryz.f52) (by kernel_rfl) rfl (by kernel_rfl) (by kernel_rfl) (lt:=Z30.L) (by kernel_rfl) (λb A h=>by
  unfold Z30.L at h;split at h
  ·cases h;exact⟨by kernel_rfl,by kernel_rfl,λ_=>rfl,λ_=>rfl⟩
  ·cases h) (λb A h=>by
  unfold Z30.L at h;split at h
  ·cases h;exact λk x=>Z30.step0 k x.1 x.2.2.1 x.2.2.2.1
  ·cases h) ((Z30.run k a0).trans h) (λr hr=>Q1 hr)
def Z126.F (a0:List ByteArray)(a1:ByteArray):Option (ByteArray):=Q6O a0 a1
theorem Z126.good (hE:EnvOk Tryz.prog Q0)(pv:Nat->Value)(a0:List ByteArray)(a1:ByteArray){y:_}(h:Z126.F a0 a1=some y):Qd Tryz.prog Q0 pv (.f 137) (Q7 [(.sl .str),.str] (a0,a1,())) (.t .str y):=
 Q9H (fn:=Tryz.f137) (by kernel_rfl) rfl (by kernel_rfl) Tryz.strings_Join_none Tryz.strings_Join h
def Z76.F (a0:ByteArray):Option (Bool):=some (Qr a0 (⟨#[]⟩:ByteArray))
def Z76.C:Cal->Option CArm:=λc=>match c with
 |_=>none
theorem Z76.run (a0:ByteArray):Qm Q0 (Q8 Z76.C) (Q6 5 0 (λ_=>none)) Tryz.f168 [.t .str a0] (Q5 (.t .bool))=Z76.F a0:=by kernel_rfl
theorem Z76.G (hE:EnvOk Tryz.prog Q0)(pv:Nat->Value):∀cal A,Z76.C cal=some A->Qc Tryz.prog Q0 pv cal A:=by
 intro cal A h
 unfold Z76.C at h
 cases h
theorem Z76.good (hE:EnvOk Tryz.prog Q0)(pv:Nat->Value)(a0:ByteArray){y:_}(h:Z76.F a0=some y):Qd Tryz.prog Q0 pv (.f 168) (Q7 [.str] (a0,())) (.t .bool y):=
 Qb hE (Z76.G hE pv) (f:=168) (fn:=Tryz.f168) (by kernel_rfl) rfl (by kernel_rfl) (by kernel_rfl) ((Z76.run a0).trans h) (λr hr=>Q1 hr)
def Z50.l0:Nat->(List ByteArray)->Int->Int->Option (Sum Int Unit)
 |0,_,_,_=>none
 |k+1,x0,x7,x8=>bif (decide (x8<x7))then(bif decide (0<=x8)then(bif decide (x8<(x0.length:Int))then((Z76.F (x0.getD (x8:Int).toNat (⟨#[]⟩:ByteArray))).bind λr1=>bif r1 then(some (.inl x8))else(Z50.l0 k x0 x7 (IntKind.wrap .i64 (x8+1))))else none)else none)else(some (.inr ()))
def Z50.F (k:Nat)(a0:List ByteArray):Option (Int):=(Z50.l0 k a0 (a0.length:Int) 0).bind λy2=>match y2 with|.inl z3=>some z3|.inr z3=>some (-1)
def Z50.C (k:Nat):Cal->Option CArm:=λc=>match c with
 |.f 168=>some (.p [.str] _ (λx=>Z76.F x.1) (λr=>(.t .bool r)))
 |_=>none
def Z50.sp0:List Sp:=[.t 0 (.sl .str),.con 1 (.clo 168),.t 7 (.int .i64),.t 8 (.int .i64)]
def Z50.sp0_0:List Sp:=[.t 4 (.int .i64)]
def Z50.sp0_1:List Sp:=[]
def Z50.A0:LArm:=.two Z50.sp0 Z50.sp0_0 Z50.sp0_1 (Int) (Unit) (λk x=>Z50.l0 k x.1 x.2.2.1 x.2.2.2.1) .ret (.exit 0) (λy=>(y,())) (λx=>x.1) (λy=>()) (λx=>())
def Z50.L:Nat->Option LArm:=λb=>match b with
 |0=>some Z50.A0
 |_=>none
theorem Z50.run (k:Nat)(a0:List ByteArray):Qm Q0 (Q8 (Z50.C k)) (Q6 19 k Z50.L) Tryz.f181 [.t (.sl .str) a0,.clo 168 []] (Q5 (.t (.int .i64)))=Z50.F k a0:=by kernel_rfl
theorem Z50.step0 (k:Nat)(x0:List ByteArray)(x7:Int)(x8:Int):Qs Q0 (Q8 (Z50.C k)) (Q6 19 k Z50.L) 0 (Qh Tryz.f181 0) (QA 19 Z50.sp0 (x0,(),x7,x8,())) (Z50.A0.cont 19 k)=Z50.l0 (k+1) x0 x7 x8:=by kernel_rfl
theorem Z50.G (hE:EnvOk Tryz.prog Q0)(pv:Nat->Value)(k:Nat):∀cal A,Z50.C k cal=some A->Qc Tryz.prog Q0 pv cal A:=by
 intro cal A h
 unfold Z50.C at h
 split at h
 ·cases h;exact λx y hy=>Z76.good hE pv x.1 hy
 ·cases h
theorem Z50.good (hE:EnvOk Tryz.prog Q0)(pv:Nat->Value)(k:Nat)(a0:List ByteArray){y:_}(h:Z50.F k a0=some y):Qd Tryz.prog Q0 pv (.f 181) (YX [.t (.sl .str),.clo 168 []] (a0,(()),())) (.t (.int .i64) y):=
 Qj hE (t:=Z50.C) k (λk _=>Z50.G hE pv k) (f:=181) (fn:=Tryz.f181) (by kernel_rfl) rfl (by kernel_rfl) (by kernel_rfl) (lt:=Z50.L) (by kernel_rfl) (λb A h=>by
  unfold Z50.L at h;split at h
  ·cases h;exact⟨by kernel_rfl,by kernel_rfl,by kernel_rfl,λ_=>rfl,λ_=>rfl,λ_=>rfl⟩
  ·cases h) (λb A h=>by
  unfold Z50.L at h;split at h
  ·cases h;exact λk x=>Z50.step0 k x.1 x.2.2.1 x.2.2.2.1
  ·cases h) ((Z50.run k a0).trans h) (λr hr=>Q1 hr)
def Z53.l0:Nat->(List ByteArray)->Int->Int->Option ((List ByteArray)×Int)
 |0,_,_,_=>none
 |k+1,x0,x5,x6=>bif (decide (x6<(x0.length:Int)))then(bif decide (0<=x6)then(bif decide (x6<(x0.length:Int))then((Z76.F (x0.getD ((x6:Int).toNat) (⟨#[]⟩:ByteArray))).bind λr2=>bif (!r2)then(bif decide (0<=x5)then(bif decide (x5<(x0.length:Int))then(Z53.l0 k (x0.set ((x5:Int).toNat) (x0.getD ((x6:Int).toNat) (⟨#[]⟩:ByteArray))) (IntKind.wrap .i64 (x5+1)) (IntKind.wrap .i64 (x6+1)))else none)else none)else(Z53.l0 k x0 x5 (IntKind.wrap .i64 (x6+1))))else none)else none)else(some (x0,x5))
def Z53.F (k:Nat)(a0:List ByteArray):Option (List ByteArray):=(Z50.F k a0).bind λr1=>bif (r1==(-1))then(some a0)else((Z53.l0 k a0 r1 (IntKind.wrap .i64 (r1+1))).bind λy3=>bif decide (0<=y3.2)then(bif decide (y3.2<=(y3.1.length:Int))then(bif decide (0<=y3.2)then(bif decide (y3.2<=((y3.1.take ((y3.2:Int).toNat)++List.replicate (y3.1.length-((y3.2:Int).toNat)) (⟨#[]⟩:ByteArray)).length:Int))then(some ((y3.1.take ((y3.2:Int).toNat)++List.replicate (y3.1.length-((y3.2:Int).toNat)) (⟨#[]⟩:ByteArray)).take (y3.2:Int).toNat))else none)else none)else none)else none)
def Z53.C (k:Nat):Cal->Option CArm:=λc=>match c with
 |.f 181=>some (.q [.t (.sl .str),.clo 168 []] _ (λx=>Z50.F k x.1) (λr=>(.t (.int .i64) r)))
 |.f 168=>some (.p [.str] _ (λx=>Z76.F x.1) (λr=>(.t .bool r)))
 |_=>none
def Z53.sp0:List Sp:=[.own 0 1099511627777 9 .str false true,.con 1 (.clo 168),.t 5 (.int .i64),.t 6 (.int .i64)]
def Z53.sp0_0:List Sp:=[.own 0 1099511627777 9 .str false true,.t 5 (.int .i64)]
def Z53.A0:LArm:=.one Z53.sp0 Z53.sp0_0 ((List ByteArray)×Int) (λk x=>Z53.l0 k x.1 x.2.2.1 x.2.2.2.1) (.exit 0) (λy=>(y.1,y.2,())) (λx=>(x.1,x.2.1))
def Z53.L:Nat->Option LArm:=λb=>match b with
 |0=>some Z53.A0
 |_=>none
theorem Z53.run (k:Nat)(a0:List ByteArray):YB Q0 (Q8 (Z53.C k)) (Q6 42 k Z53.L) Tryz.f166 GB (.fr 9 .str a0) [.clo 168 []] (Q3i 9 .str)=Z53.F k a0:=by kernel_rfl
theorem Z53.step0 (k:Nat)(x0:List ByteArray)(x5:Int)(x6:Int):Qs Q0 (Q8 (Z53.C k)) (Q6 42 k Z53.L) 0 (Qh Tryz.f166 0) (QA 42 Z53.sp0 (x0,(),x5,x6,())) (Z53.A0.cont 42 k)=Z53.l0 (k+1) x0 x5 x6:=by kernel_rfl
theorem Z53.G (hE:EnvOk Tryz.prog Q0)(pv:Nat->Value)(k:Nat):∀cal A,Z53.C k cal=some A->Qc Tryz.prog Q0 pv cal A:=by
 intro cal A h
 unfold Z53.C at h
 split at h
 ·cases h;exact λx y hy=>Z50.good hE pv k x.1 hy
 ·cases h;exact λx y hy=>Z76.good hE pv x.1 hy
 ·cases h
theorem Z53.good (hE:EnvOk Tryz.prog Q0)(pv:Nat->Value)(k:Nat)(a0:List ByteArray){y:_}(h:Z53.F k a0=some y):QF Tryz.prog Q0 pv 166 (.fr 9 .str a0) (YX [.clo 168 []] ((()),())) (.mov 9 .str y):=
 JY hE (t:=Z53.C) k (λk _=>Z53.G hE pv k) (f:=166) (fn:=Tryz.f166) (by kernel_rfl) rfl (by kernel_rfl) (.inr rfl) (by kernel_rfl) (lt:=Z53.L) (by kernel_rfl) (λb A h=>by
  unfold Z53.L at h;split at h
  ·cases h;exact⟨by kernel_rfl,by kernel_rfl,λ_=>rfl,λ_=>rfl⟩
  ·cases h) (λb A h=>by
  unfold Z53.L at h;split at h
  ·cases h;exact λk x=>Z53.step0 k x.1 x.2.2.1 x.2.2.2.1
  ·cases h) ((Z53.run k a0).trans h) (λr hr=>Q5Q hr)
def Z103.F (k:Nat)(a0:ByteArray):Option (List ByteArray):=(Z124.F a0 (⟨#[32]⟩:ByteArray)).bind λr1=>(Z53.F k r1).bind λr2=>some r2
def Z103.C (k:Nat):Cal->Option CArm:=λc=>match c with
 |.f 167=>some (.p [.str,.str] _ (λx=>Z124.F x.1 x.2.1) (λr=>(.fr 9 .str r)))
 |.f 166=>some (.mq (.fr 9 .str) [.clo 168 []] _ (λx0 x=>Z53.F k x0) (λr=>.mov 9 .str r))
 |_=>none
theorem Z103.run (k:Nat)(a0:ByteArray):Qm Q0 (Q8 (Z103.C k)) (Q6 6 0 (λ_=>none)) Tryz.f138 [.t .str a0] (Q5 (.fr 9 .str))=Z103.F k a0:=by kernel_rfl
theorem Z103.G (hE:EnvOk Tryz.prog Q0)(pv:Nat->Value)(k:Nat):∀cal A,Z103.C k cal=some A->Qc Tryz.prog Q0 pv cal A:=by
 intro cal A h
 unfold Z103.C at h
 split at h
 ·cases h;exact λx y hy=>Z124.good hE pv x.1 x.2.1 hy
 ·cases h;exact⟨_,rfl,λx0 x y hy=>Z53.good hE pv k x0 hy⟩
 ·cases h
theorem Z103.good (hE:EnvOk Tryz.prog Q0)(pv:Nat->Value)(k:Nat)(a0:ByteArray){y:_}(h:Z103.F k a0=some y):Qd Tryz.prog Q0 pv (.f 138) (Q7 [.str] (a0,())) (.fr 9 .str y):=
 Qb hE (Z103.G hE pv k) (f:=138) (fn:=Tryz.f138) (by kernel_rfl) rfl (by kernel_rfl) (by kernel_rfl) ((Z103.run k a0).trans h) (λr hr=>Q1 hr)
def Z23.l0:Nat->(List Int)->(List Int)->Int->Int->Option ((List Int))
 |0,_,_,_,_=>none
 |k+1,x3,x9,x10,x11=>bif (decide (x11<x10))then(bif decide (0<=x11)then(bif decide (x11<(x9.length:Int))then((Z58.F (x9.getD ((x11:Int).toNat) 0)).bind λr2=>bif r2 then(bif room (x3.length+([(x9.getD ((x11:Int).toNat) 0)]:List Int).length) (.int .u8)then(Z23.l0 k (x3++([(x9.getD ((x11:Int).toNat) 0)]:List Int)) x9 x10 (IntKind.wrap .i64 (x11+1)))else none)else((Z74.F (x9.getD ((x11:Int).toNat) 0)).bind λr3=>bif r3 then(bif room (x3.length+([(x9.getD ((x11:Int).toNat) 0)]:List Int).length) (.int .u8)then(Z23.l0 k (x3++([(x9.getD ((x11:Int).toNat) 0)]:List Int)) x9 x10 (IntKind.wrap .i64 (x11+1)))else none)else(bif ((x9.getD ((x11:Int).toNat) 0)==32)then(bif room (x3.length+([(x9.getD ((x11:Int).toNat) 0)]:List Int).length) (.int .u8)then(Z23.l0 k (x3++([(x9.getD ((x11:Int).toNat) 0)]:List Int)) x9 x10 (IntKind.wrap .i64 (x11+1)))else none)else(Z23.l0 k x3 x9 x10 (IntKind.wrap .i64 (x11+1))))))else none)else none)else(some x3)
def Z23.F (k:Nat)(a0:ByteArray):Option (ByteArray):=(Z30.F k a0).bind λr1=>bif Nat.ble r1.size 9223372036854775807 then((Z23.l0 k ([]:List Int) (Q2 r1) ((Q2 r1).length:Int) 0).bind λy4=>(Z103.F k (QY y4)).bind λr5=>(Z126.F r5 (⟨#[32]⟩:ByteArray)).bind λr6=>some r6)else none
def Z23.C (k:Nat):Cal->Option CArm:=λc=>match c with
 |.f 52=>some (.p [.str] _ (λx=>Z30.F k x.1) (λr=>(.t .str r)))
 |.f 124=>some (.p [(.int .u8)] _ (λx=>Z58.F x.1) (λr=>(.t .bool r)))
 |.f 125=>some (.p [(.int .u8)] _ (λx=>Z74.F x.1) (λr=>(.t .bool r)))
 |.f 138=>some (.p [.str] _ (λx=>Z103.F k x.1) (λr=>(.fr 9 .str r)))
 |.f 137=>some (.p [(.sl .str),.str] _ (λx=>Z126.F x.1 x.2.1) (λr=>(.t .str r)))
 |_=>none
def Z23.sp0:List Sp:=[.own 3 1024 5 (.int .u8) false true,.own 9 2056 5 (.int .u8) false false,.t 10 (.int .i64),.t 11 (.int .i64)]
def Z23.sp0_0:List Sp:=[.own 3 1024 5 (.int .u8) false true]
def Z23.A0:LArm:=.one Z23.sp0 Z23.sp0_0 ((List Int)) (λk x=>Z23.l0 k x.1 x.2.1 x.2.2.1 x.2.2.2.1) (.exit 0) (λy=>(y,())) (λx=>x.1)
def Z23.L:Nat->Option LArm:=λb=>match b with
 |0=>some Z23.A0
 |_=>none
theorem Z23.run (k:Nat)(a0:ByteArray):Qm Q0 (Q8 (Z23.C k)) (Q6 34 k Z23.L) Tryz.f101 [.t .str a0] (Q5 (.t .str))=Z23.F k a0:=by kernel_rfl
theorem Z23.step0 (k:Nat)(x3:List Int)(x9:List Int)(x10:Int)(x11:Int):Qs Q0 (Q8 (Z23.C k)) (Q6 34 k Z23.L) 0 (Qh Tryz.f101 0) (QA 34 Z23.sp0 (x3,x9,x10,x11,())) (Z23.A0.cont 34 k)=Z23.l0 (k+1) x3 x9 x10 x11:=by kernel_rfl
theorem Z23.G (hE:EnvOk Tryz.prog Q0)(pv:Nat->Value)(k:Nat):∀cal A,Z23.C k cal=some A->Qc Tryz.prog Q0 pv cal A:=by
 intro cal A h
 unfold Z23.C at h
 split at h
 ·cases h;exact λx y hy=>Z30.good hE pv k x.1 hy
 ·cases h;exact λx y hy=>Z58.good hE pv x.1 hy
 ·cases h;exact λx y hy=>Z74.good hE pv x.1 hy
 ·cases h;exact λx y hy=>Z103.good hE pv k x.1 hy
 ·cases h;exact λx y hy=>Z126.good hE pv x.1 x.2.1 hy
 ·cases h
theorem Z23.good (hE:EnvOk Tryz.prog Q0)(pv:Nat->Value)(k:Nat)(a0:ByteArray){y:_}(h:Z23.F k a0=some y):Qd Tryz.prog Q0 pv (.f 101) (Q7 [.str] (a0,())) (.t .str y):=
 Qj hE (t:=Z23.C) k (λk _=>Z23.G hE pv k) (f:=101) (fn:=Tryz.f101) (by kernel_rfl) rfl (by kernel_rfl) (by kernel_rfl) (lt:=Z23.L) (by kernel_rfl) (λb A h=>by
  unfold Z23.L at h;split at h
  ·cases h;exact⟨by kernel_rfl,by kernel_rfl,λ_=>rfl,λ_=>rfl⟩
  ·cases h) (λb A h=>by
  unfold Z23.L at h;split at h
  ·cases h;exact λk x=>Z23.step0 k x.1 x.2.1 x.2.2.1 x.2.2.2.1
  ·cases h) ((Z23.run k a0).trans h) (λr hr=>Q1 hr)
def Z3.l0:Nat->ByteArray->ByteArray->(List Int)->Int->Int->Option (ByteArray×ByteArray× (List Int))
 |0,_,_,_,_,_=>none
 |k+1,x0,x1,x5,x18,x19=>bif (decide (x19<x18))then(bif room (x5.length+([x19]:List Int).length) (.int .i64)then(Z3.l0 k x0 x1 (x5++([x19]:List Int)) x18 (IntKind.wrap .i64 (x19+1)))else none)else(some (x0,x1,x5))
def Z3.l4:Nat->ByteArray->ByteArray->(List Int)->Int->(List Int)->Int->Option (ByteArray×ByteArray×Int× (List Int))
 |0,_,_,_,_,_,_=>none
 |k+1,x0,x1,x5,x7,x8,x9=>bif (decide (x9<=(x1.size:Int)))then(bif decide (0<=(IntKind.wrap .i64 (x7-1)))then(bif decide ((IntKind.wrap .i64 (x7-1))<(x0.size:Int))then(bif decide (0<=(IntKind.wrap .i64 (x9-1)))then(bif decide ((IntKind.wrap .i64 (x9-1))<(x1.size:Int))then(bif ((bt x0 ((IntKind.wrap .i64 (x7-1)):Int).toNat)==(bt x1 ((IntKind.wrap .i64 (x9-1)):Int).toNat))then(bif decide (0<=x9)then(bif decide (x9<(x5.length:Int))then(bif decide (0<=(IntKind.wrap .i64 (x9-1)))then(bif decide ((IntKind.wrap .i64 (x9-1))<(x8.length:Int))then(bif decide (0<=(IntKind.wrap .i64 (x9-1)))then(bif decide ((IntKind.wrap .i64 (x9-1))<(x5.length:Int))then(bif room (x8.length+([(if(IntKind.wrap .i64 ((x5.getD (((IntKind.wrap .i64 (x9-1)):Int).toNat) 0)+0))<(if(IntKind.wrap .i64 ((x8.getD (((IntKind.wrap .i64 (x9-1)):Int).toNat) 0)+1))<(IntKind.wrap .i64 ((x5.getD ((x9:Int).toNat) 0)+1))then(IntKind.wrap .i64 ((x8.getD (((IntKind.wrap .i64 (x9-1)):Int).toNat) 0)+1))else(IntKind.wrap .i64 ((x5.getD ((x9:Int).toNat) 0)+1)))then(IntKind.wrap .i64 ((x5.getD (((IntKind.wrap .i64 (x9-1)):Int).toNat) 0)+0))else(if(IntKind.wrap .i64 ((x8.getD (((IntKind.wrap .i64 (x9-1)):Int).toNat) 0)+1))<(IntKind.wrap .i64 ((x5.getD ((x9:Int).toNat) 0)+1))then(IntKind.wrap .i64 ((x8.getD (((IntKind.wrap .i64 (x9-1)):Int).toNat) 0)+1))else(IntKind.wrap .i64 ((x5.getD ((x9:Int).toNat) 0)+1))))]:List Int).length) (.int .i64)then(Z3.l4 k x0 x1 x5 x7 (x8++([(if(IntKind.wrap .i64 ((x5.getD (((IntKind.wrap .i64 (x9-1)):Int).toNat) 0)+0))<(if(IntKind.wrap .i64 ((x8.getD (((IntKind.wrap .i64 (x9-1)):Int).toNat) 0)+1))<(IntKind.wrap .i64 ((x5.getD ((x9:Int).toNat) 0)+1))then(IntKind.wrap .i64 ((x8.getD (((IntKind.wrap .i64 (x9-1)):Int).toNat) 0)+1))else(IntKind.wrap .i64 ((x5.getD ((x9:Int).toNat) 0)+1)))then(IntKind.wrap .i64 ((x5.getD (((IntKind.wrap .i64 (x9-1)):Int).toNat) 0)+0))else(if(IntKind.wrap .i64 ((x8.getD (((IntKind.wrap .i64 (x9-1)):Int).toNat) 0)+1))<(IntKind.wrap .i64 ((x5.getD ((x9:Int).toNat) 0)+1))then(IntKind.wrap .i64 ((x8.getD (((IntKind.wrap .i64 (x9-1)):Int).toNat) 0)+1))else(IntKind.wrap .i64 ((x5.getD ((x9:Int).toNat) 0)+1))))]:List Int)) (IntKind.wrap .i64 (x9+1)))else none)else none)else none)else none)else none)else none)else none)else(bif decide (0<=x9)then(bif decide (x9<(x5.length:Int))then(bif decide (0<=(IntKind.wrap .i64 (x9-1)))then(bif decide ((IntKind.wrap .i64 (x9-1))<(x8.length:Int))then(bif decide (0<=(IntKind.wrap .i64 (x9-1)))then(bif decide ((IntKind.wrap .i64 (x9-1))<(x5.length:Int))then(bif room (x8.length+([(if(IntKind.wrap .i64 ((x5.getD (((IntKind.wrap .i64 (x9-1)):Int).toNat) 0)+1))<(if(IntKind.wrap .i64 ((x8.getD (((IntKind.wrap .i64 (x9-1)):Int).toNat) 0)+1))<(IntKind.wrap .i64 ((x5.getD ((x9:Int).toNat) 0)+1))then(IntKind.wrap .i64 ((x8.getD (((IntKind.wrap .i64 (x9-1)):Int).toNat) 0)+1))else(IntKind.wrap .i64 ((x5.getD ((x9:Int).toNat) 0)+1)))then(IntKind.wrap .i64 ((x5.getD (((IntKind.wrap .i64 (x9-1)):Int).toNat) 0)+1))else(if(IntKind.wrap .i64 ((x8.getD (((IntKind.wrap .i64 (x9-1)):Int).toNat) 0)+1))<(IntKind.wrap .i64 ((x5.getD ((x9:Int).toNat) 0)+1))then(IntKind.wrap .i64 ((x8.getD (((IntKind.wrap .i64 (x9-1)):Int).toNat) 0)+1))else(IntKind.wrap .i64 ((x5.getD ((x9:Int).toNat) 0)+1))))]:List Int).length) (.int .i64)then(Z3.l4 k x0 x1 x5 x7 (x8++([(if(IntKind.wrap .i64 ((x5.getD (((IntKind.wrap .i64 (x9-1)):Int).toNat) 0)+1))<(if(IntKind.wrap .i64 ((x8.getD (((IntKind.wrap .i64 (x9-1)):Int).toNat) 0)+1))<(IntKind.wrap .i64 ((x5.getD ((x9:Int).toNat) 0)+1))then(IntKind.wrap .i64 ((x8.getD (((IntKind.wrap .i64 (x9-1)):Int).toNat) 0)+1))else(IntKind.wrap .i64 ((x5.getD ((x9:Int).toNat) 0)+1)))then(IntKind.wrap .i64 ((x5.getD (((IntKind.wrap .i64 (x9-1)):Int).toNat) 0)+1))else(if(IntKind.wrap .i64 ((x8.getD (((IntKind.wrap .i64 (x9-1)):Int).toNat) 0)+1))<(IntKind.wrap .i64 ((x5.getD ((x9:Int).toNat) 0)+1))then(IntKind.wrap .i64 ((x8.getD (((IntKind.wrap .i64 (x9-1)):Int).toNat) 0)+1))else(IntKind.wrap .i64 ((x5.getD ((x9:Int).toNat) 0)+1))))]:List Int)) (IntKind.wrap .i64 (x9+1)))else none)else none)else none)else none)else none)else none)else none))else none)else none)else none)else none)else(some (x0,x1,x7,x8))
def Z3.l2:Nat->ByteArray->ByteArray->(List Int)->Int->Option (ByteArray× (List Int))
 |0,_,_,_,_=>none
 |k+1,x0,x1,x5,x7=>bif (decide (x7<=(x0.size:Int)))then((Z3.l4 k x0 x1 x5 x7 ([x7]:List Int) 1).bind λy4=>Z3.l2 k y4.1 y4.2.1 y4.2.2.2 (IntKind.wrap .i64 (y4.2.2.1+1)))else(some (x1,x5))
def Z3.F (k:Nat)(a0:ByteArray)(a1:ByteArray):Option (Int):=(Z23.F k a0).bind λr1=>(Z23.F k a1).bind λr2=>(Z3.l0 k r1 r2 ([]:List Int) (IntKind.wrap .i64 ((r2.size:Int)+1)) 0).bind λy3=>(Z3.l2 k y3.1 y3.2.1 y3.2.2 1).bind λy5=>bif decide (0<=(y5.1.size:Int))then(bif decide ((y5.1.size:Int)<(y5.2.length:Int))then(some (y5.2.getD (((y5.1.size:Int):Int).toNat) 0))else none)else none
def Z3.C (k:Nat):Cal->Option CArm:=λc=>match c with
 |.f 101=>some (.p [.str] _ (λx=>Z23.F k x.1) (λr=>(.t .str r)))
 |_=>none
def Z3.sp0:List Sp:=[.t 0 .str,.t 1 .str,.own 5 2048 3 (.int .i64) false true,.t 18 (.int .i64),.t 19 (.int .i64)]
def Z3.sp0_0:List Sp:=[.t 0 .str,.t 1 .str,.own 5 2048 3 (.int .i64) false true]
def Z3.A0:LArm:=.one Z3.sp0 Z3.sp0_0 (ByteArray×ByteArray× (List Int)) (λk x=>Z3.l0 k x.1 x.2.1 x.2.2.1 x.2.2.2.1 x.2.2.2.2.1) (.exit 0) (λy=>(y.1,y.2.1,y.2.2,())) (λx=>(x.1,x.2.1,x.2.2.1))
def Z3.sp4:List Sp:=[.t 0 .str,.t 1 .str,.own 5 2048 3 (.int .i64) false true,.t 7 (.int .i64),.own 8 11268 3 (.int .i64) false true,.t 9 (.int .i64)]
def Z3.sp4_0:List Sp:=[.t 0 .str,.t 1 .str,.t 7 (.int .i64),.own 8 11268 3 (.int .i64) false true]
def Z3.A4:LArm:=.one Z3.sp4 Z3.sp4_0 (ByteArray×ByteArray×Int× (List Int)) (λk x=>Z3.l4 k x.1 x.2.1 x.2.2.1 x.2.2.2.1 x.2.2.2.2.1 x.2.2.2.2.2.1) (.exit 4) (λy=>(y.1,y.2.1,y.2.2.1,y.2.2.2,())) (λx=>(x.1,x.2.1,x.2.2.1,x.2.2.2.1))
def Z3.sp2:List Sp:=[.t 0 .str,.t 1 .str,.own 5 2048 3 (.int .i64) false true,.t 7 (.int .i64)]
def Z3.sp2_0:List Sp:=[.t 1 .str,.own 5 2048 3 (.int .i64) false true]
def Z3.A2:LArm:=.one Z3.sp2 Z3.sp2_0 (ByteArray× (List Int)) (λk x=>Z3.l2 k x.1 x.2.1 x.2.2.1 x.2.2.2.1) (.exit 2) (λy=>(y.1,y.2,())) (λx=>(x.1,x.2.1))
def Z3.L:Nat->Option LArm:=λb=>match b with
 |0=>some Z3.A0
 |4=>some Z3.A4
 |2=>some Z3.A2
 |_=>none
theorem Z3.run (k:Nat)(a0:ByteArray)(a1:ByteArray):Qm Q0 (Q8 (Z3.C k)) (Q6 78 k Z3.L) Tryz.f62 [.t .str a0,.t .str a1] (Q5 (.t (.int .i64)))=Z3.F k a0 a1:=by kernel_rfl
theorem Z3.step0 (k:Nat)(x0:ByteArray)(x1:ByteArray)(x5:List Int)(x18:Int)(x19:Int):Qs Q0 (Q8 (Z3.C k)) (Q6 78 k Z3.L) 0 (Qh Tryz.f62 0) (QA 78 Z3.sp0 (x0,x1,x5,x18,x19,())) (Z3.A0.cont 78 k)=Z3.l0 (k+1) x0 x1 x5 x18 x19:=by kernel_rfl
theorem Z3.step4 (k:Nat)(x0:ByteArray)(x1:ByteArray)(x5:List Int)(x7:Int)(x8:List Int)(x9:Int):Qs Q0 (Q8 (Z3.C k)) (Q6 78 k Z3.L) 4 (Qh Tryz.f62 4) (QA 78 Z3.sp4 (x0,x1,x5,x7,x8,x9,())) (Z3.A4.cont 78 k)=Z3.l4 (k+1) x0 x1 x5 x7 x8 x9:=by kernel_rfl
theorem Z3.step2 (k:Nat)(x0:ByteArray)(x1:ByteArray)(x5:List Int)(x7:Int):Qs Q0 (Q8 (Z3.C k)) (Q6 78 k Z3.L) 2 (Qh Tryz.f62 2) (QA 78 Z3.sp2 (x0,x1,x5,x7,())) (Z3.A2.cont 78 k)=Z3.l2 (k+1) x0 x1 x5 x7:=by kernel_rfl
theorem Z3.G (hE:EnvOk Tryz.prog Q0)(pv:Nat->Value)(k:Nat):∀cal A,Z3.C k cal=some A->Qc Tryz.prog Q0 pv cal A:=by
 intro cal A h
 unfold Z3.C at h
 split at h
 ·cases h;exact λx y hy=>Z23.good hE pv k x.1 hy
 ·cases h
theorem Z3.good (hE:EnvOk Tryz.prog Q0)(pv:Nat->Value)(k:Nat)(a0:ByteArray)(a1:ByteArray){y:_}(h:Z3.F k a0 a1=some y):Qd Tryz.prog Q0 pv (.f 62) (Q7 [.str,.str] (a0,a1,())) (.t (.int .i64) y):=
 Qj hE (t:=Z3.C) k (λk _=>Z3.G hE pv k) (f:=62) (fn:=Tryz.f62) (by kernel_rfl) rfl (by kernel_rfl) (by kernel_rfl) (lt:=Z3.L) (by kernel_rfl) (λb A h=>by
  unfold Z3.L at h;split at h
  ·cases h;exact⟨by kernel_rfl,by kernel_rfl,λ_=>rfl,λ_=>rfl⟩
  ·cases h;exact⟨by kernel_rfl,by kernel_rfl,λ_=>rfl,λ_=>rfl⟩
  ·cases h;exact⟨by kernel_rfl,by kernel_rfl,λ_=>rfl,λ_=>rfl⟩
  ·cases h) (λb A h=>by
  unfold Z3.L at h;split at h
  ·cases h;exact λk x=>Z3.step0 k x.1 x.2.1 x.2.2.1 x.2.2.2.1 x.2.2.2.2.1
  ·cases h;exact λk x=>Z3.step4 k x.1 x.2.1 x.2.2.1 x.2.2.2.1 x.2.2.2.2.1 x.2.2.2.2.2.1
  ·cases h;exact λk x=>Z3.step2 k x.1 x.2.1 x.2.2.1 x.2.2.2.1
  ·cases h) ((Z3.run k a0 a1).trans h) (λr hr=>Q1 hr)
def Z118.F (a0:ByteArray)(a1:ByteArray):Option (Bool):=bif (decide ((a0.size:Int) ≥ (a1.size:Int)))then(bif decide (0<=(a1.size:Int))then(bif decide ((a1.size:Int)<=(a0.size:Int))then(some (Qr (a0.extract 0 ((a1.size:Int):Int).toNat) a1))else none)else none)else(some false)
def Z118.C:Cal->Option CArm:=λc=>match c with
 |_=>none
theorem Z118.run (a0:ByteArray)(a1:ByteArray):Qm Q0 (Q8 Z118.C) (Q6 18 0 (λ_=>none)) Tryz.f179 [.t .str a0,.t .str a1] (Q5 (.t .bool))=Z118.F a0 a1:=by kernel_rfl
theorem Z118.G (hE:EnvOk Tryz.prog Q0)(pv:Nat->Value):∀cal A,Z118.C cal=some A->Qc Tryz.prog Q0 pv cal A:=by
 intro cal A h
 unfold Z118.C at h
 cases h
theorem Z118.good (hE:EnvOk Tryz.prog Q0)(pv:Nat->Value)(a0:ByteArray)(a1:ByteArray){y:_}(h:Z118.F a0 a1=some y):Qd Tryz.prog Q0 pv (.f 179) (Q7 [.str,.str] (a0,a1,())) (.t .bool y):=
 Qb hE (Z118.G hE pv) (f:=179) (fn:=Tryz.f179) (by kernel_rfl) rfl (by kernel_rfl) (by kernel_rfl) ((Z118.run a0 a1).trans h) (λr hr=>Q1 hr)
def Z79.F (a0:ByteArray)(a1:ByteArray):Option (Bool):=(Z118.F a0 a1).bind λr1=>some r1
def Z79.C:Cal->Option CArm:=λc=>match c with
 |.f 179=>some (.p [.str,.str] _ (λx=>Z118.F x.1 x.2.1) (λr=>(.t .bool r)))
 |_=>none
theorem Z79.run (a0:ByteArray)(a1:ByteArray):Qm Q0 (Q8 Z79.C) (Q6 8 0 (λ_=>none)) Tryz.f145 [.t .str a0,.t .str a1] (Q5 (.t .bool))=Z79.F a0 a1:=by kernel_rfl
theorem Z79.G (hE:EnvOk Tryz.prog Q0)(pv:Nat->Value):∀cal A,Z79.C cal=some A->Qc Tryz.prog Q0 pv cal A:=by
 intro cal A h
 unfold Z79.C at h
 split at h
 ·cases h;exact λx y hy=>Z118.good hE pv x.1 x.2.1 hy
 ·cases h
theorem Z79.good (hE:EnvOk Tryz.prog Q0)(pv:Nat->Value)(a0:ByteArray)(a1:ByteArray){y:_}(h:Z79.F a0 a1=some y):Qd Tryz.prog Q0 pv (.f 145) (Q7 [.str,.str] (a0,a1,())) (.t .bool y):=
 Qb hE (Z79.G hE pv) (f:=145) (fn:=Tryz.f145) (by kernel_rfl) rfl (by kernel_rfl) (by kernel_rfl) ((Z79.run a0 a1).trans h) (λr hr=>Q1 hr)
def Z16.l0:Nat->Name->Name->Int->Option (Sum Bool Unit)
 |0,_,_,_=>none
 |k+1,x2,x3,x5=>bif (decide (x5<(if(x3.given.length:Int)<(x2.given.length:Int)then(x3.given.length:Int)else(x2.given.length:Int))))then(bif decide (0<=x5)then(bif decide (x5<(x2.given.length:Int))then(bif decide (0<=x5)then(bif decide (x5<(x3.given.length:Int))then(bif (!Qr (x2.given.getD (x5:Int).toNat (⟨#[]⟩:ByteArray)) (x3.given.getD (x5:Int).toNat (⟨#[]⟩:ByteArray)))then(bif (((x2.given.getD (x5:Int).toNat (⟨#[]⟩:ByteArray)).size:Int)==1)then((Z79.F (x3.given.getD (x5:Int).toNat (⟨#[]⟩:ByteArray)) (x2.given.getD (x5:Int).toNat (⟨#[]⟩:ByteArray))).bind λr1=>bif (!r1)then(bif (((x3.given.getD (x5:Int).toNat (⟨#[]⟩:ByteArray)).size:Int)==1)then((Z79.F (x2.given.getD (x5:Int).toNat (⟨#[]⟩:ByteArray)) (x3.given.getD (x5:Int).toNat (⟨#[]⟩:ByteArray))).bind λr2=>bif (!r2)then(some (.inl false))else(Z16.l0 k x2 x3 (IntKind.wrap .i64 (x5+1))))else(some (.inl false)))else(Z16.l0 k x2 x3 (IntKind.wrap .i64 (x5+1))))else(bif (((x3.given.getD (x5:Int).toNat (⟨#[]⟩:ByteArray)).size:Int)==1)then((Z79.F (x2.given.getD (x5:Int).toNat (⟨#[]⟩:ByteArray)) (x3.given.getD (x5:Int).toNat (⟨#[]⟩:ByteArray))).bind λr3=>bif (!r3)then(some (.inl false))else(Z16.l0 k x2 x3 (IntKind.wrap .i64 (x5+1))))else(some (.inl false))))else(Z16.l0 k x2 x3 (IntKind.wrap .i64 (x5+1))))else none)else none)else none)else none)else(some (.inr ()))
def Z16.F (k:Nat)(a0:Name)(a1:Name):Option (Bool):=bif (!Qr a0.particle a1.particle)then(some false)else(bif (!Qr a0.family a1.family)then(some false)else(bif (!Qr a0.suffix a1.suffix)then(some false)else((Z16.l0 k a0 a1 0).bind λy4=>match y4 with|.inl z5=>some z5|.inr z5=>some true)))
def Z16.C (k:Nat):Cal->Option CArm:=λc=>match c with
 |.f 145=>some (.p [.str,.str] _ (λx=>Z79.F x.1 x.2.1) (λr=>(.t .bool r)))
 |_=>none
def Z16.sp0:List Sp:=[.boxT 2 0 .name,.boxT 3 4 .name,.t 5 (.int .i64)]
def Z16.sp0_0:List Sp:=[.t 4 .bool]
def Z16.sp0_1:List Sp:=[]
def Z16.A0:LArm:=.two Z16.sp0 Z16.sp0_0 Z16.sp0_1 (Bool) (Unit) (λk x=>Z16.l0 k x.1 x.2.1 x.2.2.1) .ret (.exit 0) (λy=>(y,())) (λx=>x.1) (λy=>()) (λx=>())
def Z16.L:Nat->Option LArm:=λb=>match b with
 |0=>some Z16.A0
 |_=>none
theorem Z16.run (k:Nat)(a0:Name)(a1:Name):Qm Q0 (Q8 (Z16.C k)) (Q6 73 k Z16.L) Tryz.f110 [.t .name a0,.t .name a1] (Q5 (.t .bool))=Z16.F k a0 a1:=by kernel_rfl
theorem Z16.step0 (k:Nat)(x2:Name)(x3:Name)(x5:Int):Qs Q0 (Q8 (Z16.C k)) (Q6 73 k Z16.L) 0 (Qh Tryz.f110 0) (QA 73 Z16.sp0 (x2,x3,x5,())) (Z16.A0.cont 73 k)=Z16.l0 (k+1) x2 x3 x5:=by kernel_rfl
theorem Z16.G (hE:EnvOk Tryz.prog Q0)(pv:Nat->Value)(k:Nat):∀cal A,Z16.C k cal=some A->Qc Tryz.prog Q0 pv cal A:=by
 intro cal A h
 unfold Z16.C at h
 split at h
 ·cases h;exact λx y hy=>Z79.good hE pv x.1 x.2.1 hy
 ·cases h
theorem Z16.good (hE:EnvOk Tryz.prog Q0)(pv:Nat->Value)(k:Nat)(a0:Name)(a1:Name){y:_}(h:Z16.F k a0 a1=some y):Qd Tryz.prog Q0 pv (.f 110) (Q7 [.name,.name] (a0,a1,())) (.t .bool y):=
 Qj hE (t:=Z16.C) k (λk _=>Z16.G hE pv k) (f:=110) (fn:=Tryz.f110) (by kernel_rfl) rfl (by kernel_rfl) (by kernel_rfl) (lt:=Z16.L) (by kernel_rfl) (λb A h=>by
  unfold Z16.L at h;split at h
  ·cases h;exact⟨by kernel_rfl,by kernel_rfl,by kernel_rfl,λ_=>rfl,λ_=>rfl,λ_=>rfl⟩
  ·cases h) (λb A h=>by
  unfold Z16.L at h;split at h
  ·cases h;exact λk x=>Z16.step0 k x.1 x.2.1 x.2.2.1
  ·cases h) ((Z16.run k a0 a1).trans h) (λr hr=>Q1 hr)
def Z24.l0:Nat->(List Name)->(List Name)->Int->Int->Option (Sum Bool ((List Name)× (List Name)))
 |0,_,_,_,_=>none
 |k+1,x0,x1,x7,x8=>bif (decide (x8<x7))then(bif ((x1.length:Int) != (x0.length:Int))then(some (.inl false))else(bif decide (0<=x8)then(bif decide (x8<(x0.length:Int))then(bif decide (0<=x8)then(bif decide (x8<(x1.length:Int))then((Z16.F k (x0.getD (x8:Int).toNat (Q4 .name)) (x1.getD (x8:Int).toNat (Q4 .name))).bind λr1=>bif (!r1)then(some (.inl false))else(Z24.l0 k x0 x1 x7 (IntKind.wrap .i64 (x8+1))))else none)else none)else none)else none))else(some (.inr (x0,x1)))
def Z24.F (k:Nat)(a0:List Name)(a1:List Name):Option (Bool):=(Z24.l0 k a0 a1 (a0.length:Int) 0).bind λy2=>match y2 with|.inl z3=>some z3|.inr z3=>some ((z3.1.length:Int)==(z3.2.length:Int))
def Z24.C (k:Nat):Cal->Option CArm:=λc=>match c with
 |.f 110=>some (.p [.name,.name] _ (λx=>Z16.F k x.1 x.2.1) (λr=>(.t .bool r)))
 |_=>none
def Z24.sp0:List Sp:=[.t 0 (.sl .name),.t 1 (.sl .name),.t 7 (.int .i64),.t 8 (.int .i64)]
def Z24.sp0_0:List Sp:=[.t 4 .bool]
def Z24.sp0_1:List Sp:=[.t 0 (.sl .name),.t 1 (.sl .name)]
def Z24.A0:LArm:=.two Z24.sp0 Z24.sp0_0 Z24.sp0_1 (Bool) ((List Name)× (List Name)) (λk x=>Z24.l0 k x.1 x.2.1 x.2.2.1 x.2.2.2.1) .ret (.exit 0) (λy=>(y,())) (λx=>x.1) (λy=>(y.1,y.2,())) (λx=>(x.1,x.2.1))
def Z24.L:Nat->Option LArm:=λb=>match b with
 |0=>some Z24.A0
 |_=>none
theorem Z24.run (k:Nat)(a0:List Name)(a1:List Name):Qm Q0 (Q8 (Z24.C k)) (Q6 34 k Z24.L) Tryz.f70 [.t (.sl .name) a0,.t (.sl .name) a1] (Q5 (.t .bool))=Z24.F k a0 a1:=by kernel_rfl
theorem Z24.step0 (k:Nat)(x0:List Name)(x1:List Name)(x7:Int)(x8:Int):Qs Q0 (Q8 (Z24.C k)) (Q6 34 k Z24.L) 0 (Qh Tryz.f70 0) (QA 34 Z24.sp0 (x0,x1,x7,x8,())) (Z24.A0.cont 34 k)=Z24.l0 (k+1) x0 x1 x7 x8:=by kernel_rfl
theorem Z24.G (hE:EnvOk Tryz.prog Q0)(pv:Nat->Value)(k:Nat):∀cal A,Z24.C k cal=some A->Qc Tryz.prog Q0 pv cal A:=by
 intro cal A h
 unfold Z24.C at h
 split at h
 ·cases h;exact λx y hy=>Z16.good hE pv k x.1 x.2.1 hy
 ·cases h
theorem Z24.good (hE:EnvOk Tryz.prog Q0)(pv:Nat->Value)(k:Nat)(a0:List Name)(a1:List Name){y:_}(h:Z24.F k a0 a1=some y):Qd Tryz.prog Q0 pv (.f 70) (Q7 [(.sl .name),(.sl .name)] (a0,a1,())) (.t .bool y):=
 Qj hE (t:=Z24.C) k (λk _=>Z24.G hE pv k) (f:=70) (fn:=Tryz.f70) (by kernel_rfl) rfl (by kernel_rfl) (by kernel_rfl) (lt:=Z24.L) (by kernel_rfl) (λb A h=>by
  unfold Z24.L at h;split at h
  ·cases h;exact⟨by kernel_rfl,by kernel_rfl,by kernel_rfl,λ_=>rfl,λ_=>rfl,λ_=>rfl⟩
  ·cases h) (λb A h=>by
  unfold Z24.L at h;split at h
  ·cases h;exact λk x=>Z24.step0 k x.1 x.2.1 x.2.2.1 x.2.2.2.1
  ·cases h) ((Z24.run k a0 a1).trans h) (λr hr=>Q1 hr)
def Z104.F (a0:Date)(a1:Date):Option (Bool):=bif (a0.y==0)then(some true)else(bif (a1.y==0)then(some true)else(bif (a0.y != a1.y)then(some false)else(bif (a0.m==0)then(some true)else(bif (a1.m==0)then(some true)else(bif (a0.m==a1.m)then(bif (a0.d==a1.d)then(some true)else(bif (a0.d==0)then(some true)else(some (a1.d==0))))else(some false))))))
def Z104.C:Cal->Option CArm:=λc=>match c with
 |_=>none
theorem Z104.run (a0:Date)(a1:Date):Qm Q0 (Q8 Z104.C) (Q6 48 0 (λ_=>none)) Tryz.f71 [.t .date a0,.t .date a1] (Q5 (.t .bool))=Z104.F a0 a1:=by kernel_rfl
theorem Z104.G (hE:EnvOk Tryz.prog Q0)(pv:Nat->Value):∀cal A,Z104.C cal=some A->Qc Tryz.prog Q0 pv cal A:=by
 intro cal A h
 unfold Z104.C at h
 cases h
theorem Z104.good (hE:EnvOk Tryz.prog Q0)(pv:Nat->Value)(a0:Date)(a1:Date){y:_}(h:Z104.F a0 a1=some y):Qd Tryz.prog Q0 pv (.f 71) (Q7 [.date,.date] (a0,a1,())) (.t .bool y):=
 Qb hE (Z104.G hE pv) (f:=71) (fn:=Tryz.f71) (by kernel_rfl) rfl (by kernel_rfl) (by kernel_rfl) ((Z104.run a0 a1).trans h) (λr hr=>Q1 hr)
def Z70.F (k:Nat)(a0:Entry)(a1:Entry)(a2:Int):Option (Bool):=bif (a0.kind==a1.kind)then((Z24.F k a0.authors a1.authors).bind λr1=>bif r1 then((Z104.F a0.date a1.date).bind λr2=>bif r2 then((Z3.F k a0.title a1.title).bind λr3=>some (decide (r3<=a2)))else(some false))else(some false))else(some false)
def Z70.C (k:Nat):Cal->Option CArm:=λc=>match c with
 |.f 70=>some (.p [(.sl .name),(.sl .name)] _ (λx=>Z24.F k x.1 x.2.1) (λr=>(.t .bool r)))
 |.f 71=>some (.p [.date,.date] _ (λx=>Z104.F x.1 x.2.1) (λr=>(.t .bool r)))
 |.f 62=>some (.p [.str,.str] _ (λx=>Z3.F k x.1 x.2.1) (λr=>(.t (.int .i64) r)))
 |_=>none
theorem Z70.run (k:Nat)(a0:Entry)(a1:Entry)(a2:Int):Qm Q0 (Q8 (Z70.C k)) (Q6 35 0 (λ_=>none)) Tryz.f35 [.t .entry a0,.t .entry a1,.t (.int .i64) a2] (Q5 (.t .bool))=Z70.F k a0 a1 a2:=by kernel_rfl
theorem Z70.G (hE:EnvOk Tryz.prog Q0)(pv:Nat->Value)(k:Nat):∀cal A,Z70.C k cal=some A->Qc Tryz.prog Q0 pv cal A:=by
 intro cal A h
 unfold Z70.C at h
 split at h
 ·cases h;exact λx y hy=>Z24.good hE pv k x.1 x.2.1 hy
 ·cases h;exact λx y hy=>Z104.good hE pv x.1 x.2.1 hy
 ·cases h;exact λx y hy=>Z3.good hE pv k x.1 x.2.1 hy
 ·cases h
theorem Z70.good (hE:EnvOk Tryz.prog Q0)(pv:Nat->Value)(k:Nat)(a0:Entry)(a1:Entry)(a2:Int){y:_}(h:Z70.F k a0 a1 a2=some y):Qd Tryz.prog Q0 pv (.f 35) (Q7 [.entry,.entry,(.int .i64)] (a0,a1,a2,())) (.t .bool y):=
 Qb hE (Z70.G hE pv k) (f:=35) (fn:=Tryz.f35) (by kernel_rfl) rfl (by kernel_rfl) (by kernel_rfl) ((Z70.run k a0 a1 a2).trans h) (λr hr=>Q1 hr)
def Z105.F (a0:Int):Option (Bool):=some (a0 != a0)
def Z105.C:Cal->Option CArm:=λc=>match c with
 |_=>none
theorem Z105.run (a0:Int):Qm Q0 (Q8 Z105.C) (Q6 6 0 (λ_=>none)) Tryz.f151 [.t (.int .i64) a0] (Q5 (.t .bool))=Z105.F a0:=by kernel_rfl
theorem Z105.G (hE:EnvOk Tryz.prog Q0)(pv:Nat->Value):∀cal A,Z105.C cal=some A->Qc Tryz.prog Q0 pv cal A:=by
 intro cal A h
 unfold Z105.C at h
 cases h
theorem Z105.good (hE:EnvOk Tryz.prog Q0)(pv:Nat->Value)(a0:Int){y:_}(h:Z105.F a0=some y):Qd Tryz.prog Q0 pv (.f 151) (Q7 [(.int .i64)] (a0,())) (.t .bool y):=
 Qb hE (Z105.G hE pv) (f:=151) (fn:=Tryz.f151) (by kernel_rfl) rfl (by kernel_rfl) (by kernel_rfl) ((Z105.run a0).trans h) (λr hr=>Q1 hr)
def Z106.F (a0:Int)(a1:Int):Option (Bool):=(Z105.F a0).bind λr1=>bif r1 then((Z105.F a1).bind λr2=>bif (!r2)then(some true)else(some (decide (a0<a1))))else(some (decide (a0<a1)))
def Z106.C:Cal->Option CArm:=λc=>match c with
 |.f 151=>some (.p [(.int .i64)] _ (λx=>Z105.F x.1) (λr=>(.t .bool r)))
 |_=>none
theorem Z106.run (a0:Int)(a1:Int):Qm Q0 (Q8 Z106.C) (Q6 17 0 (λ_=>none)) Tryz.f117 [.t (.int .i64) a0,.t (.int .i64) a1] (Q5 (.t .bool))=Z106.F a0 a1:=by kernel_rfl
theorem Z106.G (hE:EnvOk Tryz.prog Q0)(pv:Nat->Value):∀cal A,Z106.C cal=some A->Qc Tryz.prog Q0 pv cal A:=by
 intro cal A h
 unfold Z106.C at h
 split at h
 ·cases h;exact λx y hy=>Z105.good hE pv x.1 hy
 ·cases h
theorem Z106.good (hE:EnvOk Tryz.prog Q0)(pv:Nat->Value)(a0:Int)(a1:Int){y:_}(h:Z106.F a0 a1=some y):Qd Tryz.prog Q0 pv (.f 117) (Q7 [(.int .i64),(.int .i64)] (a0,a1,())) (.t .bool y):=
 Qb hE (Z106.G hE pv) (f:=117) (fn:=Tryz.f117) (by kernel_rfl) rfl (by kernel_rfl) (by kernel_rfl) ((Z106.run a0 a1).trans h) (λr hr=>Q1 hr)
def Z10.l2:Nat->(List Int)->Int->Int->Int->Int->Option ((List Int)×Int×Int×Int)
 |0,_,_,_,_,_=>none
 |k+1,x0,x1,x2,x6,x7=>bif (decide (x7 > x1))then(bif decide (0<=x7)then(bif decide (x7<(x0.length:Int))then(bif decide (0<=(IntKind.wrap .i64 (x7-1)))then(bif decide ((IntKind.wrap .i64 (x7-1))<(x0.length:Int))then((Z106.F (x0.getD ((x7:Int).toNat) 0) (x0.getD (((IntKind.wrap .i64 (x7-1)):Int).toNat) 0)).bind λr1=>bif r1 then(bif decide (0<=(IntKind.wrap .i64 (x7-1)))then(bif decide ((IntKind.wrap .i64 (x7-1))<(x0.length:Int))then(bif decide (0<=x7)then(bif decide (x7<(x0.length:Int))then(bif decide (0<=x7)then(bif decide (x7<(x0.length:Int))then(bif decide (0<=(IntKind.wrap .i64 (x7-1)))then(bif decide ((IntKind.wrap .i64 (x7-1))<((x0.set ((x7:Int).toNat) (x0.getD (((IntKind.wrap .i64 (x7-1)):Int).toNat) 0)).length:Int))then(Z10.l2 k ((x0.set ((x7:Int).toNat) (x0.getD (((IntKind.wrap .i64 (x7-1)):Int).toNat) 0)).set (((IntKind.wrap .i64 (x7-1)):Int).toNat) (x0.getD ((x7:Int).toNat) 0)) x1 x2 x6 (IntKind.wrap .i64 (x7-1)))else none)else none)else none)else none)else none)else none)else none)else none)else(some (x0,x1,x2,x6)))else none)else none)else none)else none)else(some (x0,x1,x2,x6))
def Z10.l0:Nat->(List Int)->Int->Int->Int->Option ((List Int))
 |0,_,_,_,_=>none
 |k+1,x0,x1,x2,x6=>bif (decide (x6<x2))then((Z10.l2 k x0 x1 x2 x6 x6).bind λy2=>Z10.l0 k y2.1 y2.2.1 y2.2.2.1 (IntKind.wrap .i64 (y2.2.2.2+1)))else(some x0)
def Z10.F (k:Nat)(a0:List Int)(a1:Int)(a2:Int):Option (List Int):=(Z10.l0 k a0 a1 a2 (IntKind.wrap .i64 (a1+1))).bind λy3=>bif Nat.beq (y3).length a0.length then(some y3)else none
def Z10.C (k:Nat):Cal->Option CArm:=λc=>match c with
 |.f 117=>some (.p [(.int .i64),(.int .i64)] _ (λx=>Z106.F x.1 x.2.1) (λr=>(.t .bool r)))
 |_=>none
def Z10.sp2:List Sp:=[.own 0 1099511627776 3 (.int .i64) false true,.t 1 (.int .i64),.t 2 (.int .i64),.t 6 (.int .i64),.t 7 (.int .i64)]
def Z10.sp2_0:List Sp:=[.own 0 1099511627776 3 (.int .i64) false true,.t 1 (.int .i64),.t 2 (.int .i64),.t 6 (.int .i64)]
def Z10.A2:LArm:=.one Z10.sp2 Z10.sp2_0 ((List Int)×Int×Int×Int) (λk x=>Z10.l2 k x.1 x.2.1 x.2.2.1 x.2.2.2.1 x.2.2.2.2.1) (.exit 2) (λy=>(y.1,y.2.1,y.2.2.1,y.2.2.2,())) (λx=>(x.1,x.2.1,x.2.2.1,x.2.2.2.1))
def Z10.sp0:List Sp:=[.own 0 1099511627776 3 (.int .i64) false true,.t 1 (.int .i64),.t 2 (.int .i64),.t 6 (.int .i64)]
def Z10.sp0_0:List Sp:=[.own 0 1099511627776 3 (.int .i64) false true]
def Z10.A0:LArm:=.one Z10.sp0 Z10.sp0_0 ((List Int)) (λk x=>Z10.l0 k x.1 x.2.1 x.2.2.1 x.2.2.2.1) (.exit 0) (λy=>(y,())) (λx=>x.1)
def Z10.L:Nat->Option LArm:=λb=>match b with
 |2=>some Z10.A2
 |0=>some Z10.A0
 |_=>none
theorem Z10.run (k:Nat)(a0:List Int)(a1:Int)(a2:Int):YB Q0 (Q8 (Z10.C k)) (Q6 49 k Z10.L) Tryz.f111 Qg (.fr 3 (.int .i64) a0) [.t (.int .i64) a1,.t (.int .i64) a2] (Q1e (.fr 3 (.int .i64)))=Z10.F k a0 a1 a2:=by kernel_rfl
theorem Z10.step2 (k:Nat)(x0:List Int)(x1:Int)(x2:Int)(x6:Int)(x7:Int):Qs Q0 (Q8 (Z10.C k)) (Q6 49 k Z10.L) 2 (Qh Tryz.f111 2) (QA 49 Z10.sp2 (x0,x1,x2,x6,x7,())) (Z10.A2.cont 49 k)=Z10.l2 (k+1) x0 x1 x2 x6 x7:=by kernel_rfl
theorem Z10.step0 (k:Nat)(x0:List Int)(x1:Int)(x2:Int)(x6:Int):Qs Q0 (Q8 (Z10.C k)) (Q6 49 k Z10.L) 0 (Qh Tryz.f111 0) (QA 49 Z10.sp0 (x0,x1,x2,x6,())) (Z10.A0.cont 49 k)=Z10.l0 (k+1) x0 x1 x2 x6:=by kernel_rfl
theorem Z10.G (hE:EnvOk Tryz.prog Q0)(pv:Nat->Value)(k:Nat):∀cal A,Z10.C k cal=some A->Qc Tryz.prog Q0 pv cal A:=by
 intro cal A h
 unfold Z10.C at h
 split at h
 ·cases h;exact λx y hy=>Z106.good hE pv x.1 x.2.1 hy
 ·cases h
theorem Z10.good (hE:EnvOk Tryz.prog Q0)(pv:Nat->Value)(k:Nat)(a0:List Int)(a1:Int)(a2:Int){y:_}(h:Z10.F k a0 a1 a2=some y):QF Tryz.prog Q0 pv 111 (.fr 3 (.int .i64) a0) (Q7 [(.int .i64),(.int .i64)] (a1,a2,())) (.kep (.fr 3 (.int .i64) y) (.tup [])):=
 JY hE (t:=Z10.C) k (λk _=>Z10.G hE pv k) (f:=111) (fn:=Tryz.f111) (by kernel_rfl) rfl (by kernel_rfl) (.inl rfl) (by kernel_rfl) (lt:=Z10.L) (by kernel_rfl) (λb A h=>by
  unfold Z10.L at h;split at h
  ·cases h;exact⟨by kernel_rfl,by kernel_rfl,λ_=>rfl,λ_=>rfl⟩
  ·cases h;exact⟨by kernel_rfl,by kernel_rfl,λ_=>rfl,λ_=>rfl⟩
  ·cases h) (λb A h=>by
  unfold Z10.L at h;split at h
  ·cases h;exact λk x=>Z10.step2 k x.1 x.2.1 x.2.2.1 x.2.2.2.1 x.2.2.2.2.1
  ·cases h;exact λk x=>Z10.step0 k x.1 x.2.1 x.2.2.1 x.2.2.2.1
  ·cases h) ((Z10.run k a0 a1 a2).trans h) (λr hr=>Gj hr)
def Z55.l0:Nat->(List Int)->Int->Int->Int->Bool->Bool->Option ((List Int))
 |0,_,_,_,_,_,_=>none
 |k+1,x0,x1,x2,x3,x8,x9=>bif (decide ((IntKind.wrap .i64 (x2-x1))<=12))then((Z10.F k x0 x1 x2).bind λr1=>some r1)else(bif (x3==0)then(none)else(bif (!x8)then(none)else none))
def Z55.F (k:Nat)(a0:List Int)(a1:Int)(a2:Int)(a3:Int):Option (List Int):=(Z55.l0 k a0 a1 a2 a3 true true).bind λy2=>bif Nat.beq (y2).length a0.length then(some y2)else none
def Z55.C (k:Nat):Cal->Option CArm:=λc=>match c with
 |.f 111=>some (.m (.fr 3 (.int .i64)) [(.int .i64),(.int .i64)] _ (λx0 x=>Z10.F k x0 x.1 x.2.1) (λr=>.kep (.fr 3 (.int .i64) r) (.tup [])))
 |_=>none
def Z55.sp0:List Sp:=[.own 0 1099511627776 3 (.int .i64) false true,.t 1 (.int .i64),.t 2 (.int .i64),.t 3 (.int .i64),.t 8 .bool,.t 9 .bool]
def Z55.sp0_0:List Sp:=[.own 0 1099511627776 3 (.int .i64) false true]
def Z55.A0:LArm:=.one Z55.sp0 Z55.sp0_0 ((List Int)) (λk x=>Z55.l0 k x.1 x.2.1 x.2.2.1 x.2.2.2.1 x.2.2.2.2.1 x.2.2.2.2.2.1) .ret (λy=>(y,())) (λx=>x.1)
def Z55.L:Nat->Option LArm:=λb=>match b with
 |0=>some Z55.A0
 |_=>none
theorem Z55.run (k:Nat)(a0:List Int)(a1:Int)(a2:Int)(a3:Int):YB Q0 (Q8 (Z55.C k)) (Q6 134 k Z55.L) Tryz.f72 Qg (.fr 3 (.int .i64) a0) [.t (.int .i64) a1,.t (.int .i64) a2,.t (.int .i64) a3] (Q1e (.fr 3 (.int .i64)))=Z55.F k a0 a1 a2 a3:=by kernel_rfl
theorem Z55.step0 (k:Nat)(x0:List Int)(x1:Int)(x2:Int)(x3:Int)(x8:Bool)(x9:Bool):Qs Q0 (Q8 (Z55.C k)) (Q6 134 k Z55.L) 0 (Qh Tryz.f72 0) (QA 134 Z55.sp0 (x0,x1,x2,x3,x8,x9,())) (Z55.A0.cont 134 k)=Z55.l0 (k+1) x0 x1 x2 x3 x8 x9:=by kernel_rfl
theorem Z55.G (hE:EnvOk Tryz.prog Q0)(pv:Nat->Value)(k:Nat):∀cal A,Z55.C k cal=some A->Qc Tryz.prog Q0 pv cal A:=by
 intro cal A h
 unfold Z55.C at h
 split at h
 ·cases h;exact⟨_,rfl,λx0 x y hy=>Z10.good hE pv k x0 x.1 x.2.1 hy⟩
 ·cases h
theorem Z55.good (hE:EnvOk Tryz.prog Q0)(pv:Nat->Value)(k:Nat)(a0:List Int)(a1:Int)(a2:Int)(a3:Int){y:_}(h:Z55.F k a0 a1 a2 a3=some y):QF Tryz.prog Q0 pv 72 (.fr 3 (.int .i64) a0) (Q7 [(.int .i64),(.int .i64),(.int .i64)] (a1,a2,a3,())) (.kep (.fr 3 (.int .i64) y) (.tup [])):=
 JY hE (t:=Z55.C) k (λk _=>Z55.G hE pv k) (f:=72) (fn:=Tryz.f72) (by kernel_rfl) rfl (by kernel_rfl) (.inl rfl) (by kernel_rfl) (lt:=Z55.L) (by kernel_rfl) (λb A h=>by
  unfold Z55.L at h;split at h
  ·cases h;exact⟨by kernel_rfl,by kernel_rfl,λ_=>rfl,λ_=>rfl⟩
  ·cases h) (λb A h=>by
  unfold Z55.L at h;split at h
  ·cases h;exact λk x=>Z55.step0 k x.1 x.2.1 x.2.2.1 x.2.2.2.1 x.2.2.2.2.1 x.2.2.2.2.2.1
  ·cases h) ((Z55.run k a0 a1 a2 a3).trans h) (λr hr=>Gj hr)
def Z122.F (a0:Int):Option (Int):=bif (decide (a0 ≥ 4294967296))then(bif decide (0<=32)then(bif (decide ((Int.fdiv a0 (2 ^ min (32:Int).toNat (IntKind.bits .u64))) ≥ 65536))then(bif decide (0<=16)then(bif (decide ((Int.fdiv (Int.fdiv a0 (2 ^ min (32:Int).toNat (IntKind.bits .u64))) (2 ^ min (16:Int).toNat (IntKind.bits .u64))) ≥ 256))then(bif decide (0<=8)then(bif decide (0<=(IntKind.wrap .u8 (Int.fdiv (Int.fdiv (Int.fdiv a0 (2 ^ min (32:Int).toNat (IntKind.bits .u64))) (2 ^ min (16:Int).toNat (IntKind.bits .u64))) (2 ^ min (8:Int).toNat (IntKind.bits .u64)))))then(bif decide ((IntKind.wrap .u8 (Int.fdiv (Int.fdiv (Int.fdiv a0 (2 ^ min (32:Int).toNat (IntKind.bits .u64))) (2 ^ min (16:Int).toNat (IntKind.bits .u64))) (2 ^ min (8:Int).toNat (IntKind.bits .u64))))<(YY.size:Int))then(some (IntKind.wrap .i64 ((IntKind.wrap .i64 ((IntKind.wrap .i64 (32+16))+8))+(IntKind.wrap .i64 (bt YY ((IntKind.wrap .u8 (Int.fdiv (Int.fdiv (Int.fdiv a0 (2 ^ min (32:Int).toNat (IntKind.bits .u64))) (2 ^ min (16:Int).toNat (IntKind.bits .u64))) (2 ^ min (8:Int).toNat (IntKind.bits .u64)))):Int).toNat)))))else none)else none)else none)else(bif decide (0<=(IntKind.wrap .u8 (Int.fdiv (Int.fdiv a0 (2 ^ min (32:Int).toNat (IntKind.bits .u64))) (2 ^ min (16:Int).toNat (IntKind.bits .u64)))))then(bif decide ((IntKind.wrap .u8 (Int.fdiv (Int.fdiv a0 (2 ^ min (32:Int).toNat (IntKind.bits .u64))) (2 ^ min (16:Int).toNat (IntKind.bits .u64))))<(YY.size:Int))then(some (IntKind.wrap .i64 ((IntKind.wrap .i64 (32+16))+(IntKind.wrap .i64 (bt YY ((IntKind.wrap .u8 (Int.fdiv (Int.fdiv a0 (2 ^ min (32:Int).toNat (IntKind.bits .u64))) (2 ^ min (16:Int).toNat (IntKind.bits .u64)))):Int).toNat)))))else none)else none))else none)else(bif (decide ((Int.fdiv a0 (2 ^ min (32:Int).toNat (IntKind.bits .u64))) ≥ 256))then(bif decide (0<=8)then(bif decide (0<=(IntKind.wrap .u8 (Int.fdiv (Int.fdiv a0 (2 ^ min (32:Int).toNat (IntKind.bits .u64))) (2 ^ min (8:Int).toNat (IntKind.bits .u64)))))then(bif decide ((IntKind.wrap .u8 (Int.fdiv (Int.fdiv a0 (2 ^ min (32:Int).toNat (IntKind.bits .u64))) (2 ^ min (8:Int).toNat (IntKind.bits .u64))))<(YY.size:Int))then(some (IntKind.wrap .i64 ((IntKind.wrap .i64 (32+8))+(IntKind.wrap .i64 (bt YY ((IntKind.wrap .u8 (Int.fdiv (Int.fdiv a0 (2 ^ min (32:Int).toNat (IntKind.bits .u64))) (2 ^ min (8:Int).toNat (IntKind.bits .u64)))):Int).toNat)))))else none)else none)else none)else(bif decide (0<=(IntKind.wrap .u8 (Int.fdiv a0 (2 ^ min (32:Int).toNat (IntKind.bits .u64)))))then(bif decide ((IntKind.wrap .u8 (Int.fdiv a0 (2 ^ min (32:Int).toNat (IntKind.bits .u64))))<(YY.size:Int))then(some (IntKind.wrap .i64 (32+(IntKind.wrap .i64 (bt YY ((IntKind.wrap .u8 (Int.fdiv a0 (2 ^ min (32:Int).toNat (IntKind.bits .u64)))):Int).toNat)))))else none)else none)))else none)else(bif (decide (a0 ≥ 65536))then(bif decide (0<=16)then(bif (decide ((Int.fdiv a0 (2 ^ min (16:Int).toNat (IntKind.bits .u64))) ≥ 256))then(bif decide (0<=8)then(bif decide (0<=(IntKind.wrap .u8 (Int.fdiv (Int.fdiv a0 (2 ^ min (16:Int).toNat (IntKind.bits .u64))) (2 ^ min (8:Int).toNat (IntKind.bits .u64)))))then(bif decide ((IntKind.wrap .u8 (Int.fdiv (Int.fdiv a0 (2 ^ min (16:Int).toNat (IntKind.bits .u64))) (2 ^ min (8:Int).toNat (IntKind.bits .u64))))<(YY.size:Int))then(some (IntKind.wrap .i64 ((IntKind.wrap .i64 ((IntKind.wrap .i64 (0+16))+8))+(IntKind.wrap .i64 (bt YY ((IntKind.wrap .u8 (Int.fdiv (Int.fdiv a0 (2 ^ min (16:Int).toNat (IntKind.bits .u64))) (2 ^ min (8:Int).toNat (IntKind.bits .u64)))):Int).toNat)))))else none)else none)else none)else(bif decide (0<=(IntKind.wrap .u8 (Int.fdiv a0 (2 ^ min (16:Int).toNat (IntKind.bits .u64)))))then(bif decide ((IntKind.wrap .u8 (Int.fdiv a0 (2 ^ min (16:Int).toNat (IntKind.bits .u64))))<(YY.size:Int))then(some (IntKind.wrap .i64 ((IntKind.wrap .i64 (0+16))+(IntKind.wrap .i64 (bt YY ((IntKind.wrap .u8 (Int.fdiv a0 (2 ^ min (16:Int).toNat (IntKind.bits .u64)))):Int).toNat)))))else none)else none))else none)else(bif (decide (a0 ≥ 256))then(bif decide (0<=8)then(bif decide (0<=(IntKind.wrap .u8 (Int.fdiv a0 (2 ^ min (8:Int).toNat (IntKind.bits .u64)))))then(bif decide ((IntKind.wrap .u8 (Int.fdiv a0 (2 ^ min (8:Int).toNat (IntKind.bits .u64))))<(YY.size:Int))then(some (IntKind.wrap .i64 ((IntKind.wrap .i64 (0+8))+(IntKind.wrap .i64 (bt YY ((IntKind.wrap .u8 (Int.fdiv a0 (2 ^ min (8:Int).toNat (IntKind.bits .u64)))):Int).toNat)))))else none)else none)else none)else(bif decide (0<=(IntKind.wrap .u8 a0))then(bif decide ((IntKind.wrap .u8 a0)<(YY.size:Int))then(some (IntKind.wrap .i64 (0+(IntKind.wrap .i64 (bt YY ((IntKind.wrap .u8 a0):Int).toNat)))))else none)else none)))
def Z122.C:Cal->Option CArm:=λc=>match c with
 |_=>none
theorem Z122.run (a0:Int):Qm Q0 (Q8 Z122.C) (Q6 25 0 (λ_=>none)) Tryz.f121 [.t (.int .u64) a0] (Q5 (.t (.int .i64)))=Z122.F a0:=by kernel_rfl
theorem Z122.G (hE:EnvOk Tryz.prog Q0)(pv:Nat->Value):∀cal A,Z122.C cal=some A->Qc Tryz.prog Q0 pv cal A:=by
 intro cal A h
 unfold Z122.C at h
 cases h
theorem Z122.good (hE:EnvOk Tryz.prog Q0)(pv:Nat->Value)(a0:Int){y:_}(h:Z122.F a0=some y):Qd Tryz.prog Q0 pv (.f 121) (Q7 [(.int .u64)] (a0,())) (.t (.int .i64) y):=
 Qb hE (Z122.G hE pv) (f:=121) (fn:=Tryz.f121) (by kernel_rfl) rfl (by kernel_rfl) (by kernel_rfl) ((Z122.run a0).trans h) (λr hr=>Q1 hr)
end Go.Proofs.YtoojiikgbopeiaaGreatDoor
end
