/- Library functions: their contracts,proved once for any program,as what a callee keeps to. By an AI agent's session. -/
import Derived.Test.YtbpjfjdkjapnoaaGreatDoorMme4
import Derived.Shelf.Vars
import Derived.Below
import Derived.Lib.IndexMore
import Derived.Lib.Split
import Derived.Lib.SplitLaws
import Derived.Lib.Repeat
import Derived.Deep.Draws
import Derived.Lib.Join
import Derived.Lib.SlTrimSet
import Derived.Lib.IndexAny
import Derived.Lib.TrimByte
import Derived.Laws.AppendOwn
import Derived.Lib.ItoaNum
import Derived.Sort.Grow
import Derived.Shelf.Lays2
import Derived.Shelf.RegionOpenPlain
import Derived.WalkKit
import Derived.Lib.Walk
import Derived.Lib.SliceRun
import Derived.Lib.JoinLaws
import Derived.Lib.AppendZeros
import Derived.Lib.AppendZerosOnto
import Derived.Laws.Externs
import Derived.Laws.IdiomCopy
import Derived.Laws.NewBlocks
import Derived.Laws.CopyRow
import Derived.Deep.RegionLaw
import Derived.Test.YtbpjfjdkjapnoaaGreatDoorMme5
import Derived.Test.YtbpjfjdkjapnoaaGreatDoorProg
import Derived.KernelRfl
set_option linter.unusedVariables false
set_option linter.unusedSimpArgs false
set_option maxRecDepth 100000
section
namespace Go.Gx
open Go.RowKit Go.Lib
theorem XI {P:Program}{f:FuncId}{fn:Func}{c:Code}(hf:P.funcs[f]? =some fn)(hb:fn.body=some c)(hname:(fn.name== "runtime.NumGoroutine")=false){args:Array Value}{w:World}{R:Value->World->Prop}
  (h:Calls P f args w λe w'=>∃v,e= .returned v/\R v w'):Goes P f args w R:=by
 have hcall:(callFunc f args).run P w= .ok (.enter f args) w:=by
  have hn':fn.name≠ "runtime.NumGoroutine":=by simpa using hname
  simp[callFunc,hf,hn',hb]
 unfold Goes
 rw[hcall]
 exact h
theorem UP {S:Nat->Prop}{w:World}{pv:Nat->Value}{vs:List Value}(h:Ja S w pv [] vs):vs=[]:=List.eq_nil_of_length_eq_zero h.1
theorem Kv {S:Nat->Prop}{w:World}{pv:Nat->Value}{a:AV}{al:List AV}{vs:List Value}(h:Ja S w pv (a::al) vs):∃cs vs',AR S w (λ_=>none) (λ_=>none) pv a cs/\vs=valOf a cs::vs'/\Ja S w pv al vs':=by
 match vs,h with
 |[],h=>cases h.1
 |v::vs',⟨h1,h2⟩=>
  obtain⟨cs,hc,rfl⟩:=h2 0 a v rfl rfl
  exact⟨cs,vs',hc,rfl,by simpa using h1,λi b u hb hu=>h2 (i+1) b u (by simpa using hb) (by simpa using hu)⟩
theorem XJ {S:Nat->Prop}{w:World}{pv:Nat->Value}{s:ByteArray}{al:List AV}{vs:List Value}(h:Ja S w pv (.t .str s::al) vs):∃vs',vs= .string s::vs'/\Ja S w pv al vs':=by
 obtain⟨cs,vs',hc,rfl,h'⟩:=Kv h
 cases hc with|t _ _ _ hc=>cases hc;exact⟨vs',rfl,h'⟩
theorem DD {S:Nat->Prop}{w:World}{pv:Nat->Value}{k:IntKind}{n:Int}{al:List AV}{vs:List Value}(h:Ja S w pv (.t (.int k) n::al) vs):∃vs',vs= .int k n::vs'/\Ja S w pv al vs':=by
 obtain⟨cs,vs',hc,rfl,h'⟩:=Kv h
 cases hc with|t _ _ _ hc=>cases hc;exact⟨vs',rfl,h'⟩
section
variable {P:Program} {E:Env} {pv:Nat->Value} {f:FuncId} {fn:Func} {c:Code}
theorem Q1c (hf:P.funcs[f]? =some fn)(hb:fn.body=some c)(hname:(fn.name== "runtime.NumGoroutine")=false){args:List AV}{τ:Ty}{y:den τ}{v:Value}(hy:∀S w,∃cs,CR S w τ y cs/\v=valOf (.t τ y) cs)
  (h:∀S w vs,(∀b,S b->b<w.heap.size)->Qu E pv S w->Ja S w pv args vs->Calls P f vs.toArray w λe w'=>e= .returned v/\Below w.heap.size w w'):Qb P E pv (.f f) args (.t τ y):=by
 intro S w vs hS hgl hargs
 refine XI hf hb hname ((h S w vs hS hgl hargs).mono λe w' ⟨he,hbl⟩=>⟨v,he,hbl,S,λb hb=>hb,λb hb=>.inl hb,?_⟩)
 obtain⟨cs,hc,rfl⟩:=hy S w'
 exact⟨none,.plain _ _ (.t _ _ _ hc)⟩
theorem Q9s (hf:P.funcs[f]? =some fn)(hb:fn.body=some c)(hname:(fn.name== "runtime.NumGoroutine")=false){args:List AV}{te:Nat}{xs:List ByteArray}(hx:xs.length<=maxLen)
  (h:∀S w vs,(∀b,S b->b<w.heap.size)->Qu E pv S w->Ja S w pv args vs->Calls P f vs.toArray w λe w'=>e= .returned (.slice (some ⟨w.heap.size,0,none⟩) xs.length xs.length)/\w'=w.alloc (.cells (xs.map Value.string).toArray te)):Qb P E pv (.f f) args (.fr te .str xs):=by
 intro S w vs hS hgl hargs
 refine XI hf hb hname ((h S w vs hS hgl hargs).mono λe w' ⟨he,hw⟩=>⟨_,he,?_⟩)
 subst hw
 refine⟨(Below.refl _ w).alloc (Nat.le_refl _) _,S,λb hb=>hb,λb hb=>.inl hb,some w.heap.size,.fr te .str xs w.heap.size xs.length (Nat.le_refl _) (λhs=>absurd (hS _ hs) (Nat.lt_irrefl _)) ⟨(xs.map Value.string).toArray,(0,0),?_,?_,Nat.le_refl _,hx,λ_=>rfl,.inl (Nat.le_refl _),by decide,λi hi=>⟨[.string xs[i]],.str _,λj v hj=>?_⟩⟩⟩
 ·show(w.heap.push _)[w.heap.size]? =_
  simp
 ·simp[nc]
 ·cases j with
  |zero=>
   simp only[List.getElem?_cons_zero,Option.some.injEq]at hj
   subst hj
   simp[nc,hi]
  |succ j=>simp at hj
end
def Q3p (s sep:ByteArray):Option (List ByteArray):=bif Nat.ble s.size 4294967280&&Nat.ble 1 sep.size then some (Lib.splitB sep 0 (Lib.countB s sep) s)else none
theorem Q7G {P:Program}{E:Env}{pv:Nat->Value}{f:FuncId}{fn:Func}{c:Code}(hf:P.funcs[f]? =some fn)(hb:fn.body=some c)(hname:(fn.name== "runtime.NumGoroutine")=false){mx:Nat}(hmx:E.gi mx=true){te:Nat}
  (hc:∀(s sep:ByteArray) (m:Int) (w:World),s.size<4294967281->w.cell? ⟨mx,0,none⟩=some (.int .i64 m)->1<=sep.size->Calls P f #[.string s,.string sep] w λe w'=>
   e= .returned (.slice (some ⟨w.heap.size,0,none⟩) (Lib.countB s sep+1) (Lib.countB s sep+1))/\w'=w.alloc (.cells ((Lib.splitB sep 0 (Lib.countB s sep) s).map Value.string).toArray te))
  {s sep:ByteArray} {y:List ByteArray} (h:Q3p s sep=some y):Qb P E pv (.f f) (Q7 [.str,.str] (s,sep,())) (.fr te .str y):=by
 unfold Q3p at h
 cases hs:Nat.ble s.size 4294967280&&Nat.ble 1 sep.size with
 |false=>rw[hs]at h;cases h
 |true=>
  rw[hs]at h
  cases h
  rw[Bool.and_eq_true]at hs
  have h1:=Nat.le_of_ble_eq_true hs.1
  have h2:=Nat.le_of_ble_eq_true hs.2
  have hl:=Lib.splitB_all sep h2 0 _ s rfl
  have hle:=Lib.countB_le sep h2 s.size s (Nat.le_refl _)
  have hm:maxLen=9223372036854775807:=by decide
  refine Q9s hf hb hname (by rw[hl,hm];omega) λS w vs hS hgl ha=>?_
  obtain⟨_,rfl,ha1⟩:=XJ ha
  obtain⟨_,rfl,ha2⟩:=XJ ha1
  obtain rfl:=UP ha2
  obtain⟨_,m,hm⟩:=hgl.2.1 mx hmx
  rw[hl]
  exact hc s sep m w (by omega) hm h2
def Q4B (xs:List ByteArray)(sep:ByteArray):Option ByteArray:=bif Nat.ble xs.length 140737488355328&&Nat.ble (Lib.join (xs.map (·.data.toList)) sep.data.toList).length 140737488355328 then some ⟨(Lib.join (xs.map (·.data.toList)) sep.data.toList).toArray⟩else none
theorem Q9t {P:Program}{E:Env}{pv:Nat->Value}{f:FuncId}{fn:Func}{c:Code}(hf:P.funcs[f]? =some fn)(hb:fn.body=some c)(hname:(fn.name== "runtime.NumGoroutine")=false)
  (hc0:∀(a:Option Addr) (c:Nat) (sep:ByteArray) (w:World),Calls P f #[.slice a 0 c,.string sep] w λe w'=>e= .returned (.string ⟨#[]⟩)/\w'=w)
  (hc:∀(bk o c:Nat) (xs:List ByteArray) (sep:ByteArray) (w:World),(∀(j:Nat) x,xs[j]? =some x->w.cell? ⟨bk,o+j,none⟩=some (.string x))->bk<w.heap.size->xs.length<=140737488355328->xs.length<=c->
   (Lib.join (xs.map (·.data.toList)) sep.data.toList).length<=140737488355328->Calls P f #[.slice (some ⟨bk,o,none⟩) xs.length c,.string sep] w λe w'=>e= .returned (.string ⟨(Lib.join (xs.map (·.data.toList)) sep.data.toList).toArray⟩)/\Below w.heap.size w w')
  {xs:List ByteArray} {sep:ByteArray} {y:ByteArray} (h:Q4B xs sep=some y):Qb P E pv (.f f) (Q7 [.sl .str,.str] (xs,sep,())) (.t .str y):=by
 unfold Q4B at h
 cases hs:Nat.ble xs.length 140737488355328&&Nat.ble (Lib.join (xs.map (·.data.toList)) sep.data.toList).length 140737488355328 with
 |false=>rw[hs]at h;cases h
 |true=>
  rw[hs]at h
  cases h
  rw[Bool.and_eq_true]at hs
  refine Q1c hf hb hname (v:=.string _) (λS w=>⟨_,.str _,rfl⟩) λS w vs hS hgl ha=>?_
  obtain⟨cs,_,hcr,rfl,ha1⟩:=Kv ha
  obtain⟨_,rfl,ha2⟩:=XJ ha1
  obtain rfl:=UP ha2
  cases hcr with
  |t _ _ _ hcr=>
   cases hcr with
   |sl e xs A c cv hle hm h1 h2=>
    match xs,A,hle,h1,h2,hs with
    |[],A,_,_,_,_=>exact(hc0 A c sep w).mono λe w' ⟨he,hw⟩=>⟨he,hw▸Below.refl _ _⟩
    |x::l,A,hle,h1,h2,hs=>
     obtain⟨g,o,rfl,hg,_⟩:=h2 0 (Nat.succ_pos _)
     refine hc g o c (x::l) sep w (λj z hj=>?_) (hS g hg) (Nat.le_of_ble_eq_true hs.1) hle (Nat.le_of_ble_eq_true hs.2)
     obtain⟨hj',hz⟩:=List.getElem?_eq_some_iff.1 hj
     obtain⟨g',o',e',_,hcell⟩:=h2 j hj'
     cases e'
     have hcv:=h1 j hj'
     rw[hz]at hcv
     have hq:∀q,CR S w .str z q->q[0]? =some (.string z):=λq hq=>by cases hq;rfl
     have:=hcell 0 (.string z) (hq _ hcv)
     simpa[nc]using this
def Q3q (s cs:ByteArray):Option ByteArray:=match cs with
 |⟨⟨[c]⟩⟩=>bif Nat.ble s.size 9223372036854775807&&Nat.blt c.toNat 128 then some ⟨(Lib.trimB s.data.toList c).toArray⟩else none
 |_=>none
theorem Q7H {P:Program}{E:Env}{pv:Nat->Value}{f:FuncId}{fn:Func}{c:Code}(hf:P.funcs[f]? =some fn)(hb:fn.body=some c)(hname:(fn.name== "runtime.NumGoroutine")=false)
  (hc:∀(s:ByteArray) (c:UInt8),c.toNat<128->∀(w:World),s.size<=9223372036854775807->Calls P f #[.string s,.string ⟨#[c]⟩] w λe w'=>e= .returned (.string ⟨(Lib.trimB s.data.toList c).toArray⟩)/\(w'=w\/w'=w.drew))
  {s cs:ByteArray} {y:ByteArray} (h:Q3q s cs=some y):Qb P E pv (.f f) (Q7 [.str,.str] (s,cs,())) (.t .str y):=by
 unfold Q3q at h
 split at h
 ·rename_i c0
  cases hs:Nat.ble s.size 9223372036854775807&&Nat.blt c0.toNat 128 with
  |false=>rw[hs]at h;cases h
  |true=>
   rw[hs]at h
   cases h
   rw[Bool.and_eq_true]at hs
   refine Q1c hf hb hname (v:=.string _) (λS w=>⟨_,.str _,rfl⟩) λS w vs hS hgl ha=>?_
   obtain⟨_,rfl,ha1⟩:=XJ ha
   obtain⟨_,rfl,ha2⟩:=XJ ha1
   obtain rfl:=UP ha2
   refine(hc s c0 (Nat.le_of_ble_eq_true hs.2) w (Nat.le_of_ble_eq_true hs.1)).mono λe w' ⟨he,hw⟩=>⟨he,?_⟩
   rcases hw with rfl|rfl
   ·exact Below.refl _ _
   ·exact(Below.refl _ _).drew
 ·cases h
end Go.Gx
end
section
/- A library function by its contract: strconv.Itoa. -/
namespace Go.Gx
def Q3r (n:Int):Option ByteArray:=bif decide (-9223372036854775808<=n)&&decide (n<=9223372036854775807)then some ⟨(Lib.itoa n).toArray⟩else none
theorem Q7I {P:Program}{E:Env}{pv:Nat->Value}{f:FuncId}{fn:Func}{c:Code}(hf:P.funcs[f]? =some fn)(hb:fn.body=some c)(hname:(fn.name== "runtime.NumGoroutine")=false)
  {g:Nat} (hE:E.gl g=some (.t (.arr 20 (.int .u64)) Lib.pow10Tab)) (hg:P.globalNamed "internal/strconv.uint64pow10" =some g)
  (hc:∀(n:Int),-9223372036854775808<=n->n<=9223372036854775807->∀w:World,Lib.TabIs P w "internal/strconv.uint64pow10" .u64 Lib.pow10Tab->Calls P f #[.int .i64 n] w fun e w'=>e= .returned (.string ⟨(Lib.itoa n).toArray⟩)/\∃k os,w'=Go.Sort.grow (w.drewN k) os)
  {n:Int} {y:ByteArray} (h:Q3r n=some y):Qb P E pv (.f f) (Q7 [.int .i64] (n,())) (.t .str y):=by
 unfold Q3r at h
 cases hs:decide (-9223372036854775808<=n)&&decide (n<=9223372036854775807)with
 |false=>rw[hs]at h;cases h
 |true=>
  rw[hs]at h
  cases h
  simp only[Bool.and_eq_true,decide_eq_true_eq]at hs
  refine Q1c hf hb hname (v:=.string _) (λS w=>⟨_,.str _,rfl⟩) λS w vs hS hgl ha=>?_
  obtain⟨_,rfl,ha1⟩:=DD ha
  obtain rfl:=UP ha1
  refine(hc n hs.1 hs.2 w (Qcn hgl hE hg)).mono λe w' ⟨he,k,os,hw⟩=>⟨he,?_⟩
  subst hw
  refine⟨rfl,rfl,rfl,by simp[Go.Sort.grow,World.drewN],λb hb=>?_⟩
  simp only[Go.Sort.grow]
  rw[Array.getElem?_append_left (by exact hb)]
  rfl
end Go.Gx
end
section
/- slices.Insert of one element: what the library's own text does to a row,elements of any number of cells (over any program). -/
namespace Go.GxIns
open Go.Shelf Go.RowKit Go.Lib Go.Proofs
variable {P:Program} {ρ:Ren}
theorem DF {P:Program}(w:World)(tS tR e:TypeId)(ht:P.underlying tS=some (.slice e))(size:Nat)(hz:∀w,(Go.sizeOf e).run P w= .ok size w)
  (a b:Addr) (la ca lb cb:Nat) (hne:a.block≠b.block) (tA tB:TypeId) (kA kB:Nat)
  (hsa:w.shape? a.block=some (tA,kA)) (hkA:kA≠0) (hsb:w.shape? b.block=some (tB,kB)) (hkB:kB≠0)
  (hfb:w.frozen? b=false) (hfe:w.frozen? {block:=b.block,off:=kB}=false) :
  (Extern.SlicesOverlaps.overlaps #[tS,tS] #[tR] #[.slice (some a) la ca,.slice (some b) lb cb]).run P w= .ok (.bool false) w:=by
 have hnb:(a.block != b.block)=true:=by simpa using hne
 have hnb':(a.block==b.block)=false:=by simpa using hne
 delta Extern.SlicesOverlaps.overlaps
 delta Extern.SlicesOverlaps.overlaps.match_4
 dsimp only[Array.getLit,Array.casesOn,List.casesOn]
 rw[dif_pos (show(#[Value.slice (some a) la ca,Value.slice (some b) lb cb]).size=2 from rfl)]
 delta Extern.SlicesOverlaps.overlaps._sparseCasesOn_4
 dsimp only[List.getElem_toArray,List.getElem_cons_zero,List.getElem_cons_succ]
 by_cases h0:la=0\/lb=0\/size=0
 ·simp[run_underlying ht,hz,h0]
 ·cases kA with
  |zero=>exact absurd rfl hkA
  |succ kA=>
   cases kB with
   |zero=>exact absurd rfl hkB
   |succ kB=>
    cases hfa:w.frozen? a<;>cases hfx:w.frozen? {block:=a.block,off:=kA+1}<;>
     simp[run_underlying ht,hz,h0,hnb,hnb',frozen,noView,viewAt,mayBeOne,stringish,shape,Sem.run,hsa,hsb,hfb,hfe,hfa,hfx]
theorem Kw (w:World)(dT sT ty elem:TypeId)(b o dLen dCap:Nat)(a:Addr)(sLen sCap Z k:Nat)(cs:List Value)
  (hu:P.underlying dT=some (.slice elem)) (hs:(P.info? elem).map (·.size)=some Z) (hk:k=Nat.min sLen dLen) (hn:cs.length=k*Z)
  (hsrc:∀j v,cs[j]? =some v->w.cell? (a.add j)=some v) (hc:∀j,j<cs.length->(w.cell? ⟨b,o+j,none⟩).isSome=true) (hf:∀j,j<cs.length->w.frozen? ⟨b,o+j,none⟩=false) (h1:∀v∈cs,v.oneCell'=true) :
  (Builtin.copy_ #[dT,sT] ty #[.slice (some ⟨b,o,none⟩) dLen dCap,.slice (some a) sLen sCap]).run P w= .ok (goInt k) (w.setCells b o cs):=by
 have hl:=run_loadCells_list (P:=P) w a cs hsrc
 have hst:=run_storeCells_cells (P:=P) b o cs 0 w (by simpa using hc) (by simpa using hf) h1
 cases hq:P.info? elem with
 |none=>simp[hq]at hs
 |some i=>
  have hi:i.size=Z:=by simpa[hq]using hs
  simp[Builtin.copy_,run_underlying hu,Builtin.lenOf,Builtin.firstCells,sizeOf,typeInfo,hq,hi,<-hk,<-hn,hl,hst]
theorem Q9u (w:World){o:Oper}{a:Act}{K:Act->World->Prop}{Q:Exit->Act->World->Prop}(d s:Operand)(t t':TypeId)
  (ho:o.op= .call {callee:=.builtin .copy,args:=#[d,s],argTypes:=#[t,t']}) (v u:Value) (hd:a.eval d=v) (hs:a.eval s=u) {v':Value} {w':World}
  (hr:(Builtin.copy_ #[t,t'] o.type #[v,u]).run P w= .ok v' w') (h:K (a.put o.dst v') w'):o.wp P a w K Q:=by
 unfold Oper.wp execOp
 simp only[ho,resolve,invoke,builtin,Sem.run_bind,Sem.run_pure,Result.andThen_ok,List.map_toArray,List.map_cons,List.map_nil,hd,hs,hr]
 exact h
theorem DG (w:World){ops:Array Oper}{rest:List Oper}{o:Oper}{a:Act}{Q:Exit->Act->World->Prop}(hgd:o.guard=none)(d s:Operand)(t t':TypeId)
  (ho:o.op= .call {callee:=.builtin .copy,args:=#[d,s],argTypes:=#[t,t']}) (v u:Value) (hd:a.eval d=v) (hs:a.eval s=u) {v':Value} {w':World}
  (hr:(Builtin.copy_ #[t,t'] o.type #[v,u]).run P w= .ok v' w') (h:wpList P ops Q rest (a.put o.dst v') w'):wpList P ops Q (o::rest) a w:=
 wpList_plain hgd λ_ hK=>Q9u w d s t t' ho v u hd hs hr (hK _ _ h)
theorem Q1d {ops:Array Oper}{o:Oper}{a:Act}{w:World}{K:Act->World->Prop}{Q:Exit->Act->World->Prop}{E:Prop}
  (hg:o.guard=none) (d x:Operand) (dT sT:TypeId) (hop:o.op=Op.call {callee:=Callee.builtin Builtin.copy,args:=#[d,x],argTypes:=#[dT,sT]})
  (v u:Value) (hd:a.eval d=v) (hx:a.eval x=u) {v':Value} {w':World} (hr:(Builtin.copy_ #[dT,sT] o.type #[v,u]).run P w= .ok v' w') (hK:K (a.put o.dst v') w') :
  if Region.wanted o (yielded ops a.tmps)=true then Oper.wp P o a w K Q else E:=by
 have hw:Region.wanted o (yielded ops a.tmps)=true:=by simp[Region.wanted,hg]
 rw[if_pos hw]
 unfold Oper.wp
 simp[execOp,hop,resolve,invoke,builtin,hd,hx,hr,Result.andThen]
 exact hK
theorem KZ (b:Nat)(vs:List Value)(o:Nat)(w:World)(h:∀j,j<vs.length->(w.cell? ⟨b,o+j,none⟩).isSome=true)(k:Nat)(hk:(w.cell? ⟨b,k,none⟩).isSome=true):((w.setCells b o vs).cell? ⟨b,k,none⟩).isSome=true:=by
 by_cases hin:o<=k/\k<o+vs.length
 ·have:=World.cell?_setCells_in b vs o w h (k-o) (by omega)
  rw[show o+(k-o)=k by omega]at this
  rw[this];rfl
 ·rw[World.cell?_setCells_out b vs o w ⟨b,k,none⟩ (λ_ _=>by show k<o\/o+vs.length<=k;omega)]
  exact hk
noncomputable def QcR (nm:String)(ρ:Ren):Func:={Body2.n22 ρ with name:=nm}
theorem Uf (nm:String)(ρ:Ren):(QcR nm ρ).ntmps=95:=Body2.n22_ntmps ρ
structure InsL (P:Program)(ρ:Ren)(nm:String)(Z B:Nat)(z:Value):Prop where
 mixed:P.follows .mixedOrders=true
 f22:P.funcs[ρ.f 22]? =some (QcR nm ρ)
 ov:∀args w,(callFunc (ρ.f 29) args).run P w=((Extern.SlicesOverlaps.overlaps #[(ρ.t 24),(ρ.t 24)] #[(ρ.t 4)] args).run P w).andThen λv w'=>.ok (.value v) w'
 t0:P.underlying (ρ.t 0)=some (TypeDesc.tuple #[])
 a0:∀w,(isAgg (ρ.t 0)).run P w= .ok false w
 z0:∀w,(Go.sizeOf (ρ.t 0)).run P w= .ok 1 w
 v0:∀w,(zeroValue (ρ.t 0)).run P w= .ok (Value.tuple #[]) w
 t3:P.underlying (ρ.t 3)=some (TypeDesc.int IntKind.i64)
 a3:∀w,(isAgg (ρ.t 3)).run P w= .ok false w
 z3:∀w,(Go.sizeOf (ρ.t 3)).run P w= .ok 1 w
 v3:∀w,(zeroValue (ρ.t 3)).run P w= .ok (Value.int IntKind.i64 0) w
 t4:P.underlying (ρ.t 4)=some (TypeDesc.bool)
 a4:∀w,(isAgg (ρ.t 4)).run P w= .ok false w
 z4:∀w,(Go.sizeOf (ρ.t 4)).run P w= .ok 1 w
 v4:∀w,(zeroValue (ρ.t 4)).run P w= .ok (Value.bool false) w
 z9:∀w,(Go.sizeOf (ρ.t 9)).run P w= .ok Z w
 t24:P.underlying (ρ.t 24)=some (TypeDesc.slice (ρ.t 9))
 a24:∀w,(isAgg (ρ.t 24)).run P w= .ok false w
 z24:∀w,(Go.sizeOf (ρ.t 24)).run P w= .ok 1 w
 v24:∀w,(zeroValue (ρ.t 24)).run P w= .ok (Value.slice none 0 0) w
 i9:(P.info? (ρ.t 9)).map (λi=>(i.zero,i.size,i.bytes))=some (some z,Z,B)
variable {nm:String} {Z B:Nat} {z:Value}
set_option maxHeartbeats 4000000 in
set_option maxRecDepth 100000 in
theorem Q7J (L:InsL P ρ nm Z B z)(hZ:0<Z)(b n c i vb voff vc:Nat)(cs vs:List Value)(w:World)(hi:i<n)(hroom:n+1<=c)(hc63:c<=9223372036854775807)(hvb:vb≠b)
  (hcl:cs.length=n*Z) (hvl:vs.length=Z)
  (hcs:∀j v,cs[j]? =some v->w.cell? ⟨b,j,none⟩=some v) (hsp:∀j,j<(n+1)*Z->(w.cell? ⟨b,j,none⟩).isSome=true) (hfz:∀j,w.frozen? ⟨b,j,none⟩=false)
  (hvs:∀j v,vs[j]? =some v->w.cell? ⟨vb,voff+j,none⟩=some v) (h1c:∀v∈cs,v.oneCell'=true) (h1v:∀v∈vs,v.oneCell'=true)
  (tA tB:TypeId) (kA kB:Nat) (hsa:w.shape? vb=some (tA,kA)) (hkA:kA≠0) (hsb:w.shape? b=some (tB,kB)) (hkB:kB≠0) :
  Calls P (ρ.f 22) #[.slice (some ⟨b,0,none⟩) n c,.int .i64 i,.slice (some ⟨vb,voff,none⟩) 1 vc] w λe w'=>
   e= .returned (.slice (some ⟨b,0,none⟩) (n+1) c)/\w'=(w.drew.setCells b ((i+1)*Z) (cs.drop (i*Z))).setCells b (i*Z) vs:=by
 have t0:=L.t0;have a0:=L.a0;have z0:=L.z0;have v0:=L.v0;have t3:=L.t3;have a3:=L.a3;have z3:=L.z3;have v3:=L.v3;have t4:=L.t4;have a4:=L.a4;have z4:=L.z4;have v4:=L.v4;have z9:=L.z9;have t24:=L.t24;have a24:=L.a24;have z24:=L.z24;have v24:=L.v24
 have u0:=run_underlying L.t0;have u3:=run_underlying L.t3;have u4:=run_underlying L.t4;have u24:=run_underlying L.t24
 have hz2:¬((i:Int)=(n:Int)):=by omega
 have hsz:(P.info? (ρ.t 9)).map (·.size)=some Z:=by
  obtain⟨i0,hi0,h0,h1,h2⟩:=info_parts L.i9
  rw[hi0];simp[h1]
 have hov:∀lb cb,(callFunc (ρ.f 29) #[.slice (some ⟨vb,voff,none⟩) 1 vc,.slice (some ⟨b,(i+1)*Z,none⟩) lb cb]).run P w= .ok (.value (.bool false)) w:=λlb cb=>by
  rw[L.ov,DF w (ρ.t 24) (ρ.t 4) (ρ.t 9) L.t24 Z L.z9 ⟨vb,voff,none⟩ ⟨b,(i+1)*Z,none⟩ 1 vc lb cb hvb tA tB kA kB hsa hkA hsb hkB (hfz _) (hfz _)]
  rfl
 have mixed:=L.mixed
 have hw1:IntKind.i64.wrap ((i:Int)+1)=(i:Int)+1:=by rw[IntKind.wrap_i64];omega
 have hw2:IntKind.i64.wrap ((n:Int)+1)=(n:Int)+1:=by rw[IntKind.wrap_i64];omega
 have hb1:(0:Int)<=(i:Int)+1:=by omega
 have hin:i<=n:=by omega
 have htn:((i:Int)+1).toNat=i+1:=by omega
 have htn2:((n:Int)+1).toNat=n+1:=by omega
 have hb2:¬(c=i+1):=by omega
 have hb3:(i:Int)<=(n:Int)+1:=by omega
 have hb4:¬(c=i):=by omega
 have hdl:(cs.drop (i*Z)).length=(n-i)*Z:=by rw[List.length_drop,hcl,Nat.sub_mul]
 have hm1:(i+1)*Z=i*Z+Z:=Nat.succ_mul i Z
 have hm2:(n+1)*Z=n*Z+Z:=Nat.succ_mul n Z
 have hm3:i*Z+(n-i)*Z=n*Z:=by rw[<-Nat.add_mul];congr 1;omega
 have hcp1:∀ty dc sc,(Builtin.copy_ #[(ρ.t 24),(ρ.t 24)] ty #[.slice (some ⟨b,(i+1)*Z,none⟩) (n-i) dc,.slice (some ⟨b,i*Z,none⟩) (n+1-i) sc]).run P w.drew= .ok (goInt ((n-i:Nat):Int)) (w.drew.setCells b ((i+1)*Z) (cs.drop (i*Z))):=λty dc sc=>
  Kw w.drew _ _ ty (ρ.t 9) b ((i+1)*Z) (n-i) dc ⟨b,i*Z,none⟩ (n+1-i) sc Z (n-i) (cs.drop (i*Z)) L.t24 hsz (by simp only[Nat.min_def];split<;>omega) hdl
   (λj v hj=>by rw[Addr.add_lit];exact hcs (i*Z+j) v (by rwa [List.getElem?_drop]at hj))
   (λj hj=>hsp _ (by omega)) (λj hj=>hfz _) (λv hv=>h1c v (List.mem_of_mem_drop hv))
 obtain⟨W1,hW1⟩:∃W1,W1=w.drew.setCells b ((i+1)*Z) (cs.drop (i*Z)):=⟨_,rfl⟩
 have hsp1:∀k,k<(n+1)*Z->(W1.cell? ⟨b,k,none⟩).isSome=true:=λk hk=>by
  rw[hW1]
  exact KZ b (cs.drop (i*Z)) ((i+1)*Z) w.drew (λj hj=>hsp _ (by rw[hdl]at hj;omega)) k (hsp k hk)
 have hcp2:∀(W:World),(∀x,W.cell? x=W1.cell? x)->(∀x,W.frozen? x=W1.frozen? x)->∀ty dc,(Builtin.copy_ #[(ρ.t 24),(ρ.t 24)] ty #[.slice (some ⟨b,i*Z,none⟩) (n+1-i) dc,.slice (some ⟨vb,voff,none⟩) 1 vc]).run P W= .ok (goInt 1) (W.setCells b (i*Z) vs):=λW hWc hWf ty dc=>
  Kw W _ _ ty (ρ.t 9) b (i*Z) (n+1-i) dc ⟨vb,voff,none⟩ 1 vc Z 1 vs L.t24 hsz (by simp only[Nat.min_def];split<;>omega) (by rw[hvl,Nat.one_mul])
   (λj v hj=>by
    rw[Addr.add_lit,hWc,hW1,World.cell?_setCells_out b _ _ _ _ (λh _=>absurd h hvb)]
    exact hvs j v hj)
   (λj hj=>by rw[hWc];exact hsp1 _ (by rw[hvl]at hj;have:=Nat.mul_le_mul_right Z hin;omega)) (λj hj=>by rw[hWf,hW1,World.frozen?_setCells];exact hfz _) h1v
 rw[<-hW1]at hcp1
 clear hm1 hm2 hm3 hdl
 go_enter L.f22,Uf nm ρ
 go_wp2_with (simp only[hov])
 go_region_law_o (refine Q1d rfl _ _ (ρ.t 24) (ρ.t 24) rfl _ _ (by simp[Act.eval,Act.put]) (by simp[Act.eval,Act.put]) (hcp1 _ _ _) ?_)
 go_wp2_with (at_builtin;refine DG _ rfl _ _ (ρ.t 24) (ρ.t 24) rfl _ _ rfl rfl (hcp2 _ (λ_=>rfl) (λ_=>rfl) _ _) ?_)
 go_ret
 first|exact⟨rfl,rfl⟩|exact⟨rfl,by rw[hW1]⟩
set_option maxHeartbeats 4000000 in
set_option maxRecDepth 100000 in
theorem Q3s (L:InsL P ρ nm Z B z)(b n c vb voff vc:Nat)(vs:List Value)(w:World)(hroom:n+1<=c)(hc63:c<=9223372036854775807)
  (hvl:vs.length=Z) (hsp:∀j,j<Z->(w.cell? ⟨b,n*Z+j,none⟩).isSome=true) (hfz:∀j,w.frozen? ⟨b,j,none⟩=false)
  (hvs:∀j v,vs[j]? =some v->w.cell? ⟨vb,voff+j,none⟩=some v) (h1v:∀v∈vs,v.oneCell'=true) :
  Calls P (ρ.f 22) #[.slice (some ⟨b,0,none⟩) n c,.int .i64 n,.slice (some ⟨vb,voff,none⟩) 1 vc] w λe w'=>
   e= .returned (.slice (some ⟨b,0,none⟩) (n+1) c)/\w'=w.setCells b (n*Z) vs:=by
 have t0:=L.t0;have a0:=L.a0;have z0:=L.z0;have v0:=L.v0;have t3:=L.t3;have a3:=L.a3;have z3:=L.z3;have v3:=L.v3;have t4:=L.t4;have a4:=L.a4;have z4:=L.z4;have v4:=L.v4;have z9:=L.z9;have t24:=L.t24;have a24:=L.a24;have z24:=L.z24;have v24:=L.v24
 have u0:=run_underlying L.t0;have u3:=run_underlying L.t3;have u4:=run_underlying L.t4;have u24:=run_underlying L.t24
 have mixed:=L.mixed
 obtain⟨i0,hi0,hz0,hzs,hzb⟩:=info_parts L.i9
 have hsrc:Src P i0.size (ρ.t 24) (.slice (some ⟨vb,voff,none⟩) 1 vc) 1 vs w:=by
  rw[hzs]
  exact Src.ofSlice w L.t24 ⟨vb,voff,none⟩ 1 vc vs (by omega) (λj u hj=>by rw[Addr.add_lit];exact hvs j u hj) h1v
 have hrun:∀ty,(Builtin.append_ #[(ρ.t 24),(ρ.t 24)] ty #[.slice (some ⟨b,0,none⟩) n c,.slice (some ⟨vb,voff,none⟩) 1 vc]).run P w= .ok (.slice (some ⟨b,0,none⟩) (n+1) c) (w.setCells b (n*Z) vs):=λty=>by
  have h:=run_append_room_src w (ρ.t 24) (ρ.t 24) ty (ρ.t 9) i0 L.t24 hi0 b 0 n c _ 1 vs hsrc hroom (by rw[hzs,hvl];intro j hj;rw[Nat.zero_add];exact hsp j hj) (by intro j hj;exact hfz _)
  rw[hzs,Nat.zero_add]at h
  exact h
 go_enter L.f22,Uf nm ρ
 go_wp2_with (at_builtin;refine Lib.wpList_append_run _ rfl _ _ _ _ rfl _ _ rfl rfl _ _ (hrun _) ?_)
 go_ret
 exact⟨rfl,rfl⟩
set_option maxHeartbeats 4000000 in
set_option maxRecDepth 100000 in
theorem Q3t (L:InsL P ρ nm Z B z)(base:Addr)(n c vb voff vc:Nat)(cs vs:List Value)(w:World)(hnc:n<=c)(hroom:c<n+1)(hbig:(n+1)*B<=140737488355328)(hn63:n+1<=9223372036854775807)
  (hcl:cs.length=n*Z) (hvl:vs.length=Z)
  (hcs:∀j v,cs[j]? =some v->w.cell? (base.add j)=some v)
  (hvs:∀j v,vs[j]? =some v->w.cell? ⟨vb,voff+j,none⟩=some v) (h1v:∀v∈vs,v.oneCell'=true) :
  Calls P (ρ.f 22) #[.slice (some base) n c,.int .i64 n,.slice (some ⟨vb,voff,none⟩) 1 vc] w λe w'=>
   e= .returned (.slice (some ⟨w.heap.size,0,none⟩) (n+1) (grownCap w (n+1) c (ρ.t 9)))/\
   w'=w.drew.alloc (.cells ((cs++vs).toArray++Builtin.zeroCells z.cells (grownCap w (n+1) c (ρ.t 9)-(n+1))) (ρ.t 9)):=by
 have t0:=L.t0;have a0:=L.a0;have z0:=L.z0;have v0:=L.v0;have t3:=L.t3;have a3:=L.a3;have z3:=L.z3;have v3:=L.v3;have t4:=L.t4;have a4:=L.a4;have z4:=L.z4;have v4:=L.v4;have z9:=L.z9;have t24:=L.t24;have a24:=L.a24;have z24:=L.z24;have v24:=L.v24
 have u0:=run_underlying L.t0;have u3:=run_underlying L.t3;have u4:=run_underlying L.t4;have u24:=run_underlying L.t24
 have mixed:=L.mixed
 obtain⟨i0,hi0,hz0,hzs,hzb⟩:=info_parts L.i9
 have hsrc:Src P i0.size (ρ.t 24) (.slice (some ⟨vb,voff,none⟩) 1 vc) 1 vs w:=by
  rw[hzs]
  exact Src.ofSlice w L.t24 ⟨vb,voff,none⟩ 1 vc vs (by omega) (λj u hj=>by rw[Addr.add_lit];exact hvs j u hj) h1v
 have hold:(Builtin.firstCells i0.size n (.slice (some base) n c)).run P w.drew= .ok cs.toArray w.drew:=by
  rw[hzs]
  exact run_firstCells_some w.drew Z n base n c cs (by omega) (λj v hj=>hcs j v hj)
 have hrun:∀ty,(Builtin.append_ #[(ρ.t 24),(ρ.t 24)] ty #[.slice (some base) n c,.slice (some ⟨vb,voff,none⟩) 1 vc]).run P w= .ok (.slice (some ⟨w.heap.size,0,none⟩) (n+1) (grownCap w (n+1) c (ρ.t 9))) (w.drew.alloc (.cells ((cs++vs).toArray++Builtin.zeroCells z.cells (grownCap w (n+1) c (ρ.t 9)-(n+1))) (ρ.t 9))):=λty=>
  run_append_grow_src w (ρ.t 24) (ρ.t 24) ty (ρ.t 9) i0 _ L.t24 hi0 hz0 (some base) n c cs hold _ 1 vs hsrc hroom (by omega) (by rw[hzb];exact growslice_fits hroom hbig)
 obtain⟨ROW,hROW⟩:∃ROW:Array Value,ROW=(cs++vs).toArray++Builtin.zeroCells z.cells (grownCap w (n+1) c (ρ.t 9)-(n+1)):=⟨_,rfl⟩
 rw[<-hROW]at hrun ⊢
 clear hROW hold
 obtain⟨ab,ao,asp⟩:=base
 go_enter L.f22,Uf nm ρ
 go_wp2_with (at_builtin;refine Lib.wpList_append_run _ rfl _ _ _ _ rfl _ _ rfl rfl _ _ (hrun _) ?_)
 all_goals (go_ret;exact⟨rfl,rfl⟩)
set_option maxHeartbeats 4000000 in
set_option maxRecDepth 100000 in
theorem Qbt (L:InsL P ρ nm Z B z)(vb voff vc:Nat)(vs:List Value)(w:World)(hbig:B<=140737488355328)
  (hvl:vs.length=Z) (hvs:∀j v,vs[j]? =some v->w.cell? ⟨vb,voff+j,none⟩=some v) (h1v:∀v∈vs,v.oneCell'=true) :
  Calls P (ρ.f 22) #[.slice none 0 0,.int .i64 0,.slice (some ⟨vb,voff,none⟩) 1 vc] w λe w'=>
   e= .returned (.slice (some ⟨w.heap.size,0,none⟩) 1 (grownCap w 1 0 (ρ.t 9)))/\
   w'=w.drew.alloc (.cells (vs.toArray++Builtin.zeroCells z.cells (grownCap w 1 0 (ρ.t 9)-1)) (ρ.t 9)):=by
 have t0:=L.t0;have a0:=L.a0;have z0:=L.z0;have v0:=L.v0;have t3:=L.t3;have a3:=L.a3;have z3:=L.z3;have v3:=L.v3;have t4:=L.t4;have a4:=L.a4;have z4:=L.z4;have v4:=L.v4;have z9:=L.z9;have t24:=L.t24;have a24:=L.a24;have z24:=L.z24;have v24:=L.v24
 have u0:=run_underlying L.t0;have u3:=run_underlying L.t3;have u4:=run_underlying L.t4;have u24:=run_underlying L.t24
 have mixed:=L.mixed
 obtain⟨i0,hi0,hz0,hzs,hzb⟩:=info_parts L.i9
 have hsrc:Src P i0.size (ρ.t 24) (.slice (some ⟨vb,voff,none⟩) 1 vc) 1 vs w:=by
  rw[hzs]
  exact Src.ofSlice w L.t24 ⟨vb,voff,none⟩ 1 vc vs (by omega) (λj u hj=>by rw[Addr.add_lit];exact hvs j u hj) h1v
 have hold:(Builtin.firstCells i0.size 0 (.slice none 0 0)).run P w.drew= .ok ([]:List Value).toArray w.drew:=by
  rw[hzs]
  exact run_firstCells_none w.drew Z 0 0 0
 have hrun:∀ty,(Builtin.append_ #[(ρ.t 24),(ρ.t 24)] ty #[.slice none 0 0,.slice (some ⟨vb,voff,none⟩) 1 vc]).run P w= .ok (.slice (some ⟨w.heap.size,0,none⟩) 1 (grownCap w 1 0 (ρ.t 9))) (w.drew.alloc (.cells (vs.toArray++Builtin.zeroCells z.cells (grownCap w 1 0 (ρ.t 9)-1)) (ρ.t 9))):=λty=>by
  have h:=run_append_grow_src w (ρ.t 24) (ρ.t 24) ty (ρ.t 9) i0 _ L.t24 hi0 hz0 none 0 0 [] hold _ 1 vs hsrc (by omega) (by omega) (by rw[hzb];exact growslice_fits (by omega) (by omega))
  rw[List.nil_append]at h
  exact h
 obtain⟨ROW,hROW⟩:∃ROW:Array Value,ROW=vs.toArray++Builtin.zeroCells z.cells (grownCap w 1 0 (ρ.t 9)-1):=⟨_,rfl⟩
 rw[<-hROW]at hrun ⊢
 clear hROW hold
 go_enter L.f22,Uf nm ρ
 go_wp2_with (at_builtin;refine Lib.wpList_append_run _ rfl _ _ _ _ rfl _ _ rfl rfl _ _ (hrun _) ?_)
 all_goals (go_ret;exact⟨rfl,rfl⟩)
set_option maxHeartbeats 4000000 in
set_option maxRecDepth 100000 in
theorem Q9v (L:InsL P ρ nm Z B z)(hZ:0<Z)(hzc:z.cells.size=Z)(b n c i vb voff vc:Nat)(cs vs:List Value)(w:World)(hi:i<n)(hnc:n<=c)(hroom:c<n+1)(hbig:(n+1)*B<=140737488355328)(hn63:n+1<=9223372036854775807)
  (hcl:cs.length=n*Z) (hvl:vs.length=Z)
  (hcs:∀j v,cs[j]? =some v->w.cell? ⟨b,j,none⟩=some v)
  (hvs:∀j v,vs[j]? =some v->w.cell? ⟨vb,voff+j,none⟩=some v) (h1c:∀v∈cs,v.oneCell'=true) (h1v:∀v∈vs,v.oneCell'=true) :
  Calls P (ρ.f 22) #[.slice (some ⟨b,0,none⟩) n c,.int .i64 i,.slice (some ⟨vb,voff,none⟩) 1 vc] w λe w'=>
   e= .returned (.slice (some ⟨w.heap.size,0,none⟩) (n+1) (grownCap w (n+1) c (ρ.t 9)))/\
   w'=(((w.alloc (.cells ((cs.take (i*Z)).toArray++Builtin.zeroCells z.cells (n+1-i)++Builtin.zeroCells z.cells (grownCap w (n+1) c (ρ.t 9)-(n+1))) (ρ.t 9))).drew.setCells w.heap.size (i*Z) vs).drew).setCells w.heap.size ((i+1)*Z) (cs.drop (i*Z)):=by
 have t0:=L.t0;have a0:=L.a0;have z0:=L.z0;have v0:=L.v0;have t3:=L.t3;have a3:=L.a3;have z3:=L.z3;have v3:=L.v3;have t4:=L.t4;have a4:=L.a4;have z4:=L.z4;have v4:=L.v4;have z9:=L.z9;have t24:=L.t24;have a24:=L.a24;have z24:=L.z24;have v24:=L.v24
 have u0:=run_underlying L.t0;have u3:=run_underlying L.t3;have u4:=run_underlying L.t4;have u24:=run_underlying L.t24
 have mixed:=L.mixed
 obtain⟨i0,hi0,hz0,hzs,hzb⟩:=info_parts L.i9
 have hz2:¬((i:Int)=(n:Int)):=by omega
 have hz3:(c:Int)<(n:Int)+1:=by omega
 have hsz:(P.info? (ρ.t 9)).map (·.size)=some Z:=by rw[hi0];simp[hzs]
 have hm1:(i+1)*Z=i*Z+Z:=Nat.succ_mul i Z
 have hm2:(n+1)*Z=n*Z+Z:=Nat.succ_mul n Z
 have hm3:i*Z+(n-i)*Z=n*Z:=by rw[<-Nat.add_mul];congr 1;omega
 have hm4:0<n*Z:=Nat.mul_pos (by omega) hZ
 have hbw:b<w.heap.size:=block_lt_of_cell (hcs 0 _ (List.getElem?_eq_getElem (by omega)))
 have hvw:vb<w.heap.size:=block_lt_of_cell (hvs 0 _ (List.getElem?_eq_getElem (by omega)))
 have hkk:(n:Int)+1-(i:Int)=((n+1-i:Nat):Int):=by omega
 have hik:i+(n+1-i)=n+1:=by omega
 have hold:(Builtin.firstCells i0.size i (.slice (some ⟨b,0,none⟩) i c)).run P w.drew= .ok (cs.take (i*Z)).toArray w.drew:=by
  rw[hzs]
  exact run_firstCells_some w.drew Z i ⟨b,0,none⟩ i c (cs.take (i*Z)) (by rw[List.length_take];omega) (λj v hj=>by
   rw[Addr.add_lit]
   rw[List.getElem?_take]at hj
   split at hj
   ·rw[Nat.zero_add];exact hcs j v hj
   ·cases hj)
 have hrz:∀ty,(Builtin.append_ #[(ρ.t 24),(ρ.t 3)] ty #[.slice (some ⟨b,0,none⟩) i c,.int .i64 ((n:Int)+1-(i:Int))]).run P w=
   .ok (.slice (some ⟨w.heap.size,0,none⟩) (n+1) (grownCap w (n+1) c (ρ.t 9))) (w.drew.alloc (.cells ((cs.take (i*Z)).toArray++Builtin.zeroCells z.cells (n+1-i)++Builtin.zeroCells z.cells (grownCap w (n+1) c (ρ.t 9)-(n+1))) (ρ.t 9))):=λty=>by
  have h:=Lib.run_append_grow_zeros w (ρ.t 24) (ρ.t 3) ty (ρ.t 9) i0 _ .i64 .i64 L.t24 L.t3 hi0 hz0 (some ⟨b,0,none⟩) i c (cs.take (i*Z)) hold (n+1-i) (by omega) (by omega) (by omega) (by omega) (by rw[hzb];have:=Nat.mul_le_mul_right B (show n+1-i<=n+1 by omega);omega) (by rw[hzb,hik];exact growslice_fits hroom hbig)
  rw[hik]at h
  rw[hkk]
  exact h
 obtain⟨G,hG⟩:∃G,G=grownCap w (n+1) c (ρ.t 9):=⟨_,rfl⟩
 obtain⟨ROW,hROW⟩:∃ROW:Array Value,ROW=(cs.take (i*Z)).toArray++Builtin.zeroCells z.cells (n+1-i)++Builtin.zeroCells z.cells (G-(n+1)):=⟨_,rfl⟩
 rw[<-hG]at hrz ⊢
 rw[<-hROW]at hrz ⊢
 have hRl:(n+1)*Z<=ROW.size:=by
  rw[hROW]
  simp only[Array.size_append,List.size_toArray,size_zeroCells,hzc,List.length_take,hcl]
  have h1:i*Z+(n+1-i)*Z=(n+1)*Z:=by rw[<-Nat.add_mul,hik]
  rw[Nat.min_eq_left (show i*Z<=n*Z by omega)]
  omega
 obtain⟨W1,hW1⟩:∃W1,W1=w.drew.alloc (.cells ROW (ρ.t 9)):=⟨_,rfl⟩
 rw[<-hW1]at hrz
 have hN:∀j,j<(n+1)*Z->(W1.cell? ⟨w.heap.size,j,none⟩).isSome=true:=λj hj=>by
  rw[hW1,World.cell?_alloc_at (w:=w.drew) ROW _ w.heap.size j rfl,Array.getElem?_eq_getElem (by omega)];rfl
 have hNf:∀j,W1.frozen? ⟨w.heap.size,j,none⟩=false:=λj=>by rw[hW1];exact World.frozen?_alloc_at (w:=w.drew) ROW _ w.heap.size j rfl
 have hOb:∀j v,w.cell? ⟨b,j,none⟩=some v->W1.cell? ⟨b,j,none⟩=some v:=λj v h=>by rw[hW1,World.cell?_alloc_past (w:=w.drew) _ b j hbw];exact h
 have hOv:∀j v,w.cell? ⟨vb,j,none⟩=some v->W1.cell? ⟨vb,j,none⟩=some v:=λj v h=>by rw[hW1,World.cell?_alloc_past (w:=w.drew) _ vb j hvw];exact h
 have hin:i<=n:=by omega
 have hcpA:∀(W:World),(∀x,W.cell? x=W1.cell? x)->(∀x,W.frozen? x=W1.frozen? x)->∀ty dc,(Builtin.copy_ #[(ρ.t 24),(ρ.t 24)] ty #[.slice (some ⟨w.heap.size,i*Z,none⟩) (n+1-i) dc,.slice (some ⟨vb,voff,none⟩) 1 vc]).run P W= .ok (goInt 1) (W.setCells w.heap.size (i*Z) vs):=λW hWc hWf ty dc=>
  Kw W _ _ ty (ρ.t 9) w.heap.size (i*Z) (n+1-i) dc ⟨vb,voff,none⟩ 1 vc Z 1 vs L.t24 hsz (by simp only[Nat.min_def];split<;>omega) (by rw[hvl,Nat.one_mul])
   (λj v hj=>by rw[Addr.add_lit,hWc];exact hOv _ v (hvs j v hj))
   (λj hj=>by rw[hWc];exact hN _ (by rw[hvl]at hj;have:=Nat.mul_le_mul_right Z hin;omega)) (λj hj=>by rw[hWf];exact hNf _) h1v
 have hGn:n+1<=G:=by rw[hG];exact grownCap_ge w _ _ _
 have hG63:G<=9223372036854775807:=by
  have:=grownCap_le_maxLen w (n+1) c (ρ.t 9) (by unfold maxLen;omega)
  rw[<-hG]at this
  unfold maxLen at this
  omega
 have hGi:¬(G=i):=by omega
 have hGim:¬(G=i+1):=by omega
 have hci:¬(c=i):=by omega
 have hbN:b≠w.heap.size:=by omega
 have hdl:(cs.drop (i*Z)).length=(n-i)*Z:=by rw[List.length_drop,hcl,Nat.sub_mul]
 have hcpB:∀(W:World),(∀x,W.cell? x=(W1.setCells w.heap.size (i*Z) vs).cell? x)->(∀x,W.frozen? x=(W1.setCells w.heap.size (i*Z) vs).frozen? x)->∀ty dc sc,(Builtin.copy_ #[(ρ.t 24),(ρ.t 24)] ty #[.slice (some ⟨w.heap.size,(i+1)*Z,none⟩) (n-i) dc,.slice (some ⟨b,i*Z,none⟩) (n-i) sc]).run P W= .ok (goInt ((n-i:Nat):Int)) (W.setCells w.heap.size ((i+1)*Z) (cs.drop (i*Z))):=λW hWc hWf ty dc sc=>
  Kw W _ _ ty (ρ.t 9) w.heap.size ((i+1)*Z) (n-i) dc ⟨b,i*Z,none⟩ (n-i) sc Z (n-i) (cs.drop (i*Z)) L.t24 hsz (by simp only[Nat.min_def];split<;>omega) hdl
   (λj v hj=>by
    rw[Addr.add_lit,hWc,World.cell?_setCells_out _ _ _ _ _ (λh _=>absurd h hbN)]
    exact hOb _ v (hcs (i*Z+j) v (by rwa [List.getElem?_drop]at hj)))
   (λj hj=>by rw[hWc];exact KZ _ vs (i*Z) W1 (λt ht=>hN _ (by rw[hvl]at ht;have:=Nat.mul_le_mul_right Z hin;omega)) _ (hN _ (by rw[hdl]at hj;omega)))
   (λj hj=>by rw[hWf,World.frozen?_setCells];exact hNf _) (λv hv=>h1c v (List.mem_of_mem_drop hv))
 subst hW1
 have hE1:∀x,((w.alloc (.cells ROW (ρ.t 9))).drew).cell? x=(w.drew.alloc (.cells ROW (ρ.t 9))).cell? x:=λx=>rfl
 have hE2:∀x,((w.alloc (.cells ROW (ρ.t 9))).drew).frozen? x=(w.drew.alloc (.cells ROW (ρ.t 9))).frozen? x:=λx=>rfl
 have hF1:∀x,(((w.alloc (.cells ROW (ρ.t 9))).drew.setCells w.heap.size (i*Z) vs).drew).cell? x=((w.drew.alloc (.cells ROW (ρ.t 9))).setCells w.heap.size (i*Z) vs).cell? x:=λx=>rfl
 have hF2:∀x,(((w.alloc (.cells ROW (ρ.t 9))).drew.setCells w.heap.size (i*Z) vs).drew).frozen? x=((w.drew.alloc (.cells ROW (ρ.t 9))).setCells w.heap.size (i*Z) vs).frozen? x:=λx=>rfl
 have hw1:IntKind.i64.wrap ((i:Int)+1)=(i:Int)+1:=by rw[IntKind.wrap_i64];omega
 have hw2:IntKind.i64.wrap ((n:Int)+1)=(n:Int)+1:=by rw[IntKind.wrap_i64];omega
 have hw3:IntKind.i64.wrap ((n:Int)+1-(i:Int))=(n:Int)+1-(i:Int):=by rw[IntKind.wrap_i64];omega
 have hb1:(0:Int)<=(i:Int)+1:=by omega
 have htn:((i:Int)+1).toNat=i+1:=by omega
 have hb3:(i:Int)<=(n:Int):=by omega
 clear hkk hik hold hROW hG hRl hm1 hm2 hm3 hm4 hdl
 go_enter L.f22,Uf nm ρ
 go_wp2_with (first
  |(at_builtin;refine Lib.wpList_append_run _ rfl _ _ _ _ rfl _ _ rfl rfl _ _ (hrz _) ?_)
  |(at_builtin;refine DG _ rfl _ _ (ρ.t 24) (ρ.t 24) rfl _ _ rfl rfl (hcpA _ hE1 hE2 _ _) ?_))
 go_region_law_o (refine Q1d rfl _ _ (ρ.t 24) (ρ.t 24) rfl (.slice (some ⟨w.heap.size,(i+1)*Z,none⟩) (n-i) (G-(i+1))) (.slice (some ⟨b,i*Z,none⟩) (n-i) (c-i)) (by simp[Act.eval,Act.put]) (by simp[Act.eval,Act.put]) (hcpB _ hF1 hF2 (ρ.t 3) (G-(i+1)) (c-i)) ?_)
 go_wp2
 go_ret
 exact⟨rfl,rfl⟩
theorem Jq:∀(vs:List Value) (w:World) (g o:Nat) (cur:Array Value) (t:TypeId),w.heap[g]? =some (.cells cur t (0,0))->o+vs.length<=cur.size->
  w.setCells g o vs=w.setRow g (cur.toList.take o++vs++cur.toList.drop (o+vs.length)).toArray
 |[],w,g,o,cur,t,hg,hl=>by
  simp only[World.setCells,List.append_nil,List.length_nil,Nat.add_zero,List.take_append_drop,Array.toArray_toList]
  exact(setRow_self w g cur t (0,0) hg).symm
 |v::vs,w,g,o,cur,t,hg,hl=>by
  have hl':o+(vs.length+1)<=cur.size:=by simpa using hl
  rw[World.setCells,setCell_eq_setRow w g o cur t (0,0) v hg,Jq vs _ g (o+1) _ t (setRow_heap w g cur _ t _ hg) (by simp;omega),setRow_setRow]
  congr 2
  have e:=list_seg_step cur.toList o v vs (by simp;omega)
  simpa[Array.toList_setIfInBounds,Nat.add_assoc]using e
structure InsOut (te Z n c g:Nat)(new:List Value)(w w':World)(g' c':Nat):Prop where
 row:∃R:List Value,w'.heap[g']? =some (.cells (new++R).toArray te (0,0))/\(new++R).length=c'*Z
 cap:n<=c'/\c'<=9223372036854775807
 place:(g'=g/\c'=c)\/g'=w.heap.size
 old:∀k,k<w.heap.size->k≠g'->w'.heap[k]? =w.heap[k]?
 size:w.heap.size<=w'.heap.size
 os:w'.os=w.os
 tape:w'.tape=w.tape
 output:w'.output=w.output
theorem QbS {α:Type}(cur cs:List α)(p q:Nat)(hcs:cs=cur.take q)(h:p<=q):cur.take p=cs.take p:=by
 rw[hcs,List.take_take,Nat.min_eq_left h]
theorem ins_any (L:InsL P ρ nm Z B z)(hZ:0<Z)(hzc:z.cells.size=Z)(g n c i vb voff vc:Nat)(cur:Array Value)(vs:List Value)(w:World)(hin:i<=n)(hnc:n<=c)(hc63:c<=9223372036854775807)(hbig:(n+1)*B<=140737488355328)(hn63:n+1<=9223372036854775807)
  (hg:w.heap[g]? =some (.cells cur (ρ.t 9) (0,0))) (hsz:cur.size=c*Z) (hvb:vb≠g) (hvl:vs.length=Z)
  (hvs:∀j v,vs[j]? =some v->w.cell? ⟨vb,voff+j,none⟩=some v) (h1c:∀v∈cur.toList.take (n*Z),v.oneCell'=true) (h1v:∀v∈vs,v.oneCell'=true) :
  Calls P (ρ.f 22) #[.slice (some ⟨g,0,none⟩) n c,.int .i64 i,.slice (some ⟨vb,voff,none⟩) 1 vc] w λe w'=>
   ∃g' c',e= .returned (.slice (some ⟨g',0,none⟩) (n+1) c')/\InsOut (ρ.t 9) Z (n+1) c g ((cur.toList.take (n*Z)).take (i*Z)++vs++(cur.toList.take (n*Z)).drop (i*Z)) w w' g' c':=by
 have hgw:g<w.heap.size:=(Array.getElem?_eq_some_iff.1 hg).1
 obtain⟨cs,hcs⟩:∃cs,cs=cur.toList.take (n*Z):=⟨_,rfl⟩
 rw[<-hcs]at h1c ⊢
 have hm0:n*Z<=c*Z:=Nat.mul_le_mul_right Z hnc
 have hcl:cs.length=n*Z:=by rw[hcs,List.length_take,Array.length_toList,hsz];omega
 have hm1:(i+1)*Z=i*Z+Z:=Nat.succ_mul i Z
 have hm2:(n+1)*Z=n*Z+Z:=Nat.succ_mul n Z
 have hm3:i*Z+(n-i)*Z=n*Z:=by rw[<-Nat.add_mul];congr 1;omega
 have hdl:(cs.drop (i*Z)).length=(n-i)*Z:=by rw[List.length_drop,hcl,Nat.sub_mul]
 have htl:(cs.take (i*Z)).length=i*Z:=by rw[List.length_take,hcl];omega
 have hcell:∀j v,cs[j]? =some v->w.cell? ⟨g,j,none⟩=some v:=λj v hj=>by
  rw[hcs,List.getElem?_take]at hj
  split at hj
  ·simpa[World.cell?,hg]using hj
  ·cases hj
 have hfz:∀j,w.frozen? ⟨g,j,none⟩=false:=λj=>by simp[World.frozen?,hg]
 have hsome:∀j,j<c*Z->(w.cell? ⟨g,j,none⟩).isSome=true:=λj hj=>by
  simp[World.cell?,hg,Array.getElem?_eq_getElem (show j<cur.size by omega)]
 have hv0:∃v,w.cell? ⟨vb,voff+0,none⟩=some v:=⟨_,hvs 0 _ (List.getElem?_eq_getElem (by omega))⟩
 have hctk:cur.toList.take (i*Z)=cs.take (i*Z):=QbS _ _ _ _ hcs (by omega)
 by_cases hroom:n+1<=c
 ·have hm4:(n+1)*Z<=c*Z:=Nat.mul_le_mul_right Z hroom
  by_cases hi:i<n
  ·obtain⟨tA,kA,hsa,hkA⟩:∃tA kA,w.shape? vb=some (tA,kA)/\kA≠0:=by
    obtain⟨v,hv⟩:=hv0
    unfold World.cell? at hv
    unfold World.shape?
    split at hv
    ·rename_i cells t f hh
     have hlt:voff+0<cells.size:=(Array.getElem?_eq_some_iff.1 hv).1
     rw[hh]
     exact⟨_,_,rfl,by omega⟩
    ·cases hv
   have hsb:w.shape? g=some (ρ.t 9,cur.size):=by simp[World.shape?,hg]
   refine(Q7J L hZ g n c i vb voff vc cs vs w hi hroom hc63 hvb hcl hvl hcell (λj hj=>hsome j (by omega)) hfz hvs h1c h1v tA (ρ.t 9) kA cur.size hsa hkA hsb (by omega)).mono ?_
   rintro e w' ⟨rfl,rfl⟩
   refine⟨g,c,rfl,?_⟩
   have r1:=Jq (cs.drop (i*Z)) w.drew g ((i+1)*Z) cur _ hg (by rw[hdl];omega)
   have g1:=setRow_heap w.drew g cur (cur.toList.take ((i+1)*Z)++cs.drop (i*Z)++cur.toList.drop ((i+1)*Z+(cs.drop (i*Z)).length)).toArray _ _ hg
   rw[r1]
   have hl1:(cur.toList.take ((i+1)*Z)).length=i*Z+Z:=by rw[List.length_take,Array.length_toList,hsz];omega
   have r2:=Jq vs _ g (i*Z) _ _ g1 (by simp only[List.size_toArray,List.length_append,hl1];omega)
   rw[r2]
   have ek:(cur.toList.take ((i+1)*Z)++cs.drop (i*Z)++cur.toList.drop ((i+1)*Z+(cs.drop (i*Z)).length)).take (i*Z)=cs.take (i*Z):=by
    rw[List.append_assoc,List.take_append_of_le_length (by omega),List.take_take,Nat.min_eq_left (by omega),hctk]
   have ed:(cur.toList.take ((i+1)*Z)++cs.drop (i*Z)++cur.toList.drop ((i+1)*Z+(cs.drop (i*Z)).length)).drop (i*Z+vs.length)=cs.drop (i*Z)++cur.toList.drop ((i+1)*Z+(cs.drop (i*Z)).length):=by
    rw[List.append_assoc,List.drop_left' (by rw[hl1,hvl])]
   refine⟨⟨cur.toList.drop ((i+1)*Z+(cs.drop (i*Z)).length),?_,?_⟩,⟨hroom,hc63⟩,.inl ⟨rfl,rfl⟩,λk hk hne=>?_,?_,rfl,rfl,rfl⟩
   ·rw[setRow_heap _ g _ _ _ _ g1]
    simp only[List.toList_toArray]
    rw[ek,ed]
    simp only[List.append_assoc]
   ·simp only[List.length_append,htl,hvl,hdl,List.length_drop,Array.length_toList,hsz]
    omega
   ·rw[setRow_other _ g k _ hne,setRow_other _ g k _ hne];rfl
   ·simp
  ·obtain rfl:i=n:=by omega
   have hd0:cs.drop (i*Z)=[]:=List.drop_eq_nil_of_le (by omega)
   have ht0:cs.take (i*Z)=cs:=List.take_of_length_le (by omega)
   refine(Q3s L g i c vb voff vc vs w hroom hc63 hvl (λj hj=>hsome _ (by omega)) hfz hvs h1v).mono ?_
   rintro e w' ⟨rfl,rfl⟩
   refine⟨g,c,rfl,?_⟩
   have r1:=Jq vs w g (i*Z) cur _ hg (by omega)
   rw[r1]
   refine⟨⟨cur.toList.drop (i*Z+vs.length),?_,?_⟩,⟨hroom,hc63⟩,.inl ⟨rfl,rfl⟩,λk hk hne=>?_,?_,rfl,rfl,rfl⟩
   ·rw[setRow_heap _ g _ _ _ _ hg,hctk,hd0]
    simp only[List.append_nil,List.append_assoc]
   ·simp only[List.length_append,htl,hvl,hdl,List.length_drop,Array.length_toList,hsz]
    omega
   ·rw[setRow_other _ g k _ hne]
   ·simp
 ·have hGn:=grownCap_ge w (n+1) c (ρ.t 9)
  have hG63:grownCap w (n+1) c (ρ.t 9)<=9223372036854775807:=by
   have:=grownCap_le_maxLen w (n+1) c (ρ.t 9) (by unfold maxLen;omega)
   unfold maxLen at this
   omega
  have hm5:(n+1)*Z+(grownCap w (n+1) c (ρ.t 9)-(n+1))*Z=grownCap w (n+1) c (ρ.t 9)*Z:=by rw[<-Nat.add_mul];congr 1;omega
  by_cases hi:i<n
  ·refine(Q9v L hZ hzc g n c i vb voff vc cs vs w hi hnc (by omega) hbig hn63 hcl hvl hcell hvs h1c h1v).mono ?_
   rintro e w' ⟨rfl,rfl⟩
   refine⟨w.heap.size,grownCap w (n+1) c (ρ.t 9),rfl,?_⟩
   obtain⟨ROW,hROW⟩:∃ROW:Array Value,ROW=(cs.take (i*Z)).toArray++Builtin.zeroCells z.cells (n+1-i)++Builtin.zeroCells z.cells (grownCap w (n+1) c (ρ.t 9)-(n+1)):=⟨_,rfl⟩
   rw[<-hROW]
   have h1:i*Z+(n+1-i)*Z=(n+1)*Z:=by rw[<-Nat.add_mul];congr 1;omega
   have hRs:ROW.size=grownCap w (n+1) c (ρ.t 9)*Z:=by
    rw[hROW]
    simp only[Array.size_append,List.size_toArray,size_zeroCells,hzc,htl]
    omega
   have hRt:ROW.toList.take (i*Z)=cs.take (i*Z):=by
    rw[hROW]
    simp only[Array.toList_append,List.append_assoc]
    rw[List.take_append_of_le_length (by rw[htl];exact Nat.le_refl _),List.take_of_length_le (by rw[htl];exact Nat.le_refl _)]
   have g0:((w.alloc (.cells ROW (ρ.t 9))).drew).heap[w.heap.size]? =some (.cells ROW (ρ.t 9) (0,0)):=by
    show(w.heap.push (.cells ROW (ρ.t 9)))[w.heap.size]? =_
    simp
   have r1:=Jq vs (w.alloc (.cells ROW (ρ.t 9))).drew w.heap.size (i*Z) ROW _ g0 (by omega)
   have g1:=setRow_heap (w.alloc (.cells ROW (ρ.t 9))).drew w.heap.size ROW (ROW.toList.take (i*Z)++vs++ROW.toList.drop (i*Z+vs.length)).toArray _ _ g0
   rw[r1]
   have hl1:(ROW.toList.take (i*Z)++vs).length=(i+1)*Z:=by rw[List.length_append,hRt,htl,hvl,hm1]
   have r2:=Jq (cs.drop (i*Z)) (((w.alloc (.cells ROW (ρ.t 9))).drew.setRow w.heap.size (ROW.toList.take (i*Z)++vs++ROW.toList.drop (i*Z+vs.length)).toArray).drew) w.heap.size ((i+1)*Z) _ _ g1 (by
    simp only[List.size_toArray,List.length_append,hRt,htl,hvl,hdl,List.length_drop,Array.length_toList,hRs]
    omega)
   rw[r2]
   have ek:(ROW.toList.take (i*Z)++vs++ROW.toList.drop (i*Z+vs.length)).take ((i+1)*Z)=cs.take (i*Z)++vs:=by
    rw[List.take_left' hl1,hRt]
   refine⟨⟨(ROW.toList.take (i*Z)++vs++ROW.toList.drop (i*Z+vs.length)).drop ((i+1)*Z+(cs.drop (i*Z)).length),?_,?_⟩,⟨hGn,hG63⟩,.inr rfl,λk hk hne=>?_,?_,rfl,rfl,rfl⟩
   ·rw[setRow_heap (((w.alloc (.cells ROW (ρ.t 9))).drew.setRow w.heap.size (ROW.toList.take (i*Z)++vs++ROW.toList.drop (i*Z+vs.length)).toArray).drew) w.heap.size _ _ _ _ g1]
    simp only[List.toList_toArray]
    rw[ek]
   ·simp only[List.length_append,htl,hvl,hdl,List.length_drop,hRt,Array.length_toList,hRs]
    omega
   ·rw[setRow_other _ _ k _ hne]
    show((w.alloc (.cells ROW (ρ.t 9))).drew.setRow w.heap.size _).heap[k]? =_
    rw[setRow_other _ _ k _ hne]
    show(w.heap.push (.cells ROW (ρ.t 9)))[k]? =_
    rw[Array.getElem?_push,if_neg hne]
   ·rw[setRow_size]
    show _<=((w.alloc (.cells ROW (ρ.t 9))).drew.setRow w.heap.size _).heap.size
    rw[setRow_size]
    show _<=(w.heap.push (.cells ROW (ρ.t 9))).size
    rw[Array.size_push]
    omega
  ·obtain rfl:i=n:=by omega
   have hd0:cs.drop (i*Z)=[]:=List.drop_eq_nil_of_le (by omega)
   have ht0:cs.take (i*Z)=cs:=List.take_of_length_le (by omega)
   refine(Q3t L ⟨g,0,none⟩ i c vb voff vc cs vs w hnc (by omega) hbig hn63 hcl hvl (λj v hj=>by rw[Addr.add_lit,Nat.zero_add];exact hcell j v hj) hvs h1v).mono ?_
   rintro e w' ⟨rfl,rfl⟩
   refine⟨w.heap.size,grownCap w (i+1) c (ρ.t 9),rfl,?_⟩
   rw[hd0,ht0,List.append_nil]
   refine⟨⟨(Builtin.zeroCells z.cells (grownCap w (i+1) c (ρ.t 9)-(i+1))).toList,?_,?_⟩,⟨hGn,hG63⟩,.inr rfl,λk hk hne=>?_,?_,rfl,rfl,rfl⟩
   ·show(w.heap.push (.cells _ (ρ.t 9)))[w.heap.size]? =_
    rw[Array.getElem?_push_size]
    refine congrArg (λx:Array Value=>some (Obj.cells x (ρ.t 9))) (Array.ext' ?_)
    rw[Array.toList_append]
   ·simp only[List.length_append,hcl,hvl,Array.length_toList,size_zeroCells,hzc]
    omega
   ·show(w.heap.push (.cells _ (ρ.t 9)))[k]? =_
    rw[Array.getElem?_push,if_neg hne]
   ·show _<=(w.heap.push (.cells _ (ρ.t 9))).size
    rw[Array.size_push]
    omega
end Go.GxIns
end
section
/- slices.Insert of one element,in the interpreter's words. -/
namespace Go.Gx
open Go.RowKit Go.Proofs Go.Shelf Go.GxIns
def Qcp (τ:Ty)(xs:List (den τ))(i:Int)(ys:List (den τ)):Option (List (den τ)):=
 bif decide (0<=i)&&(decide (i<=(xs.length:Int))&&(Nat.beq ys.length 1&&room (xs.length+1) τ))then some (xs.take i.toNat++ys++xs.drop i.toNat)else none
theorem Q4C {P:Program}{ρ:Ren}{nm:String}{Z B:Nat}{z:Value}(L:InsL P ρ nm Z B z)(hzc:z.cells.size=Z)(vb voff vc:Nat)(vs:List Value)(w:World)(hbig:B<=140737488355328)
  (hvl:vs.length=Z) (hvs:∀j v,vs[j]? =some v->w.cell? ⟨vb,voff+j,none⟩=some v) (h1v:∀v∈vs,v.oneCell'=true) :
  Calls P (ρ.f 22) #[.slice none 0 0,.int .i64 0,.slice (some ⟨vb,voff,none⟩) 1 vc] w λe w'=>
   ∃g' c',e= .returned (.slice (some ⟨g',0,none⟩) 1 c')/\InsOut (ρ.t 9) Z 1 0 w.heap.size vs w w' g' c':=by
 have hGn:=grownCap_ge w 1 0 (ρ.t 9)
 have hG63:grownCap w 1 0 (ρ.t 9)<=9223372036854775807:=by
  have:=grownCap_le_maxLen w 1 0 (ρ.t 9) (by unfold maxLen;omega)
  unfold maxLen at this
  omega
 have hm5:1*Z+(grownCap w 1 0 (ρ.t 9)-1)*Z=grownCap w 1 0 (ρ.t 9)*Z:=by rw[<-Nat.add_mul];congr 1;omega
 refine(Qbt L vb voff vc vs w hbig hvl hvs h1v).mono ?_
 rintro e w' ⟨rfl,rfl⟩
 refine⟨w.heap.size,grownCap w 1 0 (ρ.t 9),rfl,⟨(Builtin.zeroCells z.cells (grownCap w 1 0 (ρ.t 9)-1)).toList,?_,?_⟩,⟨hGn,hG63⟩,.inr rfl,λk hk hne=>?_,?_,rfl,rfl,rfl⟩
 ·show(w.heap.push (.cells _ (ρ.t 9)))[w.heap.size]? =_
  rw[Array.getElem?_push_size]
  refine congrArg (λx:Array Value=>some (Obj.cells x (ρ.t 9))) (Array.ext' ?_)
  rw[Array.toList_append]
 ·simp only[List.length_append,hvl,Array.length_toList,size_zeroCells,hzc]
  omega
 ·show(w.heap.push (.cells _ (ρ.t 9)))[k]? =_
  rw[Array.getElem?_push,if_neg hne]
 ·show _<=(w.heap.push (.cells _ (ρ.t 9))).size
  rw[Array.size_push]
  omega
theorem Q1e {pv:Nat->Value}{S:Nat->Prop}{w w':World}{te n c g g' c':Nat}{τ:Ty}{new:List Value}{xs ys:List (den τ)}{l:Loc}(hS:∀b,S b->b<w.heap.size)
  (ho:InsOut te (nc τ) n c g new w w' g' c') (hl:(l= .at g c)\/(g=w.heap.size/\l= .nilrow)) (hpin:∀g c,l= .at g c->¬S g) (hpos:0<nc τ) (hn:ys.length=n)
  (hnew:∀i (hi:i<ys.length),∃cs,CR (cS pv S w) w τ ys[i] cs/\∀j v,cs[j]? =some v->new[i*nc τ+j]? =some v) :
  Blw ⟨λb=>b<w.heap.size/\∀g c,l= .at g c->b≠g,none⟩ w w'/\∃S':Nat->Prop,(∀b,S b->S' b)/\(∀b,S' b->S b\/(∃c,l= .at b c)\/(w.heap.size<=b/\b<w'.heap.size))/\Qce S' w' w.heap.size pv (.fr te τ xs) l (.mov te τ ys) (.slice (some ⟨g',0,none⟩) n c'):=by
 obtain⟨R,hR,hRs⟩:=ho.row
 have hgS:¬S g':=λh=>by
  have hb:=hS _ h
  rcases ho.place with⟨e,_⟩|e
  ·rcases hl with e2|⟨e2,_⟩
   ·exact hpin g c e2 (e▸h)
   ·omega
  ·omega
 have hne:∀k,k<w.heap.size->(∀g c,l= .at g c->k≠g)->k≠g':=λk hk h e2=>by
  rcases ho.place with⟨e,_⟩|e
  ·rcases hl with e3|⟨e3,_⟩
   ·exact h g c e3 (e2.trans e)
   ·omega
  ·omega
 have hSh:∀b,S b->w'.heap[b]? =w.heap[b]?:=λb hb=>ho.old b (hS b hb) λe=>hgS (e▸hb)
 refine⟨⟨ho.os,ho.tape,ho.output,ho.size,λk hk=>ho.old k hk.1 (hne k hk.1 hk.2)⟩,S,λb hb=>hb,λb hb=>.inl hb,.at g' c',⟨_,(0,0),hR,by simpa using hRs,(by have:=ho.cap.1;omega),(by have:=ho.cap.2;unfold maxLen;omega),λ_=>rfl,.inl (Nat.le_refl _),hpos,λi hi=>?_⟩,?_,λg2 c2 h2=>?_⟩
 ·obtain⟨cs,h1,h2⟩:=hnew i hi
  refine⟨cs,h1.mono (λb hb=>hb.mono (λh=>h) (hSh b hb.1)) (λb hb=>hSh b hb.1),λj v hj=>?_⟩
  have h3:=h2 j v hj
  have hlt:=(List.getElem?_eq_some_iff.1 h3).1
  rw[List.getElem?_toArray,List.getElem?_append_left hlt,h3]
 ·rw[<-hn];rfl
 ·cases h2
  refine⟨hgS,?_⟩
  rcases ho.place with⟨e,_⟩|e
  ·rcases hl with e3|⟨e3,_⟩
   ·exact .inl ⟨c,e▸e3⟩
   ·exact .inr (by omega)
  ·exact .inr (by omega)
theorem Q5M {P:Program}{E:Env}{pv:Nat->Value}{ρ:Ren}{nm:String}{fn:Func}{cd:Code}{τ:Ty}{te:Nat}(hE:EnvOk P E)(hte:E.ty te=some τ)(hon:(E.on&&slT τ)=false)(hpos:0<nc τ)(hnb:0<nb τ)
  (L:InsL P ρ nm (nc τ) (nb τ) (valOf (.t τ (Q2 τ)) (zc τ))) (h9:ρ.t 9=te) (hf:P.funcs[ρ.f 22]? =some fn) (hb:fn.body=some cd) (hname:(fn.name== "runtime.NumGoroutine")=false)
  {xs ys y:List (den τ)} {i:Int} (h:Qcp τ xs i ys=some y):Qx P E pv (ρ.f 22) (.fr te τ xs) [.t (.int .i64) i,.t (.sl τ) ys] (.mov te τ y):=by
 unfold Qcp at h
 cases hc:(decide (0<=i)&&(decide (i<=(xs.length:Int))&&(Nat.beq ys.length 1&&room (xs.length+1) τ)))with
 |false=>rw[hc]at h;cases h
 |true=>
  rw[hc]at h
  cases h
  simp only[Bool.and_eq_true,decide_eq_true_eq]at hc
  obtain⟨h0,h1,h2,h3⟩:=hc
  have h2:ys.length=1:=Nat.eq_of_beq_eq_true h2
  obtain⟨y0,rfl⟩:=List.length_eq_one_iff.1 h2
  obtain⟨m,rfl⟩:∃m:Nat,i=m:=⟨i.toNat,by omega⟩
  rw[Int.toNat_natCast]
  have hbig:(xs.length+1)*nb τ<=140737488355328:=Nat.le_of_ble_eq_true h3
  have hlen:xs.length+1<=140737488355328:=Nat.le_trans (Nat.le_mul_of_pos_right _ hnb) hbig
  have hzc:(valOf (.t τ (Q2 τ)) (zc τ)).cells.toList=zc τ:=QX (S:=λ_=>False) (w:=default) (ρ:=λ_=>none) (row:=λ_=>none) (pv:=pv) (.t τ (Q2 τ)) (.t τ _ _ (Jh _ _ τ))
  have hzs:(valOf (.t τ (Q2 τ)) (zc τ)).cells.size=nc τ:=by rw[<-Array.length_toList,hzc];exact(Jh (λ_=>False) default τ).len
  intro S w v0 vs l r0 hS hgl hargs hr hrow hpin hv
  obtain⟨vs1,rfl,ha1⟩:=DD hargs
  obtain⟨cs2,vs2,hc2,rfl,ha2⟩:=Kv ha1
  obtain rfl:=UP ha2
  cases hc2 with
  |t _ _ _ hcr=>
  cases hcr with
  |sl _ _ A vc cv hvc hvm k1 k2=>
  obtain⟨vb,vo,rfl,hSv,hcell⟩:=k2 0 (by simp)
  have hvl:(cv 0).length=nc τ:=(k1 0 (by simp)).len
  have hv1:=(k1 0 (by simp)).one
  have hvs:∀j v,(cv 0)[j]? =some v->w.cell? ⟨vb,vo+j,none⟩=some v:=λj v hj=>by
   have:=hcell j v hj
   rwa [Nat.zero_mul,Nat.zero_add]at this
  have hy0:CR (cS pv S w) w τ y0 (cv 0):=hgl.up hon (k1 0 (by simp))
  cases hr
  subst hv
  show Goes P (ρ.f 22) (YF (.fr te τ xs) l::[.int .i64 m,.slice (some ⟨vb,vo,none⟩) 1 vc]).toArray w _
  cases l with
  |soft T v=>exact hrow.elim
  |tree cs T v=>exact hrow.elim
  |nilrow=>
   obtain⟨e0,_,hn⟩:=hrow
   have e0:xs=[]:=e0
   subst e0
   obtain rfl:m=0:=by simpa using h1
   refine XI hf hb hname ((Q4C L hzs vb vo vc (cv 0) w (by simpa using hbig) hvl hvs hv1).mono λe w' ⟨g',c',he,ho⟩=>⟨_,he,?_⟩)
   rw[h9]at ho
   refine Q1e (n:=1) hS ho (.inr ⟨rfl,rfl⟩) hpin hpos rfl λi hi=>?_
   obtain rfl:i=0:=by simpa using hi
   exact⟨cv 0,hy0,λj v hj=>by rwa [Nat.zero_mul,Nat.zero_add]⟩
  |«at» g cap=>
   obtain⟨cur,fr,r1,r2,r3,r4,r5,r6,r7,r8⟩:=hrow
   obtain rfl:=r5 rfl
   have hcz:xs.length*nc τ<=cap*nc τ:=Nat.mul_le_mul_right _ r3
   have hct:cur.toList.length=cap*nc τ:=by rw[<-r2];exact Array.length_toList
   have hcell1:∀v∈cur.toList.take (xs.length*nc τ),v.oneCell'=true:=λv hv=>by
    obtain⟨j,hj,rfl⟩:=List.getElem_of_mem hv
    rw[List.length_take,hct]at hj
    have hj1:j / nc τ<xs.length:=Nat.div_lt_of_lt_mul (by rw[Nat.mul_comm];omega)
    obtain⟨cs,q1,q2⟩:=r8 _ hj1
    have hj2:j % nc τ<cs.length:=by rw[q1.len];exact Nat.mod_lt _ hpos
    have q3:=q2 _ _ (List.getElem?_eq_getElem hj2)
    have e1:j / nc τ*nc τ+j % nc τ=j:=by rw[Nat.mul_comm];exact Nat.div_add_mod j (nc τ)
    rw[e1,Array.getElem?_eq_getElem (by omega)]at q3
    rw[List.getElem_take,Array.getElem_toList,Option.some.inj q3]
    exact q1.one _ (List.getElem_mem hj2)
   have hvb:vb≠g:=λe=>hpin g cap rfl (e▸hSv)
   have hin:m<=xs.length:=by omega
   rw[<-h9]at r1
   refine XI hf hb hname ((ins_any L hpos hzs g xs.length cap m vb vo vc cur (cv 0) w hin r3 r4 hbig (by omega) r1 r2 hvb hvl hvs hcell1 hv1).mono λe w' ⟨g',c',he,ho⟩=>⟨_,he,?_⟩)
   rw[h9]at ho
   have hnl:(xs.take m++[y0]++xs.drop m).length=xs.length+1:=by simp;omega
   refine Q1e (n:=xs.length+1) hS ho (.inl rfl) hpin hpos hnl λi hi=>?_
   have hcl:(cur.toList.take (xs.length*nc τ)).length=xs.length*nc τ:=by rw[List.length_take,hct];omega
   have hmz:m*nc τ<=xs.length*nc τ:=Nat.mul_le_mul_right _ hin
   have htl:((cur.toList.take (xs.length*nc τ)).take (m*nc τ)).length=m*nc τ:=by rw[List.length_take,hcl];omega
   have hci:∀k (hk:k<xs.length),∃cs,CR (cS pv S w) w τ xs[k] cs/\cs.length=nc τ/\∀j v,cs[j]? =some v->(cur.toList.take (xs.length*nc τ))[k*nc τ+j]? =some v:=λk hk=>by
    obtain⟨cs,q1,q2⟩:=r8 k hk
    refine⟨cs,q1,q1.len,λj v hj=>?_⟩
    have hj2:=(List.getElem?_eq_some_iff.1 hj).1
    have hk2:(k+1)*nc τ<=xs.length*nc τ:=Nat.mul_le_mul_right _ hk
    rw[Nat.succ_mul]at hk2
    rw[q1.len]at hj2
    rw[List.getElem?_take,if_pos (by omega),Array.getElem?_toList]
    exact q2 j v hj
   rcases Nat.lt_trichotomy i m with hlt|rfl|hgt
   ·obtain⟨cs,q1,q2,q3⟩:=hci i (by omega)
    refine⟨cs,?_,λj v hj=>?_⟩
    ·have e:(xs.take m++[y0]++xs.drop m)[i]=xs[i]:=by
      have e1:(xs.take m++[y0]++xs.drop m)[i]? =xs[i]?:=by
       rw[List.append_assoc,List.getElem?_append_left (by rw[List.length_take];omega),List.getElem?_take,if_pos hlt]
      rw[List.getElem?_eq_getElem hi,List.getElem?_eq_getElem (by omega)]at e1
      exact Option.some.inj e1
     rw[e];exact q1
    ·have hj2:=(List.getElem?_eq_some_iff.1 hj).1
     have hk2:(i+1)*nc τ<=m*nc τ:=Nat.mul_le_mul_right _ hlt
     rw[Nat.succ_mul]at hk2
     rw[List.append_assoc,List.getElem?_append_left (by rw[htl];omega),List.getElem?_take,if_pos (by omega)]
     exact q3 j v hj
   ·refine⟨cv 0,?_,λj v hj=>?_⟩
    ·have e:(xs.take i++[y0]++xs.drop i)[i]=y0:=by
      have e1:(xs.take i++[y0]++xs.drop i)[i]? =some y0:=by
       rw[List.append_assoc,List.getElem?_append_right (by rw[List.length_take];omega),List.length_take,Nat.min_eq_left hin,Nat.sub_self]
       rfl
      rw[List.getElem?_eq_getElem hi]at e1
      exact Option.some.inj e1
     rw[e];exact hy0
    ·have hj2:=(List.getElem?_eq_some_iff.1 hj).1
     rw[List.append_assoc,List.getElem?_append_right (by rw[htl];omega),htl,Nat.add_sub_cancel_left,List.getElem?_append_left hj2]
     exact hj
   ·have hi2:i-1<xs.length:=by omega
    obtain⟨cs,q1,q2,q3⟩:=hci (i-1) hi2
    refine⟨cs,?_,λj v hj=>?_⟩
    ·have e:(xs.take m++[y0]++xs.drop m)[i]=xs[i-1]:=by
      have hl2:(xs.take m++[y0]).length=m+1:=by simp[Nat.min_eq_left hin]
      have e1:(xs.take m++[y0]++xs.drop m)[i]? =xs[i-1]?:=by
       rw[List.getElem?_append_right (by omega),hl2,List.getElem?_drop]
       congr 1
       omega
      rw[List.getElem?_eq_getElem hi,List.getElem?_eq_getElem hi2]at e1
      exact Option.some.inj e1
     rw[e];exact q1
    ·have hk2:(m+1)*nc τ<=i*nc τ:=Nat.mul_le_mul_right _ hgt
     have hk3:i*nc τ=(i-1)*nc τ+nc τ:=by rw[<-Nat.succ_mul];congr 1;omega
     rw[Nat.succ_mul]at hk2
     rw[List.getElem?_append_right (by rw[List.length_append,htl,hvl];omega),List.length_append,htl,hvl,List.getElem?_drop]
     have e:m*nc τ+(i*nc τ+j-(m*nc τ+nc τ))=(i-1)*nc τ+j:=by omega
     rw[e]
     exact q3 j v hj
end Go.Gx
end
section
/- slices.Delete of one element: what the library's own text does to a row,elements of any number of cells (over any program). -/
namespace Go.GxIns
open Go.Shelf Go.RowKit Go.Lib Go.Proofs
variable {P:Program} {ρ:Ren}
theorem Q5N (w:World)(t e ty:TypeId)(z:Value)(ht:P.underlying t=some (.slice e))(hv:∀w,(zeroValue e).run P w= .ok z w)(b o n c:Nat)(hn:0<n)
  (h1:∀v∈(Builtin.zeroCells z.cells n).toList,v.oneCell'=true)
  (hc:∀j,j<(Builtin.zeroCells z.cells n).size->(w.cell? ⟨b,o+j,none⟩).isSome=true) (hf:∀j,w.frozen? ⟨b,j,none⟩=false) :
  (Builtin.clear_ #[t] ty #[.slice (some ⟨b,o,none⟩) n c]).run P w= .ok (.tuple #[]) (w.setCells b o (Builtin.zeroCells z.cells n).toList):=by
 have hst:=run_storeCells_cells (P:=P) b o (Builtin.zeroCells z.cells n).toList 0 w (by simpa using hc) (by intro j _;exact hf _) h1
 simp only[Nat.add_zero]at hst
 obtain⟨m,rfl⟩:∃m,n=m+1:=⟨n-1,by omega⟩
 simp[Builtin.clear_,run_underlying ht,hv,hst]
noncomputable def QcS (nm:String)(ρ:Ren):Func:={Body2.n24 ρ with name:=nm}
theorem Q5O (nm:String)(ρ:Ren):(QcS nm ρ).ntmps=33:=Body2.n24_ntmps ρ
structure DelL (P:Program)(ρ:Ren)(nm:String)(Z B:Nat)(z:Value):Prop where
 mixed:P.follows .mixedOrders=true
 f24:P.funcs[ρ.f 24]? =some (QcS nm ρ)
 t0:P.underlying (ρ.t 0)=some (TypeDesc.tuple #[])
 a0:∀w,(isAgg (ρ.t 0)).run P w= .ok false w
 z0:∀w,(Go.sizeOf (ρ.t 0)).run P w= .ok 1 w
 v0:∀w,(zeroValue (ρ.t 0)).run P w= .ok (Value.tuple #[]) w
 t3:P.underlying (ρ.t 3)=some (TypeDesc.int IntKind.i64)
 a3:∀w,(isAgg (ρ.t 3)).run P w= .ok false w
 z3:∀w,(Go.sizeOf (ρ.t 3)).run P w= .ok 1 w
 v3:∀w,(zeroValue (ρ.t 3)).run P w= .ok (Value.int IntKind.i64 0) w
 t4:P.underlying (ρ.t 4)=some (TypeDesc.bool)
 a4:∀w,(isAgg (ρ.t 4)).run P w= .ok false w
 z4:∀w,(Go.sizeOf (ρ.t 4)).run P w= .ok 1 w
 v4:∀w,(zeroValue (ρ.t 4)).run P w= .ok (Value.bool false) w
 z9:∀w,(Go.sizeOf (ρ.t 9)).run P w= .ok Z w
 t24:P.underlying (ρ.t 24)=some (TypeDesc.slice (ρ.t 9))
 a24:∀w,(isAgg (ρ.t 24)).run P w= .ok false w
 z24:∀w,(Go.sizeOf (ρ.t 24)).run P w= .ok 1 w
 v24:∀w,(zeroValue (ρ.t 24)).run P w= .ok (Value.slice none 0 0) w
 i9:(P.info? (ρ.t 9)).map (λi=>(i.zero,i.size,i.bytes))=some (some z,Z,B)
variable {nm:String} {Z B:Nat} {z:Value}
set_option maxHeartbeats 4000000 in
set_option maxRecDepth 100000 in
theorem Q7K (L:DelL P ρ nm Z B z)(hZ:0<Z)(b n c i:Nat)(cs:List Value)(w:World)(hi:i<n)(hnc:n<=c)(hc63:c<=9223372036854775807)
  (hcl:cs.length=n*Z) (hcs:∀j v,cs[j]? =some v->w.cell? ⟨b,j,none⟩=some v) (hfz:∀j,w.frozen? ⟨b,j,none⟩=false) (h1c:∀v∈cs,v.oneCell'=true) (ZZ:List Value)
  (hZZ:∀W1,W1=w.drew.setCells b (0+i*Z) (cs.drop ((i+1)*Z))->∀ty,(Builtin.clear_ #[ρ.t 24] ty #[.slice (some ⟨b,(n-1)*Z,none⟩) (n-(n-1)) (c-(n-1))]).run P W1= .ok (.tuple #[]) (W1.setCells b ((n-1)*Z) ZZ)) :
  Calls P (ρ.f 24) #[.slice (some ⟨b,0,none⟩) n c,.int .i64 i,.int .i64 ((i:Int)+1)] w λe w'=>
   e= .returned (.slice (some ⟨b,0,none⟩) (n-1) c)/\w'=(w.drew.setCells b (i*Z) (cs.drop ((i+1)*Z))).setCells b ((n-1)*Z) ZZ:=by
 have t0:=L.t0;have a0:=L.a0;have z0:=L.z0;have v0:=L.v0;have t3:=L.t3;have a3:=L.a3;have z3:=L.z3;have v3:=L.v3;have t4:=L.t4;have a4:=L.a4;have z4:=L.z4;have v4:=L.v4;have z9:=L.z9;have t24:=L.t24;have a24:=L.a24;have z24:=L.z24;have v24:=L.v24
 have u0:=run_underlying L.t0;have u3:=run_underlying L.t3;have u4:=run_underlying L.t4;have u24:=run_underlying L.t24
 have mixed:=L.mixed
 obtain⟨i0,hi0,hz0,hzs,hzb⟩:=info_parts L.i9
 have hm1:(i+1)*Z=i*Z+Z:=Nat.succ_mul i Z
 have hm2:n*Z=(n-1)*Z+Z:=by rw[<-Nat.succ_mul];congr 1;omega
 have hm3:i*Z+(n-(i+1))*Z=(n-1)*Z:=by rw[<-Nat.add_mul];congr 1;omega
 have hlen:(cs.drop ((i+1)*Z)).length=(n-(i+1))*Z:=by rw[List.length_drop,hcl,Nat.sub_mul]
 have hsome:∀j,j<n*Z->(w.cell? ⟨b,j,none⟩).isSome=true:=λj hj=>by rw[hcs j _ (List.getElem?_eq_getElem (by omega))];rfl
 obtain⟨A,hA,hsrc⟩:∃A:Addr,(if c=i+1 then(some ⟨b,0,none⟩:Option Addr)else some ⟨b,(i+1)*Z,none⟩)=some A/\Hid (∀t u,(cs.drop ((i+1)*Z))[t]? =some u->w.drew.cell? (A.add t)=some u):=by
  by_cases h:c=i+1
  ·refine⟨⟨b,0,none⟩,by simp[h],λt u hu=>?_⟩
   have h0:(cs.drop ((i+1)*Z)).length=0:=by rw[hlen,show n-(i+1)=0 by omega,Nat.zero_mul]
   rw[List.length_eq_zero_iff.1 h0]at hu
   simp at hu
  ·refine⟨⟨b,(i+1)*Z,none⟩,by simp[h],λt u hu=>?_⟩
   rw[List.getElem?_drop]at hu
   rw[Addr.add_lit]
   exact hcs _ u hu
 have s1:Hid ((cs.drop ((i+1)*Z)).length=(n-(i+1))*Z):=hlen
 have s2:Hid (∀u∈cs.drop ((i+1)*Z),u.oneCell'=true):=λu hu=>h1c u (List.mem_of_mem_drop hu)
 have s3:Hid (∀t,t<(cs.drop ((i+1)*Z)).length->(w.drew.cell? ⟨b,0+i*Z+t,none⟩).isSome=true/\w.drew.frozen? ⟨b,0+i*Z+t,none⟩=false):=λt ht=>by
  rw[hlen]at ht
  exact⟨hsome _ (by omega),hfz _⟩
 obtain⟨W1,hW1⟩:∃W1,W1=w.drew.setCells b (0+i*Z) (cs.drop ((i+1)*Z)):=⟨_,rfl⟩
 have em:i+(n-(i+1))=n-1:=by omega
 have hcl1:=hZZ W1 hW1
 have hW:Hid (W1=w.drew.setCells b (0+i*Z) (cs.drop ((i+1)*Z))):=hW1
 have hw1:IntKind.i64.wrap ((i:Int)+1)=(i:Int)+1:=by rw[IntKind.wrap_i64];omega
 have hne:¬((i:Int)=(i:Int)+1):=by omega
 have hin:(i:Int)<=(i:Int)+1:=by omega
 have htn:((i:Int)+1).toNat=i+1:=by omega
 have hb1:(0:Int)<=(i:Int)+1:=by omega
 have hb2:(i:Int)+1<=(n:Int):=by omega
 have hic:i<=c:=by omega
 have hjc:i+1<=c:=by omega
 have hcn:¬(c=n-1):=by omega
 clear hW1 hm1 hm2 hm3 hlen hsome hcl hcs hZZ hz0 hzb
 go_enter L.f24,Q5O nm ρ
 go_wp2_with fail
 go_region_law_o (refine step_append_room rfl (.tmp 22) (.tmp 25) (ρ.t 24) rfl (ρ.t 9) i0 Z t24 hi0 hzs b 0 i c (by simp[Act.eval,Act.put]) A (n-(i+1)) (c-(i+1)) (cs.drop ((i+1)*Z)) (by simp[Act.eval,Act.put]) s1.out hsrc.out s2.out (by omega) s3.out ?_;rw[<-hW.out])
 go_wp2
 go_ret
 refine⟨rfl,?_⟩
 rw[hW.out,Nat.zero_add]
theorem del_walk (L:DelL P ρ nm Z B z)(hZ:0<Z)(hzc:z.cells.size=Z)(hz1:∀v∈(Builtin.zeroCells z.cells 1).toList,v.oneCell'=true)(b n c i:Nat)(cs:List Value)(w:World)(hi:i<n)(hnc:n<=c)(hc63:c<=9223372036854775807)
  (hcl:cs.length=n*Z) (hcs:∀j v,cs[j]? =some v->w.cell? ⟨b,j,none⟩=some v) (hfz:∀j,w.frozen? ⟨b,j,none⟩=false) (h1c:∀v∈cs,v.oneCell'=true) :
  Calls P (ρ.f 24) #[.slice (some ⟨b,0,none⟩) n c,.int .i64 i,.int .i64 ((i:Int)+1)] w λe w'=>
   e= .returned (.slice (some ⟨b,0,none⟩) (n-1) c)/\w'=(w.drew.setCells b (i*Z) (cs.drop ((i+1)*Z))).setCells b ((n-1)*Z) (Builtin.zeroCells z.cells 1).toList:=by
 obtain⟨i0,hi0,hz0,hzs,hzb⟩:=info_parts L.i9
 have hv9:∀w,(zeroValue (ρ.t 9)).run P w= .ok z w:=λw=>by simp[zeroValue,typeInfo,hi0,hz0]
 have hm1:(i+1)*Z=i*Z+Z:=Nat.succ_mul i Z
 have hm2:n*Z=(n-1)*Z+Z:=by rw[<-Nat.succ_mul];congr 1;omega
 have hm3:i*Z+(n-(i+1))*Z=(n-1)*Z:=by rw[<-Nat.add_mul];congr 1;omega
 have hlen:(cs.drop ((i+1)*Z)).length=(n-(i+1))*Z:=by rw[List.length_drop,hcl,Nat.sub_mul]
 have hsome:∀j,j<n*Z->(w.cell? ⟨b,j,none⟩).isSome=true:=λj hj=>by rw[hcs j _ (List.getElem?_eq_getElem (by omega))];rfl
 have hzl:(Builtin.zeroCells z.cells 1).size=Z:=by rw[size_zeroCells,hzc,Nat.one_mul]
 refine Q7K L hZ b n c i cs w hi hnc hc63 hcl hcs hfz h1c _ λW1 hW1 ty=>?_
 have hsp1:∀k,k<n*Z->(W1.cell? ⟨b,k,none⟩).isSome=true:=λk hk=>by
  rw[hW1]
  exact KZ b (cs.drop ((i+1)*Z)) (0+i*Z) w.drew (λj hj=>hsome _ (by rw[hlen]at hj;omega)) k (hsome k hk)
 rw[show n-(n-1)=1 by omega]
 exact Q5N W1 _ _ ty _ L.t24 hv9 b ((n-1)*Z) 1 _ (by omega) hz1 (λj hj=>hsp1 _ (by rw[hzl]at hj;omega)) (λj=>by rw[hW1,World.frozen?_setCells];exact hfz _)
theorem del_any (L:DelL P ρ nm Z B z)(hZ:0<Z)(hzc:z.cells.size=Z)(hz1:∀v∈(Builtin.zeroCells z.cells 1).toList,v.oneCell'=true)(g n c i:Nat)(cur:Array Value)(w:World)(hi:i<n)(hnc:n<=c)(hc63:c<=9223372036854775807)
  (hg:w.heap[g]? =some (.cells cur (ρ.t 9) (0,0))) (hsz:cur.size=c*Z) (h1c:∀v∈cur.toList.take (n*Z),v.oneCell'=true) :
  Calls P (ρ.f 24) #[.slice (some ⟨g,0,none⟩) n c,.int .i64 i,.int .i64 ((i:Int)+1)] w λe w'=>
   ∃g' c',e= .returned (.slice (some ⟨g',0,none⟩) (n-1) c')/\InsOut (ρ.t 9) Z (n-1) c g ((cur.toList.take (n*Z)).take (i*Z)++(cur.toList.take (n*Z)).drop ((i+1)*Z)) w w' g' c':=by
 have hgw:g<w.heap.size:=(Array.getElem?_eq_some_iff.1 hg).1
 obtain⟨cs,hcs⟩:∃cs,cs=cur.toList.take (n*Z):=⟨_,rfl⟩
 rw[<-hcs]at h1c ⊢
 have hct:cur.toList.length=c*Z:=by rw[<-hsz];exact Array.length_toList
 have hm0:n*Z<=c*Z:=Nat.mul_le_mul_right Z hnc
 have hcl:cs.length=n*Z:=by rw[hcs,List.length_take,hct];omega
 have hm1:(i+1)*Z=i*Z+Z:=Nat.succ_mul i Z
 have hm2:n*Z=(n-1)*Z+Z:=by rw[<-Nat.succ_mul];congr 1;omega
 have hm3:i*Z+(n-(i+1))*Z=(n-1)*Z:=by rw[<-Nat.add_mul];congr 1;omega
 have hdl:(cs.drop ((i+1)*Z)).length=(n-(i+1))*Z:=by rw[List.length_drop,hcl,Nat.sub_mul]
 have htl:(cs.take (i*Z)).length=i*Z:=by rw[List.length_take,hcl];omega
 have hzl:(Builtin.zeroCells z.cells 1).toList.length=Z:=by rw[Array.length_toList,size_zeroCells,hzc,Nat.one_mul]
 have hcell:∀j v,cs[j]? =some v->w.cell? ⟨g,j,none⟩=some v:=λj v hj=>by
  rw[hcs,List.getElem?_take]at hj
  split at hj
  ·simpa[World.cell?,hg]using hj
  ·cases hj
 have hfz:∀j,w.frozen? ⟨g,j,none⟩=false:=λj=>by simp[World.frozen?,hg]
 have hctk:cur.toList.take (i*Z)=cs.take (i*Z):=QbS _ _ _ _ hcs (by omega)
 refine(del_walk L hZ hzc hz1 g n c i cs w hi hnc hc63 hcl hcell hfz h1c).mono ?_
 rintro e w' ⟨rfl,rfl⟩
 refine⟨g,c,rfl,?_⟩
 have r1:=Jq (cs.drop ((i+1)*Z)) w.drew g (i*Z) cur _ hg (by rw[hdl];omega)
 have g1:=setRow_heap w.drew g cur (cur.toList.take (i*Z)++cs.drop ((i+1)*Z)++cur.toList.drop (i*Z+(cs.drop ((i+1)*Z)).length)).toArray _ _ hg
 rw[r1]
 have hl1:(cur.toList.take (i*Z)++cs.drop ((i+1)*Z)).length=(n-1)*Z:=by rw[List.length_append,hctk,htl,hdl];omega
 have r2:=Jq (Builtin.zeroCells z.cells 1).toList _ g ((n-1)*Z) _ _ g1 (by
  simp only[List.size_toArray,List.length_append,hzl,hctk,htl,hdl,List.length_drop,hct]
  omega)
 rw[r2]
 have ek:(cur.toList.take (i*Z)++cs.drop ((i+1)*Z)++cur.toList.drop (i*Z+(cs.drop ((i+1)*Z)).length)).take ((n-1)*Z)=cs.take (i*Z)++cs.drop ((i+1)*Z):=by
  rw[List.take_left' hl1,hctk]
 refine⟨⟨(Builtin.zeroCells z.cells 1).toList++(cur.toList.take (i*Z)++cs.drop ((i+1)*Z)++cur.toList.drop (i*Z+(cs.drop ((i+1)*Z)).length)).drop ((n-1)*Z+(Builtin.zeroCells z.cells 1).toList.length),?_,?_⟩,⟨by omega,hc63⟩,.inl ⟨rfl,rfl⟩,λk hk hne=>?_,?_,rfl,rfl,rfl⟩
 ·rw[setRow_heap _ g _ _ _ _ g1]
  simp only[List.toList_toArray]
  rw[ek]
  simp only[List.append_assoc]
 ·simp only[List.length_append,htl,hzl,hdl,List.length_drop,hctk,hct]
  omega
 ·rw[setRow_other _ g k _ hne,setRow_other _ g k _ hne];rfl
 ·simp
end Go.GxIns
end
section
/- slices.Delete of one element,in the interpreter's words. -/
namespace Go.Gx
open Go.RowKit Go.Proofs Go.Shelf Go.GxIns
def Qbu (τ:Ty)(xs:List (den τ))(i j:Int):Option (List (den τ)):=
 bif decide (0<=i)&&(decide (i<(xs.length:Int))&&(decide (j=i+1)&&decide (xs.length<=140737488355328)))then some (xs.take i.toNat++xs.drop (i.toNat+1))else none
theorem Q7L {cs:Array Value}(h:∀v∈cs.toList,v.oneCell'=true)(n:Nat):∀v∈(Builtin.zeroCells cs n).toList,v.oneCell'=true:=λv hv=>by
 unfold Builtin.zeroCells at hv
 rw[Array.toList_map,List.mem_map]at hv
 obtain⟨k,hk,rfl⟩:=hv
 have hk:k<n*cs.size:=by simpa using hk
 have hs:0<cs.size:=by
  rcases Nat.eq_zero_or_pos cs.size with h0|h0
  ·rw[h0]at hk;omega
  ·exact h0
 rw[getElem!_pos cs (k % cs.size) (Nat.mod_lt _ hs)]
 exact h _ (by simp)
theorem Q5P {P:Program}{E:Env}{pv:Nat->Value}{ρ:Ren}{nm:String}{fn:Func}{cd:Code}{τ:Ty}{te:Nat}(hE:EnvOk P E)(hte:E.ty te=some τ)(hpos:0<nc τ)
  (L:DelL P ρ nm (nc τ) (nb τ) (valOf (.t τ (Q2 τ)) (zc τ))) (h9:ρ.t 9=te) (hf:P.funcs[ρ.f 24]? =some fn) (hb:fn.body=some cd) (hname:(fn.name== "runtime.NumGoroutine")=false)
  {xs y:List (den τ)} {i j:Int} (h:Qbu τ xs i j=some y):Qx P E pv (ρ.f 24) (.fr te τ xs) [.t (.int .i64) i,.t (.int .i64) j] (.mov te τ y):=by
 unfold Qbu at h
 cases hc:(decide (0<=i)&&(decide (i<(xs.length:Int))&&(decide (j=i+1)&&decide (xs.length<=140737488355328))))with
 |false=>rw[hc]at h;cases h
 |true=>
  rw[hc]at h
  cases h
  simp only[Bool.and_eq_true,decide_eq_true_eq]at hc
  obtain⟨h0,h1,rfl,h3⟩:=hc
  obtain⟨m,rfl⟩:∃m:Nat,i=m:=⟨i.toNat,by omega⟩
  rw[Int.toNat_natCast]
  have hzc:(valOf (.t τ (Q2 τ)) (zc τ)).cells.toList=zc τ:=QX (S:=λ_=>False) (w:=default) (ρ:=λ_=>none) (row:=λ_=>none) (pv:=pv) (.t τ (Q2 τ)) (.t τ _ _ (Jh _ _ τ))
  have hzs:(valOf (.t τ (Q2 τ)) (zc τ)).cells.size=nc τ:=by rw[<-Array.length_toList,hzc];exact(Jh (λ_=>False) default τ).len
  have hz1:=Q7L (cs:=(valOf (.t τ (Q2 τ)) (zc τ)).cells) (by rw[hzc];exact(Jh (λ_=>False) default τ).one) 1
  intro S w v0 vs l r0 hS hgl hargs hr hrow hpin hv
  obtain⟨vs1,rfl,ha1⟩:=DD hargs
  obtain⟨vs2,rfl,ha2⟩:=DD ha1
  obtain rfl:=UP ha2
  cases hr
  subst hv
  show Goes P (ρ.f 24) (YF (.fr te τ xs) l::[.int .i64 m,.int .i64 ((m:Int)+1)]).toArray w _
  cases l with
  |soft T v=>exact hrow.elim
  |tree cs T v=>exact hrow.elim
  |nilrow=>
   obtain⟨e0,_,hn⟩:=hrow
   have e0:xs=[]:=e0
   subst e0
   simp at h1
   omega
  |«at» g cap=>
   obtain⟨cur,fr,r1,r2,r3,r4,r5,r6,r7,r8⟩:=hrow
   obtain rfl:=r5 rfl
   have hcz:xs.length*nc τ<=cap*nc τ:=Nat.mul_le_mul_right _ r3
   have hct:cur.toList.length=cap*nc τ:=by rw[<-r2];exact Array.length_toList
   have hcell1:∀v∈cur.toList.take (xs.length*nc τ),v.oneCell'=true:=λv hv=>by
    obtain⟨j,hj,rfl⟩:=List.getElem_of_mem hv
    rw[List.length_take,hct]at hj
    have hj1:j / nc τ<xs.length:=Nat.div_lt_of_lt_mul (by rw[Nat.mul_comm];omega)
    obtain⟨cs,q1,q2⟩:=r8 _ hj1
    have hj2:j % nc τ<cs.length:=by rw[q1.len];exact Nat.mod_lt _ hpos
    have q3:=q2 _ _ (List.getElem?_eq_getElem hj2)
    have e1:j / nc τ*nc τ+j % nc τ=j:=by rw[Nat.mul_comm];exact Nat.div_add_mod j (nc τ)
    rw[e1,Array.getElem?_eq_getElem (by omega)]at q3
    rw[List.getElem_take,Array.getElem_toList,Option.some.inj q3]
    exact q1.one _ (List.getElem_mem hj2)
   have hin:m<xs.length:=by omega
   rw[<-h9]at r1
   refine XI hf hb hname ((del_any L hpos hzs hz1 g xs.length cap m cur w hin r3 r4 r1 r2 hcell1).mono λe w' ⟨g',c',he,ho⟩=>⟨_,he,?_⟩)
   rw[h9]at ho
   have hnl:(xs.take m++xs.drop (m+1)).length=xs.length-1:=by simp;omega
   refine Q1e (n:=xs.length-1) hS ho (.inl rfl) hpin hpos hnl λi hi=>?_
   have hcl:(cur.toList.take (xs.length*nc τ)).length=xs.length*nc τ:=by rw[List.length_take,hct];omega
   have hmz:m*nc τ<=xs.length*nc τ:=Nat.mul_le_mul_right _ (by omega)
   have htl:((cur.toList.take (xs.length*nc τ)).take (m*nc τ)).length=m*nc τ:=by rw[List.length_take,hcl];omega
   have hci:∀k (hk:k<xs.length),∃cs,CR (cS pv S w) w τ xs[k] cs/\cs.length=nc τ/\∀j v,cs[j]? =some v->(cur.toList.take (xs.length*nc τ))[k*nc τ+j]? =some v:=λk hk=>by
    obtain⟨cs,q1,q2⟩:=r8 k hk
    refine⟨cs,q1,q1.len,λj v hj=>?_⟩
    have hj2:=(List.getElem?_eq_some_iff.1 hj).1
    have hk2:(k+1)*nc τ<=xs.length*nc τ:=Nat.mul_le_mul_right _ hk
    rw[Nat.succ_mul]at hk2
    rw[q1.len]at hj2
    rw[List.getElem?_take,if_pos (by omega),Array.getElem?_toList]
    exact q2 j v hj
   rcases Nat.lt_or_ge i m with hlt|hge
   ·obtain⟨cs,q1,q2,q3⟩:=hci i (by omega)
    refine⟨cs,?_,λj v hj=>?_⟩
    ·have e:(xs.take m++xs.drop (m+1))[i]=xs[i]:=by
      have e1:(xs.take m++xs.drop (m+1))[i]? =xs[i]?:=by
       rw[List.getElem?_append_left (by rw[List.length_take];omega),List.getElem?_take,if_pos hlt]
      rw[List.getElem?_eq_getElem hi,List.getElem?_eq_getElem (by omega)]at e1
      exact Option.some.inj e1
     rw[e];exact q1
    ·have hj2:=(List.getElem?_eq_some_iff.1 hj).1
     have hk2:(i+1)*nc τ<=m*nc τ:=Nat.mul_le_mul_right _ hlt
     rw[Nat.succ_mul]at hk2
     rw[List.getElem?_append_left (by rw[htl];omega),List.getElem?_take,if_pos (by omega)]
     exact q3 j v hj
   ·have hi2:i+1<xs.length:=by omega
    obtain⟨cs,q1,q2,q3⟩:=hci (i+1) hi2
    refine⟨cs,?_,λj v hj=>?_⟩
    ·have e:(xs.take m++xs.drop (m+1))[i]=xs[i+1]:=by
      have hl2:(xs.take m).length=m:=by rw[List.length_take];omega
      have e1:(xs.take m++xs.drop (m+1))[i]? =xs[i+1]?:=by
       rw[List.getElem?_append_right (by omega),hl2,List.getElem?_drop]
       congr 1
       omega
      rw[List.getElem?_eq_getElem hi,List.getElem?_eq_getElem hi2]at e1
      exact Option.some.inj e1
     rw[e];exact q1
    ·have hk2:m*nc τ<=i*nc τ:=Nat.mul_le_mul_right _ hge
     rw[List.getElem?_append_right (by rw[htl];omega),htl,List.getElem?_drop]
     have e:(m+1)*nc τ+(i*nc τ+j-m*nc τ)=(i+1)*nc τ+j:=by rw[Nat.succ_mul,Nat.succ_mul];omega
     rw[e]
     exact q3 j v hj
end Go.Gx
end
section
namespace Go.Proofs.YtbpjfjdkjapnoaaGreatDoor
open Go.Gx
def tyT (t:Nat):Option Ty:=match t with
 |2=>some (.int .i64)
 |3=>some (.int .i64)
 |4=>some .bool
 |5=>some (.int .u8)
 |6=>some (.int .u8)
 |9=>some .str
 |10=>some .str
 |11=>some .str
 |21=>some (.int .i32)
 |22=>some (.sl (.int .u8))
 |24=>some (.sl .name)
 |26=>some .date
 |28=>some .entry
 |34=>some (.sl .str)
 |39=>some (.sl .entry)
 |41=>some .lib
 |49=>some (.int .u64)
 |51=>some .cur
 |57=>some (.arr 8 .str)
 |76=>some (.sl (.int .i64))
 |84=>some .name
 |106=>some (.int .u64)
 |122=>some (.arr 256 .bool)
 |130=>some (.arr 24 (.int .u8))
 |144=>some (.arr 20 (.int .u64))
 |145=>some (.int .u32)
 |146=>some (.arr 65 (.int .u8))
 |154=>some (.arr 256 (.int .u8))
 |159=>some (.arr 32 (.int .u8))
 |160=>some (.arr 64 (.int .u8))
 |169=>some (.int .u8)
 |_=>none
def elT (t:Nat):Nat:=match t with
 |22=>5
 |24=>84
 |34=>9
 |39=>28
 |76=>3
 |_=>0
def mdT (f:Nat):Bool:=match f with
 |19=>true
 |20=>true
 |21=>true
 |34=>true
 |35=>true
 |42=>true
 |43=>true
 |44=>true
 |45=>true
 |46=>true
 |47=>true
 |48=>true
 |50=>true
 |51=>true
 |76=>true
 |82=>true
 |83=>true
 |85=>true
 |86=>true
 |87=>true
 |106=>true
 |112=>true
 |133=>true
 |146=>true
 |_=>false
def Q08:List ByteArray:=[⟨#[97,117,116,104,111,114,115]⟩,⟨#[101,100,105,116,111,114,115]⟩,⟨#[116,105,116,108,101]⟩,⟨#[99,111,110,116,97,105,110,101,114]⟩,⟨#[112,117,98,108,105,115,104,101,114]⟩,⟨#[100,97,116,101]⟩,⟨#[118,111,108,117,109,101]⟩,⟨#[112,97,103,101,115]⟩]
def glT (g:Nat):Option AV:=match g with
 |0=>some (.t (.arr 8 .str) Q08)
 |1=>some (.t (.arr 20 (.int .u64)) Lib.pow10Tab)
 |_=>none
def giT (g:Nat):Bool:=match g with
 |2=>true
 |_=>false
def dmT (f:Nat):Bool:=match f with
 |_=>false
def pmT (f:Nat):Bool:=match f with
 |_=>false
def tmX (f:Nat):Bool:=match f with
 |_=>false
def Q0:Env:={ty:=tyT,el:=elT,gl:=glT,md:=mdT,gi:=giT,dm:=dmT,pm:=pmT,tm:=tmX}
theorem Q5Q:∀T τ,Q0.ty T=some τ->TyOk Tryz.prog Q0 T τ:=λT τ h=>by
 dsimp only[Q0,tyT]at h
 split at h<;>first
  |(cases h;done)
  |(cases h;exact Qbc (by kernel_rfl) (by kernel_rfl))
theorem QbT:EnvOk Tryz.prog Q0:=⟨Q5Q,by kernel_rfl,λT h=>by
 dsimp only[Q0,tyT]at h
 split at h<;>first
  |(cases h;done)
  |exact Qbr Q5Q rfl (by kernel_rfl) (by kernel_rfl) (by kernel_rfl),λT h=>by
 dsimp only[Q0,tyT]at h
 split at h<;>first
  |(cases h;done)
  |exact Qbs Q5Q rfl (by kernel_rfl) (by kernel_rfl) (by kernel_rfl)⟩
def Z106.F (a0:List Int):Option (Bool):=some (decide ((a0.length:Int) > 65536))
def Z106.C:Cal->Option CArm:=λc=>match c with
 |_=>none
theorem Z106.run (a0:List Int):Qq Q0 (Qf Z106.C) (Qe 6 0 (λ_=>none)) Tryz.f4 [.t (.sl (.int .u8)) a0] (Q6 (.t .bool))=Z106.F a0:=by kernel_rfl
theorem Z106.G (hE:EnvOk Tryz.prog Q0)(pv:Nat->Value):∀cal A,Z106.C cal=some A->Qc Tryz.prog Q0 pv cal A:=by
 intro cal A h
 unfold Z106.C at h
 cases h
theorem Z106.good (hE:EnvOk Tryz.prog Q0)(pv:Nat->Value)(a0:List Int){y:_}(h:Z106.F a0=some y):Qb Tryz.prog Q0 pv (.f 4) (Q7 [(.sl (.int .u8))] (a0,())) (.t .bool y):=
 Q8 hE (Z106.G hE pv) (f:=4) (fn:=Tryz.f4) (by kernel_rfl) rfl (by kernel_rfl) (by kernel_rfl) ((Z106.run a0).trans h) (λr hr=>Q1 hr)
def Z79.F (a0:Cur):Option (Cur×Int):=bif (decide (a0.at_<(a0.code.length:Int)))then(bif decide (0<=a0.at_)then(bif decide (a0.at_<(a0.code.length:Int))then(bif (decide ((IntKind.wrap .i64 (a0.at_+1))<=(a0.code.length:Int)))then(some ((⟨a0.code,(IntKind.wrap .i64 (a0.at_+1)),(IntKind.wrap .u64 ((IntKind.wrap .u64 ((IntKind.wrap .u64 (a0.seed*6364136223846793005))+(IntKind.wrap .u64 (IntKind.wrap .i64 (a0.code.getD (a0.at_:Int).toNat 0)))))+896896))⟩:Cur),(IntKind.wrap .i64 (a0.code.getD (a0.at_:Int).toNat 0))))else(bif decide (0<=40)then(some ((⟨a0.code,(IntKind.wrap .i64 (a0.at_+1)),(IntKind.wrap .u64 ((IntKind.wrap .u64 ((IntKind.wrap .u64 (a0.seed*6364136223846793005))+(IntKind.wrap .u64 (IntKind.wrap .i64 (a0.code.getD (a0.at_:Int).toNat 0)))))+896896))⟩:Cur),(IntKind.wrap .i64 (IntKind.wrap .u64 ((BitVec.ofInt (IntKind.bits .u64) (Int.fdiv (IntKind.wrap .u64 ((IntKind.wrap .u64 ((IntKind.wrap .u64 (a0.seed*6364136223846793005))+(IntKind.wrap .u64 (IntKind.wrap .i64 (a0.code.getD (a0.at_:Int).toNat 0)))))+896896)) (2 ^ min (40:Int).toNat (IntKind.bits .u64)))&&& BitVec.ofInt (IntKind.bits .u64) 255).toNat:Int)))))else none))else none)else none)else(bif (decide ((IntKind.wrap .i64 (a0.at_+1))<=(a0.code.length:Int)))then(some ((⟨a0.code,(IntKind.wrap .i64 (a0.at_+1)),(IntKind.wrap .u64 ((IntKind.wrap .u64 ((IntKind.wrap .u64 (a0.seed*6364136223846793005))+(IntKind.wrap .u64 0)))+896896))⟩:Cur),0))else(bif decide (0<=40)then(some ((⟨a0.code,(IntKind.wrap .i64 (a0.at_+1)),(IntKind.wrap .u64 ((IntKind.wrap .u64 ((IntKind.wrap .u64 (a0.seed*6364136223846793005))+(IntKind.wrap .u64 0)))+896896))⟩:Cur),(IntKind.wrap .i64 (IntKind.wrap .u64 ((BitVec.ofInt (IntKind.bits .u64) (Int.fdiv (IntKind.wrap .u64 ((IntKind.wrap .u64 ((IntKind.wrap .u64 (a0.seed*6364136223846793005))+(IntKind.wrap .u64 0)))+896896)) (2 ^ min (40:Int).toNat (IntKind.bits .u64)))&&& BitVec.ofInt (IntKind.bits .u64) 255).toNat:Int)))))else none))
def Z79.C:Cal->Option CArm:=λc=>match c with
 |_=>none
theorem Z79.run (a0:Cur):YP Q0 (Qf Z79.C) (Qe 62 0 (λ_=>none)) Tryz.f85 Qd (.bx .cur a0) [] (Yb (.bx .cur) (Q6 (.t (.int .i64))))=Z79.F a0:=by kernel_rfl
theorem Z79.G (hE:EnvOk Tryz.prog Q0)(pv:Nat->Value):∀cal A,Z79.C cal=some A->Qc Tryz.prog Q0 pv cal A:=by
 intro cal A h
 unfold Z79.C at h
 cases h
theorem Z79.good (hE:EnvOk Tryz.prog Q0)(pv:Nat->Value)(a0:Cur){y:_}(h:Z79.F a0=some y):Qx Tryz.prog Q0 pv 85 (.bx .cur a0) (Q7 [] (())) (.kep (.bx .cur y.1) (.t (.int .i64) y.2)):=
 QQ hE (Z79.G hE pv) (f:=85) (fn:=Tryz.f85) (by kernel_rfl) rfl (by kernel_rfl) (.inl rfl) (by kernel_rfl) ((Z79.run a0).trans h) (λr hr=>QU (λr y h=>Q1 h) hr)
def Z0.F (a0:Cur)(a1:Int):Option (Cur×Int):=bif (decide (a1<=1))then(some (a0,0))else((Z79.F a0).bind λr1=>bif (decide (a1 > 200))then((Z79.F r1.1).bind λr2=>bif (a1==0)then(none)else(some (r2.1,(Int.tmod (IntKind.wrap .i64 ((IntKind.wrap .i64 (r1.2*256))+r2.2)) a1))))else(bif (a1==0)then(none)else(some (r1.1,(Int.tmod r1.2 a1)))))
def Z0.C:Cal->Option CArm:=λc=>match c with
 |.f 85=>some (.m (.bx .cur) [] _ (λx0 x=>Z79.F x0) (λr=>.kep (.bx .cur r.1) (.t (.int .i64) r.2)))
 |_=>none
theorem Z0.run (a0:Cur)(a1:Int):YP Q0 (Qf Z0.C) (Qe 20 0 (λ_=>none)) Tryz.f43 Qd (.bx .cur a0) [.t (.int .i64) a1] (Yb (.bx .cur) (Q6 (.t (.int .i64))))=Z0.F a0 a1:=by kernel_rfl
theorem Z0.G (hE:EnvOk Tryz.prog Q0)(pv:Nat->Value):∀cal A,Z0.C cal=some A->Qc Tryz.prog Q0 pv cal A:=by
 intro cal A h
 unfold Z0.C at h
 split at h
 ·cases h;exact⟨_,rfl,λx0 x y hy=>Z79.good hE pv x0 hy⟩
 ·cases h
theorem Z0.good (hE:EnvOk Tryz.prog Q0)(pv:Nat->Value)(a0:Cur)(a1:Int){y:_}(h:Z0.F a0 a1=some y):Qx Tryz.prog Q0 pv 43 (.bx .cur a0) (Q7 [(.int .i64)] (a1,())) (.kep (.bx .cur y.1) (.t (.int .i64) y.2)):=
 QQ hE (Z0.G hE pv) (f:=43) (fn:=Tryz.f43) (by kernel_rfl) rfl (by kernel_rfl) (.inl rfl) (by kernel_rfl) ((Z0.run a0 a1).trans h) (λr hr=>QU (λr y h=>Q1 h) hr)
def Z27.F (a0:Cur)(a1:Int):Option (Cur×Bool):=(Z0.F a0 a1).bind λr1=>some (r1.1,(r1.2==0))
def Z27.C:Cal->Option CArm:=λc=>match c with
 |.f 43=>some (.m (.bx .cur) [(.int .i64)] _ (λx0 x=>Z0.F x0 x.1) (λr=>.kep (.bx .cur r.1) (.t (.int .i64) r.2)))
 |_=>none
theorem Z27.run (a0:Cur)(a1:Int):YP Q0 (Qf Z27.C) (Qe 9 0 (λ_=>none)) Tryz.f21 Qd (.bx .cur a0) [.t (.int .i64) a1] (Yb (.bx .cur) (Q6 (.t .bool)))=Z27.F a0 a1:=by kernel_rfl
theorem Z27.G (hE:EnvOk Tryz.prog Q0)(pv:Nat->Value):∀cal A,Z27.C cal=some A->Qc Tryz.prog Q0 pv cal A:=by
 intro cal A h
 unfold Z27.C at h
 split at h
 ·cases h;exact⟨_,rfl,λx0 x y hy=>Z0.good hE pv x0 x.1 hy⟩
 ·cases h
theorem Z27.good (hE:EnvOk Tryz.prog Q0)(pv:Nat->Value)(a0:Cur)(a1:Int){y:_}(h:Z27.F a0 a1=some y):Qx Tryz.prog Q0 pv 21 (.bx .cur a0) (Q7 [(.int .i64)] (a1,())) (.kep (.bx .cur y.1) (.t .bool y.2)):=
 QQ hE (Z27.G hE pv) (f:=21) (fn:=Tryz.f21) (by kernel_rfl) rfl (by kernel_rfl) (.inl rfl) (by kernel_rfl) ((Z27.run a0 a1).trans h) (λr hr=>QU (λr y h=>Q1 h) hr)
def Z3.F (a0:Cur)(a1:List ByteArray):Option (Cur×ByteArray):=(Z0.F a0 (a1.length:Int)).bind λr1=>bif decide (0<=r1.2)then(bif decide (r1.2<(a1.length:Int))then(some (r1.1,(a1.getD (r1.2:Int).toNat (⟨#[]⟩:ByteArray))))else none)else none
def Z3.C:Cal->Option CArm:=λc=>match c with
 |.f 43=>some (.m (.bx .cur) [(.int .i64)] _ (λx0 x=>Z0.F x0 x.1) (λr=>.kep (.bx .cur r.1) (.t (.int .i64) r.2)))
 |_=>none
theorem Z3.run (a0:Cur)(a1:List ByteArray):YP Q0 (Qf Z3.C) (Qe 12 0 (λ_=>none)) Tryz.f44 Qd (.bx .cur a0) [.t (.sl .str) a1] (Yb (.bx .cur) (Q6 (.t .str)))=Z3.F a0 a1:=by kernel_rfl
theorem Z3.G (hE:EnvOk Tryz.prog Q0)(pv:Nat->Value):∀cal A,Z3.C cal=some A->Qc Tryz.prog Q0 pv cal A:=by
 intro cal A h
 unfold Z3.C at h
 split at h
 ·cases h;exact⟨_,rfl,λx0 x y hy=>Z0.good hE pv x0 x.1 hy⟩
 ·cases h
theorem Z3.good (hE:EnvOk Tryz.prog Q0)(pv:Nat->Value)(a0:Cur)(a1:List ByteArray){y:_}(h:Z3.F a0 a1=some y):Qx Tryz.prog Q0 pv 44 (.bx .cur a0) (Q7 [(.sl .str)] (a1,())) (.kep (.bx .cur y.1) (.t .str y.2)):=
 QQ hE (Z3.G hE pv) (f:=44) (fn:=Tryz.f44) (by kernel_rfl) rfl (by kernel_rfl) (.inl rfl) (by kernel_rfl) ((Z3.run a0 a1).trans h) (λr hr=>QU (λr y h=>Q1 h) hr)
def Z50.F (a0:Cur)(a1:List Int):Option (Cur×Int):=(Z0.F a0 (a1.length:Int)).bind λr1=>bif decide (0<=r1.2)then(bif decide (r1.2<(a1.length:Int))then(some (r1.1,(a1.getD (r1.2:Int).toNat 0)))else none)else none
def Z50.C:Cal->Option CArm:=λc=>match c with
 |.f 43=>some (.m (.bx .cur) [(.int .i64)] _ (λx0 x=>Z0.F x0 x.1) (λr=>.kep (.bx .cur r.1) (.t (.int .i64) r.2)))
 |_=>none
theorem Z50.run (a0:Cur)(a1:List Int):YP Q0 (Qf Z50.C) (Qe 12 0 (λ_=>none)) Tryz.f47 Qd (.bx .cur a0) [.t (.sl (.int .i64)) a1] (Yb (.bx .cur) (Q6 (.t (.int .i64))))=Z50.F a0 a1:=by kernel_rfl
theorem Z50.G (hE:EnvOk Tryz.prog Q0)(pv:Nat->Value):∀cal A,Z50.C cal=some A->Qc Tryz.prog Q0 pv cal A:=by
 intro cal A h
 unfold Z50.C at h
 split at h
 ·cases h;exact⟨_,rfl,λx0 x y hy=>Z0.good hE pv x0 x.1 hy⟩
 ·cases h
theorem Z50.good (hE:EnvOk Tryz.prog Q0)(pv:Nat->Value)(a0:Cur)(a1:List Int){y:_}(h:Z50.F a0 a1=some y):Qx Tryz.prog Q0 pv 47 (.bx .cur a0) (Q7 [(.sl (.int .i64))] (a1,())) (.kep (.bx .cur y.1) (.t (.int .i64) y.2)):=
 QQ hE (Z50.G hE pv) (f:=47) (fn:=Tryz.f47) (by kernel_rfl) rfl (by kernel_rfl) (.inl rfl) (by kernel_rfl) ((Z50.run a0 a1).trans h) (λr hr=>QU (λr y h=>Q1 h) hr)
def Z55.F (a0:Cur):Option (Cur×Date):=(Z50.F a0 ([1999,2000,1850,987,1900,2024]:List Int)).bind λr1=>(Z0.F r1.1 5).bind λr2=>bif (r2.2==0)then(some (r2.1,(⟨0,0,0,false⟩:Date)))else(bif (r2.2==1)then(some (r2.1,(⟨r1.2,0,0,true⟩:Date)))else(bif (r2.2==2)then((Z0.F r2.1 12).bind λr3=>some (r3.1,(⟨r1.2,(IntKind.wrap .i64 (1+r3.2)),0,false⟩:Date)))else(bif (r2.2==3)then((Z0.F r2.1 12).bind λr4=>(Z0.F r4.1 28).bind λr5=>some (r5.1,(⟨r1.2,(IntKind.wrap .i64 (1+r4.2)),(IntKind.wrap .i64 (1+r5.2)),false⟩:Date)))else(some (r2.1,(⟨r1.2,0,0,false⟩:Date))))))
def Z55.C:Cal->Option CArm:=λc=>match c with
 |.f 47=>some (.m (.bx .cur) [(.sl (.int .i64))] _ (λx0 x=>Z50.F x0 x.1) (λr=>.kep (.bx .cur r.1) (.t (.int .i64) r.2)))
 |.f 43=>some (.m (.bx .cur) [(.int .i64)] _ (λx0 x=>Z0.F x0 x.1) (λr=>.kep (.bx .cur r.1) (.t (.int .i64) r.2)))
 |_=>none
theorem Z55.run (a0:Cur):YP Q0 (Qf Z55.C) (Qe 33 0 (λ_=>none)) Tryz.f50 Qd (.bx .cur a0) [] (Yb (.bx .cur) (Q6 (.t .date)))=Z55.F a0:=by kernel_rfl
theorem Z55.G (hE:EnvOk Tryz.prog Q0)(pv:Nat->Value):∀cal A,Z55.C cal=some A->Qc Tryz.prog Q0 pv cal A:=by
 intro cal A h
 unfold Z55.C at h
 split at h
 ·cases h;exact⟨_,rfl,λx0 x y hy=>Z50.good hE pv x0 x.1 hy⟩
 ·cases h;exact⟨_,rfl,λx0 x y hy=>Z0.good hE pv x0 x.1 hy⟩
 ·cases h
theorem Z55.good (hE:EnvOk Tryz.prog Q0)(pv:Nat->Value)(a0:Cur){y:_}(h:Z55.F a0=some y):Qx Tryz.prog Q0 pv 50 (.bx .cur a0) (Q7 [] (())) (.kep (.bx .cur y.1) (.t .date y.2)):=
 QQ hE (Z55.G hE pv) (f:=50) (fn:=Tryz.f50) (by kernel_rfl) rfl (by kernel_rfl) (.inl rfl) (by kernel_rfl) ((Z55.run a0).trans h) (λr hr=>QU (λr y h=>Q1 h) hr)
def Z18.l0:Nat->Cur->(List ByteArray)->ByteArray->ByteArray->ByteArray->(List ByteArray)->ByteArray->ByteArray->ByteArray->Int->Option (Cur× (List ByteArray)×ByteArray×ByteArray×ByteArray× (List ByteArray)×ByteArray×ByteArray×ByteArray)
 |0,_,_,_,_,_,_,_,_,_,_=>none
 |k+1,x0,x2_0,x2_1,x2_2,x2_3,x3_0,x3_1,x3_2,x3_3,x4=>bif (decide (x4 > 0))then((Z3.F x0 ([(⟨#[65,110,110,97]⟩:ByteArray),(⟨#[65]⟩:ByteArray),(⟨#[74,101,97,110,45,80,97,117,108]⟩:ByteArray),(⟨#[77,97,114,105,97]⟩:ByteArray),(⟨#[66]⟩:ByteArray),(⟨#[66,101,110]⟩:ByteArray),(⟨#[74,101,97,110,45,112,97,117,108]⟩:ByteArray)]:List ByteArray)).bind λr3=>bif room (x3_0.length+([r3.2]:List ByteArray).length) .str then(Z18.l0 k r3.1 x2_0 x2_1 x2_2 x2_3 (x3_0++([r3.2]:List ByteArray)) x3_1 x3_2 x3_3 (IntKind.wrap .i64 (x4-1)))else none)else(some (x0,x2_0,x2_1,x2_2,x2_3,x3_0,x3_1,x3_2,x3_3))
def Z18.F (k:Nat)(a0:Cur):Option (Cur×Name):=bif decide (0<=5)then(bif decide (5<=(([(⟨#[66,101,114,103]⟩:ByteArray),(⟨#[83,109,105,116,104]⟩:ByteArray),(⟨#[79,39,78,101,105,108,108]⟩:ByteArray),(⟨#[76,101,101]⟩:ByteArray),(⟨#[66,101,114,103,45,72,97,108,108]⟩:ByteArray),(⟨#[115,109,105,116,104,115,111,110]⟩:ByteArray)]:List ByteArray).length:Int))then((Z3.F a0 (([(⟨#[66,101,114,103]⟩:ByteArray),(⟨#[83,109,105,116,104]⟩:ByteArray),(⟨#[79,39,78,101,105,108,108]⟩:ByteArray),(⟨#[76,101,101]⟩:ByteArray),(⟨#[66,101,114,103,45,72,97,108,108]⟩:ByteArray),(⟨#[115,109,105,116,104,115,111,110]⟩:ByteArray)]:List ByteArray).take (5:Int).toNat)).bind λr1=>(Z0.F r1.1 3).bind λr2=>(Z18.l0 k r2.1 ([]:List ByteArray) (⟨#[]⟩:ByteArray) (⟨#[]⟩:ByteArray) (⟨#[]⟩:ByteArray) ([]) (⟨#[]⟩:ByteArray) r1.2 (⟨#[]⟩:ByteArray) r2.2).bind λy4=>(Z27.F y4.1 3).bind λr5=>bif r5.2 then((Z3.F r5.1 ([(⟨#[118,97,110]⟩:ByteArray),(⟨#[100,101]⟩:ByteArray),(⟨#[118,97,110,32,100,101,114]⟩:ByteArray)]:List ByteArray)).bind λr6=>(Z27.F r6.1 5).bind λr7=>bif r7.2 then((Z3.F r7.1 ([(⟨#[74,114]⟩:ByteArray),(⟨#[73,73,73]⟩:ByteArray),(⟨#[106,114]⟩:ByteArray)]:List ByteArray)).bind λr8=>some (r8.1,(⟨y4.2.2.2.2.2.1,r6.2,y4.2.2.2.2.2.2.2.1,r8.2⟩:Name)))else(some (r7.1,(⟨y4.2.2.2.2.2.1,r6.2,y4.2.2.2.2.2.2.2.1,y4.2.2.2.2.2.2.2.2⟩:Name))))else((Z27.F r5.1 5).bind λr9=>bif r9.2 then((Z3.F r9.1 ([(⟨#[74,114]⟩:ByteArray),(⟨#[73,73,73]⟩:ByteArray),(⟨#[106,114]⟩:ByteArray)]:List ByteArray)).bind λr10=>some (r10.1,(⟨y4.2.2.2.2.2.1,y4.2.2.2.2.2.2.1,y4.2.2.2.2.2.2.2.1,r10.2⟩:Name)))else(some (r9.1,(⟨y4.2.2.2.2.2.1,y4.2.2.2.2.2.2.1,y4.2.2.2.2.2.2.2.1,y4.2.2.2.2.2.2.2.2⟩:Name)))))else none)else none
def Z18.C (k:Nat):Cal->Option CArm:=λc=>match c with
 |.f 44=>some (.m (.bx .cur) [(.sl .str)] _ (λx0 x=>Z3.F x0 x.1) (λr=>.kep (.bx .cur r.1) (.t .str r.2)))
 |.f 43=>some (.m (.bx .cur) [(.int .i64)] _ (λx0 x=>Z0.F x0 x.1) (λr=>.kep (.bx .cur r.1) (.t (.int .i64) r.2)))
 |.f 21=>some (.m (.bx .cur) [(.int .i64)] _ (λx0 x=>Z27.F x0 x.1) (λr=>.kep (.bx .cur r.1) (.t .bool r.2)))
 |_=>none
def Z18.sp0:List Sp:=[.boxT 0 1099511627776 .cur,.boxF 2 0 .name [.t (.sl .str),.t .str,.t .str,.t .str],.boxF 3 1044 .name [.own 1099511627827 9 .str false true,.t .str,.t .str,.t .str],.t 4 (.int .i64)]
def Z18.sp0_0:List Sp:=[.boxT 0 1099511627776 .cur,.boxF 2 0 .name [.t (.sl .str),.t .str,.t .str,.t .str],.boxF 3 1044 .name [.own 1099511627827 9 .str false true,.t .str,.t .str,.t .str]]
def Z18.A0:LArm:=.one Z18.sp0 Z18.sp0_0 (Cur× (List ByteArray)×ByteArray×ByteArray×ByteArray× (List ByteArray)×ByteArray×ByteArray×ByteArray) (λk x=>Z18.l0 k x.1 x.2.1.1 x.2.1.2.1 x.2.1.2.2.1 x.2.1.2.2.2.1 x.2.2.1.1 x.2.2.1.2.1 x.2.2.1.2.2.1 x.2.2.1.2.2.2.1 x.2.2.2.1) (.exit 0) (λy=>(y.1,(y.2.1,y.2.2.1,y.2.2.2.1,y.2.2.2.2.1,()),(y.2.2.2.2.2.1,y.2.2.2.2.2.2.1,y.2.2.2.2.2.2.2.1,y.2.2.2.2.2.2.2.2,()),())) (λx=>(x.1,x.2.1.1,x.2.1.2.1,x.2.1.2.2.1,x.2.1.2.2.2.1,x.2.2.1.1,x.2.2.1.2.1,x.2.2.1.2.2.1,x.2.2.1.2.2.2.1))
def Z18.L:Nat->Option LArm:=λb=>match b with
 |0=>some Z18.A0
 |_=>none
theorem Z18.run (k:Nat)(a0:Cur):YP Q0 (Qf (Z18.C k)) (Qe 37 k Z18.L) Tryz.f87 Qd (.bx .cur a0) [] (Yb (.bx .cur) (Q6 (.sf .name 9)))=Z18.F k a0:=by kernel_rfl
theorem Z18.step0 (k:Nat)(x0:Cur)(x2_0:List ByteArray)(x2_1:ByteArray)(x2_2:ByteArray)(x2_3:ByteArray)(x3_0:List ByteArray)(x3_1:ByteArray)(x3_2:ByteArray)(x3_3:ByteArray)(x4:Int):QN Q0 (Qf (Z18.C k)) (Qe 37 k Z18.L) 0 (Qm Tryz.f87 0) (J6 37 Z18.sp0 (x0,(x2_0,x2_1,x2_2,x2_3,()),(x3_0,x3_1,x3_2,x3_3,()),x4,())) (Z18.A0.cont 37 k)=Z18.l0 (k+1) x0 x2_0 x2_1 x2_2 x2_3 x3_0 x3_1 x3_2 x3_3 x4:=by kernel_rfl
theorem Z18.G (hE:EnvOk Tryz.prog Q0)(pv:Nat->Value)(k:Nat):∀cal A,Z18.C k cal=some A->Qc Tryz.prog Q0 pv cal A:=by
 intro cal A h
 unfold Z18.C at h
 split at h
 ·cases h;exact⟨_,rfl,λx0 x y hy=>Z3.good hE pv x0 x.1 hy⟩
 ·cases h;exact⟨_,rfl,λx0 x y hy=>Z0.good hE pv x0 x.1 hy⟩
 ·cases h;exact⟨_,rfl,λx0 x y hy=>Z27.good hE pv x0 x.1 hy⟩
 ·cases h
theorem Z18.good (hE:EnvOk Tryz.prog Q0)(pv:Nat->Value)(k:Nat)(a0:Cur){y:_}(h:Z18.F k a0=some y):Qx Tryz.prog Q0 pv 87 (.bx .cur a0) (Q7 [] (())) (.kep (.bx .cur y.1) (sfV 9 .name y.2)):=
 YK hE (t:=Z18.C) k (λk _=>Z18.G hE pv k) (f:=87) (fn:=Tryz.f87) (by kernel_rfl) rfl (by kernel_rfl) (.inl rfl) (by kernel_rfl) (lt:=Z18.L) (by kernel_rfl) (λb A h=>by
  unfold Z18.L at h;split at h
  ·cases h;exact⟨by kernel_rfl,by kernel_rfl,λ_=>rfl,λ_=>rfl⟩
  ·cases h) (λb A h=>by
  unfold Z18.L at h;split at h
  ·cases h;exact λk x=>Z18.step0 k x.1 x.2.1.1 x.2.1.2.1 x.2.1.2.2.1 x.2.1.2.2.2.1 x.2.2.1.1 x.2.2.1.2.1 x.2.2.1.2.2.1 x.2.2.1.2.2.2.1 x.2.2.2.1
  ·cases h) ((Z18.run k a0).trans h) (λr hr=>QU (λr y h=>Q1 h) hr)
def Z16.l0:Nat->Cur->(List Name)->Int->Option (Cur× (List Name))
 |0,_,_,_=>none
 |k+1,x0,x3,x4=>bif (decide (x4 > 0))then((Z18.F k x0).bind λr2=>bif room (x3.length+([(⟨r2.2.given,r2.2.particle,r2.2.family,r2.2.suffix⟩:Name)]:List Name).length) .name then(Z16.l0 k r2.1 (x3++([(⟨r2.2.given,r2.2.particle,r2.2.family,r2.2.suffix⟩:Name)]:List Name)) (IntKind.wrap .i64 (x4-1)))else none)else(some (x0,x3))
def Z16.F (k:Nat)(a0:Cur):Option (Cur×List Name):=(Z0.F a0 4).bind λr1=>(Z16.l0 k r1.1 ([]:List Name) r1.2).bind λy3=>some (y3.1,y3.2)
def Z16.C (k:Nat):Cal->Option CArm:=λc=>match c with
 |.f 43=>some (.m (.bx .cur) [(.int .i64)] _ (λx0 x=>Z0.F x0 x.1) (λr=>.kep (.bx .cur r.1) (.t (.int .i64) r.2)))
 |.f 87=>some (.m (.bx .cur) [] _ (λx0 x=>Z18.F k x0) (λr=>.kep (.bx .cur r.1) (sfV 9 .name r.2)))
 |_=>none
def Z16.sp0:List Sp:=[.boxT 0 1099511627776 .cur,.own 3 1024 84 .name false true,.t 4 (.int .i64)]
def Z16.sp0_0:List Sp:=[.boxT 0 1099511627776 .cur,.own 3 1024 84 .name false true]
def Z16.A0:LArm:=.one Z16.sp0 Z16.sp0_0 (Cur× (List Name)) (λk x=>Z16.l0 k x.1 x.2.1 x.2.2.1) (.exit 0) (λy=>(y.1,y.2,())) (λx=>(x.1,x.2.1))
def Z16.L:Nat->Option LArm:=λb=>match b with
 |0=>some Z16.A0
 |_=>none
theorem Z16.run (k:Nat)(a0:Cur):YP Q0 (Qf (Z16.C k)) (Qe 18 k Z16.L) Tryz.f51 Qd (.bx .cur a0) [] (Yb (.bx .cur) (Q6 (.fr 84 .name)))=Z16.F k a0:=by kernel_rfl
theorem Z16.step0 (k:Nat)(x0:Cur)(x3:List Name)(x4:Int):QN Q0 (Qf (Z16.C k)) (Qe 18 k Z16.L) 0 (Qm Tryz.f51 0) (J6 18 Z16.sp0 (x0,x3,x4,())) (Z16.A0.cont 18 k)=Z16.l0 (k+1) x0 x3 x4:=by kernel_rfl
theorem Z16.G (hE:EnvOk Tryz.prog Q0)(pv:Nat->Value)(k:Nat):∀cal A,Z16.C k cal=some A->Qc Tryz.prog Q0 pv cal A:=by
 intro cal A h
 unfold Z16.C at h
 split at h
 ·cases h;exact⟨_,rfl,λx0 x y hy=>Z0.good hE pv x0 x.1 hy⟩
 ·cases h;exact⟨_,rfl,λx0 x y hy=>Z18.good hE pv k x0 hy⟩
 ·cases h
theorem Z16.good (hE:EnvOk Tryz.prog Q0)(pv:Nat->Value)(k:Nat)(a0:Cur){y:_}(h:Z16.F k a0=some y):Qx Tryz.prog Q0 pv 51 (.bx .cur a0) (Q7 [] (())) (.kep (.bx .cur y.1) (.fr 84 .name y.2)):=
 YK hE (t:=Z16.C) k (λk _=>Z16.G hE pv k) (f:=51) (fn:=Tryz.f51) (by kernel_rfl) rfl (by kernel_rfl) (.inl rfl) (by kernel_rfl) (lt:=Z16.L) (by kernel_rfl) (λb A h=>by
  unfold Z16.L at h;split at h
  ·cases h;exact⟨by kernel_rfl,by kernel_rfl,λ_=>rfl,λ_=>rfl⟩
  ·cases h) (λb A h=>by
  unfold Z16.L at h;split at h
  ·cases h;exact λk x=>Z16.step0 k x.1 x.2.1 x.2.2.1
  ·cases h) ((Z16.run k a0).trans h) (λr hr=>QU (λr y h=>Q1 h) hr)
def Z111.F:Option (List ByteArray):=some ([(⟨#[79,110,32,114,105,118,101,114,115]⟩:ByteArray),(⟨#[65,32,104,105,115,116,111,114,121,32,111,102,32,109,97,112,115]⟩:ByteArray),(⟨#[84,104,101,32,110,111,114,116,104]⟩:ByteArray),(⟨#[79,108,100,32,114,111,97,100,115,58,32,97,32,103,117,105,100,101]⟩:ByteArray),(⟨#[79,110,32,114,105,118,101,114,115]⟩:ByteArray),(⟨#[]⟩:ByteArray)]:List ByteArray)
def Z111.C:Cal->Option CArm:=λc=>match c with
 |_=>none
theorem Z111.run:Qq Q0 (Qf Z111.C) (Qe 2 0 (λ_=>none)) Tryz.f84 [] (Q6 (.fr 9 .str))=Z111.F:=by kernel_rfl
theorem Z111.G (hE:EnvOk Tryz.prog Q0)(pv:Nat->Value):∀cal A,Z111.C cal=some A->Qc Tryz.prog Q0 pv cal A:=by
 intro cal A h
 unfold Z111.C at h
 cases h
theorem Z111.good (hE:EnvOk Tryz.prog Q0)(pv:Nat->Value){y:_}(h:Z111.F=some y):Qb Tryz.prog Q0 pv (.f 84) (Q7 [] (())) (.fr 9 .str y):=
 Q8 hE (Z111.G hE pv) (f:=84) (fn:=Tryz.f84) (by kernel_rfl) rfl (by kernel_rfl) (by kernel_rfl) ((Z111.run).trans h) (λr hr=>Q1 hr)
def Z58.F (k:Nat)(a0:Cur):Option (Cur×Entry):=(Z3.F a0 ([(⟨#[97,49]⟩:ByteArray),(⟨#[98,50]⟩:ByteArray),(⟨#[99,51]⟩:ByteArray),(⟨#[100,52]⟩:ByteArray),(⟨#[101,53]⟩:ByteArray),(⟨#[102,54]⟩:ByteArray)]:List ByteArray)).bind λr1=>(Z0.F r1.1 4).bind λr2=>(Z16.F k r2.1).bind λr3=>(Z111.F).bind λr4=>(Z3.F r3.1 r4).bind λr5=>(Z55.F r5.1).bind λr6=>(Z27.F r6.1 3).bind λr7=>bif r7.2 then((Z16.F k r7.1).bind λr8=>(Z27.F r8.1 3).bind λr9=>bif (!r9.2)then((Z3.F r9.1 ([(⟨#[74,111,117,114,110,97,108,32,111,102,32,77,97,112,115]⟩:ByteArray),(⟨#[65,110,110,97,108,115]⟩:ByteArray),(⟨#[69,115,115,97,121,115,32,111,110,32,108,97,110,100]⟩:ByteArray)]:List ByteArray)).bind λr10=>(Z50.F r10.1 ([0,1,7,12,9999]:List Int)).bind λr11=>(Z3.F r11.1 ([(⟨#[]⟩:ByteArray),(⟨#[49,45,57]⟩:ByteArray),(⟨#[55,55]⟩:ByteArray),(⟨#[49,50,48,45,49,51,53]⟩:ByteArray)]:List ByteArray)).bind λr12=>(Z27.F r12.1 3).bind λr13=>bif (!r13.2)then((Z3.F r13.1 ([(⟨#[78,111,114,116,104,32,80,114,101,115,115]⟩:ByteArray),(⟨#[72,97,108,108]⟩:ByteArray),(⟨#[76,97,110,101,32,38,32,67,111]⟩:ByteArray)]:List ByteArray)).bind λr14=>(Z27.F r14.1 4).bind λr15=>bif r15.2 then((Z3.F r15.1 ([(⟨#[97,48]⟩:ByteArray),(⟨#[98,49]⟩:ByteArray),(⟨#[122,57]⟩:ByteArray)]:List ByteArray)).bind λr16=>some (r16.1,(⟨r1.2,(IntKind.wrap .i64 (1+r2.2)),r3.2,r8.2,r5.2,r10.2,r14.2,r6.2,r11.2,r12.2,r16.2⟩:Entry)))else(some (r15.1,(⟨r1.2,(IntKind.wrap .i64 (1+r2.2)),r3.2,r8.2,r5.2,r10.2,r14.2,r6.2,r11.2,r12.2,(⟨#[]⟩:ByteArray)⟩:Entry))))else((Z27.F r13.1 4).bind λr17=>bif r17.2 then((Z3.F r17.1 ([(⟨#[97,48]⟩:ByteArray),(⟨#[98,49]⟩:ByteArray),(⟨#[122,57]⟩:ByteArray)]:List ByteArray)).bind λr18=>some (r18.1,(⟨r1.2,(IntKind.wrap .i64 (1+r2.2)),r3.2,r8.2,r5.2,r10.2,(⟨#[]⟩:ByteArray),r6.2,r11.2,r12.2,r18.2⟩:Entry)))else(some (r17.1,(⟨r1.2,(IntKind.wrap .i64 (1+r2.2)),r3.2,r8.2,r5.2,r10.2,(⟨#[]⟩:ByteArray),r6.2,r11.2,r12.2,(⟨#[]⟩:ByteArray)⟩:Entry)))))else((Z27.F r9.1 3).bind λr19=>bif (!r19.2)then((Z3.F r19.1 ([(⟨#[78,111,114,116,104,32,80,114,101,115,115]⟩:ByteArray),(⟨#[72,97,108,108]⟩:ByteArray),(⟨#[76,97,110,101,32,38,32,67,111]⟩:ByteArray)]:List ByteArray)).bind λr20=>(Z27.F r20.1 4).bind λr21=>bif r21.2 then((Z3.F r21.1 ([(⟨#[97,48]⟩:ByteArray),(⟨#[98,49]⟩:ByteArray),(⟨#[122,57]⟩:ByteArray)]:List ByteArray)).bind λr22=>some (r22.1,(⟨r1.2,(IntKind.wrap .i64 (1+r2.2)),r3.2,r8.2,r5.2,(⟨#[]⟩:ByteArray),r20.2,r6.2,0,(⟨#[]⟩:ByteArray),r22.2⟩:Entry)))else(some (r21.1,(⟨r1.2,(IntKind.wrap .i64 (1+r2.2)),r3.2,r8.2,r5.2,(⟨#[]⟩:ByteArray),r20.2,r6.2,0,(⟨#[]⟩:ByteArray),(⟨#[]⟩:ByteArray)⟩:Entry))))else((Z27.F r19.1 4).bind λr23=>bif r23.2 then((Z3.F r23.1 ([(⟨#[97,48]⟩:ByteArray),(⟨#[98,49]⟩:ByteArray),(⟨#[122,57]⟩:ByteArray)]:List ByteArray)).bind λr24=>some (r24.1,(⟨r1.2,(IntKind.wrap .i64 (1+r2.2)),r3.2,r8.2,r5.2,(⟨#[]⟩:ByteArray),(⟨#[]⟩:ByteArray),r6.2,0,(⟨#[]⟩:ByteArray),r24.2⟩:Entry)))else(some (r23.1,(⟨r1.2,(IntKind.wrap .i64 (1+r2.2)),r3.2,r8.2,r5.2,(⟨#[]⟩:ByteArray),(⟨#[]⟩:ByteArray),r6.2,0,(⟨#[]⟩:ByteArray),(⟨#[]⟩:ByteArray)⟩:Entry))))))else((Z27.F r7.1 3).bind λr25=>bif (!r25.2)then((Z3.F r25.1 ([(⟨#[74,111,117,114,110,97,108,32,111,102,32,77,97,112,115]⟩:ByteArray),(⟨#[65,110,110,97,108,115]⟩:ByteArray),(⟨#[69,115,115,97,121,115,32,111,110,32,108,97,110,100]⟩:ByteArray)]:List ByteArray)).bind λr26=>(Z50.F r26.1 ([0,1,7,12,9999]:List Int)).bind λr27=>(Z3.F r27.1 ([(⟨#[]⟩:ByteArray),(⟨#[49,45,57]⟩:ByteArray),(⟨#[55,55]⟩:ByteArray),(⟨#[49,50,48,45,49,51,53]⟩:ByteArray)]:List ByteArray)).bind λr28=>(Z27.F r28.1 3).bind λr29=>bif (!r29.2)then((Z3.F r29.1 ([(⟨#[78,111,114,116,104,32,80,114,101,115,115]⟩:ByteArray),(⟨#[72,97,108,108]⟩:ByteArray),(⟨#[76,97,110,101,32,38,32,67,111]⟩:ByteArray)]:List ByteArray)).bind λr30=>(Z27.F r30.1 4).bind λr31=>bif r31.2 then((Z3.F r31.1 ([(⟨#[97,48]⟩:ByteArray),(⟨#[98,49]⟩:ByteArray),(⟨#[122,57]⟩:ByteArray)]:List ByteArray)).bind λr32=>some (r32.1,(⟨r1.2,(IntKind.wrap .i64 (1+r2.2)),r3.2,([]:List Name),r5.2,r26.2,r30.2,r6.2,r27.2,r28.2,r32.2⟩:Entry)))else(some (r31.1,(⟨r1.2,(IntKind.wrap .i64 (1+r2.2)),r3.2,([]:List Name),r5.2,r26.2,r30.2,r6.2,r27.2,r28.2,(⟨#[]⟩:ByteArray)⟩:Entry))))else((Z27.F r29.1 4).bind λr33=>bif r33.2 then((Z3.F r33.1 ([(⟨#[97,48]⟩:ByteArray),(⟨#[98,49]⟩:ByteArray),(⟨#[122,57]⟩:ByteArray)]:List ByteArray)).bind λr34=>some (r34.1,(⟨r1.2,(IntKind.wrap .i64 (1+r2.2)),r3.2,([]:List Name),r5.2,r26.2,(⟨#[]⟩:ByteArray),r6.2,r27.2,r28.2,r34.2⟩:Entry)))else(some (r33.1,(⟨r1.2,(IntKind.wrap .i64 (1+r2.2)),r3.2,([]:List Name),r5.2,r26.2,(⟨#[]⟩:ByteArray),r6.2,r27.2,r28.2,(⟨#[]⟩:ByteArray)⟩:Entry)))))else((Z27.F r25.1 3).bind λr35=>bif (!r35.2)then((Z3.F r35.1 ([(⟨#[78,111,114,116,104,32,80,114,101,115,115]⟩:ByteArray),(⟨#[72,97,108,108]⟩:ByteArray),(⟨#[76,97,110,101,32,38,32,67,111]⟩:ByteArray)]:List ByteArray)).bind λr36=>(Z27.F r36.1 4).bind λr37=>bif r37.2 then((Z3.F r37.1 ([(⟨#[97,48]⟩:ByteArray),(⟨#[98,49]⟩:ByteArray),(⟨#[122,57]⟩:ByteArray)]:List ByteArray)).bind λr38=>some (r38.1,(⟨r1.2,(IntKind.wrap .i64 (1+r2.2)),r3.2,([]:List Name),r5.2,(⟨#[]⟩:ByteArray),r36.2,r6.2,0,(⟨#[]⟩:ByteArray),r38.2⟩:Entry)))else(some (r37.1,(⟨r1.2,(IntKind.wrap .i64 (1+r2.2)),r3.2,([]:List Name),r5.2,(⟨#[]⟩:ByteArray),r36.2,r6.2,0,(⟨#[]⟩:ByteArray),(⟨#[]⟩:ByteArray)⟩:Entry))))else((Z27.F r35.1 4).bind λr39=>bif r39.2 then((Z3.F r39.1 ([(⟨#[97,48]⟩:ByteArray),(⟨#[98,49]⟩:ByteArray),(⟨#[122,57]⟩:ByteArray)]:List ByteArray)).bind λr40=>some (r40.1,(⟨r1.2,(IntKind.wrap .i64 (1+r2.2)),r3.2,([]:List Name),r5.2,(⟨#[]⟩:ByteArray),(⟨#[]⟩:ByteArray),r6.2,0,(⟨#[]⟩:ByteArray),r40.2⟩:Entry)))else(some (r39.1,(⟨r1.2,(IntKind.wrap .i64 (1+r2.2)),r3.2,([]:List Name),r5.2,(⟨#[]⟩:ByteArray),(⟨#[]⟩:ByteArray),r6.2,0,(⟨#[]⟩:ByteArray),(⟨#[]⟩:ByteArray)⟩:Entry))))))
def Z58.C (k:Nat):Cal->Option CArm:=λc=>match c with
 |.f 44=>some (.m (.bx .cur) [(.sl .str)] _ (λx0 x=>Z3.F x0 x.1) (λr=>.kep (.bx .cur r.1) (.t .str r.2)))
 |.f 43=>some (.m (.bx .cur) [(.int .i64)] _ (λx0 x=>Z0.F x0 x.1) (λr=>.kep (.bx .cur r.1) (.t (.int .i64) r.2)))
 |.f 51=>some (.m (.bx .cur) [] _ (λx0 x=>Z16.F k x0) (λr=>.kep (.bx .cur r.1) (.fr 84 .name r.2)))
 |.f 84=>some (.p [] _ (λx=>Z111.F) (λr=>(.fr 9 .str r)))
 |.f 50=>some (.m (.bx .cur) [] _ (λx0 x=>Z55.F x0) (λr=>.kep (.bx .cur r.1) (.t .date r.2)))
 |.f 21=>some (.m (.bx .cur) [(.int .i64)] _ (λx0 x=>Z27.F x0 x.1) (λr=>.kep (.bx .cur r.1) (.t .bool r.2)))
 |.f 47=>some (.m (.bx .cur) [(.sl (.int .i64))] _ (λx0 x=>Z50.F x0 x.1) (λr=>.kep (.bx .cur r.1) (.t (.int .i64) r.2)))
 |_=>none
theorem Z58.run (k:Nat)(a0:Cur):YP Q0 (Qf (Z58.C k)) (Qe 52 0 (λ_=>none)) Tryz.f42 Qd (.bx .cur a0) [] (Yb (.bx .cur) (Q6 (.t .entry)))=Z58.F k a0:=by kernel_rfl
theorem Z58.G (hE:EnvOk Tryz.prog Q0)(pv:Nat->Value)(k:Nat):∀cal A,Z58.C k cal=some A->Qc Tryz.prog Q0 pv cal A:=by
 intro cal A h
 unfold Z58.C at h
 split at h
 ·cases h;exact⟨_,rfl,λx0 x y hy=>Z3.good hE pv x0 x.1 hy⟩
 ·cases h;exact⟨_,rfl,λx0 x y hy=>Z0.good hE pv x0 x.1 hy⟩
 ·cases h;exact⟨_,rfl,λx0 x y hy=>Z16.good hE pv k x0 hy⟩
 ·cases h;exact λx y hy=>Z111.good hE pv hy
 ·cases h;exact⟨_,rfl,λx0 x y hy=>Z55.good hE pv x0 hy⟩
 ·cases h;exact⟨_,rfl,λx0 x y hy=>Z27.good hE pv x0 x.1 hy⟩
 ·cases h;exact⟨_,rfl,λx0 x y hy=>Z50.good hE pv x0 x.1 hy⟩
 ·cases h
theorem Z58.good (hE:EnvOk Tryz.prog Q0)(pv:Nat->Value)(k:Nat)(a0:Cur){y:_}(h:Z58.F k a0=some y):Qx Tryz.prog Q0 pv 42 (.bx .cur a0) (Q7 [] (())) (.kep (.bx .cur y.1) (.t .entry y.2)):=
 QQ hE (Z58.G hE pv k) (f:=42) (fn:=Tryz.f42) (by kernel_rfl) rfl (by kernel_rfl) (.inl rfl) (by kernel_rfl) ((Z58.run k a0).trans h) (λr hr=>QU (λr y h=>Q1 h) hr)
def Z90.F (k:Nat)(a0:Cur):Option (Cur×Name):=(Z18.F k a0).bind λr1=>(Z0.F r1.1 16).bind λr2=>bif (r2.2==0)then((Z3.F r2.1 ([(⟨#[]⟩:ByteArray),(⟨#[98,101,114,103]⟩:ByteArray),(⟨#[66,45]⟩:ByteArray),(⟨#[66,45,45,99]⟩:ByteArray),(⟨#[65,98,99,100,101,102,103,104,105,106,107,108]⟩:ByteArray),(⟨#[65,98,99,100,101,102,103,104,105,106,107,108,109]⟩:ByteArray),(⟨#[66,57]⟩:ByteArray)]:List ByteArray)).bind λr3=>some (r3.1,(⟨r1.2.given,r1.2.particle,r3.2,r1.2.suffix⟩:Name)))else(bif (r2.2==1)then((Z3.F r2.1 ([(⟨#[86,97,110]⟩:ByteArray),(⟨#[118,97,110,32,100,101,114,32,100,101]⟩:ByteArray),(⟨#[118,97,110,32]⟩:ByteArray),(⟨#[100,39]⟩:ByteArray),(⟨#[100,39,97]⟩:ByteArray),(⟨#[118,97,110,32,32,100,101,114]⟩:ByteArray)]:List ByteArray)).bind λr4=>some (r4.1,(⟨r1.2.given,r4.2,r1.2.family,r1.2.suffix⟩:Name)))else(bif (r2.2==2)then((Z3.F r2.1 ([(⟨#[45]⟩:ByteArray),(⟨#[74,32,114]⟩:ByteArray),(⟨#[120]⟩:ByteArray)]:List ByteArray)).bind λr5=>some (r5.1,(⟨r1.2.given,r1.2.particle,r1.2.family,r5.2⟩:Name)))else(bif (r2.2==3)then((Z3.F r2.1 ([(⟨#[97,110,110,97]⟩:ByteArray),(⟨#[]⟩:ByteArray),(⟨#[67]⟩:ByteArray),(⟨#[68,32,101]⟩:ByteArray)]:List ByteArray)).bind λr6=>bif room (r1.2.given.length+([r6.2,(⟨#[69,118,101]⟩:ByteArray)]:List ByteArray).length) .str then(some (r6.1,(⟨(r1.2.given++([r6.2,(⟨#[69,118,101]⟩:ByteArray)]:List ByteArray)),r1.2.particle,r1.2.family,r1.2.suffix⟩:Name)))else none)else(some (r2.1,(⟨r1.2.given,r1.2.particle,r1.2.family,r1.2.suffix⟩:Name))))))
def Z90.C (k:Nat):Cal->Option CArm:=λc=>match c with
 |.f 87=>some (.m (.bx .cur) [] _ (λx0 x=>Z18.F k x0) (λr=>.kep (.bx .cur r.1) (sfV 9 .name r.2)))
 |.f 43=>some (.m (.bx .cur) [(.int .i64)] _ (λx0 x=>Z0.F x0 x.1) (λr=>.kep (.bx .cur r.1) (.t (.int .i64) r.2)))
 |.f 44=>some (.m (.bx .cur) [(.sl .str)] _ (λx0 x=>Z3.F x0 x.1) (λr=>.kep (.bx .cur r.1) (.t .str r.2)))
 |_=>none
theorem Z90.run (k:Nat)(a0:Cur):YP Q0 (Qf (Z90.C k)) (Qe 37 0 (λ_=>none)) Tryz.f86 Qd (.bx .cur a0) [] (Yb (.bx .cur) (Q6 (.sf .name 9)))=Z90.F k a0:=by kernel_rfl
theorem Z90.G (hE:EnvOk Tryz.prog Q0)(pv:Nat->Value)(k:Nat):∀cal A,Z90.C k cal=some A->Qc Tryz.prog Q0 pv cal A:=by
 intro cal A h
 unfold Z90.C at h
 split at h
 ·cases h;exact⟨_,rfl,λx0 x y hy=>Z18.good hE pv k x0 hy⟩
 ·cases h;exact⟨_,rfl,λx0 x y hy=>Z0.good hE pv x0 x.1 hy⟩
 ·cases h;exact⟨_,rfl,λx0 x y hy=>Z3.good hE pv x0 x.1 hy⟩
 ·cases h
theorem Z90.good (hE:EnvOk Tryz.prog Q0)(pv:Nat->Value)(k:Nat)(a0:Cur){y:_}(h:Z90.F k a0=some y):Qx Tryz.prog Q0 pv 86 (.bx .cur a0) (Q7 [] (())) (.kep (.bx .cur y.1) (sfV 9 .name y.2)):=
 QQ hE (Z90.G hE pv k) (f:=86) (fn:=Tryz.f86) (by kernel_rfl) rfl (by kernel_rfl) (.inl rfl) (by kernel_rfl) ((Z90.run k a0).trans h) (λr hr=>QU (λr y h=>Q1 h) hr)
def Z38.l1:Nat->Cur->(List Name)->Option (Cur× (List Name))
 |0,_,_=>none
 |k+1,x0,x3=>(Z0.F x0 2).bind λr4=>bif (decide ((x3.length:Int)<(IntKind.wrap .i64 (4+r4.2))))then((Z18.F k r4.1).bind λr5=>bif room (x3.length+([(⟨r5.2.given,r5.2.particle,r5.2.family,r5.2.suffix⟩:Name)]:List Name).length) .name then(Z38.l1 k r5.1 (x3++([(⟨r5.2.given,r5.2.particle,r5.2.family,r5.2.suffix⟩:Name)]:List Name)))else none)else(some (r4.1,x3))
def Z38.F (k:Nat)(a0:Cur):Option (Cur×List Name):=(Z16.F k a0).bind λr1=>(Z0.F r1.1 12).bind λr2=>bif (r2.2==0)then((Z90.F k r2.1).bind λr3=>bif room (r1.2.length+([(⟨r3.2.given,r3.2.particle,r3.2.family,r3.2.suffix⟩:Name)]:List Name).length) .name then(some (r3.1,(r1.2++([(⟨r3.2.given,r3.2.particle,r3.2.family,r3.2.suffix⟩:Name)]:List Name))))else none)else(bif (r2.2==1)then((Z38.l1 k r2.1 r1.2).bind λy6=>some (y6.1,y6.2))else(some (r2.1,r1.2)))
def Z38.C (k:Nat):Cal->Option CArm:=λc=>match c with
 |.f 51=>some (.m (.bx .cur) [] _ (λx0 x=>Z16.F k x0) (λr=>.kep (.bx .cur r.1) (.fr 84 .name r.2)))
 |.f 43=>some (.m (.bx .cur) [(.int .i64)] _ (λx0 x=>Z0.F x0 x.1) (λr=>.kep (.bx .cur r.1) (.t (.int .i64) r.2)))
 |.f 86=>some (.m (.bx .cur) [] _ (λx0 x=>Z90.F k x0) (λr=>.kep (.bx .cur r.1) (sfV 9 .name r.2)))
 |.f 87=>some (.m (.bx .cur) [] _ (λx0 x=>Z18.F k x0) (λr=>.kep (.bx .cur r.1) (sfV 9 .name r.2)))
 |_=>none
def Z38.sp1:List Sp:=[.boxT 0 1099511627776 .cur,.own 3 1028 84 .name false true]
def Z38.sp1_0:List Sp:=[.boxT 0 1099511627776 .cur,.own 3 1028 84 .name false true]
def Z38.A1:LArm:=.one Z38.sp1 Z38.sp1_0 (Cur× (List Name)) (λk x=>Z38.l1 k x.1 x.2.1) (.exit 1) (λy=>(y.1,y.2,())) (λx=>(x.1,x.2.1))
def Z38.L:Nat->Option LArm:=λb=>match b with
 |1=>some Z38.A1
 |_=>none
theorem Z38.run (k:Nat)(a0:Cur):YP Q0 (Qf (Z38.C k)) (Qe 29 k Z38.L) Tryz.f45 Qd (.bx .cur a0) [] (Yb (.bx .cur) (Q6 (.fr 84 .name)))=Z38.F k a0:=by kernel_rfl
theorem Z38.step1 (k:Nat)(x0:Cur)(x3:List Name):QN Q0 (Qf (Z38.C k)) (Qe 29 k Z38.L) 1 (Qm Tryz.f45 1) (J6 29 Z38.sp1 (x0,x3,())) (Z38.A1.cont 29 k)=Z38.l1 (k+1) x0 x3:=by kernel_rfl
theorem Z38.G (hE:EnvOk Tryz.prog Q0)(pv:Nat->Value)(k:Nat):∀cal A,Z38.C k cal=some A->Qc Tryz.prog Q0 pv cal A:=by
 intro cal A h
 unfold Z38.C at h
 split at h
 ·cases h;exact⟨_,rfl,λx0 x y hy=>Z16.good hE pv k x0 hy⟩
 ·cases h;exact⟨_,rfl,λx0 x y hy=>Z0.good hE pv x0 x.1 hy⟩
 ·cases h;exact⟨_,rfl,λx0 x y hy=>Z90.good hE pv k x0 hy⟩
 ·cases h;exact⟨_,rfl,λx0 x y hy=>Z18.good hE pv k x0 hy⟩
 ·cases h
theorem Z38.good (hE:EnvOk Tryz.prog Q0)(pv:Nat->Value)(k:Nat)(a0:Cur){y:_}(h:Z38.F k a0=some y):Qx Tryz.prog Q0 pv 45 (.bx .cur a0) (Q7 [] (())) (.kep (.bx .cur y.1) (.fr 84 .name y.2)):=
 YK hE (t:=Z38.C) k (λk _=>Z38.G hE pv k) (f:=45) (fn:=Tryz.f45) (by kernel_rfl) rfl (by kernel_rfl) (.inl rfl) (by kernel_rfl) (lt:=Z38.L) (by kernel_rfl) (λb A h=>by
  unfold Z38.L at h;split at h
  ·cases h;exact⟨by kernel_rfl,by kernel_rfl,λ_=>rfl,λ_=>rfl⟩
  ·cases h) (λb A h=>by
  unfold Z38.L at h;split at h
  ·cases h;exact λk x=>Z38.step1 k x.1 x.2.1
  ·cases h) ((Z38.run k a0).trans h) (λr hr=>QU (λr y h=>Q1 h) hr)
def Z80.F (a0:Cur):Option (Cur×Date):=(Z55.F a0).bind λr1=>(Z0.F r1.1 14).bind λr2=>bif (r2.2==0)then((Z50.F r2.1 ([0,(-1),2999,3000,1]:List Int)).bind λr3=>some (r3.1,(⟨r3.2,r1.2.m,r1.2.d,r1.2.c⟩:Date)))else(bif (r2.2==1)then((Z50.F r2.1 ([13,(-1),2]:List Int)).bind λr4=>some (r4.1,(⟨r1.2.y,r4.2,r1.2.d,r1.2.c⟩:Date)))else(bif (r2.2==2)then((Z50.F r2.1 ([29,30,31,32,(-1)]:List Int)).bind λr5=>some (r5.1,(⟨r1.2.y,r1.2.m,r5.2,r1.2.c⟩:Date)))else(bif (r2.2==3)then(some (r2.1,(⟨r1.2.y,r1.2.m,r1.2.d,(!r1.2.c)⟩:Date)))else(some (r2.1,r1.2)))))
def Z80.C:Cal->Option CArm:=λc=>match c with
 |.f 50=>some (.m (.bx .cur) [] _ (λx0 x=>Z55.F x0) (λr=>.kep (.bx .cur r.1) (.t .date r.2)))
 |.f 43=>some (.m (.bx .cur) [(.int .i64)] _ (λx0 x=>Z0.F x0 x.1) (λr=>.kep (.bx .cur r.1) (.t (.int .i64) r.2)))
 |.f 47=>some (.m (.bx .cur) [(.sl (.int .i64))] _ (λx0 x=>Z50.F x0 x.1) (λr=>.kep (.bx .cur r.1) (.t (.int .i64) r.2)))
 |_=>none
theorem Z80.run (a0:Cur):YP Q0 (Qf Z80.C) (Qe 33 0 (λ_=>none)) Tryz.f46 Qd (.bx .cur a0) [] (Yb (.bx .cur) (Q6 (.t .date)))=Z80.F a0:=by kernel_rfl
theorem Z80.G (hE:EnvOk Tryz.prog Q0)(pv:Nat->Value):∀cal A,Z80.C cal=some A->Qc Tryz.prog Q0 pv cal A:=by
 intro cal A h
 unfold Z80.C at h
 split at h
 ·cases h;exact⟨_,rfl,λx0 x y hy=>Z55.good hE pv x0 hy⟩
 ·cases h;exact⟨_,rfl,λx0 x y hy=>Z0.good hE pv x0 x.1 hy⟩
 ·cases h;exact⟨_,rfl,λx0 x y hy=>Z50.good hE pv x0 x.1 hy⟩
 ·cases h
theorem Z80.good (hE:EnvOk Tryz.prog Q0)(pv:Nat->Value)(a0:Cur){y:_}(h:Z80.F a0=some y):Qx Tryz.prog Q0 pv 46 (.bx .cur a0) (Q7 [] (())) (.kep (.bx .cur y.1) (.t .date y.2)):=
 QQ hE (Z80.G hE pv) (f:=46) (fn:=Tryz.f46) (by kernel_rfl) rfl (by kernel_rfl) (.inl rfl) (by kernel_rfl) ((Z80.run a0).trans h) (λr hr=>QU (λr y h=>Q1 h) hr)
def Z54.F (k:Nat)(a0:Cur):Option (Cur×Entry):=(Z58.F k a0).bind λr1=>(Z0.F r1.1 24).bind λr2=>bif (r2.2==0)then((Z3.F r2.1 ([(⟨#[]⟩:ByteArray),(⟨#[65]⟩:ByteArray),(⟨#[49,97]⟩:ByteArray),(⟨#[97,98,99,100,101,102,103,104,105,106]⟩:ByteArray),(⟨#[97,98,99,100,101,102,103,104,105,106,107]⟩:ByteArray)]:List ByteArray)).bind λr3=>some (r3.1,(⟨r3.2,r1.2.kind,r1.2.authors,r1.2.editors,r1.2.title,r1.2.container,r1.2.publisher,r1.2.date,r1.2.volume,r1.2.pages,r1.2.cross⟩:Entry)))else(bif (r2.2==1)then((Z0.F r2.1 6).bind λr4=>some (r4.1,(⟨r1.2.key,r4.2,r1.2.authors,r1.2.editors,r1.2.title,r1.2.container,r1.2.publisher,r1.2.date,r1.2.volume,r1.2.pages,r1.2.cross⟩:Entry)))else(bif (r2.2==2)then((Z38.F k r2.1).bind λr5=>some (r5.1,(⟨r1.2.key,r1.2.kind,r5.2,r1.2.editors,r1.2.title,r1.2.container,r1.2.publisher,r1.2.date,r1.2.volume,r1.2.pages,r1.2.cross⟩:Entry)))else(bif (r2.2==3)then((Z3.F r2.1 ([(⟨#[32,120]⟩:ByteArray),(⟨#[120,32]⟩:ByteArray),(⟨#[97,9,98]⟩:ByteArray),(⟨#[48,49,50,51,52,53,54,55,56,57,48,49,50,51,52,53,54,55,56,57,48,49,50,51,52,53,54,55,56,57,48,49,50,51,52,53,54,55,56,57]⟩:ByteArray),(⟨#[48,49,50,51,52,53,54,55,56,57,48,49,50,51,52,53,54,55,56,57,48,49,50,51,52,53,54,55,56,57,48,49,50,51,52,53,54,55,56,57,48]⟩:ByteArray)]:List ByteArray)).bind λr6=>some (r6.1,(⟨r1.2.key,r1.2.kind,r1.2.authors,r1.2.editors,r6.2,r1.2.container,r1.2.publisher,r1.2.date,r1.2.volume,r1.2.pages,r1.2.cross⟩:Entry)))else(bif (r2.2==4)then((Z80.F r2.1).bind λr7=>some (r7.1,(⟨r1.2.key,r1.2.kind,r1.2.authors,r1.2.editors,r1.2.title,r1.2.container,r1.2.publisher,r7.2,r1.2.volume,r1.2.pages,r1.2.cross⟩:Entry)))else(bif (r2.2==5)then((Z50.F r2.1 ([(-1),10000]:List Int)).bind λr8=>some (r8.1,(⟨r1.2.key,r1.2.kind,r1.2.authors,r1.2.editors,r1.2.title,r1.2.container,r1.2.publisher,r1.2.date,r8.2,r1.2.pages,r1.2.cross⟩:Entry)))else(bif (r2.2==6)then((Z3.F r2.1 ([r1.2.key,(⟨#[65]⟩:ByteArray),(⟨#[98,50]⟩:ByteArray)]:List ByteArray)).bind λr9=>some (r9.1,(⟨r1.2.key,r1.2.kind,r1.2.authors,r1.2.editors,r1.2.title,r1.2.container,r1.2.publisher,r1.2.date,r1.2.volume,r1.2.pages,r9.2⟩:Entry)))else(bif (r2.2==7)then((Z38.F k r2.1).bind λr10=>some (r10.1,(⟨r1.2.key,r1.2.kind,r1.2.authors,r10.2,r1.2.title,r1.2.container,r1.2.publisher,r1.2.date,r1.2.volume,r1.2.pages,r1.2.cross⟩:Entry)))else(some (r2.1,r1.2)))))))))
def Z54.C (k:Nat):Cal->Option CArm:=λc=>match c with
 |.f 42=>some (.m (.bx .cur) [] _ (λx0 x=>Z58.F k x0) (λr=>.kep (.bx .cur r.1) (.t .entry r.2)))
 |.f 43=>some (.m (.bx .cur) [(.int .i64)] _ (λx0 x=>Z0.F x0 x.1) (λr=>.kep (.bx .cur r.1) (.t (.int .i64) r.2)))
 |.f 44=>some (.m (.bx .cur) [(.sl .str)] _ (λx0 x=>Z3.F x0 x.1) (λr=>.kep (.bx .cur r.1) (.t .str r.2)))
 |.f 45=>some (.m (.bx .cur) [] _ (λx0 x=>Z38.F k x0) (λr=>.kep (.bx .cur r.1) (.fr 84 .name r.2)))
 |.f 46=>some (.m (.bx .cur) [] _ (λx0 x=>Z80.F x0) (λr=>.kep (.bx .cur r.1) (.t .date r.2)))
 |.f 47=>some (.m (.bx .cur) [(.sl (.int .i64))] _ (λx0 x=>Z50.F x0 x.1) (λr=>.kep (.bx .cur r.1) (.t (.int .i64) r.2)))
 |_=>none
theorem Z54.run (k:Nat)(a0:Cur):YP Q0 (Qf (Z54.C k)) (Qe 55 0 (λ_=>none)) Tryz.f19 Qd (.bx .cur a0) [] (Yb (.bx .cur) (Q6 (.t .entry)))=Z54.F k a0:=by kernel_rfl
theorem Z54.G (hE:EnvOk Tryz.prog Q0)(pv:Nat->Value)(k:Nat):∀cal A,Z54.C k cal=some A->Qc Tryz.prog Q0 pv cal A:=by
 intro cal A h
 unfold Z54.C at h
 split at h
 ·cases h;exact⟨_,rfl,λx0 x y hy=>Z58.good hE pv k x0 hy⟩
 ·cases h;exact⟨_,rfl,λx0 x y hy=>Z0.good hE pv x0 x.1 hy⟩
 ·cases h;exact⟨_,rfl,λx0 x y hy=>Z3.good hE pv x0 x.1 hy⟩
 ·cases h;exact⟨_,rfl,λx0 x y hy=>Z38.good hE pv k x0 hy⟩
 ·cases h;exact⟨_,rfl,λx0 x y hy=>Z80.good hE pv x0 hy⟩
 ·cases h;exact⟨_,rfl,λx0 x y hy=>Z50.good hE pv x0 x.1 hy⟩
 ·cases h
theorem Z54.good (hE:EnvOk Tryz.prog Q0)(pv:Nat->Value)(k:Nat)(a0:Cur){y:_}(h:Z54.F k a0=some y):Qx Tryz.prog Q0 pv 19 (.bx .cur a0) (Q7 [] (())) (.kep (.bx .cur y.1) (.t .entry y.2)):=
 QQ hE (Z54.G hE pv k) (f:=19) (fn:=Tryz.f19) (by kernel_rfl) rfl (by kernel_rfl) (.inl rfl) (by kernel_rfl) ((Z54.run k a0).trans h) (λr hr=>QU (λr y h=>Q1 h) hr)
def Z7.l0:Nat->(List Name)->(List Name)->Int->Option ((List Name))
 |0,_,_,_=>none
 |k+1,x0,x3,x4=>bif (decide (x4<(x0.length:Int)))then(bif decide (0<=x4)then(bif decide (x4<(x0.length:Int))then(bif room (([]:List ByteArray).length+((x0.getD (x4:Int).toNat (Q2 .name)).given).length) .str then(bif room (x3.length+([(⟨(([]:List ByteArray)++((x0.getD (x4:Int).toNat (Q2 .name)).given)),(x0.getD (x4:Int).toNat (Q2 .name)).particle,(x0.getD (x4:Int).toNat (Q2 .name)).family,(x0.getD (x4:Int).toNat (Q2 .name)).suffix⟩:Name)]:List Name).length) .name then(Z7.l0 k x0 (x3++([(⟨(([]:List ByteArray)++((x0.getD (x4:Int).toNat (Q2 .name)).given)),(x0.getD (x4:Int).toNat (Q2 .name)).particle,(x0.getD (x4:Int).toNat (Q2 .name)).family,(x0.getD (x4:Int).toNat (Q2 .name)).suffix⟩:Name)]:List Name)) (IntKind.wrap .i64 (x4+1)))else none)else none)else none)else none)else(some x3)
def Z7.F (k:Nat)(a0:List Name):Option (List Name):=(Z7.l0 k a0 ([]:List Name) 0).bind λy1=>some y1
def Z7.C (k:Nat):Cal->Option CArm:=λc=>match c with
 |_=>none
def Z7.sp0:List Sp:=[.t 0 (.sl .name),.own 3 1024 84 .name false true,.t 4 (.int .i64)]
def Z7.sp0_0:List Sp:=[.own 3 1024 84 .name false true]
def Z7.A0:LArm:=.one Z7.sp0 Z7.sp0_0 ((List Name)) (λk x=>Z7.l0 k x.1 x.2.1 x.2.2.1) (.exit 0) (λy=>(y,())) (λx=>x.1)
def Z7.L:Nat->Option LArm:=λb=>match b with
 |0=>some Z7.A0
 |_=>none
theorem Z7.run (k:Nat)(a0:List Name):Qq Q0 (Qf (Z7.C k)) (Qe 27 k Z7.L) Tryz.f61 [.t (.sl .name) a0] (Q6 (.fr 84 .name))=Z7.F k a0:=by kernel_rfl
theorem Z7.step0 (k:Nat)(x0:List Name)(x3:List Name)(x4:Int):QN Q0 (Qf (Z7.C k)) (Qe 27 k Z7.L) 0 (Qm Tryz.f61 0) (J6 27 Z7.sp0 (x0,x3,x4,())) (Z7.A0.cont 27 k)=Z7.l0 (k+1) x0 x3 x4:=by kernel_rfl
theorem Z7.G (hE:EnvOk Tryz.prog Q0)(pv:Nat->Value)(k:Nat):∀cal A,Z7.C k cal=some A->Qc Tryz.prog Q0 pv cal A:=by
 intro cal A h
 unfold Z7.C at h
 cases h
theorem Z7.good (hE:EnvOk Tryz.prog Q0)(pv:Nat->Value)(k:Nat)(a0:List Name){y:_}(h:Z7.F k a0=some y):Qb Tryz.prog Q0 pv (.f 61) (Q7 [(.sl .name)] (a0,())) (.fr 84 .name y):=
 Qj hE (t:=Z7.C) k (λk _=>Z7.G hE pv k) (f:=61) (fn:=Tryz.f61) (by kernel_rfl) rfl (by kernel_rfl) (by kernel_rfl) (lt:=Z7.L) (by kernel_rfl) (λb A h=>by
  unfold Z7.L at h;split at h
  ·cases h;exact⟨by kernel_rfl,by kernel_rfl,λ_=>rfl,λ_=>rfl⟩
  ·cases h) (λb A h=>by
  unfold Z7.L at h;split at h
  ·cases h;exact λk x=>Z7.step0 k x.1 x.2.1 x.2.2.1
  ·cases h) ((Z7.run k a0).trans h) (λr hr=>Q1 hr)
def Z48.F (k:Nat)(a0:Entry):Option (Entry):=(Z7.F k a0.authors).bind λr1=>(Z7.F k a0.editors).bind λr2=>some (⟨a0.key,a0.kind,r1,r2,a0.title,a0.container,a0.publisher,a0.date,a0.volume,a0.pages,a0.cross⟩:Entry)
def Z48.C (k:Nat):Cal->Option CArm:=λc=>match c with
 |.f 61=>some (.p [(.sl .name)] _ (λx=>Z7.F k x.1) (λr=>(.fr 84 .name r)))
 |_=>none
theorem Z48.run (k:Nat)(a0:Entry):Qq Q0 (Qf (Z48.C k)) (Qe 12 0 (λ_=>none)) Tryz.f41 [.t .entry a0] (Q6 (.t .entry))=Z48.F k a0:=by kernel_rfl
theorem Z48.G (hE:EnvOk Tryz.prog Q0)(pv:Nat->Value)(k:Nat):∀cal A,Z48.C k cal=some A->Qc Tryz.prog Q0 pv cal A:=by
 intro cal A h
 unfold Z48.C at h
 split at h
 ·cases h;exact λx y hy=>Z7.good hE pv k x.1 hy
 ·cases h
theorem Z48.good (hE:EnvOk Tryz.prog Q0)(pv:Nat->Value)(k:Nat)(a0:Entry){y:_}(h:Z48.F k a0=some y):Qb Tryz.prog Q0 pv (.f 41) (Q7 [.entry] (a0,())) (.t .entry y):=
 Q8 hE (Z48.G hE pv k) (f:=41) (fn:=Tryz.f41) (by kernel_rfl) rfl (by kernel_rfl) (by kernel_rfl) ((Z48.run k a0).trans h) (λr hr=>Q1 hr)
def Z91.F (a0:Cur)(a1:ByteArray)(a2:ByteArray):Option (Cur×ByteArray):=bif (Q3 a1 (⟨#[]⟩:ByteArray))then(bif decide (0<=1)then(bif decide (1<=(a2.size:Int))then(some (a0,(a2.extract 0 (1:Int).toNat)))else none)else none)else((Z0.F a0 (a1.size:Int)).bind λr1=>(Z0.F r1.1 (a2.size:Int)).bind λr2=>bif decide (0<=r2.2)then(bif decide (r2.2<=(a2.size:Int))then(bif decide (0<=1)then(bif decide (1<=((a2.extract (r2.2:Int).toNat a2.size).size:Int))then((Z0.F r2.1 3).bind λr3=>bif (r3.2==0)then(bif decide (0<=r1.2)then(bif decide (r1.2<=(a1.size:Int))then(bif Nat.ble ((a1.extract 0 (r1.2:Int).toNat).size+((a2.extract (r2.2:Int).toNat a2.size).extract 0 (1:Int).toNat).size) 9223372036854775807 then(bif decide (0<=r1.2)then(bif decide (r1.2<=(a1.size:Int))then(bif Nat.ble (((a1.extract 0 (r1.2:Int).toNat)++((a2.extract (r2.2:Int).toNat a2.size).extract 0 (1:Int).toNat)).size+(a1.extract (r1.2:Int).toNat a1.size).size) 9223372036854775807 then(some (r3.1,(((a1.extract 0 (r1.2:Int).toNat)++((a2.extract (r2.2:Int).toNat a2.size).extract 0 (1:Int).toNat))++(a1.extract (r1.2:Int).toNat a1.size))))else none)else none)else none)else none)else none)else none)else(bif (r3.2==1)then(bif decide (0<=r1.2)then(bif decide (r1.2<=(a1.size:Int))then(bif Nat.ble ((a1.extract 0 (r1.2:Int).toNat).size+((a2.extract (r2.2:Int).toNat a2.size).extract 0 (1:Int).toNat).size) 9223372036854775807 then(bif decide (0<=(IntKind.wrap .i64 (r1.2+1)))then(bif decide ((IntKind.wrap .i64 (r1.2+1))<=(a1.size:Int))then(bif Nat.ble (((a1.extract 0 (r1.2:Int).toNat)++((a2.extract (r2.2:Int).toNat a2.size).extract 0 (1:Int).toNat)).size+(a1.extract ((IntKind.wrap .i64 (r1.2+1)):Int).toNat a1.size).size) 9223372036854775807 then(some (r3.1,(((a1.extract 0 (r1.2:Int).toNat)++((a2.extract (r2.2:Int).toNat a2.size).extract 0 (1:Int).toNat))++(a1.extract ((IntKind.wrap .i64 (r1.2+1)):Int).toNat a1.size))))else none)else none)else none)else none)else none)else none)else(bif decide (0<=r1.2)then(bif decide (r1.2<=(a1.size:Int))then(bif decide (0<=(IntKind.wrap .i64 (r1.2+1)))then(bif decide ((IntKind.wrap .i64 (r1.2+1))<=(a1.size:Int))then(bif Nat.ble ((a1.extract 0 (r1.2:Int).toNat).size+(a1.extract ((IntKind.wrap .i64 (r1.2+1)):Int).toNat a1.size).size) 9223372036854775807 then(some (r3.1,((a1.extract 0 (r1.2:Int).toNat)++(a1.extract ((IntKind.wrap .i64 (r1.2+1)):Int).toNat a1.size))))else none)else none)else none)else none)else none)))else none)else none)else none)else none)
def Z91.C:Cal->Option CArm:=λc=>match c with
 |.f 43=>some (.m (.bx .cur) [(.int .i64)] _ (λx0 x=>Z0.F x0 x.1) (λr=>.kep (.bx .cur r.1) (.t (.int .i64) r.2)))
 |_=>none
theorem Z91.run (a0:Cur)(a1:ByteArray)(a2:ByteArray):YP Q0 (Qf Z91.C) (Qe 57 0 (λ_=>none)) Tryz.f48 Qd (.bx .cur a0) [.t .str a1,.t .str a2] (Yb (.bx .cur) (Q6 (.t .str)))=Z91.F a0 a1 a2:=by kernel_rfl
theorem Z91.G (hE:EnvOk Tryz.prog Q0)(pv:Nat->Value):∀cal A,Z91.C cal=some A->Qc Tryz.prog Q0 pv cal A:=by
 intro cal A h
 unfold Z91.C at h
 split at h
 ·cases h;exact⟨_,rfl,λx0 x y hy=>Z0.good hE pv x0 x.1 hy⟩
 ·cases h
theorem Z91.good (hE:EnvOk Tryz.prog Q0)(pv:Nat->Value)(a0:Cur)(a1:ByteArray)(a2:ByteArray){y:_}(h:Z91.F a0 a1 a2=some y):Qx Tryz.prog Q0 pv 48 (.bx .cur a0) (Q7 [.str,.str] (a1,a2,())) (.kep (.bx .cur y.1) (.t .str y.2)):=
 QQ hE (Z91.G hE pv) (f:=48) (fn:=Tryz.f48) (by kernel_rfl) rfl (by kernel_rfl) (.inl rfl) (by kernel_rfl) ((Z91.run a0 a1 a2).trans h) (λr hr=>QU (λr y h=>Q1 h) hr)
def Z92.F (a0:Int):Option (Int):=bif (decide (a0 ≥ 65))then(bif (decide (a0<=90))then(some (IntKind.wrap .u8 (a0+32)))else(some a0))else(some a0)
def Z92.C:Cal->Option CArm:=λc=>match c with
 |_=>none
theorem Z92.run (a0:Int):Qq Q0 (Qf Z92.C) (Qe 12 0 (λ_=>none)) Tryz.f88 [.t (.int .u8) a0] (Q6 (.t (.int .u8)))=Z92.F a0:=by kernel_rfl
theorem Z92.G (hE:EnvOk Tryz.prog Q0)(pv:Nat->Value):∀cal A,Z92.C cal=some A->Qc Tryz.prog Q0 pv cal A:=by
 intro cal A h
 unfold Z92.C at h
 cases h
theorem Z92.good (hE:EnvOk Tryz.prog Q0)(pv:Nat->Value)(a0:Int){y:_}(h:Z92.F a0=some y):Qb Tryz.prog Q0 pv (.f 88) (Q7 [(.int .u8)] (a0,())) (.t (.int .u8) y):=
 Q8 hE (Z92.G hE pv) (f:=88) (fn:=Tryz.f88) (by kernel_rfl) rfl (by kernel_rfl) (by kernel_rfl) ((Z92.run a0).trans h) (λr hr=>Q1 hr)
def Z39.l0:Nat->ByteArray->(List Int)->Int->Option ((List Int))
 |0,_,_,_=>none
 |k+1,x0,x3,x4=>bif (decide (x4<(x0.size:Int)))then(bif decide (0<=x4)then(bif decide (x4<(x0.size:Int))then((Z92.F (bt x0 (x4:Int).toNat)).bind λr1=>bif room (x3.length+([r1]:List Int).length) (.int .u8)then(Z39.l0 k x0 (x3++([r1]:List Int)) (IntKind.wrap .i64 (x4+1)))else none)else none)else none)else(some x3)
def Z39.F (k:Nat)(a0:ByteArray):Option (ByteArray):=(Z39.l0 k a0 ([]:List Int) 0).bind λy2=>some (Q3M y2)
def Z39.C (k:Nat):Cal->Option CArm:=λc=>match c with
 |.f 88=>some (.p [(.int .u8)] _ (λx=>Z92.F x.1) (λr=>(.t (.int .u8) r)))
 |_=>none
def Z39.sp0:List Sp:=[.t 0 .str,.own 3 1024 5 (.int .u8) false true,.t 4 (.int .i64)]
def Z39.sp0_0:List Sp:=[.own 3 1024 5 (.int .u8) false true]
def Z39.A0:LArm:=.one Z39.sp0 Z39.sp0_0 ((List Int)) (λk x=>Z39.l0 k x.1 x.2.1 x.2.2.1) (.exit 0) (λy=>(y,())) (λx=>x.1)
def Z39.L:Nat->Option LArm:=λb=>match b with
 |0=>some Z39.A0
 |_=>none
theorem Z39.run (k:Nat)(a0:ByteArray):Qq Q0 (Qf (Z39.C k)) (Qe 21 k Z39.L) Tryz.f49 [.t .str a0] (Q6 (.t .str))=Z39.F k a0:=by kernel_rfl
theorem Z39.step0 (k:Nat)(x0:ByteArray)(x3:List Int)(x4:Int):QN Q0 (Qf (Z39.C k)) (Qe 21 k Z39.L) 0 (Qm Tryz.f49 0) (J6 21 Z39.sp0 (x0,x3,x4,())) (Z39.A0.cont 21 k)=Z39.l0 (k+1) x0 x3 x4:=by kernel_rfl
theorem Z39.G (hE:EnvOk Tryz.prog Q0)(pv:Nat->Value)(k:Nat):∀cal A,Z39.C k cal=some A->Qc Tryz.prog Q0 pv cal A:=by
 intro cal A h
 unfold Z39.C at h
 split at h
 ·cases h;exact λx y hy=>Z92.good hE pv x.1 hy
 ·cases h
theorem Z39.good (hE:EnvOk Tryz.prog Q0)(pv:Nat->Value)(k:Nat)(a0:ByteArray){y:_}(h:Z39.F k a0=some y):Qb Tryz.prog Q0 pv (.f 49) (Q7 [.str] (a0,())) (.t .str y):=
 Qj hE (t:=Z39.C) k (λk _=>Z39.G hE pv k) (f:=49) (fn:=Tryz.f49) (by kernel_rfl) rfl (by kernel_rfl) (by kernel_rfl) (lt:=Z39.L) (by kernel_rfl) (λb A h=>by
  unfold Z39.L at h;split at h
  ·cases h;exact⟨by kernel_rfl,by kernel_rfl,λ_=>rfl,λ_=>rfl⟩
  ·cases h) (λb A h=>by
  unfold Z39.L at h;split at h
  ·cases h;exact λk x=>Z39.step0 k x.1 x.2.1 x.2.2.1
  ·cases h) ((Z39.run k a0).trans h) (λr hr=>Q1 hr)
def Z59.F (k:Nat)(a0:Cur)(a1:Entry):Option (Cur×Entry):=(Z48.F k a1).bind λr1=>(Z0.F a0 8).bind λr2=>bif (r2.2==0)then((Z91.F r2.1 a1.title (⟨#[97,66,32,45]⟩:ByteArray)).bind λr3=>some (r3.1,(⟨r1.key,r1.kind,r1.authors,r1.editors,r3.2,r1.container,r1.publisher,r1.date,r1.volume,r1.pages,r1.cross⟩:Entry)))else(bif (r2.2==1)then((Z39.F k a1.title).bind λr4=>some (r2.1,(⟨r1.key,r1.kind,r1.authors,r1.editors,r4,r1.container,r1.publisher,r1.date,r1.volume,r1.pages,r1.cross⟩:Entry)))else(bif (r2.2==2)then((Z55.F r2.1).bind λr5=>some (r5.1,(⟨r1.key,r1.kind,r1.authors,r1.editors,r1.title,r1.container,r1.publisher,r5.2,r1.volume,r1.pages,r1.cross⟩:Entry)))else(bif (r2.2==3)then((Z16.F k r2.1).bind λr6=>some (r6.1,(⟨r1.key,r1.kind,r6.2,r1.editors,r1.title,r1.container,r1.publisher,r1.date,r1.volume,r1.pages,r1.cross⟩:Entry)))else(bif (r2.2==4)then((Z54.F k r2.1).bind λr7=>some (r7.1,r7.2))else(bif (r2.2==5)then(some (r2.1,(⟨r1.key,r1.kind,r1.authors,r1.editors,r1.title,r1.container,(⟨#[]⟩:ByteArray),r1.date,0,r1.pages,r1.cross⟩:Entry)))else(some (r2.1,r1)))))))
def Z59.C (k:Nat):Cal->Option CArm:=λc=>match c with
 |.f 41=>some (.p [.entry] _ (λx=>Z48.F k x.1) (λr=>(.t .entry r)))
 |.f 43=>some (.m (.bx .cur) [(.int .i64)] _ (λx0 x=>Z0.F x0 x.1) (λr=>.kep (.bx .cur r.1) (.t (.int .i64) r.2)))
 |.f 48=>some (.m (.bx .cur) [.str,.str] _ (λx0 x=>Z91.F x0 x.1 x.2.1) (λr=>.kep (.bx .cur r.1) (.t .str r.2)))
 |.f 49=>some (.p [.str] _ (λx=>Z39.F k x.1) (λr=>(.t .str r)))
 |.f 50=>some (.m (.bx .cur) [] _ (λx0 x=>Z55.F x0) (λr=>.kep (.bx .cur r.1) (.t .date r.2)))
 |.f 51=>some (.m (.bx .cur) [] _ (λx0 x=>Z16.F k x0) (λr=>.kep (.bx .cur r.1) (.fr 84 .name r.2)))
 |.f 19=>some (.m (.bx .cur) [] _ (λx0 x=>Z54.F k x0) (λr=>.kep (.bx .cur r.1) (.t .entry r.2)))
 |_=>none
theorem Z59.run (k:Nat)(a0:Cur)(a1:Entry):YP Q0 (Qf (Z59.C k)) (Qe 42 0 (λ_=>none)) Tryz.f20 Qd (.bx .cur a0) [.t .entry a1] (Yb (.bx .cur) (Q6 (.t .entry)))=Z59.F k a0 a1:=by kernel_rfl
theorem Z59.G (hE:EnvOk Tryz.prog Q0)(pv:Nat->Value)(k:Nat):∀cal A,Z59.C k cal=some A->Qc Tryz.prog Q0 pv cal A:=by
 intro cal A h
 unfold Z59.C at h
 split at h
 ·cases h;exact λx y hy=>Z48.good hE pv k x.1 hy
 ·cases h;exact⟨_,rfl,λx0 x y hy=>Z0.good hE pv x0 x.1 hy⟩
 ·cases h;exact⟨_,rfl,λx0 x y hy=>Z91.good hE pv x0 x.1 x.2.1 hy⟩
 ·cases h;exact λx y hy=>Z39.good hE pv k x.1 hy
 ·cases h;exact⟨_,rfl,λx0 x y hy=>Z55.good hE pv x0 hy⟩
 ·cases h;exact⟨_,rfl,λx0 x y hy=>Z16.good hE pv k x0 hy⟩
 ·cases h;exact⟨_,rfl,λx0 x y hy=>Z54.good hE pv k x0 hy⟩
 ·cases h
theorem Z59.good (hE:EnvOk Tryz.prog Q0)(pv:Nat->Value)(k:Nat)(a0:Cur)(a1:Entry){y:_}(h:Z59.F k a0 a1=some y):Qx Tryz.prog Q0 pv 20 (.bx .cur a0) (Q7 [.entry] (a1,())) (.kep (.bx .cur y.1) (.t .entry y.2)):=
 QQ hE (Z59.G hE pv k) (f:=20) (fn:=Tryz.f20) (by kernel_rfl) rfl (by kernel_rfl) (.inl rfl) (by kernel_rfl) ((Z59.run k a0 a1).trans h) (λr hr=>QU (λr y h=>Q1 h) hr)
def Z93.F (k:Nat)(a0:List Int):Option (Entry×Entry):=(Z54.F k (⟨a0,0,0⟩:Cur)).bind λr1=>(Z59.F k r1.1 r1.2).bind λr2=>(Z27.F r2.1 2).bind λr3=>bif r3.2 then((Z27.F r3.1 2).bind λr4=>bif r4.2 then(some ((⟨r1.2.key,r1.2.kind,([]:List Name),r1.2.editors,r1.2.title,r1.2.container,r1.2.publisher,r1.2.date,0,r1.2.pages,r1.2.cross⟩:Entry),(⟨(⟨#[111,116,104,101,114]⟩:ByteArray),r2.2.kind,r2.2.authors,r2.2.editors,r2.2.title,r2.2.container,r2.2.publisher,r2.2.date,r2.2.volume,r2.2.pages,r1.2.key⟩:Entry)))else(some (r1.2,(⟨(⟨#[111,116,104,101,114]⟩:ByteArray),r2.2.kind,r2.2.authors,r2.2.editors,r2.2.title,r2.2.container,r2.2.publisher,r2.2.date,r2.2.volume,r2.2.pages,r1.2.key⟩:Entry))))else((Z27.F r3.1 2).bind λr5=>bif r5.2 then(some ((⟨r1.2.key,r1.2.kind,([]:List Name),r1.2.editors,r1.2.title,r1.2.container,r1.2.publisher,r1.2.date,0,r1.2.pages,r1.2.cross⟩:Entry),r2.2))else(some (r1.2,r2.2)))
def Z93.C (k:Nat):Cal->Option CArm:=λc=>match c with
 |.f 19=>some (.m (.bx .cur) [] _ (λx0 x=>Z54.F k x0) (λr=>.kep (.bx .cur r.1) (.t .entry r.2)))
 |.f 20=>some (.m (.bx .cur) [.entry] _ (λx0 x=>Z59.F k x0 x.1) (λr=>.kep (.bx .cur r.1) (.t .entry r.2)))
 |.f 21=>some (.m (.bx .cur) [(.int .i64)] _ (λx0 x=>Z27.F x0 x.1) (λr=>.kep (.bx .cur r.1) (.t .bool r.2)))
 |_=>none
theorem Z93.run (k:Nat)(a0:List Int):Qq Q0 (Qf (Z93.C k)) (Qe 27 0 (λ_=>none)) Tryz.f5 [.t (.sl (.int .u8)) a0] (U6 (.t .entry) (.t .entry))=Z93.F k a0:=by kernel_rfl
theorem Z93.G (hE:EnvOk Tryz.prog Q0)(pv:Nat->Value)(k:Nat):∀cal A,Z93.C k cal=some A->Qc Tryz.prog Q0 pv cal A:=by
 intro cal A h
 unfold Z93.C at h
 split at h
 ·cases h;exact⟨_,rfl,λx0 x y hy=>Z54.good hE pv k x0 hy⟩
 ·cases h;exact⟨_,rfl,λx0 x y hy=>Z59.good hE pv k x0 x.1 hy⟩
 ·cases h;exact⟨_,rfl,λx0 x y hy=>Z27.good hE pv x0 x.1 hy⟩
 ·cases h
theorem Z93.good (hE:EnvOk Tryz.prog Q0)(pv:Nat->Value)(k:Nat)(a0:List Int){y:_}(h:Z93.F k a0=some y):Qb Tryz.prog Q0 pv (.f 5) (Q7 [(.sl (.int .u8))] (a0,())) (.tup [.t .entry y.1,.t .entry y.2]):=
 Q8 hE (Z93.G hE pv k) (f:=5) (fn:=Tryz.f5) (by kernel_rfl) rfl (by kernel_rfl) (by kernel_rfl) ((Z93.run k a0).trans h) (λr hr=>Yx hr)
def Z47.F (a0:Int)(a1:Int)(a2:Int):Option (Bool):=bif (decide (a0 ≥ a1))then(some (decide (a0<=a2)))else(some false)
def Z47.C:Cal->Option CArm:=λc=>match c with
 |_=>none
theorem Z47.run (a0:Int)(a1:Int)(a2:Int):Qq Q0 (Qf Z47.C) (Qe 15 0 (λ_=>none)) Tryz.f31 [.t (.int .i64) a0,.t (.int .i64) a1,.t (.int .i64) a2] (Q6 (.t .bool))=Z47.F a0 a1 a2:=by kernel_rfl
theorem Z47.G (hE:EnvOk Tryz.prog Q0)(pv:Nat->Value):∀cal A,Z47.C cal=some A->Qc Tryz.prog Q0 pv cal A:=by
 intro cal A h
 unfold Z47.C at h
 cases h
theorem Z47.good (hE:EnvOk Tryz.prog Q0)(pv:Nat->Value)(a0:Int)(a1:Int)(a2:Int){y:_}(h:Z47.F a0 a1 a2=some y):Qb Tryz.prog Q0 pv (.f 31) (Q7 [(.int .i64),(.int .i64),(.int .i64)] (a0,a1,a2,())) (.t .bool y):=
 Q8 hE (Z47.G hE pv) (f:=31) (fn:=Tryz.f31) (by kernel_rfl) rfl (by kernel_rfl) (by kernel_rfl) ((Z47.run a0 a1 a2).trans h) (λr hr=>Q1 hr)
def Z56.F (a0:Int):Option (Bool):=bif (decide (a0 ≥ 97))then(some (decide (a0<=122)))else(some false)
def Z56.C:Cal->Option CArm:=λc=>match c with
 |_=>none
theorem Z56.run (a0:Int):Qq Q0 (Qf Z56.C) (Qe 9 0 (λ_=>none)) Tryz.f66 [.t (.int .u8) a0] (Q6 (.t .bool))=Z56.F a0:=by kernel_rfl
theorem Z56.G (hE:EnvOk Tryz.prog Q0)(pv:Nat->Value):∀cal A,Z56.C cal=some A->Qc Tryz.prog Q0 pv cal A:=by
 intro cal A h
 unfold Z56.C at h
 cases h
theorem Z56.good (hE:EnvOk Tryz.prog Q0)(pv:Nat->Value)(a0:Int){y:_}(h:Z56.F a0=some y):Qb Tryz.prog Q0 pv (.f 66) (Q7 [(.int .u8)] (a0,())) (.t .bool y):=
 Q8 hE (Z56.G hE pv) (f:=66) (fn:=Tryz.f66) (by kernel_rfl) rfl (by kernel_rfl) (by kernel_rfl) ((Z56.run a0).trans h) (λr hr=>Q1 hr)
def Z94.F (a0:Int):Option (Bool):=bif (decide (a0 ≥ 48))then(some (decide (a0<=57)))else(some false)
def Z94.C:Cal->Option CArm:=λc=>match c with
 |_=>none
theorem Z94.run (a0:Int):Qq Q0 (Qf Z94.C) (Qe 9 0 (λ_=>none)) Tryz.f67 [.t (.int .u8) a0] (Q6 (.t .bool))=Z94.F a0:=by kernel_rfl
theorem Z94.G (hE:EnvOk Tryz.prog Q0)(pv:Nat->Value):∀cal A,Z94.C cal=some A->Qc Tryz.prog Q0 pv cal A:=by
 intro cal A h
 unfold Z94.C at h
 cases h
theorem Z94.good (hE:EnvOk Tryz.prog Q0)(pv:Nat->Value)(a0:Int){y:_}(h:Z94.F a0=some y):Qb Tryz.prog Q0 pv (.f 67) (Q7 [(.int .u8)] (a0,())) (.t .bool y):=
 Q8 hE (Z94.G hE pv) (f:=67) (fn:=Tryz.f67) (by kernel_rfl) rfl (by kernel_rfl) (by kernel_rfl) ((Z94.run a0).trans h) (λr hr=>Q1 hr)
def Z19.l0:Nat->ByteArray->Int->Option (Sum Bool Unit)
 |0,_,_=>none
 |k+1,x0,x3=>bif (decide (x3<(x0.size:Int)))then(bif decide (0<=x3)then(bif decide (x3<(x0.size:Int))then((Z56.F (bt x0 (x3:Int).toNat)).bind λr3=>bif (!r3)then(bif decide (0<=x3)then(bif decide (x3<(x0.size:Int))then((Z94.F (bt x0 (x3:Int).toNat)).bind λr4=>bif (!r4)then(some (.inl false))else(Z19.l0 k x0 (IntKind.wrap .i64 (x3+1))))else none)else none)else(Z19.l0 k x0 (IntKind.wrap .i64 (x3+1))))else none)else none)else(some (.inr ()))
def Z19.F (k:Nat)(a0:ByteArray):Option (Bool):=(Z47.F (a0.size:Int) 1 10).bind λr1=>bif (!r1)then(some false)else(bif decide (0<=0)then(bif decide (0<(a0.size:Int))then((Z56.F (bt a0 (0:Int).toNat)).bind λr2=>bif (!r2)then(some false)else((Z19.l0 k a0 0).bind λy5=>match y5 with|.inl z6=>some z6|.inr z6=>some true))else none)else none)
def Z19.C (k:Nat):Cal->Option CArm:=λc=>match c with
 |.f 31=>some (.p [(.int .i64),(.int .i64),(.int .i64)] _ (λx=>Z47.F x.1 x.2.1 x.2.2.1) (λr=>(.t .bool r)))
 |.f 66=>some (.p [(.int .u8)] _ (λx=>Z56.F x.1) (λr=>(.t .bool r)))
 |.f 67=>some (.p [(.int .u8)] _ (λx=>Z94.F x.1) (λr=>(.t .bool r)))
 |_=>none
def Z19.sp0:List Sp:=[.t 0 .str,.t 3 (.int .i64)]
def Z19.sp0_0:List Sp:=[.t 2 .bool]
def Z19.sp0_1:List Sp:=[]
def Z19.A0:LArm:=.two Z19.sp0 Z19.sp0_0 Z19.sp0_1 (Bool) (Unit) (λk x=>Z19.l0 k x.1 x.2.1) .ret (.exit 0) (λy=>(y,())) (λx=>x.1) (λy=>()) (λx=>())
def Z19.L:Nat->Option LArm:=λb=>match b with
 |0=>some Z19.A0
 |_=>none
theorem Z19.run (k:Nat)(a0:ByteArray):Qq Q0 (Qf (Z19.C k)) (Qe 32 k Z19.L) Tryz.f27 [.t .str a0] (Q6 (.t .bool))=Z19.F k a0:=by kernel_rfl
theorem Z19.step0 (k:Nat)(x0:ByteArray)(x3:Int):QN Q0 (Qf (Z19.C k)) (Qe 32 k Z19.L) 0 (Qm Tryz.f27 0) (J6 32 Z19.sp0 (x0,x3,())) (Z19.A0.cont 32 k)=Z19.l0 (k+1) x0 x3:=by kernel_rfl
theorem Z19.G (hE:EnvOk Tryz.prog Q0)(pv:Nat->Value)(k:Nat):∀cal A,Z19.C k cal=some A->Qc Tryz.prog Q0 pv cal A:=by
 intro cal A h
 unfold Z19.C at h
 split at h
 ·cases h;exact λx y hy=>Z47.good hE pv x.1 x.2.1 x.2.2.1 hy
 ·cases h;exact λx y hy=>Z56.good hE pv x.1 hy
 ·cases h;exact λx y hy=>Z94.good hE pv x.1 hy
 ·cases h
theorem Z19.good (hE:EnvOk Tryz.prog Q0)(pv:Nat->Value)(k:Nat)(a0:ByteArray){y:_}(h:Z19.F k a0=some y):Qb Tryz.prog Q0 pv (.f 27) (Q7 [.str] (a0,())) (.t .bool y):=
 Qj hE (t:=Z19.C) k (λk _=>Z19.G hE pv k) (f:=27) (fn:=Tryz.f27) (by kernel_rfl) rfl (by kernel_rfl) (by kernel_rfl) (lt:=Z19.L) (by kernel_rfl) (λb A h=>by
  unfold Z19.L at h;split at h
  ·cases h;exact⟨by kernel_rfl,by kernel_rfl,by kernel_rfl,λ_=>rfl,λ_=>rfl,λ_=>rfl⟩
  ·cases h) (λb A h=>by
  unfold Z19.L at h;split at h
  ·cases h;exact λk x=>Z19.step0 k x.1 x.2.1
  ·cases h) ((Z19.run k a0).trans h) (λr hr=>Q1 hr)
def Z107.F (a0:Int):Option (Bool):=(Z47.F a0 1 4).bind λr1=>some r1
def Z107.C:Cal->Option CArm:=λc=>match c with
 |.f 31=>some (.p [(.int .i64),(.int .i64),(.int .i64)] _ (λx=>Z47.F x.1 x.2.1 x.2.2.1) (λr=>(.t .bool r)))
 |_=>none
theorem Z107.run (a0:Int):Qq Q0 (Qf Z107.C) (Qe 5 0 (λ_=>none)) Tryz.f28 [.t (.int .i64) a0] (Q6 (.t .bool))=Z107.F a0:=by kernel_rfl
theorem Z107.G (hE:EnvOk Tryz.prog Q0)(pv:Nat->Value):∀cal A,Z107.C cal=some A->Qc Tryz.prog Q0 pv cal A:=by
 intro cal A h
 unfold Z107.C at h
 split at h
 ·cases h;exact λx y hy=>Z47.good hE pv x.1 x.2.1 x.2.2.1 hy
 ·cases h
theorem Z107.good (hE:EnvOk Tryz.prog Q0)(pv:Nat->Value)(a0:Int){y:_}(h:Z107.F a0=some y):Qb Tryz.prog Q0 pv (.f 28) (Q7 [(.int .i64)] (a0,())) (.t .bool y):=
 Q8 hE (Z107.G hE pv) (f:=28) (fn:=Tryz.f28) (by kernel_rfl) rfl (by kernel_rfl) (by kernel_rfl) ((Z107.run a0).trans h) (λr hr=>Q1 hr)
def Z60.F (a0:Int):Option (Bool):=bif (decide (a0 ≥ 65))then(some (decide (a0<=90)))else(some false)
def Z60.C:Cal->Option CArm:=λc=>match c with
 |_=>none
theorem Z60.run (a0:Int):Qq Q0 (Qf Z60.C) (Qe 9 0 (λ_=>none)) Tryz.f118 [.t (.int .u8) a0] (Q6 (.t .bool))=Z60.F a0:=by kernel_rfl
theorem Z60.G (hE:EnvOk Tryz.prog Q0)(pv:Nat->Value):∀cal A,Z60.C cal=some A->Qc Tryz.prog Q0 pv cal A:=by
 intro cal A h
 unfold Z60.C at h
 cases h
theorem Z60.good (hE:EnvOk Tryz.prog Q0)(pv:Nat->Value)(a0:Int){y:_}(h:Z60.F a0=some y):Qb Tryz.prog Q0 pv (.f 118) (Q7 [(.int .u8)] (a0,())) (.t .bool y):=
 Q8 hE (Z60.G hE pv) (f:=118) (fn:=Tryz.f118) (by kernel_rfl) rfl (by kernel_rfl) (by kernel_rfl) ((Z60.run a0).trans h) (λr hr=>Q1 hr)
def Z61.F (a0:Int):Option (Bool):=(Z60.F a0).bind λr1=>bif r1 then(some true)else((Z56.F a0).bind λr2=>some r2)
def Z61.C:Cal->Option CArm:=λc=>match c with
 |.f 118=>some (.p [(.int .u8)] _ (λx=>Z60.F x.1) (λr=>(.t .bool r)))
 |.f 66=>some (.p [(.int .u8)] _ (λx=>Z56.F x.1) (λr=>(.t .bool r)))
 |_=>none
theorem Z61.run (a0:Int):Qq Q0 (Qf Z61.C) (Qe 9 0 (λ_=>none)) Tryz.f120 [.t (.int .u8) a0] (Q6 (.t .bool))=Z61.F a0:=by kernel_rfl
theorem Z61.G (hE:EnvOk Tryz.prog Q0)(pv:Nat->Value):∀cal A,Z61.C cal=some A->Qc Tryz.prog Q0 pv cal A:=by
 intro cal A h
 unfold Z61.C at h
 split at h
 ·cases h;exact λx y hy=>Z60.good hE pv x.1 hy
 ·cases h;exact λx y hy=>Z56.good hE pv x.1 hy
 ·cases h
theorem Z61.good (hE:EnvOk Tryz.prog Q0)(pv:Nat->Value)(a0:Int){y:_}(h:Z61.F a0=some y):Qb Tryz.prog Q0 pv (.f 120) (Q7 [(.int .u8)] (a0,())) (.t .bool y):=
 Q8 hE (Z61.G hE pv) (f:=120) (fn:=Tryz.f120) (by kernel_rfl) rfl (by kernel_rfl) (by kernel_rfl) ((Z61.run a0).trans h) (λr hr=>Q1 hr)
def Z12.l0:Nat->ByteArray->Int->Option (Sum Bool Unit)
 |0,_,_=>none
 |k+1,x0,x3=>bif (decide (x3<(x0.size:Int)))then(bif decide (0<=x3)then(bif decide (x3<(x0.size:Int))then((Z61.F (bt x0 (x3:Int).toNat)).bind λr4=>bif (!r4)then(bif decide (0<=x3)then(bif decide (x3<(x0.size:Int))then(bif ((bt x0 (x3:Int).toNat) != 45)then(bif decide (0<=x3)then(bif decide (x3<(x0.size:Int))then(bif ((bt x0 (x3:Int).toNat) != 39)then(some (.inl false))else(bif decide (0<=(IntKind.wrap .i64 (x3-1)))then(bif decide ((IntKind.wrap .i64 (x3-1))<(x0.size:Int))then((Z61.F (bt x0 ((IntKind.wrap .i64 (x3-1)):Int).toNat)).bind λr5=>bif (!r5)then(some (.inl false))else(Z12.l0 k x0 (IntKind.wrap .i64 (x3+1))))else none)else none))else none)else none)else(bif decide (0<=(IntKind.wrap .i64 (x3-1)))then(bif decide ((IntKind.wrap .i64 (x3-1))<(x0.size:Int))then((Z61.F (bt x0 ((IntKind.wrap .i64 (x3-1)):Int).toNat)).bind λr6=>bif (!r6)then(some (.inl false))else(Z12.l0 k x0 (IntKind.wrap .i64 (x3+1))))else none)else none))else none)else none)else(Z12.l0 k x0 (IntKind.wrap .i64 (x3+1))))else none)else none)else(some (.inr ()))
def Z12.F (k:Nat)(a0:ByteArray):Option (Bool):=(Z47.F (a0.size:Int) 1 12).bind λr1=>bif (!r1)then(some false)else(bif decide (0<=(IntKind.wrap .i64 ((a0.size:Int)-1)))then(bif decide ((IntKind.wrap .i64 ((a0.size:Int)-1))<(a0.size:Int))then((Z61.F (bt a0 ((IntKind.wrap .i64 ((a0.size:Int)-1)):Int).toNat)).bind λr2=>bif (!r2)then(some false)else(bif decide (0<=0)then(bif decide (0<(a0.size:Int))then((Z61.F (bt a0 (0:Int).toNat)).bind λr3=>bif (!r3)then(some false)else((Z12.l0 k a0 0).bind λy7=>match y7 with|.inl z8=>some z8|.inr z8=>some true))else none)else none))else none)else none)
def Z12.C (k:Nat):Cal->Option CArm:=λc=>match c with
 |.f 31=>some (.p [(.int .i64),(.int .i64),(.int .i64)] _ (λx=>Z47.F x.1 x.2.1 x.2.2.1) (λr=>(.t .bool r)))
 |.f 120=>some (.p [(.int .u8)] _ (λx=>Z61.F x.1) (λr=>(.t .bool r)))
 |_=>none
def Z12.sp0:List Sp:=[.t 0 .str,.t 3 (.int .i64)]
def Z12.sp0_0:List Sp:=[.t 2 .bool]
def Z12.sp0_1:List Sp:=[]
def Z12.A0:LArm:=.two Z12.sp0 Z12.sp0_0 Z12.sp0_1 (Bool) (Unit) (λk x=>Z12.l0 k x.1 x.2.1) .ret (.exit 0) (λy=>(y,())) (λx=>x.1) (λy=>()) (λx=>())
def Z12.L:Nat->Option LArm:=λb=>match b with
 |0=>some Z12.A0
 |_=>none
theorem Z12.run (k:Nat)(a0:ByteArray):Qq Q0 (Qf (Z12.C k)) (Qe 54 k Z12.L) Tryz.f102 [.t .str a0] (Q6 (.t .bool))=Z12.F k a0:=by kernel_rfl
theorem Z12.step0 (k:Nat)(x0:ByteArray)(x3:Int):QN Q0 (Qf (Z12.C k)) (Qe 54 k Z12.L) 0 (Qm Tryz.f102 0) (J6 54 Z12.sp0 (x0,x3,())) (Z12.A0.cont 54 k)=Z12.l0 (k+1) x0 x3:=by kernel_rfl
theorem Z12.G (hE:EnvOk Tryz.prog Q0)(pv:Nat->Value)(k:Nat):∀cal A,Z12.C k cal=some A->Qc Tryz.prog Q0 pv cal A:=by
 intro cal A h
 unfold Z12.C at h
 split at h
 ·cases h;exact λx y hy=>Z47.good hE pv x.1 x.2.1 x.2.2.1 hy
 ·cases h;exact λx y hy=>Z61.good hE pv x.1 hy
 ·cases h
theorem Z12.good (hE:EnvOk Tryz.prog Q0)(pv:Nat->Value)(k:Nat)(a0:ByteArray){y:_}(h:Z12.F k a0=some y):Qb Tryz.prog Q0 pv (.f 102) (Q7 [.str] (a0,())) (.t .bool y):=
 Qj hE (t:=Z12.C) k (λk _=>Z12.G hE pv k) (f:=102) (fn:=Tryz.f102) (by kernel_rfl) rfl (by kernel_rfl) (by kernel_rfl) (lt:=Z12.L) (by kernel_rfl) (λb A h=>by
  unfold Z12.L at h;split at h
  ·cases h;exact⟨by kernel_rfl,by kernel_rfl,by kernel_rfl,λ_=>rfl,λ_=>rfl,λ_=>rfl⟩
  ·cases h) (λb A h=>by
  unfold Z12.L at h;split at h
  ·cases h;exact λk x=>Z12.step0 k x.1 x.2.1
  ·cases h) ((Z12.run k a0).trans h) (λr hr=>Q1 hr)
def Z70.F (k:Nat)(a0:ByteArray):Option (Bool):=(Z12.F k a0).bind λr1=>bif r1 then(bif decide (0<=0)then(bif decide (0<(a0.size:Int))then((Z60.F (bt a0 (0:Int).toNat)).bind λr2=>some r2)else none)else none)else(some false)
def Z70.C (k:Nat):Cal->Option CArm:=λc=>match c with
 |.f 102=>some (.p [.str] _ (λx=>Z12.F k x.1) (λr=>(.t .bool r)))
 |.f 118=>some (.p [(.int .u8)] _ (λx=>Z60.F x.1) (λr=>(.t .bool r)))
 |_=>none
theorem Z70.run (k:Nat)(a0:ByteArray):Qq Q0 (Qf (Z70.C k)) (Qe 10 0 (λ_=>none)) Tryz.f100 [.t .str a0] (Q6 (.t .bool))=Z70.F k a0:=by kernel_rfl
theorem Z70.G (hE:EnvOk Tryz.prog Q0)(pv:Nat->Value)(k:Nat):∀cal A,Z70.C k cal=some A->Qc Tryz.prog Q0 pv cal A:=by
 intro cal A h
 unfold Z70.C at h
 split at h
 ·cases h;exact λx y hy=>Z12.good hE pv k x.1 hy
 ·cases h;exact λx y hy=>Z60.good hE pv x.1 hy
 ·cases h
theorem Z70.good (hE:EnvOk Tryz.prog Q0)(pv:Nat->Value)(k:Nat)(a0:ByteArray){y:_}(h:Z70.F k a0=some y):Qb Tryz.prog Q0 pv (.f 100) (Q7 [.str] (a0,())) (.t .bool y):=
 Q8 hE (Z70.G hE pv k) (f:=100) (fn:=Tryz.f100) (by kernel_rfl) rfl (by kernel_rfl) (by kernel_rfl) ((Z70.run k a0).trans h) (λr hr=>Q1 hr)
def Z81.F (k:Nat)(a0:ByteArray):Option (Bool):=(Z70.F k a0).bind λr1=>some (!r1)
def Z81.C (k:Nat):Cal->Option CArm:=λc=>match c with
 |.f 100=>some (.p [.str] _ (λx=>Z70.F k x.1) (λr=>(.t .bool r)))
 |_=>none
theorem Z81.run (k:Nat)(a0:ByteArray):Qq Q0 (Qf (Z81.C k)) (Qe 6 0 (λ_=>none)) Tryz.f99 [.t .str a0] (Q6 (.t .bool))=Z81.F k a0:=by kernel_rfl
theorem Z81.G (hE:EnvOk Tryz.prog Q0)(pv:Nat->Value)(k:Nat):∀cal A,Z81.C k cal=some A->Qc Tryz.prog Q0 pv cal A:=by
 intro cal A h
 unfold Z81.C at h
 split at h
 ·cases h;exact λx y hy=>Z70.good hE pv k x.1 hy
 ·cases h
theorem Z81.good (hE:EnvOk Tryz.prog Q0)(pv:Nat->Value)(k:Nat)(a0:ByteArray){y:_}(h:Z81.F k a0=some y):Qb Tryz.prog Q0 pv (.f 99) (Q7 [.str] (a0,())) (.t .bool y):=
 Q8 hE (Z81.G hE pv k) (f:=99) (fn:=Tryz.f99) (by kernel_rfl) rfl (by kernel_rfl) (by kernel_rfl) ((Z81.run k a0).trans h) (λr hr=>Q1 hr)
def Z116.F (a0:ByteArray)(a1:ByteArray):Option (List ByteArray):=Q3p a0 a1
theorem Z116.good (hE:EnvOk Tryz.prog Q0)(pv:Nat->Value)(a0:ByteArray)(a1:ByteArray){y:_}(h:Z116.F a0 a1=some y):Qb Tryz.prog Q0 pv (.f 119) (Q7 [.str,.str] (a0,a1,())) (.fr 9 .str y):=
 Q7G (fn:=Tryz.f119) (by kernel_rfl) rfl (by kernel_rfl) (mx:=2) (by kernel_rfl) Tryz.strings_Split h
def Z1.l2:Nat->(List ByteArray)->ByteArray->Int->Int->Int->Option (Sum Bool ((List ByteArray)×Int×Int))
 |0,_,_,_,_,_=>none
 |k+1,x3,x5,x6,x12,x13=>bif (decide (x6<(x5.size:Int)))then(bif decide (0<=x6)then(bif decide (x6<(x5.size:Int))then((Z56.F (bt x5 (x6:Int).toNat)).bind λr3=>bif (!r3)then(some (.inl false))else(Z1.l2 k x3 x5 (IntKind.wrap .i64 (x6+1)) x12 x13))else none)else none)else(some (.inr (x3,x12,x13)))
def Z1.l0:Nat->(List ByteArray)->Int->Int->Option (Sum Bool (List ByteArray))
 |0,_,_,_=>none
 |k+1,x3,x12,x13=>bif (decide (x13<x12))then(bif decide (0<=x13)then(bif decide (x13<(x3.length:Int))then((Z47.F ((x3.getD ((x13:Int).toNat) (⟨#[]⟩:ByteArray)).size:Int) 1 12).bind λr2=>bif (!r2)then(some (.inl false))else((Z1.l2 k x3 (x3.getD ((x13:Int).toNat) (⟨#[]⟩:ByteArray)) 0 x12 x13).bind λy4=>match y4 with|.inl z5=>some (.inl z5)|.inr z5=>Z1.l0 k z5.1 z5.2.1 (IntKind.wrap .i64 (z5.2.2+1))))else none)else none)else(some (.inr x3))
def Z1.F (k:Nat)(a0:ByteArray):Option (Bool):=bif (Q3 a0 (⟨#[]⟩:ByteArray))then(some true)else((Z116.F a0 (⟨#[32]⟩:ByteArray)).bind λr1=>(Z1.l0 k r1 (r1.length:Int) 0).bind λy6=>match y6 with|.inl z7=>some z7|.inr z7=>some (decide ((z7.length:Int)<=2)))
def Z1.C (k:Nat):Cal->Option CArm:=λc=>match c with
 |.f 119=>some (.p [.str,.str] _ (λx=>Z116.F x.1 x.2.1) (λr=>(.fr 9 .str r)))
 |.f 31=>some (.p [(.int .i64),(.int .i64),(.int .i64)] _ (λx=>Z47.F x.1 x.2.1 x.2.2.1) (λr=>(.t .bool r)))
 |.f 66=>some (.p [(.int .u8)] _ (λx=>Z56.F x.1) (λr=>(.t .bool r)))
 |_=>none
def Z1.sp2:List Sp:=[.own 3 3076 9 .str false true,.t 5 .str,.t 6 (.int .i64),.con 11 (.own 3076),.t 12 (.int .i64),.t 13 (.int .i64)]
def Z1.sp2_0:List Sp:=[.t 2 .bool]
def Z1.sp2_1:List Sp:=[.own 3 3076 9 .str false true,.con 11 (.own 3076),.t 12 (.int .i64),.t 13 (.int .i64)]
def Z1.A2:LArm:=.two Z1.sp2 Z1.sp2_0 Z1.sp2_1 (Bool) ((List ByteArray)×Int×Int) (λk x=>Z1.l2 k x.1 x.2.1 x.2.2.1 x.2.2.2.2.1 x.2.2.2.2.2.1) .ret (.exit 2) (λy=>(y,())) (λx=>x.1) (λy=>(y.1,(),y.2.1,y.2.2,())) (λx=>(x.1,x.2.2.1,x.2.2.2.1))
def Z1.sp0:List Sp:=[.own 3 3076 9 .str false true,.con 11 (.own 3076),.t 12 (.int .i64),.t 13 (.int .i64)]
def Z1.sp0_0:List Sp:=[.t 2 .bool]
def Z1.sp0_1:List Sp:=[.own 3 3076 9 .str false true]
def Z1.A0:LArm:=.two Z1.sp0 Z1.sp0_0 Z1.sp0_1 (Bool) ((List ByteArray)) (λk x=>Z1.l0 k x.1 x.2.2.1 x.2.2.2.1) .ret (.exit 0) (λy=>(y,())) (λx=>x.1) (λy=>(y,())) (λx=>x.1)
def Z1.L:Nat->Option LArm:=λb=>match b with
 |2=>some Z1.A2
 |0=>some Z1.A0
 |_=>none
theorem Z1.run (k:Nat)(a0:ByteArray):Qq Q0 (Qf (Z1.C k)) (Qe 36 k Z1.L) Tryz.f101 [.t .str a0] (Q6 (.t .bool))=Z1.F k a0:=by kernel_rfl
theorem Z1.step2 (k:Nat)(x3:List ByteArray)(x5:ByteArray)(x6:Int)(x12:Int)(x13:Int):QN Q0 (Qf (Z1.C k)) (Qe 36 k Z1.L) 2 (Qm Tryz.f101 2) (J6 36 Z1.sp2 (x3,x5,x6,(),x12,x13,())) (Z1.A2.cont 36 k)=Z1.l2 (k+1) x3 x5 x6 x12 x13:=by kernel_rfl
theorem Z1.step0 (k:Nat)(x3:List ByteArray)(x12:Int)(x13:Int):QN Q0 (Qf (Z1.C k)) (Qe 36 k Z1.L) 0 (Qm Tryz.f101 0) (J6 36 Z1.sp0 (x3,(),x12,x13,())) (Z1.A0.cont 36 k)=Z1.l0 (k+1) x3 x12 x13:=by kernel_rfl
theorem Z1.G (hE:EnvOk Tryz.prog Q0)(pv:Nat->Value)(k:Nat):∀cal A,Z1.C k cal=some A->Qc Tryz.prog Q0 pv cal A:=by
 intro cal A h
 unfold Z1.C at h
 split at h
 ·cases h;exact λx y hy=>Z116.good hE pv x.1 x.2.1 hy
 ·cases h;exact λx y hy=>Z47.good hE pv x.1 x.2.1 x.2.2.1 hy
 ·cases h;exact λx y hy=>Z56.good hE pv x.1 hy
 ·cases h
theorem Z1.good (hE:EnvOk Tryz.prog Q0)(pv:Nat->Value)(k:Nat)(a0:ByteArray){y:_}(h:Z1.F k a0=some y):Qb Tryz.prog Q0 pv (.f 101) (Q7 [.str] (a0,())) (.t .bool y):=
 Qj hE (t:=Z1.C) k (λk _=>Z1.G hE pv k) (f:=101) (fn:=Tryz.f101) (by kernel_rfl) rfl (by kernel_rfl) (by kernel_rfl) (lt:=Z1.L) (by kernel_rfl) (λb A h=>by
  unfold Z1.L at h;split at h
  ·cases h;exact⟨by kernel_rfl,by kernel_rfl,by kernel_rfl,λ_=>rfl,λ_=>rfl,λ_=>rfl⟩
  ·cases h;exact⟨by kernel_rfl,by kernel_rfl,by kernel_rfl,λ_=>rfl,λ_=>rfl,λ_=>rfl⟩
  ·cases h) (λb A h=>by
  unfold Z1.L at h;split at h
  ·cases h;exact λk x=>Z1.step2 k x.1 x.2.1 x.2.2.1 x.2.2.2.2.1 x.2.2.2.2.2.1
  ·cases h;exact λk x=>Z1.step0 k x.1 x.2.2.1 x.2.2.2.1
  ·cases h) ((Z1.run k a0).trans h) (λr hr=>Q1 hr)
def Z40.l0:Nat->(List ByteArray)->Int->Int->Option (Sum Int Unit)
 |0,_,_,_=>none
 |k+1,x0,x7,x8=>bif (decide (x8<x7))then(bif decide (0<=x8)then(bif decide (x8<(x0.length:Int))then((Z81.F k (x0.getD (x8:Int).toNat (⟨#[]⟩:ByteArray))).bind λr1=>bif r1 then(some (.inl x8))else(Z40.l0 k x0 x7 (IntKind.wrap .i64 (x8+1))))else none)else none)else(some (.inr ()))
def Z40.F (k:Nat)(a0:List ByteArray):Option (Int):=(Z40.l0 k a0 (a0.length:Int) 0).bind λy2=>match y2 with|.inl z3=>some z3|.inr z3=>some (-1)
def Z40.C (k:Nat):Cal->Option CArm:=λc=>match c with
 |.f 99=>some (.p [.str] _ (λx=>Z81.F k x.1) (λr=>(.t .bool r)))
 |_=>none
def Z40.sp0:List Sp:=[.t 0 (.sl .str),.con 1 (.clo 99),.t 7 (.int .i64),.t 8 (.int .i64)]
def Z40.sp0_0:List Sp:=[.t 4 (.int .i64)]
def Z40.sp0_1:List Sp:=[]
def Z40.A0:LArm:=.two Z40.sp0 Z40.sp0_0 Z40.sp0_1 (Int) (Unit) (λk x=>Z40.l0 k x.1 x.2.2.1 x.2.2.2.1) .ret (.exit 0) (λy=>(y,())) (λx=>x.1) (λy=>()) (λx=>())
def Z40.L:Nat->Option LArm:=λb=>match b with
 |0=>some Z40.A0
 |_=>none
theorem Z40.run (k:Nat)(a0:List ByteArray):Qq Q0 (Qf (Z40.C k)) (Qe 19 k Z40.L) Tryz.f117 [.t (.sl .str) a0,.clo 99 []] (Q6 (.t (.int .i64)))=Z40.F k a0:=by kernel_rfl
theorem Z40.step0 (k:Nat)(x0:List ByteArray)(x7:Int)(x8:Int):QN Q0 (Qf (Z40.C k)) (Qe 19 k Z40.L) 0 (Qm Tryz.f117 0) (J6 19 Z40.sp0 (x0,(),x7,x8,())) (Z40.A0.cont 19 k)=Z40.l0 (k+1) x0 x7 x8:=by kernel_rfl
theorem Z40.G (hE:EnvOk Tryz.prog Q0)(pv:Nat->Value)(k:Nat):∀cal A,Z40.C k cal=some A->Qc Tryz.prog Q0 pv cal A:=by
 intro cal A h
 unfold Z40.C at h
 split at h
 ·cases h;exact λx y hy=>Z81.good hE pv k x.1 hy
 ·cases h
theorem Z40.good (hE:EnvOk Tryz.prog Q0)(pv:Nat->Value)(k:Nat)(a0:List ByteArray){y:_}(h:Z40.F k a0=some y):Qb Tryz.prog Q0 pv (.f 117) (YX [.t (.sl .str),.clo 99 []] (a0,(()),())) (.t (.int .i64) y):=
 Qj hE (t:=Z40.C) k (λk _=>Z40.G hE pv k) (f:=117) (fn:=Tryz.f117) (by kernel_rfl) rfl (by kernel_rfl) (by kernel_rfl) (lt:=Z40.L) (by kernel_rfl) (λb A h=>by
  unfold Z40.L at h;split at h
  ·cases h;exact⟨by kernel_rfl,by kernel_rfl,by kernel_rfl,λ_=>rfl,λ_=>rfl,λ_=>rfl⟩
  ·cases h) (λb A h=>by
  unfold Z40.L at h;split at h
  ·cases h;exact λk x=>Z40.step0 k x.1 x.2.2.1 x.2.2.2.1
  ·cases h) ((Z40.run k a0).trans h) (λr hr=>Q1 hr)
def Z108.F (k:Nat)(a0:List ByteArray):Option (Bool):=(Z40.F k a0).bind λr1=>some (decide (r1 ≥ 0))
def Z108.C (k:Nat):Cal->Option CArm:=λc=>match c with
 |.f 117=>some (.q [.t (.sl .str),.clo 99 []] _ (λx=>Z40.F k x.1) (λr=>(.t (.int .i64) r)))
 |_=>none
theorem Z108.run (k:Nat)(a0:List ByteArray):Qq Q0 (Qf (Z108.C k)) (Qe 9 0 (λ_=>none)) Tryz.f98 [.t (.sl .str) a0,.clo 99 []] (Q6 (.t .bool))=Z108.F k a0:=by kernel_rfl
theorem Z108.G (hE:EnvOk Tryz.prog Q0)(pv:Nat->Value)(k:Nat):∀cal A,Z108.C k cal=some A->Qc Tryz.prog Q0 pv cal A:=by
 intro cal A h
 unfold Z108.C at h
 split at h
 ·cases h;exact λx y hy=>Z40.good hE pv k x.1 hy
 ·cases h
theorem Z108.good (hE:EnvOk Tryz.prog Q0)(pv:Nat->Value)(k:Nat)(a0:List ByteArray){y:_}(h:Z108.F k a0=some y):Qb Tryz.prog Q0 pv (.f 98) (YX [.t (.sl .str),.clo 99 []] (a0,(()),())) (.t .bool y):=
 Q8 hE (Z108.G hE pv k) (f:=98) (fn:=Tryz.f98) (by kernel_rfl) rfl (by kernel_rfl) (by kernel_rfl) ((Z108.run k a0).trans h) (λr hr=>Q1 hr)
def Z95.F (k:Nat)(a0:Name):Option (Bool):=bif (decide ((a0.given.length:Int) > 3))then(some false)else((Z108.F k a0.given).bind λr1=>bif r1 then(some false)else((Z1.F k a0.particle).bind λr2=>bif r2 then((Z70.F k a0.family).bind λr3=>bif r3 then(bif (Q3 a0.suffix (⟨#[]⟩:ByteArray))then(some true)else((Z12.F k a0.suffix).bind λr4=>some r4))else(some false))else(some false)))
def Z95.C (k:Nat):Cal->Option CArm:=λc=>match c with
 |.f 98=>some (.q [.t (.sl .str),.clo 99 []] _ (λx=>Z108.F k x.1) (λr=>(.t .bool r)))
 |.f 101=>some (.p [.str] _ (λx=>Z1.F k x.1) (λr=>(.t .bool r)))
 |.f 100=>some (.p [.str] _ (λx=>Z70.F k x.1) (λr=>(.t .bool r)))
 |.f 102=>some (.p [.str] _ (λx=>Z12.F k x.1) (λr=>(.t .bool r)))
 |_=>none
theorem Z95.run (k:Nat)(a0:Name):Qq Q0 (Qf (Z95.C k)) (Qe 30 0 (λ_=>none)) Tryz.f70 [.t .name a0] (Q6 (.t .bool))=Z95.F k a0:=by kernel_rfl
theorem Z95.G (hE:EnvOk Tryz.prog Q0)(pv:Nat->Value)(k:Nat):∀cal A,Z95.C k cal=some A->Qc Tryz.prog Q0 pv cal A:=by
 intro cal A h
 unfold Z95.C at h
 split at h
 ·cases h;exact λx y hy=>Z108.good hE pv k x.1 hy
 ·cases h;exact λx y hy=>Z1.good hE pv k x.1 hy
 ·cases h;exact λx y hy=>Z70.good hE pv k x.1 hy
 ·cases h;exact λx y hy=>Z12.good hE pv k x.1 hy
 ·cases h
theorem Z95.good (hE:EnvOk Tryz.prog Q0)(pv:Nat->Value)(k:Nat)(a0:Name){y:_}(h:Z95.F k a0=some y):Qb Tryz.prog Q0 pv (.f 70) (Q7 [.name] (a0,())) (.t .bool y):=
 Q8 hE (Z95.G hE pv k) (f:=70) (fn:=Tryz.f70) (by kernel_rfl) rfl (by kernel_rfl) (by kernel_rfl) ((Z95.run k a0).trans h) (λr hr=>Q1 hr)
def Z82.F (k:Nat)(a0:Name):Option (Bool):=(Z95.F k a0).bind λr1=>some (!r1)
def Z82.C (k:Nat):Cal->Option CArm:=λc=>match c with
 |.f 70=>some (.p [.name] _ (λx=>Z95.F k x.1) (λr=>(.t .bool r)))
 |_=>none
theorem Z82.run (k:Nat)(a0:Name):Qq Q0 (Qf (Z82.C k)) (Qe 6 0 (λ_=>none)) Tryz.f69 [.t .name a0] (Q6 (.t .bool))=Z82.F k a0:=by kernel_rfl
theorem Z82.G (hE:EnvOk Tryz.prog Q0)(pv:Nat->Value)(k:Nat):∀cal A,Z82.C k cal=some A->Qc Tryz.prog Q0 pv cal A:=by
 intro cal A h
 unfold Z82.C at h
 split at h
 ·cases h;exact λx y hy=>Z95.good hE pv k x.1 hy
 ·cases h
theorem Z82.good (hE:EnvOk Tryz.prog Q0)(pv:Nat->Value)(k:Nat)(a0:Name){y:_}(h:Z82.F k a0=some y):Qb Tryz.prog Q0 pv (.f 69) (Q7 [.name] (a0,())) (.t .bool y):=
 Q8 hE (Z82.G hE pv k) (f:=69) (fn:=Tryz.f69) (by kernel_rfl) rfl (by kernel_rfl) (by kernel_rfl) ((Z82.run k a0).trans h) (λr hr=>Q1 hr)
def Z41.l0:Nat->(List Name)->Int->Int->Option (Sum Int Unit)
 |0,_,_,_=>none
 |k+1,x0,x7,x8=>bif (decide (x8<x7))then(bif decide (0<=x8)then(bif decide (x8<(x0.length:Int))then((Z82.F k (x0.getD (x8:Int).toNat (Q2 .name))).bind λr1=>bif r1 then(some (.inl x8))else(Z41.l0 k x0 x7 (IntKind.wrap .i64 (x8+1))))else none)else none)else(some (.inr ()))
def Z41.F (k:Nat)(a0:List Name):Option (Int):=(Z41.l0 k a0 (a0.length:Int) 0).bind λy2=>match y2 with|.inl z3=>some z3|.inr z3=>some (-1)
def Z41.C (k:Nat):Cal->Option CArm:=λc=>match c with
 |.f 69=>some (.p [.name] _ (λx=>Z82.F k x.1) (λr=>(.t .bool r)))
 |_=>none
def Z41.sp0:List Sp:=[.t 0 (.sl .name),.con 1 (.clo 69),.t 7 (.int .i64),.t 8 (.int .i64)]
def Z41.sp0_0:List Sp:=[.t 4 (.int .i64)]
def Z41.sp0_1:List Sp:=[]
def Z41.A0:LArm:=.two Z41.sp0 Z41.sp0_0 Z41.sp0_1 (Int) (Unit) (λk x=>Z41.l0 k x.1 x.2.2.1 x.2.2.2.1) .ret (.exit 0) (λy=>(y,())) (λx=>x.1) (λy=>()) (λx=>())
def Z41.L:Nat->Option LArm:=λb=>match b with
 |0=>some Z41.A0
 |_=>none
theorem Z41.run (k:Nat)(a0:List Name):Qq Q0 (Qf (Z41.C k)) (Qe 19 k Z41.L) Tryz.f97 [.t (.sl .name) a0,.clo 69 []] (Q6 (.t (.int .i64)))=Z41.F k a0:=by kernel_rfl
theorem Z41.step0 (k:Nat)(x0:List Name)(x7:Int)(x8:Int):QN Q0 (Qf (Z41.C k)) (Qe 19 k Z41.L) 0 (Qm Tryz.f97 0) (J6 19 Z41.sp0 (x0,(),x7,x8,())) (Z41.A0.cont 19 k)=Z41.l0 (k+1) x0 x7 x8:=by kernel_rfl
theorem Z41.G (hE:EnvOk Tryz.prog Q0)(pv:Nat->Value)(k:Nat):∀cal A,Z41.C k cal=some A->Qc Tryz.prog Q0 pv cal A:=by
 intro cal A h
 unfold Z41.C at h
 split at h
 ·cases h;exact λx y hy=>Z82.good hE pv k x.1 hy
 ·cases h
theorem Z41.good (hE:EnvOk Tryz.prog Q0)(pv:Nat->Value)(k:Nat)(a0:List Name){y:_}(h:Z41.F k a0=some y):Qb Tryz.prog Q0 pv (.f 97) (YX [.t (.sl .name),.clo 69 []] (a0,(()),())) (.t (.int .i64) y):=
 Qj hE (t:=Z41.C) k (λk _=>Z41.G hE pv k) (f:=97) (fn:=Tryz.f97) (by kernel_rfl) rfl (by kernel_rfl) (by kernel_rfl) (lt:=Z41.L) (by kernel_rfl) (λb A h=>by
  unfold Z41.L at h;split at h
  ·cases h;exact⟨by kernel_rfl,by kernel_rfl,by kernel_rfl,λ_=>rfl,λ_=>rfl,λ_=>rfl⟩
  ·cases h) (λb A h=>by
  unfold Z41.L at h;split at h
  ·cases h;exact λk x=>Z41.step0 k x.1 x.2.2.1 x.2.2.2.1
  ·cases h) ((Z41.run k a0).trans h) (λr hr=>Q1 hr)
def Z109.F (k:Nat)(a0:List Name):Option (Bool):=(Z41.F k a0).bind λr1=>some (decide (r1 ≥ 0))
def Z109.C (k:Nat):Cal->Option CArm:=λc=>match c with
 |.f 97=>some (.q [.t (.sl .name),.clo 69 []] _ (λx=>Z41.F k x.1) (λr=>(.t (.int .i64) r)))
 |_=>none
theorem Z109.run (k:Nat)(a0:List Name):Qq Q0 (Qf (Z109.C k)) (Qe 9 0 (λ_=>none)) Tryz.f68 [.t (.sl .name) a0,.clo 69 []] (Q6 (.t .bool))=Z109.F k a0:=by kernel_rfl
theorem Z109.G (hE:EnvOk Tryz.prog Q0)(pv:Nat->Value)(k:Nat):∀cal A,Z109.C k cal=some A->Qc Tryz.prog Q0 pv cal A:=by
 intro cal A h
 unfold Z109.C at h
 split at h
 ·cases h;exact λx y hy=>Z41.good hE pv k x.1 hy
 ·cases h
theorem Z109.good (hE:EnvOk Tryz.prog Q0)(pv:Nat->Value)(k:Nat)(a0:List Name){y:_}(h:Z109.F k a0=some y):Qb Tryz.prog Q0 pv (.f 68) (YX [.t (.sl .name),.clo 69 []] (a0,(()),())) (.t .bool y):=
 Q8 hE (Z109.G hE pv k) (f:=68) (fn:=Tryz.f68) (by kernel_rfl) rfl (by kernel_rfl) (by kernel_rfl) ((Z109.run k a0).trans h) (λr hr=>Q1 hr)
def Z83.F (k:Nat)(a0:List Name):Option (Bool):=bif (decide ((a0.length:Int)<=4))then((Z109.F k a0).bind λr1=>some (!r1))else(some false)
def Z83.C (k:Nat):Cal->Option CArm:=λc=>match c with
 |.f 68=>some (.q [.t (.sl .name),.clo 69 []] _ (λx=>Z109.F k x.1) (λr=>(.t .bool r)))
 |_=>none
theorem Z83.run (k:Nat)(a0:List Name):Qq Q0 (Qf (Z83.C k)) (Qe 11 0 (λ_=>none)) Tryz.f29 [.t (.sl .name) a0] (Q6 (.t .bool))=Z83.F k a0:=by kernel_rfl
theorem Z83.G (hE:EnvOk Tryz.prog Q0)(pv:Nat->Value)(k:Nat):∀cal A,Z83.C k cal=some A->Qc Tryz.prog Q0 pv cal A:=by
 intro cal A h
 unfold Z83.C at h
 split at h
 ·cases h;exact λx y hy=>Z109.good hE pv k x.1 hy
 ·cases h
theorem Z83.good (hE:EnvOk Tryz.prog Q0)(pv:Nat->Value)(k:Nat)(a0:List Name){y:_}(h:Z83.F k a0=some y):Qb Tryz.prog Q0 pv (.f 29) (Q7 [(.sl .name)] (a0,())) (.t .bool y):=
 Q8 hE (Z83.G hE pv k) (f:=29) (fn:=Tryz.f29) (by kernel_rfl) rfl (by kernel_rfl) (by kernel_rfl) ((Z83.run k a0).trans h) (λr hr=>Q1 hr)
def Z64.F (a0:Int)(a1:Int):Option (Int):=bif (a1==2)then(bif (4==0)then(none)else(bif ((Int.tmod a0 4)==0)then(bif (100==0)then(none)else(bif ((Int.tmod a0 100) != 0)then(some 29)else(bif (400==0)then(none)else(bif ((Int.tmod a0 400)==0)then(some 29)else(some 28)))))else(some 28)))else(bif (a1==4)then(bif (a1==4)then(some 30)else(some 31))else(bif (a1==6)then(bif (a1==6)then(some 30)else(some 31))else(bif (a1==9)then(bif (a1==9)then(some 30)else(some 31))else(bif (a1==11)then(some 30)else(some 31)))))
def Z64.C:Cal->Option CArm:=λc=>match c with
 |_=>none
theorem Z64.run (a0:Int)(a1:Int):Qq Q0 (Qf Z64.C) (Qe 26 0 (λ_=>none)) Tryz.f71 [.t (.int .i64) a0,.t (.int .i64) a1] (Q6 (.t (.int .i64)))=Z64.F a0 a1:=by kernel_rfl
theorem Z64.G (hE:EnvOk Tryz.prog Q0)(pv:Nat->Value):∀cal A,Z64.C cal=some A->Qc Tryz.prog Q0 pv cal A:=by
 intro cal A h
 unfold Z64.C at h
 cases h
theorem Z64.good (hE:EnvOk Tryz.prog Q0)(pv:Nat->Value)(a0:Int)(a1:Int){y:_}(h:Z64.F a0 a1=some y):Qb Tryz.prog Q0 pv (.f 71) (Q7 [(.int .i64),(.int .i64)] (a0,a1,())) (.t (.int .i64) y):=
 Q8 hE (Z64.G hE pv) (f:=71) (fn:=Tryz.f71) (by kernel_rfl) rfl (by kernel_rfl) (by kernel_rfl) ((Z64.run a0 a1).trans h) (λr hr=>Q1 hr)
def Z75.F (a0:Date):Option (Bool):=bif ((a0.y==0&&(a0.m==0&&(a0.d==0&&a0.c==false))))then(some true)else((Z47.F a0.y 1 2999).bind λr1=>bif (!r1)then(some false)else((Z47.F a0.m 0 12).bind λr2=>bif (!r2)then(some false)else(bif a0.c then(bif (a0.m != 0)then(some false)else(bif (a0.m==0)then(some (a0.d==0))else((Z64.F a0.y a0.m).bind λr3=>(Z47.F a0.d 0 r3).bind λr4=>some r4)))else(bif (a0.m==0)then(some (a0.d==0))else((Z64.F a0.y a0.m).bind λr5=>(Z47.F a0.d 0 r5).bind λr6=>some r6)))))
def Z75.C:Cal->Option CArm:=λc=>match c with
 |.f 31=>some (.p [(.int .i64),(.int .i64),(.int .i64)] _ (λx=>Z47.F x.1 x.2.1 x.2.2.1) (λr=>(.t .bool r)))
 |.f 71=>some (.p [(.int .i64),(.int .i64)] _ (λx=>Z64.F x.1 x.2.1) (λr=>(.t (.int .i64) r)))
 |_=>none
theorem Z75.run (a0:Date):Qq Q0 (Qf Z75.C) (Qe 39 0 (λ_=>none)) Tryz.f30 [.t .date a0] (Q6 (.t .bool))=Z75.F a0:=by kernel_rfl
theorem Z75.G (hE:EnvOk Tryz.prog Q0)(pv:Nat->Value):∀cal A,Z75.C cal=some A->Qc Tryz.prog Q0 pv cal A:=by
 intro cal A h
 unfold Z75.C at h
 split at h
 ·cases h;exact λx y hy=>Z47.good hE pv x.1 x.2.1 x.2.2.1 hy
 ·cases h;exact λx y hy=>Z64.good hE pv x.1 x.2.1 hy
 ·cases h
theorem Z75.good (hE:EnvOk Tryz.prog Q0)(pv:Nat->Value)(a0:Date){y:_}(h:Z75.F a0=some y):Qb Tryz.prog Q0 pv (.f 30) (Q7 [.date] (a0,())) (.t .bool y):=
 Q8 hE (Z75.G hE pv) (f:=30) (fn:=Tryz.f30) (by kernel_rfl) rfl (by kernel_rfl) (by kernel_rfl) ((Z75.run a0).trans h) (λr hr=>Q1 hr)
def Z117.F (a0:ByteArray)(a1:ByteArray):Option (ByteArray):=Q3q a0 a1
theorem Z117.good (hE:EnvOk Tryz.prog Q0)(pv:Nat->Value)(a0:ByteArray)(a1:ByteArray){y:_}(h:Z117.F a0 a1=some y):Qb Tryz.prog Q0 pv (.f 103) (Q7 [.str,.str] (a0,a1,())) (.t .str y):=
 Q7H (fn:=Tryz.f103) (by kernel_rfl) rfl (by kernel_rfl) Tryz.strings_Trim_one h
def Z36.l0:Nat->ByteArray->Int->Option (Sum Bool ByteArray)
 |0,_,_=>none
 |k+1,x0,x3=>bif (decide (x3<(x0.size:Int)))then(bif decide (0<=x3)then(bif decide (x3<(x0.size:Int))then(bif (decide ((bt x0 (x3:Int).toNat)<32))then(some (.inl false))else(bif decide (0<=x3)then(bif decide (x3<(x0.size:Int))then(bif (decide ((bt x0 (x3:Int).toNat) > 126))then(some (.inl false))else(Z36.l0 k x0 (IntKind.wrap .i64 (x3+1))))else none)else none))else none)else none)else(some (.inr x0))
def Z36.F (k:Nat)(a0:ByteArray):Option (Bool):=(Z36.l0 k a0 0).bind λy1=>match y1 with|.inl z2=>some z2|.inr z2=>(Z117.F z2 (⟨#[32]⟩:ByteArray)).bind λr3=>some (Q3 r3 z2)
def Z36.C (k:Nat):Cal->Option CArm:=λc=>match c with
 |.f 103=>some (.p [.str,.str] _ (λx=>Z117.F x.1 x.2.1) (λr=>(.t .str r)))
 |_=>none
def Z36.sp0:List Sp:=[.t 0 .str,.t 3 (.int .i64)]
def Z36.sp0_0:List Sp:=[.t 2 .bool]
def Z36.sp0_1:List Sp:=[.t 0 .str]
def Z36.A0:LArm:=.two Z36.sp0 Z36.sp0_0 Z36.sp0_1 (Bool) (ByteArray) (λk x=>Z36.l0 k x.1 x.2.1) .ret (.exit 0) (λy=>(y,())) (λx=>x.1) (λy=>(y,())) (λx=>x.1)
def Z36.L:Nat->Option LArm:=λb=>match b with
 |0=>some Z36.A0
 |_=>none
theorem Z36.run (k:Nat)(a0:ByteArray):Qq Q0 (Qf (Z36.C k)) (Qe 24 k Z36.L) Tryz.f72 [.t .str a0] (Q6 (.t .bool))=Z36.F k a0:=by kernel_rfl
theorem Z36.step0 (k:Nat)(x0:ByteArray)(x3:Int):QN Q0 (Qf (Z36.C k)) (Qe 24 k Z36.L) 0 (Qm Tryz.f72 0) (J6 24 Z36.sp0 (x0,x3,())) (Z36.A0.cont 24 k)=Z36.l0 (k+1) x0 x3:=by kernel_rfl
theorem Z36.G (hE:EnvOk Tryz.prog Q0)(pv:Nat->Value)(k:Nat):∀cal A,Z36.C k cal=some A->Qc Tryz.prog Q0 pv cal A:=by
 intro cal A h
 unfold Z36.C at h
 split at h
 ·cases h;exact λx y hy=>Z117.good hE pv x.1 x.2.1 hy
 ·cases h
theorem Z36.good (hE:EnvOk Tryz.prog Q0)(pv:Nat->Value)(k:Nat)(a0:ByteArray){y:_}(h:Z36.F k a0=some y):Qb Tryz.prog Q0 pv (.f 72) (Q7 [.str] (a0,())) (.t .bool y):=
 Qj hE (t:=Z36.C) k (λk _=>Z36.G hE pv k) (f:=72) (fn:=Tryz.f72) (by kernel_rfl) rfl (by kernel_rfl) (by kernel_rfl) (lt:=Z36.L) (by kernel_rfl) (λb A h=>by
  unfold Z36.L at h;split at h
  ·cases h;exact⟨by kernel_rfl,by kernel_rfl,by kernel_rfl,λ_=>rfl,λ_=>rfl,λ_=>rfl⟩
  ·cases h) (λb A h=>by
  unfold Z36.L at h;split at h
  ·cases h;exact λk x=>Z36.step0 k x.1 x.2.1
  ·cases h) ((Z36.run k a0).trans h) (λr hr=>Q1 hr)
def Z71.F (k:Nat)(a0:ByteArray):Option (Bool):=bif (decide ((a0.size:Int)<=40))then((Z36.F k a0).bind λr1=>some r1)else(some false)
def Z71.C (k:Nat):Cal->Option CArm:=λc=>match c with
 |.f 72=>some (.p [.str] _ (λx=>Z36.F k x.1) (λr=>(.t .bool r)))
 |_=>none
theorem Z71.run (k:Nat)(a0:ByteArray):Qq Q0 (Qf (Z71.C k)) (Qe 10 0 (λ_=>none)) Tryz.f32 [.t .str a0] (Q6 (.t .bool))=Z71.F k a0:=by kernel_rfl
theorem Z71.G (hE:EnvOk Tryz.prog Q0)(pv:Nat->Value)(k:Nat):∀cal A,Z71.C k cal=some A->Qc Tryz.prog Q0 pv cal A:=by
 intro cal A h
 unfold Z71.C at h
 split at h
 ·cases h;exact λx y hy=>Z36.good hE pv k x.1 hy
 ·cases h
theorem Z71.good (hE:EnvOk Tryz.prog Q0)(pv:Nat->Value)(k:Nat)(a0:ByteArray){y:_}(h:Z71.F k a0=some y):Qb Tryz.prog Q0 pv (.f 32) (Q7 [.str] (a0,())) (.t .bool y):=
 Q8 hE (Z71.G hE pv k) (f:=32) (fn:=Tryz.f32) (by kernel_rfl) rfl (by kernel_rfl) (by kernel_rfl) ((Z71.run k a0).trans h) (λr hr=>Q1 hr)
def Z51.F (k:Nat)(a0:Entry):Option (Bool):=(Z19.F k a0.key).bind λr1=>bif (!r1)then(some false)else((Z107.F a0.kind).bind λr2=>bif (!r2)then(some false)else((Z83.F k a0.authors).bind λr3=>bif (!r3)then(some false)else((Z83.F k a0.editors).bind λr4=>bif (!r4)then(some false)else((Z75.F a0.date).bind λr5=>bif (!r5)then(some false)else((Z47.F a0.volume 0 9999).bind λr6=>bif (!r6)then(some false)else((Z71.F k a0.title).bind λr7=>bif r7 then((Z71.F k a0.container).bind λr8=>bif r8 then((Z71.F k a0.publisher).bind λr9=>bif r9 then((Z71.F k a0.pages).bind λr10=>bif r10 then(bif (Q3 a0.cross (⟨#[]⟩:ByteArray))then(some true)else((Z19.F k a0.cross).bind λr11=>bif r11 then(some (!Q3 a0.cross a0.key))else(some false)))else(some false))else(some false))else(some false))else(some false)))))))
def Z51.C (k:Nat):Cal->Option CArm:=λc=>match c with
 |.f 27=>some (.p [.str] _ (λx=>Z19.F k x.1) (λr=>(.t .bool r)))
 |.f 28=>some (.p [(.int .i64)] _ (λx=>Z107.F x.1) (λr=>(.t .bool r)))
 |.f 29=>some (.p [(.sl .name)] _ (λx=>Z83.F k x.1) (λr=>(.t .bool r)))
 |.f 30=>some (.p [.date] _ (λx=>Z75.F x.1) (λr=>(.t .bool r)))
 |.f 31=>some (.p [(.int .i64),(.int .i64),(.int .i64)] _ (λx=>Z47.F x.1 x.2.1 x.2.2.1) (λr=>(.t .bool r)))
 |.f 32=>some (.p [.str] _ (λx=>Z71.F k x.1) (λr=>(.t .bool r)))
 |_=>none
theorem Z51.run (k:Nat)(a0:Entry):Qq Q0 (Qf (Z51.C k)) (Qe 72 0 (λ_=>none)) Tryz.f10 [.t .entry a0] (Q6 (.t .bool))=Z51.F k a0:=by kernel_rfl
theorem Z51.G (hE:EnvOk Tryz.prog Q0)(pv:Nat->Value)(k:Nat):∀cal A,Z51.C k cal=some A->Qc Tryz.prog Q0 pv cal A:=by
 intro cal A h
 unfold Z51.C at h
 split at h
 ·cases h;exact λx y hy=>Z19.good hE pv k x.1 hy
 ·cases h;exact λx y hy=>Z107.good hE pv x.1 hy
 ·cases h;exact λx y hy=>Z83.good hE pv k x.1 hy
 ·cases h;exact λx y hy=>Z75.good hE pv x.1 hy
 ·cases h;exact λx y hy=>Z47.good hE pv x.1 x.2.1 x.2.2.1 hy
 ·cases h;exact λx y hy=>Z71.good hE pv k x.1 hy
 ·cases h
theorem Z51.good (hE:EnvOk Tryz.prog Q0)(pv:Nat->Value)(k:Nat)(a0:Entry){y:_}(h:Z51.F k a0=some y):Qb Tryz.prog Q0 pv (.f 10) (Q7 [.entry] (a0,())) (.t .bool y):=
 Q8 hE (Z51.G hE pv k) (f:=10) (fn:=Tryz.f10) (by kernel_rfl) rfl (by kernel_rfl) (by kernel_rfl) ((Z51.run k a0).trans h) (λr hr=>Q1 hr)
def Z22.l0:Nat->(List Name)->(List Name)->Int->Int->Option ((List Name))
 |0,_,_,_,_=>none
 |k+1,x3,x7,x8,x9=>bif (decide (x9<x8))then(bif decide (0<=x9)then(bif decide (x9<(x7.length:Int))then(bif room (([]:List ByteArray).length+((x7.getD (x9:Int).toNat (Q2 .name)).given).length) .str then(bif room (x3.length+([(⟨(([]:List ByteArray)++((x7.getD (x9:Int).toNat (Q2 .name)).given)),(x7.getD (x9:Int).toNat (Q2 .name)).particle,(x7.getD (x9:Int).toNat (Q2 .name)).family,(x7.getD (x9:Int).toNat (Q2 .name)).suffix⟩:Name)]:List Name).length) .name then(Z22.l0 k (x3++([(⟨(([]:List ByteArray)++((x7.getD (x9:Int).toNat (Q2 .name)).given)),(x7.getD (x9:Int).toNat (Q2 .name)).particle,(x7.getD (x9:Int).toNat (Q2 .name)).family,(x7.getD (x9:Int).toNat (Q2 .name)).suffix⟩:Name)]:List Name)) x7 x8 (IntKind.wrap .i64 (x9+1)))else none)else none)else none)else none)else(some x3)
def Z22.F (k:Nat)(a0:List Name):Option (List Name):=(Z22.l0 k ([]:List Name) a0 (a0.length:Int) 0).bind λy1=>some y1
def Z22.C (k:Nat):Cal->Option CArm:=λc=>match c with
 |_=>none
def Z22.sp0:List Sp:=[.own 3 1024 84 .name false true,.t 7 (.sl .name),.t 8 (.int .i64),.t 9 (.int .i64)]
def Z22.sp0_0:List Sp:=[.own 3 1024 84 .name false true]
def Z22.A0:LArm:=.one Z22.sp0 Z22.sp0_0 ((List Name)) (λk x=>Z22.l0 k x.1 x.2.1 x.2.2.1 x.2.2.2.1) (.exit 0) (λy=>(y,())) (λx=>x.1)
def Z22.L:Nat->Option LArm:=λb=>match b with
 |0=>some Z22.A0
 |_=>none
theorem Z22.run (k:Nat)(a0:List Name):Qq Q0 (Qf (Z22.C k)) (Qe 24 k Z22.L) Tryz.f89 [.t (.sl .name) a0] (Q6 (.fr 84 .name))=Z22.F k a0:=by kernel_rfl
theorem Z22.step0 (k:Nat)(x3:List Name)(x7:List Name)(x8:Int)(x9:Int):QN Q0 (Qf (Z22.C k)) (Qe 24 k Z22.L) 0 (Qm Tryz.f89 0) (J6 24 Z22.sp0 (x3,x7,x8,x9,())) (Z22.A0.cont 24 k)=Z22.l0 (k+1) x3 x7 x8 x9:=by kernel_rfl
theorem Z22.G (hE:EnvOk Tryz.prog Q0)(pv:Nat->Value)(k:Nat):∀cal A,Z22.C k cal=some A->Qc Tryz.prog Q0 pv cal A:=by
 intro cal A h
 unfold Z22.C at h
 cases h
theorem Z22.good (hE:EnvOk Tryz.prog Q0)(pv:Nat->Value)(k:Nat)(a0:List Name){y:_}(h:Z22.F k a0=some y):Qb Tryz.prog Q0 pv (.f 89) (Q7 [(.sl .name)] (a0,())) (.fr 84 .name y):=
 Qj hE (t:=Z22.C) k (λk _=>Z22.G hE pv k) (f:=89) (fn:=Tryz.f89) (by kernel_rfl) rfl (by kernel_rfl) (by kernel_rfl) (lt:=Z22.L) (by kernel_rfl) (λb A h=>by
  unfold Z22.L at h;split at h
  ·cases h;exact⟨by kernel_rfl,by kernel_rfl,λ_=>rfl,λ_=>rfl⟩
  ·cases h) (λb A h=>by
  unfold Z22.L at h;split at h
  ·cases h;exact λk x=>Z22.step0 k x.1 x.2.1 x.2.2.1 x.2.2.2.1
  ·cases h) ((Z22.run k a0).trans h) (λr hr=>Q1 hr)
def Z84.F (k:Nat)(a0:List Name)(a1:List Name):Option (List Name):=bif ((a0.length:Int)==0)then((Z22.F k a1).bind λr1=>some r1)else((Z22.F k a0).bind λr2=>some r2)
def Z84.C (k:Nat):Cal->Option CArm:=λc=>match c with
 |.f 89=>some (.p [(.sl .name)] _ (λx=>Z22.F k x.1) (λr=>(.fr 84 .name r)))
 |_=>none
theorem Z84.run (k:Nat)(a0:List Name)(a1:List Name):Qq Q0 (Qf (Z84.C k)) (Qe 12 0 (λ_=>none)) Tryz.f52 [.t (.sl .name) a0,.t (.sl .name) a1] (Q6 (.fr 84 .name))=Z84.F k a0 a1:=by kernel_rfl
theorem Z84.G (hE:EnvOk Tryz.prog Q0)(pv:Nat->Value)(k:Nat):∀cal A,Z84.C k cal=some A->Qc Tryz.prog Q0 pv cal A:=by
 intro cal A h
 unfold Z84.C at h
 split at h
 ·cases h;exact λx y hy=>Z22.good hE pv k x.1 hy
 ·cases h
theorem Z84.good (hE:EnvOk Tryz.prog Q0)(pv:Nat->Value)(k:Nat)(a0:List Name)(a1:List Name){y:_}(h:Z84.F k a0 a1=some y):Qb Tryz.prog Q0 pv (.f 52) (Q7 [(.sl .name),(.sl .name)] (a0,a1,())) (.fr 84 .name y):=
 Q8 hE (Z84.G hE pv k) (f:=52) (fn:=Tryz.f52) (by kernel_rfl) rfl (by kernel_rfl) (by kernel_rfl) ((Z84.run k a0 a1).trans h) (λr hr=>Q1 hr)
def Z65.F (a0:ByteArray)(a1:ByteArray):Option (ByteArray):=bif (Q3 a0 (⟨#[]⟩:ByteArray))then(some a1)else(some a0)
def Z65.C:Cal->Option CArm:=λc=>match c with
 |_=>none
theorem Z65.run (a0:ByteArray)(a1:ByteArray):Qq Q0 (Qf Z65.C) (Qe 9 0 (λ_=>none)) Tryz.f53 [.t .str a0,.t .str a1] (Q6 (.t .str))=Z65.F a0 a1:=by kernel_rfl
theorem Z65.G (hE:EnvOk Tryz.prog Q0)(pv:Nat->Value):∀cal A,Z65.C cal=some A->Qc Tryz.prog Q0 pv cal A:=by
 intro cal A h
 unfold Z65.C at h
 cases h
theorem Z65.good (hE:EnvOk Tryz.prog Q0)(pv:Nat->Value)(a0:ByteArray)(a1:ByteArray){y:_}(h:Z65.F a0 a1=some y):Qb Tryz.prog Q0 pv (.f 53) (Q7 [.str,.str] (a0,a1,())) (.t .str y):=
 Q8 hE (Z65.G hE pv) (f:=53) (fn:=Tryz.f53) (by kernel_rfl) rfl (by kernel_rfl) (by kernel_rfl) ((Z65.run a0 a1).trans h) (λr hr=>Q1 hr)
def Z96.F (a0:Date)(a1:Date):Option (Date):=bif (a0.y==0)then(some a1)else(some a0)
def Z96.C:Cal->Option CArm:=λc=>match c with
 |_=>none
theorem Z96.run (a0:Date)(a1:Date):Qq Q0 (Qf Z96.C) (Qe 10 0 (λ_=>none)) Tryz.f54 [.t .date a0,.t .date a1] (Q6 (.t .date))=Z96.F a0 a1:=by kernel_rfl
theorem Z96.G (hE:EnvOk Tryz.prog Q0)(pv:Nat->Value):∀cal A,Z96.C cal=some A->Qc Tryz.prog Q0 pv cal A:=by
 intro cal A h
 unfold Z96.C at h
 cases h
theorem Z96.good (hE:EnvOk Tryz.prog Q0)(pv:Nat->Value)(a0:Date)(a1:Date){y:_}(h:Z96.F a0 a1=some y):Qb Tryz.prog Q0 pv (.f 54) (Q7 [.date,.date] (a0,a1,())) (.t .date y):=
 Q8 hE (Z96.G hE pv) (f:=54) (fn:=Tryz.f54) (by kernel_rfl) rfl (by kernel_rfl) (by kernel_rfl) ((Z96.run a0 a1).trans h) (λr hr=>Q1 hr)
def Z97.F (a0:Int)(a1:Int):Option (Int):=bif (a0==0)then(some a1)else(some a0)
def Z97.C:Cal->Option CArm:=λc=>match c with
 |_=>none
theorem Z97.run (a0:Int)(a1:Int):Qq Q0 (Qf Z97.C) (Qe 9 0 (λ_=>none)) Tryz.f55 [.t (.int .i64) a0,.t (.int .i64) a1] (Q6 (.t (.int .i64)))=Z97.F a0 a1:=by kernel_rfl
theorem Z97.G (hE:EnvOk Tryz.prog Q0)(pv:Nat->Value):∀cal A,Z97.C cal=some A->Qc Tryz.prog Q0 pv cal A:=by
 intro cal A h
 unfold Z97.C at h
 cases h
theorem Z97.good (hE:EnvOk Tryz.prog Q0)(pv:Nat->Value)(a0:Int)(a1:Int){y:_}(h:Z97.F a0 a1=some y):Qb Tryz.prog Q0 pv (.f 55) (Q7 [(.int .i64),(.int .i64)] (a0,a1,())) (.t (.int .i64) y):=
 Q8 hE (Z97.G hE pv) (f:=55) (fn:=Tryz.f55) (by kernel_rfl) rfl (by kernel_rfl) (by kernel_rfl) ((Z97.run a0 a1).trans h) (λr hr=>Q1 hr)
def Z72.F (k:Nat)(a0:Entry)(a1:Entry):Option (Entry):=(Z84.F k a0.authors a1.authors).bind λr1=>(Z84.F k a0.editors a1.editors).bind λr2=>(Z65.F a0.title a1.title).bind λr3=>(Z65.F a0.container a1.container).bind λr4=>(Z65.F a0.publisher a1.publisher).bind λr5=>(Z96.F a0.date a1.date).bind λr6=>(Z97.F a0.volume a1.volume).bind λr7=>(Z65.F a0.pages a1.pages).bind λr8=>(Z65.F a0.cross a1.cross).bind λr9=>bif (Q3 r9 a0.key)then(some (⟨a0.key,a0.kind,r1,r2,r3,r4,r5,r6,r7,r8,(⟨#[]⟩:ByteArray)⟩:Entry))else(some (⟨a0.key,a0.kind,r1,r2,r3,r4,r5,r6,r7,r8,r9⟩:Entry))
def Z72.C (k:Nat):Cal->Option CArm:=λc=>match c with
 |.f 52=>some (.p [(.sl .name),(.sl .name)] _ (λx=>Z84.F k x.1 x.2.1) (λr=>(.fr 84 .name r)))
 |.f 53=>some (.p [.str,.str] _ (λx=>Z65.F x.1 x.2.1) (λr=>(.t .str r)))
 |.f 54=>some (.p [.date,.date] _ (λx=>Z96.F x.1 x.2.1) (λr=>(.t .date r)))
 |.f 55=>some (.p [(.int .i64),(.int .i64)] _ (λx=>Z97.F x.1 x.2.1) (λr=>(.t (.int .i64) r)))
 |_=>none
theorem Z72.run (k:Nat)(a0:Entry)(a1:Entry):Qq Q0 (Qf (Z72.C k)) (Qe 63 0 (λ_=>none)) Tryz.f22 [.t .entry a0,.t .entry a1] (Q6 (.t .entry))=Z72.F k a0 a1:=by kernel_rfl
theorem Z72.G (hE:EnvOk Tryz.prog Q0)(pv:Nat->Value)(k:Nat):∀cal A,Z72.C k cal=some A->Qc Tryz.prog Q0 pv cal A:=by
 intro cal A h
 unfold Z72.C at h
 split at h
 ·cases h;exact λx y hy=>Z84.good hE pv k x.1 x.2.1 hy
 ·cases h;exact λx y hy=>Z65.good hE pv x.1 x.2.1 hy
 ·cases h;exact λx y hy=>Z96.good hE pv x.1 x.2.1 hy
 ·cases h;exact λx y hy=>Z97.good hE pv x.1 x.2.1 hy
 ·cases h
theorem Z72.good (hE:EnvOk Tryz.prog Q0)(pv:Nat->Value)(k:Nat)(a0:Entry)(a1:Entry){y:_}(h:Z72.F k a0 a1=some y):Qb Tryz.prog Q0 pv (.f 22) (Q7 [.entry,.entry] (a0,a1,())) (.t .entry y):=
 Q8 hE (Z72.G hE pv k) (f:=22) (fn:=Tryz.f22) (by kernel_rfl) rfl (by kernel_rfl) (by kernel_rfl) ((Z72.run k a0 a1).trans h) (λr hr=>Q1 hr)
def Z73.F (k:Nat)(a0:Entry)(a1:Entry):Option (Entry×Bool):=(Z51.F k a0).bind λr1=>bif (!r1)then(some ((⟨(⟨#[]⟩:ByteArray),0,([]:List Name),([]:List Name),(⟨#[]⟩:ByteArray),(⟨#[]⟩:ByteArray),(⟨#[]⟩:ByteArray),(Q2 .date),0,(⟨#[]⟩:ByteArray),(⟨#[]⟩:ByteArray)⟩:Entry),false))else((Z51.F k a1).bind λr2=>bif (!r2)then(some ((⟨(⟨#[]⟩:ByteArray),0,([]:List Name),([]:List Name),(⟨#[]⟩:ByteArray),(⟨#[]⟩:ByteArray),(⟨#[]⟩:ByteArray),(Q2 .date),0,(⟨#[]⟩:ByteArray),(⟨#[]⟩:ByteArray)⟩:Entry),false))else((Z72.F k a0 a1).bind λr3=>some (r3,true)))
def Z73.C (k:Nat):Cal->Option CArm:=λc=>match c with
 |.f 10=>some (.p [.entry] _ (λx=>Z51.F k x.1) (λr=>(.t .bool r)))
 |.f 22=>some (.p [.entry,.entry] _ (λx=>Z72.F k x.1 x.2.1) (λr=>(.t .entry r)))
 |_=>none
theorem Z73.run (k:Nat)(a0:Entry)(a1:Entry):Qq Q0 (Qf (Z73.C k)) (Qe 18 0 (λ_=>none)) Tryz.f6 [.t .entry a0,.t .entry a1] (U6 (.t .entry) (.t .bool))=Z73.F k a0 a1:=by kernel_rfl
theorem Z73.G (hE:EnvOk Tryz.prog Q0)(pv:Nat->Value)(k:Nat):∀cal A,Z73.C k cal=some A->Qc Tryz.prog Q0 pv cal A:=by
 intro cal A h
 unfold Z73.C at h
 split at h
 ·cases h;exact λx y hy=>Z51.good hE pv k x.1 hy
 ·cases h;exact λx y hy=>Z72.good hE pv k x.1 x.2.1 hy
 ·cases h
theorem Z73.good (hE:EnvOk Tryz.prog Q0)(pv:Nat->Value)(k:Nat)(a0:Entry)(a1:Entry){y:_}(h:Z73.F k a0 a1=some y):Qb Tryz.prog Q0 pv (.f 6) (Q7 [.entry,.entry] (a0,a1,())) (.tup [.t .entry y.1,.t .bool y.2]):=
 Q8 hE (Z73.G hE pv k) (f:=6) (fn:=Tryz.f6) (by kernel_rfl) rfl (by kernel_rfl) (by kernel_rfl) ((Z73.run k a0 a1).trans h) (λr hr=>Yx hr)
def Z52.F (a0:Int)(a1:Int)(a2:Int):Option (Bool):=bif (decide (a0 ≥ a1))then(some (decide (a0<=a2)))else(some false)
def Z52.C:Cal->Option CArm:=λc=>match c with
 |_=>none
theorem Z52.run (a0:Int)(a1:Int)(a2:Int):Qq Q0 (Qf Z52.C) (Qe 15 0 (λ_=>none)) Tryz.f57 [.t (.int .i64) a0,.t (.int .i64) a1,.t (.int .i64) a2] (Q6 (.t .bool))=Z52.F a0 a1 a2:=by kernel_rfl
theorem Z52.G (hE:EnvOk Tryz.prog Q0)(pv:Nat->Value):∀cal A,Z52.C cal=some A->Qc Tryz.prog Q0 pv cal A:=by
 intro cal A h
 unfold Z52.C at h
 cases h
theorem Z52.good (hE:EnvOk Tryz.prog Q0)(pv:Nat->Value)(a0:Int)(a1:Int)(a2:Int){y:_}(h:Z52.F a0 a1 a2=some y):Qb Tryz.prog Q0 pv (.f 57) (Q7 [(.int .i64),(.int .i64),(.int .i64)] (a0,a1,a2,())) (.t .bool y):=
 Q8 hE (Z52.G hE pv) (f:=57) (fn:=Tryz.f57) (by kernel_rfl) rfl (by kernel_rfl) (by kernel_rfl) ((Z52.run a0 a1 a2).trans h) (λr hr=>Q1 hr)
def Z57.F (a0:Int):Option (Bool):=bif (decide (a0 ≥ 97))then(some (decide (a0<=122)))else(some false)
def Z57.C:Cal->Option CArm:=λc=>match c with
 |_=>none
theorem Z57.run (a0:Int):Qq Q0 (Qf Z57.C) (Qe 9 0 (λ_=>none)) Tryz.f90 [.t (.int .u8) a0] (Q6 (.t .bool))=Z57.F a0:=by kernel_rfl
theorem Z57.G (hE:EnvOk Tryz.prog Q0)(pv:Nat->Value):∀cal A,Z57.C cal=some A->Qc Tryz.prog Q0 pv cal A:=by
 intro cal A h
 unfold Z57.C at h
 cases h
theorem Z57.good (hE:EnvOk Tryz.prog Q0)(pv:Nat->Value)(a0:Int){y:_}(h:Z57.F a0=some y):Qb Tryz.prog Q0 pv (.f 90) (Q7 [(.int .u8)] (a0,())) (.t .bool y):=
 Q8 hE (Z57.G hE pv) (f:=90) (fn:=Tryz.f90) (by kernel_rfl) rfl (by kernel_rfl) (by kernel_rfl) ((Z57.run a0).trans h) (λr hr=>Q1 hr)
def Z20.l0:Nat->ByteArray->Int->Option (Sum Bool Unit)
 |0,_,_=>none
 |k+1,x0,x3=>bif (decide (x3<(x0.size:Int)))then(bif decide (0<=x3)then(bif decide (x3<(x0.size:Int))then((Z57.F (bt x0 (x3:Int).toNat)).bind λr3=>bif (!r3)then(bif decide (0<=x3)then(bif decide (x3<(x0.size:Int))then(bif (decide ((bt x0 (x3:Int).toNat)<48))then(some (.inl false))else(bif decide (0<=x3)then(bif decide (x3<(x0.size:Int))then(bif (decide ((bt x0 (x3:Int).toNat) > 57))then(some (.inl false))else(Z20.l0 k x0 (IntKind.wrap .i64 (x3+1))))else none)else none))else none)else none)else(Z20.l0 k x0 (IntKind.wrap .i64 (x3+1))))else none)else none)else(some (.inr ()))
def Z20.F (k:Nat)(a0:ByteArray):Option (Bool):=(Z52.F (a0.size:Int) 1 10).bind λr1=>bif (!r1)then(some false)else(bif decide (0<=0)then(bif decide (0<(a0.size:Int))then((Z57.F (bt a0 (0:Int).toNat)).bind λr2=>bif (!r2)then(some false)else((Z20.l0 k a0 0).bind λy4=>match y4 with|.inl z5=>some z5|.inr z5=>some true))else none)else none)
def Z20.C (k:Nat):Cal->Option CArm:=λc=>match c with
 |.f 57=>some (.p [(.int .i64),(.int .i64),(.int .i64)] _ (λx=>Z52.F x.1 x.2.1 x.2.2.1) (λr=>(.t .bool r)))
 |.f 90=>some (.p [(.int .u8)] _ (λx=>Z57.F x.1) (λr=>(.t .bool r)))
 |_=>none
def Z20.sp0:List Sp:=[.t 0 .str,.t 3 (.int .i64)]
def Z20.sp0_0:List Sp:=[.t 2 .bool]
def Z20.sp0_1:List Sp:=[]
def Z20.A0:LArm:=.two Z20.sp0 Z20.sp0_0 Z20.sp0_1 (Bool) (Unit) (λk x=>Z20.l0 k x.1 x.2.1) .ret (.exit 0) (λy=>(y,())) (λx=>x.1) (λy=>()) (λx=>())
def Z20.L:Nat->Option LArm:=λb=>match b with
 |0=>some Z20.A0
 |_=>none
theorem Z20.run (k:Nat)(a0:ByteArray):Qq Q0 (Qf (Z20.C k)) (Qe 37 k Z20.L) Tryz.f56 [.t .str a0] (Q6 (.t .bool))=Z20.F k a0:=by kernel_rfl
theorem Z20.step0 (k:Nat)(x0:ByteArray)(x3:Int):QN Q0 (Qf (Z20.C k)) (Qe 37 k Z20.L) 0 (Qm Tryz.f56 0) (J6 37 Z20.sp0 (x0,x3,())) (Z20.A0.cont 37 k)=Z20.l0 (k+1) x0 x3:=by kernel_rfl
theorem Z20.G (hE:EnvOk Tryz.prog Q0)(pv:Nat->Value)(k:Nat):∀cal A,Z20.C k cal=some A->Qc Tryz.prog Q0 pv cal A:=by
 intro cal A h
 unfold Z20.C at h
 split at h
 ·cases h;exact λx y hy=>Z52.good hE pv x.1 x.2.1 x.2.2.1 hy
 ·cases h;exact λx y hy=>Z57.good hE pv x.1 hy
 ·cases h
theorem Z20.good (hE:EnvOk Tryz.prog Q0)(pv:Nat->Value)(k:Nat)(a0:ByteArray){y:_}(h:Z20.F k a0=some y):Qb Tryz.prog Q0 pv (.f 56) (Q7 [.str] (a0,())) (.t .bool y):=
 Qj hE (t:=Z20.C) k (λk _=>Z20.G hE pv k) (f:=56) (fn:=Tryz.f56) (by kernel_rfl) rfl (by kernel_rfl) (by kernel_rfl) (lt:=Z20.L) (by kernel_rfl) (λb A h=>by
  unfold Z20.L at h;split at h
  ·cases h;exact⟨by kernel_rfl,by kernel_rfl,by kernel_rfl,λ_=>rfl,λ_=>rfl,λ_=>rfl⟩
  ·cases h) (λb A h=>by
  unfold Z20.L at h;split at h
  ·cases h;exact λk x=>Z20.step0 k x.1 x.2.1
  ·cases h) ((Z20.run k a0).trans h) (λr hr=>Q1 hr)
def Z66.F (a0:Int):Option (Bool):=bif (decide (a0 ≥ 65))then(some (decide (a0<=90)))else(some false)
def Z66.C:Cal->Option CArm:=λc=>match c with
 |_=>none
theorem Z66.run (a0:Int):Qq Q0 (Qf Z66.C) (Qe 9 0 (λ_=>none)) Tryz.f110 [.t (.int .u8) a0] (Q6 (.t .bool))=Z66.F a0:=by kernel_rfl
theorem Z66.G (hE:EnvOk Tryz.prog Q0)(pv:Nat->Value):∀cal A,Z66.C cal=some A->Qc Tryz.prog Q0 pv cal A:=by
 intro cal A h
 unfold Z66.C at h
 cases h
theorem Z66.good (hE:EnvOk Tryz.prog Q0)(pv:Nat->Value)(a0:Int){y:_}(h:Z66.F a0=some y):Qb Tryz.prog Q0 pv (.f 110) (Q7 [(.int .u8)] (a0,())) (.t .bool y):=
 Q8 hE (Z66.G hE pv) (f:=110) (fn:=Tryz.f110) (by kernel_rfl) rfl (by kernel_rfl) (by kernel_rfl) ((Z66.run a0).trans h) (λr hr=>Q1 hr)
def Z62.F (a0:Int):Option (Bool):=(Z66.F a0).bind λr1=>bif r1 then(some true)else((Z57.F a0).bind λr2=>some r2)
def Z62.C:Cal->Option CArm:=λc=>match c with
 |.f 110=>some (.p [(.int .u8)] _ (λx=>Z66.F x.1) (λr=>(.t .bool r)))
 |.f 90=>some (.p [(.int .u8)] _ (λx=>Z57.F x.1) (λr=>(.t .bool r)))
 |_=>none
theorem Z62.run (a0:Int):Qq Q0 (Qf Z62.C) (Qe 9 0 (λ_=>none)) Tryz.f131 [.t (.int .u8) a0] (Q6 (.t .bool))=Z62.F a0:=by kernel_rfl
theorem Z62.G (hE:EnvOk Tryz.prog Q0)(pv:Nat->Value):∀cal A,Z62.C cal=some A->Qc Tryz.prog Q0 pv cal A:=by
 intro cal A h
 unfold Z62.C at h
 split at h
 ·cases h;exact λx y hy=>Z66.good hE pv x.1 hy
 ·cases h;exact λx y hy=>Z57.good hE pv x.1 hy
 ·cases h
theorem Z62.good (hE:EnvOk Tryz.prog Q0)(pv:Nat->Value)(a0:Int){y:_}(h:Z62.F a0=some y):Qb Tryz.prog Q0 pv (.f 131) (Q7 [(.int .u8)] (a0,())) (.t .bool y):=
 Q8 hE (Z62.G hE pv) (f:=131) (fn:=Tryz.f131) (by kernel_rfl) rfl (by kernel_rfl) (by kernel_rfl) ((Z62.run a0).trans h) (λr hr=>Q1 hr)
def Z10.l0:Nat->ByteArray->Int->Option (Sum Bool Unit)
 |0,_,_=>none
 |k+1,x0,x3=>bif (decide (x3<(x0.size:Int)))then(bif decide (0<=x3)then(bif decide (x3<(x0.size:Int))then((Z62.F (bt x0 (x3:Int).toNat)).bind λr4=>bif (!r4)then(bif decide (0<=x3)then(bif decide (x3<(x0.size:Int))then(bif ((bt x0 (x3:Int).toNat) != 45)then(bif decide (0<=x3)then(bif decide (x3<(x0.size:Int))then(bif ((bt x0 (x3:Int).toNat) != 39)then(some (.inl false))else(bif decide (0<=(IntKind.wrap .i64 (x3-1)))then(bif decide ((IntKind.wrap .i64 (x3-1))<(x0.size:Int))then((Z62.F (bt x0 ((IntKind.wrap .i64 (x3-1)):Int).toNat)).bind λr5=>bif (!r5)then(some (.inl false))else(Z10.l0 k x0 (IntKind.wrap .i64 (x3+1))))else none)else none))else none)else none)else(bif decide (0<=(IntKind.wrap .i64 (x3-1)))then(bif decide ((IntKind.wrap .i64 (x3-1))<(x0.size:Int))then((Z62.F (bt x0 ((IntKind.wrap .i64 (x3-1)):Int).toNat)).bind λr6=>bif (!r6)then(some (.inl false))else(Z10.l0 k x0 (IntKind.wrap .i64 (x3+1))))else none)else none))else none)else none)else(Z10.l0 k x0 (IntKind.wrap .i64 (x3+1))))else none)else none)else(some (.inr ()))
def Z10.F (k:Nat)(a0:ByteArray):Option (Bool):=(Z52.F (a0.size:Int) 1 12).bind λr1=>bif (!r1)then(some false)else(bif decide (0<=0)then(bif decide (0<(a0.size:Int))then((Z62.F (bt a0 (0:Int).toNat)).bind λr2=>bif (!r2)then(some false)else(bif decide (0<=(IntKind.wrap .i64 ((a0.size:Int)-1)))then(bif decide ((IntKind.wrap .i64 ((a0.size:Int)-1))<(a0.size:Int))then((Z62.F (bt a0 ((IntKind.wrap .i64 ((a0.size:Int)-1)):Int).toNat)).bind λr3=>bif (!r3)then(some false)else((Z10.l0 k a0 1).bind λy7=>match y7 with|.inl z8=>some z8|.inr z8=>some true))else none)else none))else none)else none)
def Z10.C (k:Nat):Cal->Option CArm:=λc=>match c with
 |.f 57=>some (.p [(.int .i64),(.int .i64),(.int .i64)] _ (λx=>Z52.F x.1 x.2.1 x.2.2.1) (λr=>(.t .bool r)))
 |.f 131=>some (.p [(.int .u8)] _ (λx=>Z62.F x.1) (λr=>(.t .bool r)))
 |_=>none
def Z10.sp0:List Sp:=[.t 0 .str,.t 3 (.int .i64)]
def Z10.sp0_0:List Sp:=[.t 2 .bool]
def Z10.sp0_1:List Sp:=[]
def Z10.A0:LArm:=.two Z10.sp0 Z10.sp0_0 Z10.sp0_1 (Bool) (Unit) (λk x=>Z10.l0 k x.1 x.2.1) .ret (.exit 0) (λy=>(y,())) (λx=>x.1) (λy=>()) (λx=>())
def Z10.L:Nat->Option LArm:=λb=>match b with
 |0=>some Z10.A0
 |_=>none
theorem Z10.run (k:Nat)(a0:ByteArray):Qq Q0 (Qf (Z10.C k)) (Qe 54 k Z10.L) Tryz.f109 [.t .str a0] (Q6 (.t .bool))=Z10.F k a0:=by kernel_rfl
theorem Z10.step0 (k:Nat)(x0:ByteArray)(x3:Int):QN Q0 (Qf (Z10.C k)) (Qe 54 k Z10.L) 0 (Qm Tryz.f109 0) (J6 54 Z10.sp0 (x0,x3,())) (Z10.A0.cont 54 k)=Z10.l0 (k+1) x0 x3:=by kernel_rfl
theorem Z10.G (hE:EnvOk Tryz.prog Q0)(pv:Nat->Value)(k:Nat):∀cal A,Z10.C k cal=some A->Qc Tryz.prog Q0 pv cal A:=by
 intro cal A h
 unfold Z10.C at h
 split at h
 ·cases h;exact λx y hy=>Z52.good hE pv x.1 x.2.1 x.2.2.1 hy
 ·cases h;exact λx y hy=>Z62.good hE pv x.1 hy
 ·cases h
theorem Z10.good (hE:EnvOk Tryz.prog Q0)(pv:Nat->Value)(k:Nat)(a0:ByteArray){y:_}(h:Z10.F k a0=some y):Qb Tryz.prog Q0 pv (.f 109) (Q7 [.str] (a0,())) (.t .bool y):=
 Qj hE (t:=Z10.C) k (λk _=>Z10.G hE pv k) (f:=109) (fn:=Tryz.f109) (by kernel_rfl) rfl (by kernel_rfl) (by kernel_rfl) (lt:=Z10.L) (by kernel_rfl) (λb A h=>by
  unfold Z10.L at h;split at h
  ·cases h;exact⟨by kernel_rfl,by kernel_rfl,by kernel_rfl,λ_=>rfl,λ_=>rfl,λ_=>rfl⟩
  ·cases h) (λb A h=>by
  unfold Z10.L at h;split at h
  ·cases h;exact λk x=>Z10.step0 k x.1 x.2.1
  ·cases h) ((Z10.run k a0).trans h) (λr hr=>Q1 hr)
def Z34.l0:Nat->ByteArray->Int->(List ByteArray)->Int->Int->Option (ByteArray× (List ByteArray)×Int)
 |0,_,_,_,_,_=>none
 |k+1,x0,x1,x5,x6,x7=>bif (decide (x7<(x0.size:Int)))then(bif decide (0<=x7)then(bif decide (x7<(x0.size:Int))then(bif ((bt x0 (x7:Int).toNat)==x1)then(bif decide (0<=x7)then(bif decide (x7<=(x0.size:Int))then(bif decide (0<=x6)then(bif decide (x6<=x7)then(bif room (x5.length+([(x0.extract (x6:Int).toNat (x7:Int).toNat)]:List ByteArray).length) .str then(Z34.l0 k x0 x1 (x5++([(x0.extract (x6:Int).toNat (x7:Int).toNat)]:List ByteArray)) (IntKind.wrap .i64 (x7+1)) (IntKind.wrap .i64 (x7+1)))else none)else none)else none)else none)else none)else(Z34.l0 k x0 x1 x5 x6 (IntKind.wrap .i64 (x7+1))))else none)else none)else(some (x0,x5,x6))
def Z34.F (k:Nat)(a0:ByteArray)(a1:Int):Option (List ByteArray):=(Z34.l0 k a0 a1 ([]:List ByteArray) 0 0).bind λy1=>bif decide (0<=y1.2.2)then(bif decide (y1.2.2<=(y1.1.size:Int))then(bif room (y1.2.1.length+([(y1.1.extract (y1.2.2:Int).toNat y1.1.size)]:List ByteArray).length) .str then(some (y1.2.1++([(y1.1.extract (y1.2.2:Int).toNat y1.1.size)]:List ByteArray)))else none)else none)else none
def Z34.C (k:Nat):Cal->Option CArm:=λc=>match c with
 |_=>none
def Z34.sp0:List Sp:=[.t 0 .str,.t 1 (.int .u8),.own 5 1024 9 .str false true,.t 6 (.int .i64),.t 7 (.int .i64)]
def Z34.sp0_0:List Sp:=[.t 0 .str,.own 5 1024 9 .str false true,.t 6 (.int .i64)]
def Z34.A0:LArm:=.one Z34.sp0 Z34.sp0_0 (ByteArray× (List ByteArray)×Int) (λk x=>Z34.l0 k x.1 x.2.1 x.2.2.1 x.2.2.2.1 x.2.2.2.2.1) (.exit 0) (λy=>(y.1,y.2.1,y.2.2,())) (λx=>(x.1,x.2.1,x.2.2.1))
def Z34.L:Nat->Option LArm:=λb=>match b with
 |0=>some Z34.A0
 |_=>none
theorem Z34.run (k:Nat)(a0:ByteArray)(a1:Int):Qq Q0 (Qf (Z34.C k)) (Qe 35 k Z34.L) Tryz.f132 [.t .str a0,.t (.int .u8) a1] (Q6 (.fr 9 .str))=Z34.F k a0 a1:=by kernel_rfl
theorem Z34.step0 (k:Nat)(x0:ByteArray)(x1:Int)(x5:List ByteArray)(x6:Int)(x7:Int):QN Q0 (Qf (Z34.C k)) (Qe 35 k Z34.L) 0 (Qm Tryz.f132 0) (J6 35 Z34.sp0 (x0,x1,x5,x6,x7,())) (Z34.A0.cont 35 k)=Z34.l0 (k+1) x0 x1 x5 x6 x7:=by kernel_rfl
theorem Z34.G (hE:EnvOk Tryz.prog Q0)(pv:Nat->Value)(k:Nat):∀cal A,Z34.C k cal=some A->Qc Tryz.prog Q0 pv cal A:=by
 intro cal A h
 unfold Z34.C at h
 cases h
theorem Z34.good (hE:EnvOk Tryz.prog Q0)(pv:Nat->Value)(k:Nat)(a0:ByteArray)(a1:Int){y:_}(h:Z34.F k a0 a1=some y):Qb Tryz.prog Q0 pv (.f 132) (Q7 [.str,(.int .u8)] (a0,a1,())) (.fr 9 .str y):=
 Qj hE (t:=Z34.C) k (λk _=>Z34.G hE pv k) (f:=132) (fn:=Tryz.f132) (by kernel_rfl) rfl (by kernel_rfl) (by kernel_rfl) (lt:=Z34.L) (by kernel_rfl) (λb A h=>by
  unfold Z34.L at h;split at h
  ·cases h;exact⟨by kernel_rfl,by kernel_rfl,λ_=>rfl,λ_=>rfl⟩
  ·cases h) (λb A h=>by
  unfold Z34.L at h;split at h
  ·cases h;exact λk x=>Z34.step0 k x.1 x.2.1 x.2.2.1 x.2.2.2.1 x.2.2.2.2.1
  ·cases h) ((Z34.run k a0 a1).trans h) (λr hr=>Q1 hr)
def Z2.l2:Nat->(List ByteArray)->Int->Int->Option (Sum Bool ((List ByteArray)×Int))
 |0,_,_,_=>none
 |k+1,x3,x4,x5=>bif decide (0<=x4)then(bif decide (x4<(x3.length:Int))then(bif (decide (x5<((x3.getD ((x4:Int).toNat) (⟨#[]⟩:ByteArray)).size:Int)))then(bif decide (0<=x4)then(bif decide (x4<(x3.length:Int))then(bif decide (0<=x5)then(bif decide (x5<((x3.getD ((x4:Int).toNat) (⟨#[]⟩:ByteArray)).size:Int))then((Z57.F (bt (x3.getD ((x4:Int).toNat) (⟨#[]⟩:ByteArray)) (x5:Int).toNat)).bind λr3=>bif (!r3)then(some (.inl false))else(Z2.l2 k x3 x4 (IntKind.wrap .i64 (x5+1))))else none)else none)else none)else none)else(some (.inr (x3,x4))))else none)else none
def Z2.l0:Nat->(List ByteArray)->Int->Option (Sum Bool (List ByteArray))
 |0,_,_=>none
 |k+1,x3,x4=>bif (decide (x4<(x3.length:Int)))then(bif decide (0<=x4)then(bif decide (x4<(x3.length:Int))then((Z10.F k (x3.getD ((x4:Int).toNat) (⟨#[]⟩:ByteArray))).bind λr2=>bif (!r2)then(some (.inl false))else((Z2.l2 k x3 x4 0).bind λy4=>match y4 with|.inl z5=>some (.inl z5)|.inr z5=>Z2.l0 k z5.1 (IntKind.wrap .i64 (z5.2+1))))else none)else none)else(some (.inr x3))
def Z2.F (k:Nat)(a0:ByteArray):Option (Bool):=bif (Q3 a0 (⟨#[]⟩:ByteArray))then(some true)else((Z34.F k a0 32).bind λr1=>(Z2.l0 k r1 0).bind λy6=>match y6 with|.inl z7=>some z7|.inr z7=>some (decide ((z7.length:Int)<=2)))
def Z2.C (k:Nat):Cal->Option CArm:=λc=>match c with
 |.f 132=>some (.p [.str,(.int .u8)] _ (λx=>Z34.F k x.1 x.2.1) (λr=>(.fr 9 .str r)))
 |.f 109=>some (.p [.str] _ (λx=>Z10.F k x.1) (λr=>(.t .bool r)))
 |.f 90=>some (.p [(.int .u8)] _ (λx=>Z57.F x.1) (λr=>(.t .bool r)))
 |_=>none
def Z2.sp2:List Sp:=[.own 3 3076 9 .str false true,.t 4 (.int .i64),.t 5 (.int .i64)]
def Z2.sp2_0:List Sp:=[.t 2 .bool]
def Z2.sp2_1:List Sp:=[.own 3 3076 9 .str false true,.t 4 (.int .i64)]
def Z2.A2:LArm:=.two Z2.sp2 Z2.sp2_0 Z2.sp2_1 (Bool) ((List ByteArray)×Int) (λk x=>Z2.l2 k x.1 x.2.1 x.2.2.1) .ret (.exit 2) (λy=>(y,())) (λx=>x.1) (λy=>(y.1,y.2,())) (λx=>(x.1,x.2.1))
def Z2.sp0:List Sp:=[.own 3 3076 9 .str false true,.t 4 (.int .i64)]
def Z2.sp0_0:List Sp:=[.t 2 .bool]
def Z2.sp0_1:List Sp:=[.own 3 3076 9 .str false true]
def Z2.A0:LArm:=.two Z2.sp0 Z2.sp0_0 Z2.sp0_1 (Bool) ((List ByteArray)) (λk x=>Z2.l0 k x.1 x.2.1) .ret (.exit 0) (λy=>(y,())) (λx=>x.1) (λy=>(y,())) (λx=>x.1)
def Z2.L:Nat->Option LArm:=λb=>match b with
 |2=>some Z2.A2
 |0=>some Z2.A0
 |_=>none
theorem Z2.run (k:Nat)(a0:ByteArray):Qq Q0 (Qf (Z2.C k)) (Qe 42 k Z2.L) Tryz.f111 [.t .str a0] (Q6 (.t .bool))=Z2.F k a0:=by kernel_rfl
theorem Z2.step2 (k:Nat)(x3:List ByteArray)(x4:Int)(x5:Int):QN Q0 (Qf (Z2.C k)) (Qe 42 k Z2.L) 2 (Qm Tryz.f111 2) (J6 42 Z2.sp2 (x3,x4,x5,())) (Z2.A2.cont 42 k)=Z2.l2 (k+1) x3 x4 x5:=by kernel_rfl
theorem Z2.step0 (k:Nat)(x3:List ByteArray)(x4:Int):QN Q0 (Qf (Z2.C k)) (Qe 42 k Z2.L) 0 (Qm Tryz.f111 0) (J6 42 Z2.sp0 (x3,x4,())) (Z2.A0.cont 42 k)=Z2.l0 (k+1) x3 x4:=by kernel_rfl
theorem Z2.G (hE:EnvOk Tryz.prog Q0)(pv:Nat->Value)(k:Nat):∀cal A,Z2.C k cal=some A->Qc Tryz.prog Q0 pv cal A:=by
 intro cal A h
 unfold Z2.C at h
 split at h
 ·cases h;exact λx y hy=>Z34.good hE pv k x.1 x.2.1 hy
 ·cases h;exact λx y hy=>Z10.good hE pv k x.1 hy
 ·cases h;exact λx y hy=>Z57.good hE pv x.1 hy
 ·cases h
theorem Z2.good (hE:EnvOk Tryz.prog Q0)(pv:Nat->Value)(k:Nat)(a0:ByteArray){y:_}(h:Z2.F k a0=some y):Qb Tryz.prog Q0 pv (.f 111) (Q7 [.str] (a0,())) (.t .bool y):=
 Qj hE (t:=Z2.C) k (λk _=>Z2.G hE pv k) (f:=111) (fn:=Tryz.f111) (by kernel_rfl) rfl (by kernel_rfl) (by kernel_rfl) (lt:=Z2.L) (by kernel_rfl) (λb A h=>by
  unfold Z2.L at h;split at h
  ·cases h;exact⟨by kernel_rfl,by kernel_rfl,by kernel_rfl,λ_=>rfl,λ_=>rfl,λ_=>rfl⟩
  ·cases h;exact⟨by kernel_rfl,by kernel_rfl,by kernel_rfl,λ_=>rfl,λ_=>rfl,λ_=>rfl⟩
  ·cases h) (λb A h=>by
  unfold Z2.L at h;split at h
  ·cases h;exact λk x=>Z2.step2 k x.1 x.2.1 x.2.2.1
  ·cases h;exact λk x=>Z2.step0 k x.1 x.2.1
  ·cases h) ((Z2.run k a0).trans h) (λr hr=>Q1 hr)
def Z28.l0:Nat->Name->Int->Option (Sum Bool Name)
 |0,_,_=>none
 |k+1,x1,x3=>bif (decide (x3<(x1.given.length:Int)))then(bif decide (0<=x3)then(bif decide (x3<(x1.given.length:Int))then((Z10.F k (x1.given.getD (x3:Int).toNat (⟨#[]⟩:ByteArray))).bind λr1=>bif (!r1)then(some (.inl false))else(bif decide (0<=x3)then(bif decide (x3<(x1.given.length:Int))then(bif decide (0<=0)then(bif decide (0<((x1.given.getD (x3:Int).toNat (⟨#[]⟩:ByteArray)).size:Int))then((Z66.F (bt (x1.given.getD (x3:Int).toNat (⟨#[]⟩:ByteArray)) (0:Int).toNat)).bind λr2=>bif (!r2)then(some (.inl false))else(Z28.l0 k x1 (IntKind.wrap .i64 (x3+1))))else none)else none)else none)else none))else none)else none)else(some (.inr x1))
def Z28.F (k:Nat)(a0:Name):Option (Bool):=(Z28.l0 k a0 0).bind λy3=>match y3 with|.inl z4=>some z4|.inr z4=>bif (decide ((z4.given.length:Int)<=3))then((Z2.F k z4.particle).bind λr5=>bif r5 then((Z10.F k z4.family).bind λr6=>bif r6 then(bif decide (0<=0)then(bif decide (0<(z4.family.size:Int))then((Z66.F (bt z4.family (0:Int).toNat)).bind λr7=>bif r7 then(bif (Q3 z4.suffix (⟨#[]⟩:ByteArray))then(some true)else((Z10.F k z4.suffix).bind λr8=>some r8))else(some false))else none)else none)else(some false))else(some false))else(some false)
def Z28.C (k:Nat):Cal->Option CArm:=λc=>match c with
 |.f 109=>some (.p [.str] _ (λx=>Z10.F k x.1) (λr=>(.t .bool r)))
 |.f 110=>some (.p [(.int .u8)] _ (λx=>Z66.F x.1) (λr=>(.t .bool r)))
 |.f 111=>some (.p [.str] _ (λx=>Z2.F k x.1) (λr=>(.t .bool r)))
 |_=>none
def Z28.sp0:List Sp:=[.boxT 1 0 .name,.t 3 (.int .i64)]
def Z28.sp0_0:List Sp:=[.t 2 .bool]
def Z28.sp0_1:List Sp:=[.boxT 1 0 .name]
def Z28.A0:LArm:=.two Z28.sp0 Z28.sp0_0 Z28.sp0_1 (Bool) (Name) (λk x=>Z28.l0 k x.1 x.2.1) .ret (.exit 0) (λy=>(y,())) (λx=>x.1) (λy=>(y,())) (λx=>x.1)
def Z28.L:Nat->Option LArm:=λb=>match b with
 |0=>some Z28.A0
 |_=>none
theorem Z28.run (k:Nat)(a0:Name):Qq Q0 (Qf (Z28.C k)) (Qe 58 k Z28.L) Tryz.f91 [.t .name a0] (Q6 (.t .bool))=Z28.F k a0:=by kernel_rfl
theorem Z28.step0 (k:Nat)(x1:Name)(x3:Int):QN Q0 (Qf (Z28.C k)) (Qe 58 k Z28.L) 0 (Qm Tryz.f91 0) (J6 58 Z28.sp0 (x1,x3,())) (Z28.A0.cont 58 k)=Z28.l0 (k+1) x1 x3:=by kernel_rfl
theorem Z28.G (hE:EnvOk Tryz.prog Q0)(pv:Nat->Value)(k:Nat):∀cal A,Z28.C k cal=some A->Qc Tryz.prog Q0 pv cal A:=by
 intro cal A h
 unfold Z28.C at h
 split at h
 ·cases h;exact λx y hy=>Z10.good hE pv k x.1 hy
 ·cases h;exact λx y hy=>Z66.good hE pv x.1 hy
 ·cases h;exact λx y hy=>Z2.good hE pv k x.1 hy
 ·cases h
theorem Z28.good (hE:EnvOk Tryz.prog Q0)(pv:Nat->Value)(k:Nat)(a0:Name){y:_}(h:Z28.F k a0=some y):Qb Tryz.prog Q0 pv (.f 91) (Q7 [.name] (a0,())) (.t .bool y):=
 Qj hE (t:=Z28.C) k (λk _=>Z28.G hE pv k) (f:=91) (fn:=Tryz.f91) (by kernel_rfl) rfl (by kernel_rfl) (by kernel_rfl) (lt:=Z28.L) (by kernel_rfl) (λb A h=>by
  unfold Z28.L at h;split at h
  ·cases h;exact⟨by kernel_rfl,by kernel_rfl,by kernel_rfl,λ_=>rfl,λ_=>rfl,λ_=>rfl⟩
  ·cases h) (λb A h=>by
  unfold Z28.L at h;split at h
  ·cases h;exact λk x=>Z28.step0 k x.1 x.2.1
  ·cases h) ((Z28.run k a0).trans h) (λr hr=>Q1 hr)
def Z23.l0:Nat->(List Name)->Int->Option (Sum Bool (List Name))
 |0,_,_=>none
 |k+1,x0,x3=>bif (decide (x3<(x0.length:Int)))then(bif (decide (x3<=4))then(bif decide (0<=x3)then(bif decide (x3<(x0.length:Int))then((Z28.F k (x0.getD (x3:Int).toNat (Q2 .name))).bind λr1=>bif (!r1)then(some (.inl false))else(Z23.l0 k x0 (IntKind.wrap .i64 (x3+1))))else none)else none)else(some (.inr x0)))else(some (.inr x0))
def Z23.F (k:Nat)(a0:List Name):Option (Bool):=(Z23.l0 k a0 0).bind λy2=>match y2 with|.inl z3=>some z3|.inr z3=>some (decide ((z3.length:Int)<=4))
def Z23.C (k:Nat):Cal->Option CArm:=λc=>match c with
 |.f 91=>some (.p [.name] _ (λx=>Z28.F k x.1) (λr=>(.t .bool r)))
 |_=>none
def Z23.sp0:List Sp:=[.t 0 (.sl .name),.t 3 (.int .i64)]
def Z23.sp0_0:List Sp:=[.t 2 .bool]
def Z23.sp0_1:List Sp:=[.t 0 (.sl .name)]
def Z23.A0:LArm:=.two Z23.sp0 Z23.sp0_0 Z23.sp0_1 (Bool) ((List Name)) (λk x=>Z23.l0 k x.1 x.2.1) .ret (.exit 0) (λy=>(y,())) (λx=>x.1) (λy=>(y,())) (λx=>x.1)
def Z23.L:Nat->Option LArm:=λb=>match b with
 |0=>some Z23.A0
 |_=>none
theorem Z23.run (k:Nat)(a0:List Name):Qq Q0 (Qf (Z23.C k)) (Qe 23 k Z23.L) Tryz.f58 [.t (.sl .name) a0] (Q6 (.t .bool))=Z23.F k a0:=by kernel_rfl
theorem Z23.step0 (k:Nat)(x0:List Name)(x3:Int):QN Q0 (Qf (Z23.C k)) (Qe 23 k Z23.L) 0 (Qm Tryz.f58 0) (J6 23 Z23.sp0 (x0,x3,())) (Z23.A0.cont 23 k)=Z23.l0 (k+1) x0 x3:=by kernel_rfl
theorem Z23.G (hE:EnvOk Tryz.prog Q0)(pv:Nat->Value)(k:Nat):∀cal A,Z23.C k cal=some A->Qc Tryz.prog Q0 pv cal A:=by
 intro cal A h
 unfold Z23.C at h
 split at h
 ·cases h;exact λx y hy=>Z28.good hE pv k x.1 hy
 ·cases h
theorem Z23.good (hE:EnvOk Tryz.prog Q0)(pv:Nat->Value)(k:Nat)(a0:List Name){y:_}(h:Z23.F k a0=some y):Qb Tryz.prog Q0 pv (.f 58) (Q7 [(.sl .name)] (a0,())) (.t .bool y):=
 Qj hE (t:=Z23.C) k (λk _=>Z23.G hE pv k) (f:=58) (fn:=Tryz.f58) (by kernel_rfl) rfl (by kernel_rfl) (by kernel_rfl) (lt:=Z23.L) (by kernel_rfl) (λb A h=>by
  unfold Z23.L at h;split at h
  ·cases h;exact⟨by kernel_rfl,by kernel_rfl,by kernel_rfl,λ_=>rfl,λ_=>rfl,λ_=>rfl⟩
  ·cases h) (λb A h=>by
  unfold Z23.L at h;split at h
  ·cases h;exact λk x=>Z23.step0 k x.1 x.2.1
  ·cases h) ((Z23.run k a0).trans h) (λr hr=>Q1 hr)
def Z24.l0:Nat->ByteArray->Int->Option (Sum Bool ByteArray)
 |0,_,_=>none
 |k+1,x0,x3=>bif (decide (x3<(x0.size:Int)))then(bif decide (0<=x3)then(bif decide (x3<(x0.size:Int))then(bif (decide ((bt x0 (x3:Int).toNat)<32))then(some (.inl false))else(bif decide (0<=x3)then(bif decide (x3<(x0.size:Int))then(bif (decide ((bt x0 (x3:Int).toNat) > 126))then(some (.inl false))else(Z24.l0 k x0 (IntKind.wrap .i64 (x3+1))))else none)else none))else none)else none)else(some (.inr x0))
def Z24.F (k:Nat)(a0:ByteArray):Option (Bool):=bif (decide ((a0.size:Int) > 40))then(some false)else((Z24.l0 k a0 0).bind λy1=>match y1 with|.inl z2=>some z2|.inr z2=>bif (Q3 z2 (⟨#[]⟩:ByteArray))then(some true)else(bif decide (0<=0)then(bif decide (0<(z2.size:Int))then(bif ((bt z2 (0:Int).toNat) != 32)then(bif decide (0<=(IntKind.wrap .i64 ((z2.size:Int)-1)))then(bif decide ((IntKind.wrap .i64 ((z2.size:Int)-1))<(z2.size:Int))then(some ((bt z2 ((IntKind.wrap .i64 ((z2.size:Int)-1)):Int).toNat) != 32))else none)else none)else(some false))else none)else none))
def Z24.C (k:Nat):Cal->Option CArm:=λc=>match c with
 |_=>none
def Z24.sp0:List Sp:=[.t 0 .str,.t 3 (.int .i64)]
def Z24.sp0_0:List Sp:=[.t 2 .bool]
def Z24.sp0_1:List Sp:=[.t 0 .str]
def Z24.A0:LArm:=.two Z24.sp0 Z24.sp0_0 Z24.sp0_1 (Bool) (ByteArray) (λk x=>Z24.l0 k x.1 x.2.1) .ret (.exit 0) (λy=>(y,())) (λx=>x.1) (λy=>(y,())) (λx=>x.1)
def Z24.L:Nat->Option LArm:=λb=>match b with
 |0=>some Z24.A0
 |_=>none
theorem Z24.run (k:Nat)(a0:ByteArray):Qq Q0 (Qf (Z24.C k)) (Qe 38 k Z24.L) Tryz.f59 [.t .str a0] (Q6 (.t .bool))=Z24.F k a0:=by kernel_rfl
theorem Z24.step0 (k:Nat)(x0:ByteArray)(x3:Int):QN Q0 (Qf (Z24.C k)) (Qe 38 k Z24.L) 0 (Qm Tryz.f59 0) (J6 38 Z24.sp0 (x0,x3,())) (Z24.A0.cont 38 k)=Z24.l0 (k+1) x0 x3:=by kernel_rfl
theorem Z24.G (hE:EnvOk Tryz.prog Q0)(pv:Nat->Value)(k:Nat):∀cal A,Z24.C k cal=some A->Qc Tryz.prog Q0 pv cal A:=by
 intro cal A h
 unfold Z24.C at h
 cases h
theorem Z24.good (hE:EnvOk Tryz.prog Q0)(pv:Nat->Value)(k:Nat)(a0:ByteArray){y:_}(h:Z24.F k a0=some y):Qb Tryz.prog Q0 pv (.f 59) (Q7 [.str] (a0,())) (.t .bool y):=
 Qj hE (t:=Z24.C) k (λk _=>Z24.G hE pv k) (f:=59) (fn:=Tryz.f59) (by kernel_rfl) rfl (by kernel_rfl) (by kernel_rfl) (lt:=Z24.L) (by kernel_rfl) (λb A h=>by
  unfold Z24.L at h;split at h
  ·cases h;exact⟨by kernel_rfl,by kernel_rfl,by kernel_rfl,λ_=>rfl,λ_=>rfl,λ_=>rfl⟩
  ·cases h) (λb A h=>by
  unfold Z24.L at h;split at h
  ·cases h;exact λk x=>Z24.step0 k x.1 x.2.1
  ·cases h) ((Z24.run k a0).trans h) (λr hr=>Q1 hr)
def Z98.F (a0:Int)(a1:Int):Option (Int):=bif (a1==2)then(bif (4==0)then(none)else(bif ((Int.tmod a0 4)==0)then(bif (100==0)then(none)else(bif ((Int.tmod a0 100) != 0)then(some 29)else(bif (400==0)then(none)else(bif ((Int.tmod a0 400)==0)then(some 29)else(some 28)))))else(bif (400==0)then(none)else(bif ((Int.tmod a0 400)==0)then(some 29)else(some 28)))))else(bif (a1==4)then(some 30)else(bif (a1==6)then(some 30)else(bif (a1==9)then(some 30)else(bif (a1==11)then(some 30)else(some 31)))))
def Z98.C:Cal->Option CArm:=λc=>match c with
 |_=>none
theorem Z98.run (a0:Int)(a1:Int):Qq Q0 (Qf Z98.C) (Qe 34 0 (λ_=>none)) Tryz.f92 [.t (.int .i64) a0,.t (.int .i64) a1] (Q6 (.t (.int .i64)))=Z98.F a0 a1:=by kernel_rfl
theorem Z98.G (hE:EnvOk Tryz.prog Q0)(pv:Nat->Value):∀cal A,Z98.C cal=some A->Qc Tryz.prog Q0 pv cal A:=by
 intro cal A h
 unfold Z98.C at h
 cases h
theorem Z98.good (hE:EnvOk Tryz.prog Q0)(pv:Nat->Value)(a0:Int)(a1:Int){y:_}(h:Z98.F a0 a1=some y):Qb Tryz.prog Q0 pv (.f 92) (Q7 [(.int .i64),(.int .i64)] (a0,a1,())) (.t (.int .i64) y):=
 Q8 hE (Z98.G hE pv) (f:=92) (fn:=Tryz.f92) (by kernel_rfl) rfl (by kernel_rfl) (by kernel_rfl) ((Z98.run a0 a1).trans h) (λr hr=>Q1 hr)
def Z85.F (a0:Date):Option (Bool):=bif ((a0.y==0&&(a0.m==0&&(a0.d==0&&a0.c==false))))then(some true)else((Z52.F a0.y 1 2999).bind λr1=>bif (!r1)then(some false)else((Z52.F a0.m 0 12).bind λr2=>bif (!r2)then(some false)else(bif a0.c then(bif (a0.m==0)then(some (a0.d==0))else(some false))else(bif (a0.m==0)then(some (a0.d==0))else((Z98.F a0.y a0.m).bind λr3=>(Z52.F a0.d 0 r3).bind λr4=>some r4)))))
def Z85.C:Cal->Option CArm:=λc=>match c with
 |.f 57=>some (.p [(.int .i64),(.int .i64),(.int .i64)] _ (λx=>Z52.F x.1 x.2.1 x.2.2.1) (λr=>(.t .bool r)))
 |.f 92=>some (.p [(.int .i64),(.int .i64)] _ (λx=>Z98.F x.1 x.2.1) (λr=>(.t (.int .i64) r)))
 |_=>none
theorem Z85.run (a0:Date):Qq Q0 (Qf Z85.C) (Qe 44 0 (λ_=>none)) Tryz.f60 [.t .date a0] (Q6 (.t .bool))=Z85.F a0:=by kernel_rfl
theorem Z85.G (hE:EnvOk Tryz.prog Q0)(pv:Nat->Value):∀cal A,Z85.C cal=some A->Qc Tryz.prog Q0 pv cal A:=by
 intro cal A h
 unfold Z85.C at h
 split at h
 ·cases h;exact λx y hy=>Z52.good hE pv x.1 x.2.1 x.2.2.1 hy
 ·cases h;exact λx y hy=>Z98.good hE pv x.1 x.2.1 hy
 ·cases h
theorem Z85.good (hE:EnvOk Tryz.prog Q0)(pv:Nat->Value)(a0:Date){y:_}(h:Z85.F a0=some y):Qb Tryz.prog Q0 pv (.f 60) (Q7 [.date] (a0,())) (.t .bool y):=
 Q8 hE (Z85.G hE pv) (f:=60) (fn:=Tryz.f60) (by kernel_rfl) rfl (by kernel_rfl) (by kernel_rfl) ((Z85.run a0).trans h) (λr hr=>Q1 hr)
def Z53.F (k:Nat)(a0:Entry):Option (Bool):=(Z20.F k a0.key).bind λr1=>bif (!r1)then(some false)else((Z52.F a0.kind 1 4).bind λr2=>bif (!r2)then(some false)else((Z23.F k a0.authors).bind λr3=>bif (!r3)then(some false)else((Z23.F k a0.editors).bind λr4=>bif (!r4)then(some false)else((Z24.F k a0.title).bind λr5=>bif (!r5)then(some false)else((Z24.F k a0.container).bind λr6=>bif (!r6)then(some false)else((Z24.F k a0.publisher).bind λr7=>bif (!r7)then(some false)else((Z24.F k a0.pages).bind λr8=>bif (!r8)then(some false)else((Z85.F a0.date).bind λr9=>bif r9 then((Z52.F a0.volume 0 9999).bind λr10=>bif r10 then(bif (Q3 a0.cross (⟨#[]⟩:ByteArray))then(some true)else((Z20.F k a0.cross).bind λr11=>bif r11 then(some (!Q3 a0.cross a0.key))else(some false)))else(some false))else(some false)))))))))
def Z53.C (k:Nat):Cal->Option CArm:=λc=>match c with
 |.f 56=>some (.p [.str] _ (λx=>Z20.F k x.1) (λr=>(.t .bool r)))
 |.f 57=>some (.p [(.int .i64),(.int .i64),(.int .i64)] _ (λx=>Z52.F x.1 x.2.1 x.2.2.1) (λr=>(.t .bool r)))
 |.f 58=>some (.p [(.sl .name)] _ (λx=>Z23.F k x.1) (λr=>(.t .bool r)))
 |.f 59=>some (.p [.str] _ (λx=>Z24.F k x.1) (λr=>(.t .bool r)))
 |.f 60=>some (.p [.date] _ (λx=>Z85.F x.1) (λr=>(.t .bool r)))
 |_=>none
theorem Z53.run (k:Nat)(a0:Entry):Qq Q0 (Qf (Z53.C k)) (Qe 72 0 (λ_=>none)) Tryz.f23 [.t .entry a0] (Q6 (.t .bool))=Z53.F k a0:=by kernel_rfl
theorem Z53.G (hE:EnvOk Tryz.prog Q0)(pv:Nat->Value)(k:Nat):∀cal A,Z53.C k cal=some A->Qc Tryz.prog Q0 pv cal A:=by
 intro cal A h
 unfold Z53.C at h
 split at h
 ·cases h;exact λx y hy=>Z20.good hE pv k x.1 hy
 ·cases h;exact λx y hy=>Z52.good hE pv x.1 x.2.1 x.2.2.1 hy
 ·cases h;exact λx y hy=>Z23.good hE pv k x.1 hy
 ·cases h;exact λx y hy=>Z24.good hE pv k x.1 hy
 ·cases h;exact λx y hy=>Z85.good hE pv x.1 hy
 ·cases h
theorem Z53.good (hE:EnvOk Tryz.prog Q0)(pv:Nat->Value)(k:Nat)(a0:Entry){y:_}(h:Z53.F k a0=some y):Qb Tryz.prog Q0 pv (.f 23) (Q7 [.entry] (a0,())) (.t .bool y):=
 Q8 hE (Z53.G hE pv k) (f:=23) (fn:=Tryz.f23) (by kernel_rfl) rfl (by kernel_rfl) (by kernel_rfl) ((Z53.run k a0).trans h) (λr hr=>Q1 hr)
def Z49.F (a0:ByteArray)(a1:ByteArray):Option (ByteArray):=bif (Q3 a0 (⟨#[]⟩:ByteArray))then(some a1)else(some a0)
def Z49.C:Cal->Option CArm:=λc=>match c with
 |_=>none
theorem Z49.run (a0:ByteArray)(a1:ByteArray):Qq Q0 (Qf Z49.C) (Qe 9 0 (λ_=>none)) Tryz.f62 [.t .str a0,.t .str a1] (Q6 (.t .str))=Z49.F a0 a1:=by kernel_rfl
theorem Z49.G (hE:EnvOk Tryz.prog Q0)(pv:Nat->Value):∀cal A,Z49.C cal=some A->Qc Tryz.prog Q0 pv cal A:=by
 intro cal A h
 unfold Z49.C at h
 cases h
theorem Z49.good (hE:EnvOk Tryz.prog Q0)(pv:Nat->Value)(a0:ByteArray)(a1:ByteArray){y:_}(h:Z49.F a0 a1=some y):Qb Tryz.prog Q0 pv (.f 62) (Q7 [.str,.str] (a0,a1,())) (.t .str y):=
 Q8 hE (Z49.G hE pv) (f:=62) (fn:=Tryz.f62) (by kernel_rfl) rfl (by kernel_rfl) (by kernel_rfl) ((Z49.run a0 a1).trans h) (λr hr=>Q1 hr)
end Go.Proofs.YtbpjfjdkjapnoaaGreatDoor
end
