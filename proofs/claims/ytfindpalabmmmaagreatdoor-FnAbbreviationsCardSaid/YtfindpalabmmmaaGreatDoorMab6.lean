/- Library functions: their contracts,proved once for any program,as what a callee keeps to. By an AI agent's session. -/
import Derived.Test.YtfindpalabmmmaaGreatDoorMab4
import Derived.Shelf.Vars
import Derived.Below
import Derived.Lib.IndexMore
import Derived.Lib.Split
import Derived.Lib.SplitLaws
import Derived.Lib.Repeat
import Derived.Deep.Draws
import Derived.Lib.Join
import Derived.Lib.SlTrimSet
import Derived.Lib.IndexAny
import Derived.Lib.TrimByte
import Derived.Laws.AppendOwn
import Derived.Lib.ItoaNum
import Derived.Sort.Grow
import Derived.Shelf.Lays2
import Derived.Shelf.RegionOpenPlain
import Derived.WalkKit
import Derived.Lib.Walk
import Derived.Lib.SliceRun
import Derived.Lib.JoinLaws
import Derived.Lib.AppendZeros
import Derived.Lib.AppendZerosOnto
import Derived.Laws.Externs
import Derived.Laws.IdiomCopy
import Derived.Laws.NewBlocks
import Derived.Laws.CopyRow
import Derived.Test.YtfindpalabmmmaaGreatDoorMab5
import Derived.Test.YtfindpalabmmmaaGreatDoorProg
import Derived.KernelRfl
import Derived.Lib.IndexBytes
import Derived.Lib.IndexLaws
import Derived.Lib.CountLaws
set_option linter.unusedVariables false
set_option linter.unusedSimpArgs false
set_option maxRecDepth 100000
section
namespace Go.Gx
open Go.RowKit Go.Lib
theorem Uo {P:Program}{f:FuncId}{fn:Func}{c:Code}(hf:P.funcs[f]? =some fn)(hb:fn.body=some c)(hname:(fn.name== "runtime.NumGoroutine")=false){args:Array Value}{w:World}{R:Value->World->Prop}
  (h:Calls P f args w λe w'=>∃v,e= .returned v/\R v w'):Goes P f args w R:=by
 have hcall:(callFunc f args).run P w= .ok (.enter f args) w:=by
  have hn':fn.name≠ "runtime.NumGoroutine":=by simpa using hname
  simp[callFunc,hf,hn',hb]
 unfold Goes
 rw[hcall]
 exact h
theorem Up {S:Nat->Prop}{w:World}{pv:Nat->Value}{vs:List Value}(h:QZ S w pv [] vs):vs=[]:=List.eq_nil_of_length_eq_zero h.1
theorem Ur {S:Nat->Prop}{w:World}{pv:Nat->Value}{a:AV}{al:List AV}{vs:List Value}(h:QZ S w pv (a::al) vs):∃cs vs',AR S w (λ_=>none) (λ_=>none) pv a cs/\vs=valOf a cs::vs'/\QZ S w pv al vs':=by
 match vs,h with
 |[],h=>cases h.1
 |v::vs',⟨h1,h2⟩=>
  obtain⟨cs,hc,rfl⟩:=h2 0 a v rfl rfl
  exact⟨cs,vs',hc,rfl,by simpa using h1,λi b u hb hu=>h2 (i+1) b u (by simpa using hb) (by simpa using hu)⟩
theorem YR {S:Nat->Prop}{w:World}{pv:Nat->Value}{s:ByteArray}{al:List AV}{vs:List Value}(h:QZ S w pv (.t .str s::al) vs):∃vs',vs= .string s::vs'/\QZ S w pv al vs':=by
 obtain⟨cs,vs',hc,rfl,h'⟩:=Ur h
 cases hc with|t _ _ _ hc=>cases hc;exact⟨vs',rfl,h'⟩
theorem Q7e {S:Nat->Prop}{w:World}{pv:Nat->Value}{k:IntKind}{n:Int}{al:List AV}{vs:List Value}(h:QZ S w pv (.t (.int k) n::al) vs):∃vs',vs= .int k n::vs'/\QZ S w pv al vs':=by
 obtain⟨cs,vs',hc,rfl,h'⟩:=Ur h
 cases hc with|t _ _ _ hc=>cases hc;exact⟨vs',rfl,h'⟩
section
variable {P:Program} {E:Env} {pv:Nat->Value} {f:FuncId} {fn:Func} {c:Code}
theorem Q0k (hf:P.funcs[f]? =some fn)(hb:fn.body=some c)(hname:(fn.name== "runtime.NumGoroutine")=false){args:List AV}{τ:Ty}{y:den τ}{v:Value}(hy:∀S w,∃cs,CR S w τ y cs/\v=valOf (.t τ y) cs)
  (h:∀S w vs,(∀b,S b->b<w.heap.size)->Qs E pv S w->QZ S w pv args vs->Calls P f vs.toArray w λe w'=>e= .returned v/\Below w.heap.size w w'):Qa P E pv (.f f) args (.t τ y):=by
 intro S w vs hS hgl hargs
 refine Uo hf hb hname ((h S w vs hS hgl hargs).mono λe w' ⟨he,hbl⟩=>⟨v,he,hbl,S,λb hb=>hb,λb hb=>.inl hb,?_⟩)
 obtain⟨cs,hc,rfl⟩:=hy S w'
 exact⟨none,.plain _ _ (.t _ _ _ hc)⟩
theorem Q7f (hf:P.funcs[f]? =some fn)(hb:fn.body=some c)(hname:(fn.name== "runtime.NumGoroutine")=false){args:List AV}{te:Nat}{xs:List ByteArray}(hx:xs.length<=maxLen)
  (h:∀S w vs,(∀b,S b->b<w.heap.size)->Qs E pv S w->QZ S w pv args vs->Calls P f vs.toArray w λe w'=>e= .returned (.slice (some ⟨w.heap.size,0,none⟩) xs.length xs.length)/\w'=w.alloc (.cells (xs.map Value.string).toArray te)):Qa P E pv (.f f) args (.fr te .str xs):=by
 intro S w vs hS hgl hargs
 refine Uo hf hb hname ((h S w vs hS hgl hargs).mono λe w' ⟨he,hw⟩=>⟨_,he,?_⟩)
 subst hw
 refine⟨(Below.refl _ w).alloc (Nat.le_refl _) _,S,λb hb=>hb,λb hb=>.inl hb,some w.heap.size,.fr te .str xs w.heap.size xs.length (Nat.le_refl _) (λhs=>absurd (hS _ hs) (Nat.lt_irrefl _)) ⟨(xs.map Value.string).toArray,(0,0),?_,?_,Nat.le_refl _,hx,λ_=>rfl,.inl (Nat.le_refl _),by decide,λi hi=>⟨[.string xs[i]],.str _,λj v hj=>?_⟩⟩⟩
 ·show(w.heap.push _)[w.heap.size]? =_
  simp
 ·simp[nc]
 ·cases j with
  |zero=>
   simp only[List.getElem?_cons_zero,Option.some.injEq]at hj
   subst hj
   simp[nc,hi]
  |succ j=>simp at hj
end
def XC (s sub:ByteArray):Option Bool:=bif Nat.ble s.size 4294967280 then some (Lib.contains s.data.toList sub.data.toList)else none
theorem Q26 {P:Program}{E:Env}{pv:Nat->Value}{f:FuncId}{fn:Func}{c:Code}(hf:P.funcs[f]? =some fn)(hb:fn.body=some c)(hname:(fn.name== "runtime.NumGoroutine")=false){mx:Nat}(hmx:E.gi mx=true)
  (hc:∀(s sub:ByteArray) (m:Int) (w:World),s.size<4294967281->w.cell? ⟨mx,0,none⟩=some (.int .i64 m)->Calls P f #[.string s,.string sub] w λe w'=>e= .returned (.bool (Lib.contains s.data.toList sub.data.toList))/\w'=w)
  {s sub:ByteArray} {y:Bool} (h:XC s sub=some y):Qa P E pv (.f f) (Qb [.str,.str] (s,sub,())) (.t .bool y):=by
 unfold XC at h
 cases hs:Nat.ble s.size 4294967280 with
 |false=>rw[hs]at h;cases h
 |true=>
  rw[hs]at h
  cases h
  refine Q0k hf hb hname (v:=.bool _) (λS w=>⟨_,.bool _,rfl⟩) λS w vs hS hgl ha=>?_
  obtain⟨_,rfl,ha1⟩:=YR ha
  obtain⟨_,rfl,ha2⟩:=YR ha1
  obtain rfl:=Up ha2
  obtain⟨_,m,hm⟩:=hgl.2.1 mx hmx
  refine(hc s sub m w (Nat.lt_succ_of_le (Nat.le_of_ble_eq_true hs)) hm).mono λe w' ⟨he,hw⟩=>⟨he,?_⟩
  subst hw
  exact Below.refl _ _
def Q27 (s sep:ByteArray):Option (List ByteArray):=bif Nat.ble s.size 4294967280&&Nat.ble 1 sep.size then some (Lib.splitB sep 0 (Lib.countB s sep) s)else none
theorem Q5I {P:Program}{E:Env}{pv:Nat->Value}{f:FuncId}{fn:Func}{c:Code}(hf:P.funcs[f]? =some fn)(hb:fn.body=some c)(hname:(fn.name== "runtime.NumGoroutine")=false){mx:Nat}(hmx:E.gi mx=true){te:Nat}
  (hc:∀(s sep:ByteArray) (m:Int) (w:World),s.size<4294967281->w.cell? ⟨mx,0,none⟩=some (.int .i64 m)->1<=sep.size->Calls P f #[.string s,.string sep] w λe w'=>
   e= .returned (.slice (some ⟨w.heap.size,0,none⟩) (Lib.countB s sep+1) (Lib.countB s sep+1))/\w'=w.alloc (.cells ((Lib.splitB sep 0 (Lib.countB s sep) s).map Value.string).toArray te))
  {s sep:ByteArray} {y:List ByteArray} (h:Q27 s sep=some y):Qa P E pv (.f f) (Qb [.str,.str] (s,sep,())) (.fr te .str y):=by
 unfold Q27 at h
 cases hs:Nat.ble s.size 4294967280&&Nat.ble 1 sep.size with
 |false=>rw[hs]at h;cases h
 |true=>
  rw[hs]at h
  cases h
  rw[Bool.and_eq_true]at hs
  have h1:=Nat.le_of_ble_eq_true hs.1
  have h2:=Nat.le_of_ble_eq_true hs.2
  have hl:=Lib.splitB_all sep h2 0 _ s rfl
  have hle:=Lib.countB_le sep h2 s.size s (Nat.le_refl _)
  have hm:maxLen=9223372036854775807:=by decide
  refine Q7f hf hb hname (by rw[hl,hm];omega) λS w vs hS hgl ha=>?_
  obtain⟨_,rfl,ha1⟩:=YR ha
  obtain⟨_,rfl,ha2⟩:=YR ha1
  obtain rfl:=Up ha2
  obtain⟨_,m,hm⟩:=hgl.2.1 mx hmx
  rw[hl]
  exact hc s sep m w (by omega) hm h2
def Q4P (xs:List ByteArray)(sep:ByteArray):Option ByteArray:=bif Nat.ble xs.length 140737488355328&&Nat.ble (Lib.join (xs.map (·.data.toList)) sep.data.toList).length 140737488355328 then some ⟨(Lib.join (xs.map (·.data.toList)) sep.data.toList).toArray⟩else none
theorem Q7g {P:Program}{E:Env}{pv:Nat->Value}{f:FuncId}{fn:Func}{c:Code}(hf:P.funcs[f]? =some fn)(hb:fn.body=some c)(hname:(fn.name== "runtime.NumGoroutine")=false)
  (hc0:∀(a:Option Addr) (c:Nat) (sep:ByteArray) (w:World),Calls P f #[.slice a 0 c,.string sep] w λe w'=>e= .returned (.string ⟨#[]⟩)/\w'=w)
  (hc:∀(bk o c:Nat) (xs:List ByteArray) (sep:ByteArray) (w:World),(∀(j:Nat) x,xs[j]? =some x->w.cell? ⟨bk,o+j,none⟩=some (.string x))->bk<w.heap.size->xs.length<=140737488355328->xs.length<=c->
   (Lib.join (xs.map (·.data.toList)) sep.data.toList).length<=140737488355328->Calls P f #[.slice (some ⟨bk,o,none⟩) xs.length c,.string sep] w λe w'=>e= .returned (.string ⟨(Lib.join (xs.map (·.data.toList)) sep.data.toList).toArray⟩)/\Below w.heap.size w w')
  {xs:List ByteArray} {sep:ByteArray} {y:ByteArray} (h:Q4P xs sep=some y):Qa P E pv (.f f) (Qb [.sl .str,.str] (xs,sep,())) (.t .str y):=by
 unfold Q4P at h
 cases hs:Nat.ble xs.length 140737488355328&&Nat.ble (Lib.join (xs.map (·.data.toList)) sep.data.toList).length 140737488355328 with
 |false=>rw[hs]at h;cases h
 |true=>
  rw[hs]at h
  cases h
  rw[Bool.and_eq_true]at hs
  refine Q0k hf hb hname (v:=.string _) (λS w=>⟨_,.str _,rfl⟩) λS w vs hS hgl ha=>?_
  obtain⟨cs,_,hcr,rfl,ha1⟩:=Ur ha
  obtain⟨_,rfl,ha2⟩:=YR ha1
  obtain rfl:=Up ha2
  cases hcr with
  |t _ _ _ hcr=>
   cases hcr with
   |sl e xs A c cv hle hm h1 h2=>
    match xs,A,hle,h1,h2,hs with
    |[],A,_,_,_,_=>exact(hc0 A c sep w).mono λe w' ⟨he,hw⟩=>⟨he,hw▸Below.refl _ _⟩
    |x::l,A,hle,h1,h2,hs=>
     obtain⟨g,o,rfl,hg,_⟩:=h2 0 (Nat.succ_pos _)
     refine hc g o c (x::l) sep w (λj z hj=>?_) (hS g hg) (Nat.le_of_ble_eq_true hs.1) hle (Nat.le_of_ble_eq_true hs.2)
     obtain⟨hj',hz⟩:=List.getElem?_eq_some_iff.1 hj
     obtain⟨g',o',e',_,hcell⟩:=h2 j hj'
     cases e'
     have hcv:=h1 j hj'
     rw[hz]at hcv
     have hq:∀q,CR S w .str z q->q[0]? =some (.string z):=λq hq=>by cases hq;rfl
     have:=hcell 0 (.string z) (hq _ hcv)
     simpa[nc]using this
def Q28 (s cs:ByteArray):Option ByteArray:=match cs with
 |⟨⟨[c]⟩⟩=>bif Nat.ble s.size 9223372036854775807&&Nat.blt c.toNat 128 then some ⟨(Lib.trimB s.data.toList c).toArray⟩else none
 |_=>none
theorem Q5J {P:Program}{E:Env}{pv:Nat->Value}{f:FuncId}{fn:Func}{c:Code}(hf:P.funcs[f]? =some fn)(hb:fn.body=some c)(hname:(fn.name== "runtime.NumGoroutine")=false)
  (hc:∀(s:ByteArray) (c:UInt8),c.toNat<128->∀(w:World),s.size<=9223372036854775807->Calls P f #[.string s,.string ⟨#[c]⟩] w λe w'=>e= .returned (.string ⟨(Lib.trimB s.data.toList c).toArray⟩)/\(w'=w\/w'=w.drew))
  {s cs:ByteArray} {y:ByteArray} (h:Q28 s cs=some y):Qa P E pv (.f f) (Qb [.str,.str] (s,cs,())) (.t .str y):=by
 unfold Q28 at h
 split at h
 ·rename_i c0
  cases hs:Nat.ble s.size 9223372036854775807&&Nat.blt c0.toNat 128 with
  |false=>rw[hs]at h;cases h
  |true=>
   rw[hs]at h
   cases h
   rw[Bool.and_eq_true]at hs
   refine Q0k hf hb hname (v:=.string _) (λS w=>⟨_,.str _,rfl⟩) λS w vs hS hgl ha=>?_
   obtain⟨_,rfl,ha1⟩:=YR ha
   obtain⟨_,rfl,ha2⟩:=YR ha1
   obtain rfl:=Up ha2
   refine(hc s c0 (Nat.le_of_ble_eq_true hs.2) w (Nat.le_of_ble_eq_true hs.1)).mono λe w' ⟨he,hw⟩=>⟨he,?_⟩
   rcases hw with rfl|rfl
   ·exact Below.refl _ _
   ·exact(Below.refl _ _).drew
 ·cases h
def Q29 (xs:List ByteArray):Option (List ByteArray):=bif Nat.ble (xs.length*16) 140737488355328 then some xs else none
theorem Q5K {P:Program}{E:Env}{pv:Nat->Value}{f:FuncId}{fn:Func}{c:Code}(hf:P.funcs[f]? =some fn)(hb:fn.body=some c)(hname:(fn.name== "runtime.NumGoroutine")=false){te:Nat}
  (hc:∀(b off n c:Nat) (zs:List ByteArray) (w:World),n<=zs.length->n*16<=140737488355328->(∀j,j<zs.length->w.cell? ⟨b,off+j,none⟩=some (.string (zs.getD j ByteArray.empty)))->
   Calls P f #[.slice (some ⟨b,off,none⟩) n c] w λe w'=>∃v',e= .returned v'/\w'.ownsRow w.heap.size te 1 v' n ((zs.take n).map Value.string)/\v'≠ .slice none 0 0/\Below w.heap.size w w')
  (hcn:∀(n c:Nat) (w:World),Calls P f #[.slice none n c] w λe w'=>e= .returned (.slice none 0 0)/\w'=w)
  (hcz:∀(a:Addr) (c:Nat) (w:World),Calls P f #[.slice (some a) 0 c] w λe w'=>∃v',e= .returned v'/\w'.ownsRow w.heap.size te 1 v' 0 []/\v'≠ .slice none 0 0/\Below w.heap.size w w')
  {xs:List ByteArray} {y:List ByteArray} (h:Q29 xs=some y):Qa P E pv (.f f) (Qb [.sl .str] (xs,())) (.fr te .str y):=by
 have hc0:∀(A:Option Addr) (c:Nat) (w:World),Calls P f #[.slice A 0 c] w λe w'=>∃v',e= .returned v'/\w'.ownsRow w.heap.size te 1 v' 0 []/\Below w.heap.size w w':=λA c w=>by
  cases A with
  |none=>exact(hcn 0 c w).mono λe w' ⟨he,hw⟩=>⟨_,he,⟨rfl,.inl ⟨rfl,rfl⟩⟩,hw▸Below.refl _ _⟩
  |some a=>exact(hcz a c w).mono λe w' ⟨v,he,ho,_,hb⟩=>⟨v,he,ho,hb⟩
 unfold Q29 at h
 cases hs:Nat.ble (xs.length*16) 140737488355328 with
 |false=>rw[hs]at h;cases h
 |true=>
  rw[hs]at h
  cases h
  have hs:=Nat.le_of_ble_eq_true hs
  intro S w vs hS hgl ha
  have fin:∀(v':Value) (w':World),w'.ownsRow w.heap.size te 1 v' xs.length (xs.map Value.string)->Below w.heap.size w w'->Below w.heap.size w w'/\∃S':Nat->Prop,(∀b,S b->S' b)/\(∀b,S' b->S b\/(w.heap.size<=b/\b<w'.heap.size))/\RR S' w' w.heap.size pv (.fr te .str xs) v':=λv' w' ho hbl=>by
   refine⟨hbl,S,λb hb=>hb,λb hb=>.inl hb,?_⟩
   obtain⟨h1,⟨rfl,h2⟩|⟨g,cap,cur,rfl,h3,h4,h5,h6,h7,h8⟩⟩:=ho
   ·obtain rfl:xs=[]:=List.eq_nil_of_length_eq_zero h2
    exact⟨none,.frNil te .str (by decide)⟩
   ·refine⟨some g,.fr te .str xs g cap h3 (λhs=>absurd (hS _ hs) (by omega)) ⟨cur,(0,0),h4,h7,h5,h6,λ_=>rfl,.inl (Nat.le_refl _),by decide,λi hi=>⟨[.string xs[i]],.str _,λj v hj=>?_⟩⟩⟩
    cases j with
    |zero=>
     simp only[List.getElem?_cons_zero,Option.some.injEq]at hj
     subst hj
     have h9:=congrArg (·[i]?) h8
     simp only[Nat.mul_one,List.getElem?_take,if_pos hi,List.getElem?_map,List.getElem?_eq_getElem hi,Option.map_some]at h9
     simpa[nc]using h9
    |succ j=>simp at hj
  obtain⟨cs,_,hcr,rfl,ha1⟩:=Ur ha
  obtain rfl:=Up ha1
  cases hcr with
  |t _ _ _ hcr=>
   cases hcr with
   |sl e xs A c cv hle hm h1 h2=>
    match xs,A,hle,h1,h2,hs,fin with
    |[],A,_,_,_,_,fin=>exact Uo hf hb hname ((hc0 A c w).mono λe w' ⟨v',he,ho,hbl⟩=>⟨v',he,fin _ _ ho hbl⟩)
    |x::l,A,hle,h1,h2,hs,fin=>
     obtain⟨g,o,rfl,hg,_⟩:=h2 0 (Nat.succ_pos _)
     refine Uo hf hb hname ((hc g o (x::l).length c (x::l) w (Nat.le_refl _) hs λj hj=>?_).mono λe w' ⟨v',he,ho,_,hbl⟩=>⟨v',he,fin _ _ (by rw[List.take_length]at ho;exact ho) hbl⟩)
     obtain⟨g',o',e',_,hcell⟩:=h2 j hj
     cases e'
     have hcv:=h1 j hj
     have hq:∀z q,CR S w .str z q->q[0]? =some (.string z):=λz q hq=>by cases hq;rfl
     have:=hcell 0 _ (hq _ _ hcv)
     rw[List.getD_eq_getElem?_getD,List.getElem?_eq_getElem hj,Option.getD_some]
     simpa[nc]using this
end Go.Gx
end
section
/- A library function by its contract: strconv.Itoa. -/
namespace Go.Gx
end Go.Gx
end
section
/- slices.Insert of one element: what the library's own text does to a row,elements of any number of cells (over any program). -/
namespace Go.GxIns
open Go.Shelf Go.RowKit Go.Lib Go.Proofs
variable {P:Program} {ρ:Ren}
theorem KZ {P:Program}(w:World)(tS tR e:TypeId)(ht:P.underlying tS=some (.slice e))(size:Nat)(hz:∀w,(Go.sizeOf e).run P w= .ok size w)
  (a b:Addr) (la ca lb cb:Nat) (hne:a.block≠b.block) (tA tB:TypeId) (kA kB:Nat)
  (hsa:w.shape? a.block=some (tA,kA)) (hkA:kA≠0) (hsb:w.shape? b.block=some (tB,kB)) (hkB:kB≠0)
  (hfb:w.frozen? b=false) (hfe:w.frozen? {block:=b.block,off:=kB}=false) :
  (Extern.SlicesOverlaps.overlaps #[tS,tS] #[tR] #[.slice (some a) la ca,.slice (some b) lb cb]).run P w= .ok (.bool false) w:=by
 have hnb:(a.block != b.block)=true:=by simpa using hne
 have hnb':(a.block==b.block)=false:=by simpa using hne
 delta Extern.SlicesOverlaps.overlaps
 delta Extern.SlicesOverlaps.overlaps.match_4
 dsimp only[Array.getLit,Array.casesOn,List.casesOn]
 rw[dif_pos (show(#[Value.slice (some a) la ca,Value.slice (some b) lb cb]).size=2 from rfl)]
 delta Extern.SlicesOverlaps.overlaps._sparseCasesOn_4
 dsimp only[List.getElem_toArray,List.getElem_cons_zero,List.getElem_cons_succ]
 by_cases h0:la=0\/lb=0\/size=0
 ·simp[run_underlying ht,hz,h0]
 ·cases kA with
  |zero=>exact absurd rfl hkA
  |succ kA=>
   cases kB with
   |zero=>exact absurd rfl hkB
   |succ kB=>
    cases hfa:w.frozen? a<;>cases hfx:w.frozen? {block:=a.block,off:=kA+1}<;>
     simp[run_underlying ht,hz,h0,hnb,hnb',frozen,noView,viewAt,mayBeOne,stringish,shape,Sem.run,hsa,hsb,hfb,hfe,hfa,hfx]
theorem XD (w:World)(dT sT ty elem:TypeId)(b o dLen dCap:Nat)(a:Addr)(sLen sCap Z k:Nat)(cs:List Value)
  (hu:P.underlying dT=some (.slice elem)) (hs:(P.info? elem).map (·.size)=some Z) (hk:k=Nat.min sLen dLen) (hn:cs.length=k*Z)
  (hsrc:∀j v,cs[j]? =some v->w.cell? (a.add j)=some v) (hc:∀j,j<cs.length->(w.cell? ⟨b,o+j,none⟩).isSome=true) (hf:∀j,j<cs.length->w.frozen? ⟨b,o+j,none⟩=false) (h1:∀v∈cs,v.oneCell'=true) :
  (Builtin.copy_ #[dT,sT] ty #[.slice (some ⟨b,o,none⟩) dLen dCap,.slice (some a) sLen sCap]).run P w= .ok (goInt k) (w.setCells b o cs):=by
 have hl:=run_loadCells_list (P:=P) w a cs hsrc
 have hst:=run_storeCells_cells (P:=P) b o cs 0 w (by simpa using hc) (by simpa using hf) h1
 cases hq:P.info? elem with
 |none=>simp[hq]at hs
 |some i=>
  have hi:i.size=Z:=by simpa[hq]using hs
  simp[Builtin.copy_,run_underlying hu,Builtin.lenOf,Builtin.firstCells,sizeOf,typeInfo,hq,hi,<-hk,<-hn,hl,hst]
theorem Q7h (w:World){o:Oper}{a:Act}{K:Act->World->Prop}{Q:Exit->Act->World->Prop}(d s:Operand)(t t':TypeId)
  (ho:o.op= .call {callee:=.builtin .copy,args:=#[d,s],argTypes:=#[t,t']}) (v u:Value) (hd:a.eval d=v) (hs:a.eval s=u) {v':Value} {w':World}
  (hr:(Builtin.copy_ #[t,t'] o.type #[v,u]).run P w= .ok v' w') (h:K (a.put o.dst v') w'):o.wp P a w K Q:=by
 unfold Oper.wp execOp
 simp only[ho,resolve,invoke,builtin,Sem.run_bind,Sem.run_pure,Result.andThen_ok,List.map_toArray,List.map_cons,List.map_nil,hd,hs,hr]
 exact h
theorem D1 (w:World){ops:Array Oper}{rest:List Oper}{o:Oper}{a:Act}{Q:Exit->Act->World->Prop}(hgd:o.guard=none)(d s:Operand)(t t':TypeId)
  (ho:o.op= .call {callee:=.builtin .copy,args:=#[d,s],argTypes:=#[t,t']}) (v u:Value) (hd:a.eval d=v) (hs:a.eval s=u) {v':Value} {w':World}
  (hr:(Builtin.copy_ #[t,t'] o.type #[v,u]).run P w= .ok v' w') (h:wpList P ops Q rest (a.put o.dst v') w'):wpList P ops Q (o::rest) a w:=
 wpList_plain hgd λ_ hK=>Q7h w d s t t' ho v u hd hs hr (hK _ _ h)
theorem Q0l {ops:Array Oper}{o:Oper}{a:Act}{w:World}{K:Act->World->Prop}{Q:Exit->Act->World->Prop}{E:Prop}
  (hg:o.guard=none) (d x:Operand) (dT sT:TypeId) (hop:o.op=Op.call {callee:=Callee.builtin Builtin.copy,args:=#[d,x],argTypes:=#[dT,sT]})
  (v u:Value) (hd:a.eval d=v) (hx:a.eval x=u) {v':Value} {w':World} (hr:(Builtin.copy_ #[dT,sT] o.type #[v,u]).run P w= .ok v' w') (hK:K (a.put o.dst v') w') :
  if Region.wanted o (yielded ops a.tmps)=true then Oper.wp P o a w K Q else E:=by
 have hw:Region.wanted o (yielded ops a.tmps)=true:=by simp[Region.wanted,hg]
 rw[if_pos hw]
 unfold Oper.wp
 simp[execOp,hop,resolve,invoke,builtin,hd,hx,hr,Result.andThen]
 exact hK
theorem Q0m (b:Nat)(vs:List Value)(o:Nat)(w:World)(h:∀j,j<vs.length->(w.cell? ⟨b,o+j,none⟩).isSome=true)(k:Nat)(hk:(w.cell? ⟨b,k,none⟩).isSome=true):((w.setCells b o vs).cell? ⟨b,k,none⟩).isSome=true:=by
 by_cases hin:o<=k/\k<o+vs.length
 ·have:=World.cell?_setCells_in b vs o w h (k-o) (by omega)
  rw[show o+(k-o)=k by omega]at this
  rw[this];rfl
 ·rw[World.cell?_setCells_out b vs o w ⟨b,k,none⟩ (λ_ _=>by show k<o\/o+vs.length<=k;omega)]
  exact hk
noncomputable def Q8X (nm:String)(ρ:Ren):Func:={Body2.n22 ρ with name:=nm}
theorem YS (nm:String)(ρ:Ren):(Q8X nm ρ).ntmps=95:=Body2.n22_ntmps ρ
structure InsL (P:Program)(ρ:Ren)(nm:String)(Z B:Nat)(z:Value):Prop where
 mixed:P.follows .mixedOrders=true
 f22:P.funcs[ρ.f 22]? =some (Q8X nm ρ)
 ov:∀args w,(callFunc (ρ.f 29) args).run P w=((Extern.SlicesOverlaps.overlaps #[(ρ.t 24),(ρ.t 24)] #[(ρ.t 4)] args).run P w).andThen λv w'=>.ok (.value v) w'
 t0:P.underlying (ρ.t 0)=some (TypeDesc.tuple #[])
 a0:∀w,(isAgg (ρ.t 0)).run P w= .ok false w
 z0:∀w,(Go.sizeOf (ρ.t 0)).run P w= .ok 1 w
 v0:∀w,(zeroValue (ρ.t 0)).run P w= .ok (Value.tuple #[]) w
 t3:P.underlying (ρ.t 3)=some (TypeDesc.int IntKind.i64)
 a3:∀w,(isAgg (ρ.t 3)).run P w= .ok false w
 z3:∀w,(Go.sizeOf (ρ.t 3)).run P w= .ok 1 w
 v3:∀w,(zeroValue (ρ.t 3)).run P w= .ok (Value.int IntKind.i64 0) w
 t4:P.underlying (ρ.t 4)=some (TypeDesc.bool)
 a4:∀w,(isAgg (ρ.t 4)).run P w= .ok false w
 z4:∀w,(Go.sizeOf (ρ.t 4)).run P w= .ok 1 w
 v4:∀w,(zeroValue (ρ.t 4)).run P w= .ok (Value.bool false) w
 z9:∀w,(Go.sizeOf (ρ.t 9)).run P w= .ok Z w
 t24:P.underlying (ρ.t 24)=some (TypeDesc.slice (ρ.t 9))
 a24:∀w,(isAgg (ρ.t 24)).run P w= .ok false w
 z24:∀w,(Go.sizeOf (ρ.t 24)).run P w= .ok 1 w
 v24:∀w,(zeroValue (ρ.t 24)).run P w= .ok (Value.slice none 0 0) w
 i9:(P.info? (ρ.t 9)).map (λi=>(i.zero,i.size,i.bytes))=some (some z,Z,B)
variable {nm:String} {Z B:Nat} {z:Value}
set_option maxHeartbeats 4000000 in
set_option maxRecDepth 100000 in
theorem Q5L (L:InsL P ρ nm Z B z)(hZ:0<Z)(b n c i vb voff vc:Nat)(cs vs:List Value)(w:World)(hi:i<n)(hroom:n+1<=c)(hc63:c<=9223372036854775807)(hvb:vb≠b)
  (hcl:cs.length=n*Z) (hvl:vs.length=Z)
  (hcs:∀j v,cs[j]? =some v->w.cell? ⟨b,j,none⟩=some v) (hsp:∀j,j<(n+1)*Z->(w.cell? ⟨b,j,none⟩).isSome=true) (hfz:∀j,w.frozen? ⟨b,j,none⟩=false)
  (hvs:∀j v,vs[j]? =some v->w.cell? ⟨vb,voff+j,none⟩=some v) (h1c:∀v∈cs,v.oneCell'=true) (h1v:∀v∈vs,v.oneCell'=true)
  (tA tB:TypeId) (kA kB:Nat) (hsa:w.shape? vb=some (tA,kA)) (hkA:kA≠0) (hsb:w.shape? b=some (tB,kB)) (hkB:kB≠0) :
  Calls P (ρ.f 22) #[.slice (some ⟨b,0,none⟩) n c,.int .i64 i,.slice (some ⟨vb,voff,none⟩) 1 vc] w λe w'=>
   e= .returned (.slice (some ⟨b,0,none⟩) (n+1) c)/\w'=(w.drew.setCells b ((i+1)*Z) (cs.drop (i*Z))).setCells b (i*Z) vs:=by
 have t0:=L.t0;have a0:=L.a0;have z0:=L.z0;have v0:=L.v0;have t3:=L.t3;have a3:=L.a3;have z3:=L.z3;have v3:=L.v3;have t4:=L.t4;have a4:=L.a4;have z4:=L.z4;have v4:=L.v4;have z9:=L.z9;have t24:=L.t24;have a24:=L.a24;have z24:=L.z24;have v24:=L.v24
 have u0:=run_underlying L.t0;have u3:=run_underlying L.t3;have u4:=run_underlying L.t4;have u24:=run_underlying L.t24
 have hz2:¬((i:Int)=(n:Int)):=by omega
 have hsz:(P.info? (ρ.t 9)).map (·.size)=some Z:=by
  obtain⟨i0,hi0,h0,h1,h2⟩:=info_parts L.i9
  rw[hi0];simp[h1]
 have hov:∀lb cb,(callFunc (ρ.f 29) #[.slice (some ⟨vb,voff,none⟩) 1 vc,.slice (some ⟨b,(i+1)*Z,none⟩) lb cb]).run P w= .ok (.value (.bool false)) w:=λlb cb=>by
  rw[L.ov,KZ w (ρ.t 24) (ρ.t 4) (ρ.t 9) L.t24 Z L.z9 ⟨vb,voff,none⟩ ⟨b,(i+1)*Z,none⟩ 1 vc lb cb hvb tA tB kA kB hsa hkA hsb hkB (hfz _) (hfz _)]
  rfl
 have mixed:=L.mixed
 have hw1:IntKind.i64.wrap ((i:Int)+1)=(i:Int)+1:=by rw[IntKind.wrap_i64];omega
 have hw2:IntKind.i64.wrap ((n:Int)+1)=(n:Int)+1:=by rw[IntKind.wrap_i64];omega
 have hb1:(0:Int)<=(i:Int)+1:=by omega
 have hin:i<=n:=by omega
 have htn:((i:Int)+1).toNat=i+1:=by omega
 have htn2:((n:Int)+1).toNat=n+1:=by omega
 have hb2:¬(c=i+1):=by omega
 have hb3:(i:Int)<=(n:Int)+1:=by omega
 have hb4:¬(c=i):=by omega
 have hdl:(cs.drop (i*Z)).length=(n-i)*Z:=by rw[List.length_drop,hcl,Nat.sub_mul]
 have hm1:(i+1)*Z=i*Z+Z:=Nat.succ_mul i Z
 have hm2:(n+1)*Z=n*Z+Z:=Nat.succ_mul n Z
 have hm3:i*Z+(n-i)*Z=n*Z:=by rw[<-Nat.add_mul];congr 1;omega
 have hcp1:∀ty dc sc,(Builtin.copy_ #[(ρ.t 24),(ρ.t 24)] ty #[.slice (some ⟨b,(i+1)*Z,none⟩) (n-i) dc,.slice (some ⟨b,i*Z,none⟩) (n+1-i) sc]).run P w.drew= .ok (goInt ((n-i:Nat):Int)) (w.drew.setCells b ((i+1)*Z) (cs.drop (i*Z))):=λty dc sc=>
  XD w.drew _ _ ty (ρ.t 9) b ((i+1)*Z) (n-i) dc ⟨b,i*Z,none⟩ (n+1-i) sc Z (n-i) (cs.drop (i*Z)) L.t24 hsz (by simp only[Nat.min_def];split<;>omega) hdl
   (λj v hj=>by rw[Addr.add_lit];exact hcs (i*Z+j) v (by rwa [List.getElem?_drop]at hj))
   (λj hj=>hsp _ (by omega)) (λj hj=>hfz _) (λv hv=>h1c v (List.mem_of_mem_drop hv))
 obtain⟨W1,hW1⟩:∃W1,W1=w.drew.setCells b ((i+1)*Z) (cs.drop (i*Z)):=⟨_,rfl⟩
 have hsp1:∀k,k<(n+1)*Z->(W1.cell? ⟨b,k,none⟩).isSome=true:=λk hk=>by
  rw[hW1]
  exact Q0m b (cs.drop (i*Z)) ((i+1)*Z) w.drew (λj hj=>hsp _ (by rw[hdl]at hj;omega)) k (hsp k hk)
 have hcp2:∀(W:World),(∀x,W.cell? x=W1.cell? x)->(∀x,W.frozen? x=W1.frozen? x)->∀ty dc,(Builtin.copy_ #[(ρ.t 24),(ρ.t 24)] ty #[.slice (some ⟨b,i*Z,none⟩) (n+1-i) dc,.slice (some ⟨vb,voff,none⟩) 1 vc]).run P W= .ok (goInt 1) (W.setCells b (i*Z) vs):=λW hWc hWf ty dc=>
  XD W _ _ ty (ρ.t 9) b (i*Z) (n+1-i) dc ⟨vb,voff,none⟩ 1 vc Z 1 vs L.t24 hsz (by simp only[Nat.min_def];split<;>omega) (by rw[hvl,Nat.one_mul])
   (λj v hj=>by
    rw[Addr.add_lit,hWc,hW1,World.cell?_setCells_out b _ _ _ _ (λh _=>absurd h hvb)]
    exact hvs j v hj)
   (λj hj=>by rw[hWc];exact hsp1 _ (by rw[hvl]at hj;have:=Nat.mul_le_mul_right Z hin;omega)) (λj hj=>by rw[hWf,hW1,World.frozen?_setCells];exact hfz _) h1v
 rw[<-hW1]at hcp1
 clear hm1 hm2 hm3 hdl
 go_enter L.f22,YS nm ρ
 go_wp2_with (simp only[hov])
 go_region_law_o (refine Q0l rfl _ _ (ρ.t 24) (ρ.t 24) rfl _ _ (by simp[Act.eval,Act.put]) (by simp[Act.eval,Act.put]) (hcp1 _ _ _) ?_)
 go_wp2_with (at_builtin;refine D1 _ rfl _ _ (ρ.t 24) (ρ.t 24) rfl _ _ rfl rfl (hcp2 _ (λ_=>rfl) (λ_=>rfl) _ _) ?_)
 go_ret
 first|exact⟨rfl,rfl⟩|exact⟨rfl,by rw[hW1]⟩
set_option maxHeartbeats 4000000 in
set_option maxRecDepth 100000 in
theorem Q2a (L:InsL P ρ nm Z B z)(b n c vb voff vc:Nat)(vs:List Value)(w:World)(hroom:n+1<=c)(hc63:c<=9223372036854775807)
  (hvl:vs.length=Z) (hsp:∀j,j<Z->(w.cell? ⟨b,n*Z+j,none⟩).isSome=true) (hfz:∀j,w.frozen? ⟨b,j,none⟩=false)
  (hvs:∀j v,vs[j]? =some v->w.cell? ⟨vb,voff+j,none⟩=some v) (h1v:∀v∈vs,v.oneCell'=true) :
  Calls P (ρ.f 22) #[.slice (some ⟨b,0,none⟩) n c,.int .i64 n,.slice (some ⟨vb,voff,none⟩) 1 vc] w λe w'=>
   e= .returned (.slice (some ⟨b,0,none⟩) (n+1) c)/\w'=w.setCells b (n*Z) vs:=by
 have t0:=L.t0;have a0:=L.a0;have z0:=L.z0;have v0:=L.v0;have t3:=L.t3;have a3:=L.a3;have z3:=L.z3;have v3:=L.v3;have t4:=L.t4;have a4:=L.a4;have z4:=L.z4;have v4:=L.v4;have z9:=L.z9;have t24:=L.t24;have a24:=L.a24;have z24:=L.z24;have v24:=L.v24
 have u0:=run_underlying L.t0;have u3:=run_underlying L.t3;have u4:=run_underlying L.t4;have u24:=run_underlying L.t24
 have mixed:=L.mixed
 obtain⟨i0,hi0,hz0,hzs,hzb⟩:=info_parts L.i9
 have hsrc:Src P i0.size (ρ.t 24) (.slice (some ⟨vb,voff,none⟩) 1 vc) 1 vs w:=by
  rw[hzs]
  exact Src.ofSlice w L.t24 ⟨vb,voff,none⟩ 1 vc vs (by omega) (λj u hj=>by rw[Addr.add_lit];exact hvs j u hj) h1v
 have hrun:∀ty,(Builtin.append_ #[(ρ.t 24),(ρ.t 24)] ty #[.slice (some ⟨b,0,none⟩) n c,.slice (some ⟨vb,voff,none⟩) 1 vc]).run P w= .ok (.slice (some ⟨b,0,none⟩) (n+1) c) (w.setCells b (n*Z) vs):=λty=>by
  have h:=run_append_room_src w (ρ.t 24) (ρ.t 24) ty (ρ.t 9) i0 L.t24 hi0 b 0 n c _ 1 vs hsrc hroom (by rw[hzs,hvl];intro j hj;rw[Nat.zero_add];exact hsp j hj) (by intro j hj;exact hfz _)
  rw[hzs,Nat.zero_add]at h
  exact h
 go_enter L.f22,YS nm ρ
 go_wp2_with (at_builtin;refine Lib.wpList_append_run _ rfl _ _ _ _ rfl _ _ rfl rfl _ _ (hrun _) ?_)
 go_ret
 exact⟨rfl,rfl⟩
set_option maxHeartbeats 4000000 in
set_option maxRecDepth 100000 in
theorem Q2b (L:InsL P ρ nm Z B z)(base:Addr)(n c vb voff vc:Nat)(cs vs:List Value)(w:World)(hnc:n<=c)(hroom:c<n+1)(hbig:(n+1)*B<=140737488355328)(hn63:n+1<=9223372036854775807)
  (hcl:cs.length=n*Z) (hvl:vs.length=Z)
  (hcs:∀j v,cs[j]? =some v->w.cell? (base.add j)=some v)
  (hvs:∀j v,vs[j]? =some v->w.cell? ⟨vb,voff+j,none⟩=some v) (h1v:∀v∈vs,v.oneCell'=true) :
  Calls P (ρ.f 22) #[.slice (some base) n c,.int .i64 n,.slice (some ⟨vb,voff,none⟩) 1 vc] w λe w'=>
   e= .returned (.slice (some ⟨w.heap.size,0,none⟩) (n+1) (grownCap w (n+1) c (ρ.t 9)))/\
   w'=w.drew.alloc (.cells ((cs++vs).toArray++Builtin.zeroCells z.cells (grownCap w (n+1) c (ρ.t 9)-(n+1))) (ρ.t 9)):=by
 have t0:=L.t0;have a0:=L.a0;have z0:=L.z0;have v0:=L.v0;have t3:=L.t3;have a3:=L.a3;have z3:=L.z3;have v3:=L.v3;have t4:=L.t4;have a4:=L.a4;have z4:=L.z4;have v4:=L.v4;have z9:=L.z9;have t24:=L.t24;have a24:=L.a24;have z24:=L.z24;have v24:=L.v24
 have u0:=run_underlying L.t0;have u3:=run_underlying L.t3;have u4:=run_underlying L.t4;have u24:=run_underlying L.t24
 have mixed:=L.mixed
 obtain⟨i0,hi0,hz0,hzs,hzb⟩:=info_parts L.i9
 have hsrc:Src P i0.size (ρ.t 24) (.slice (some ⟨vb,voff,none⟩) 1 vc) 1 vs w:=by
  rw[hzs]
  exact Src.ofSlice w L.t24 ⟨vb,voff,none⟩ 1 vc vs (by omega) (λj u hj=>by rw[Addr.add_lit];exact hvs j u hj) h1v
 have hold:(Builtin.firstCells i0.size n (.slice (some base) n c)).run P w.drew= .ok cs.toArray w.drew:=by
  rw[hzs]
  exact run_firstCells_some w.drew Z n base n c cs (by omega) (λj v hj=>hcs j v hj)
 have hrun:∀ty,(Builtin.append_ #[(ρ.t 24),(ρ.t 24)] ty #[.slice (some base) n c,.slice (some ⟨vb,voff,none⟩) 1 vc]).run P w= .ok (.slice (some ⟨w.heap.size,0,none⟩) (n+1) (grownCap w (n+1) c (ρ.t 9))) (w.drew.alloc (.cells ((cs++vs).toArray++Builtin.zeroCells z.cells (grownCap w (n+1) c (ρ.t 9)-(n+1))) (ρ.t 9))):=λty=>
  run_append_grow_src w (ρ.t 24) (ρ.t 24) ty (ρ.t 9) i0 _ L.t24 hi0 hz0 (some base) n c cs hold _ 1 vs hsrc hroom (by omega) (by rw[hzb];exact growslice_fits hroom hbig)
 obtain⟨ROW,hROW⟩:∃ROW:Array Value,ROW=(cs++vs).toArray++Builtin.zeroCells z.cells (grownCap w (n+1) c (ρ.t 9)-(n+1)):=⟨_,rfl⟩
 rw[<-hROW]at hrun ⊢
 clear hROW hold
 obtain⟨ab,ao,asp⟩:=base
 go_enter L.f22,YS nm ρ
 go_wp2_with (at_builtin;refine Lib.wpList_append_run _ rfl _ _ _ _ rfl _ _ rfl rfl _ _ (hrun _) ?_)
 all_goals (go_ret;exact⟨rfl,rfl⟩)
set_option maxHeartbeats 4000000 in
set_option maxRecDepth 100000 in
theorem Q7Z (L:InsL P ρ nm Z B z)(vb voff vc:Nat)(vs:List Value)(w:World)(hbig:B<=140737488355328)
  (hvl:vs.length=Z) (hvs:∀j v,vs[j]? =some v->w.cell? ⟨vb,voff+j,none⟩=some v) (h1v:∀v∈vs,v.oneCell'=true) :
  Calls P (ρ.f 22) #[.slice none 0 0,.int .i64 0,.slice (some ⟨vb,voff,none⟩) 1 vc] w λe w'=>
   e= .returned (.slice (some ⟨w.heap.size,0,none⟩) 1 (grownCap w 1 0 (ρ.t 9)))/\
   w'=w.drew.alloc (.cells (vs.toArray++Builtin.zeroCells z.cells (grownCap w 1 0 (ρ.t 9)-1)) (ρ.t 9)):=by
 have t0:=L.t0;have a0:=L.a0;have z0:=L.z0;have v0:=L.v0;have t3:=L.t3;have a3:=L.a3;have z3:=L.z3;have v3:=L.v3;have t4:=L.t4;have a4:=L.a4;have z4:=L.z4;have v4:=L.v4;have z9:=L.z9;have t24:=L.t24;have a24:=L.a24;have z24:=L.z24;have v24:=L.v24
 have u0:=run_underlying L.t0;have u3:=run_underlying L.t3;have u4:=run_underlying L.t4;have u24:=run_underlying L.t24
 have mixed:=L.mixed
 obtain⟨i0,hi0,hz0,hzs,hzb⟩:=info_parts L.i9
 have hsrc:Src P i0.size (ρ.t 24) (.slice (some ⟨vb,voff,none⟩) 1 vc) 1 vs w:=by
  rw[hzs]
  exact Src.ofSlice w L.t24 ⟨vb,voff,none⟩ 1 vc vs (by omega) (λj u hj=>by rw[Addr.add_lit];exact hvs j u hj) h1v
 have hold:(Builtin.firstCells i0.size 0 (.slice none 0 0)).run P w.drew= .ok ([]:List Value).toArray w.drew:=by
  rw[hzs]
  exact run_firstCells_none w.drew Z 0 0 0
 have hrun:∀ty,(Builtin.append_ #[(ρ.t 24),(ρ.t 24)] ty #[.slice none 0 0,.slice (some ⟨vb,voff,none⟩) 1 vc]).run P w= .ok (.slice (some ⟨w.heap.size,0,none⟩) 1 (grownCap w 1 0 (ρ.t 9))) (w.drew.alloc (.cells (vs.toArray++Builtin.zeroCells z.cells (grownCap w 1 0 (ρ.t 9)-1)) (ρ.t 9))):=λty=>by
  have h:=run_append_grow_src w (ρ.t 24) (ρ.t 24) ty (ρ.t 9) i0 _ L.t24 hi0 hz0 none 0 0 [] hold _ 1 vs hsrc (by omega) (by omega) (by rw[hzb];exact growslice_fits (by omega) (by omega))
  rw[List.nil_append]at h
  exact h
 obtain⟨ROW,hROW⟩:∃ROW:Array Value,ROW=vs.toArray++Builtin.zeroCells z.cells (grownCap w 1 0 (ρ.t 9)-1):=⟨_,rfl⟩
 rw[<-hROW]at hrun ⊢
 clear hROW hold
 go_enter L.f22,YS nm ρ
 go_wp2_with (at_builtin;refine Lib.wpList_append_run _ rfl _ _ _ _ rfl _ _ rfl rfl _ _ (hrun _) ?_)
 all_goals (go_ret;exact⟨rfl,rfl⟩)
set_option maxHeartbeats 4000000 in
set_option maxRecDepth 100000 in
theorem Q7i (L:InsL P ρ nm Z B z)(hZ:0<Z)(hzc:z.cells.size=Z)(b n c i vb voff vc:Nat)(cs vs:List Value)(w:World)(hi:i<n)(hnc:n<=c)(hroom:c<n+1)(hbig:(n+1)*B<=140737488355328)(hn63:n+1<=9223372036854775807)
  (hcl:cs.length=n*Z) (hvl:vs.length=Z)
  (hcs:∀j v,cs[j]? =some v->w.cell? ⟨b,j,none⟩=some v)
  (hvs:∀j v,vs[j]? =some v->w.cell? ⟨vb,voff+j,none⟩=some v) (h1c:∀v∈cs,v.oneCell'=true) (h1v:∀v∈vs,v.oneCell'=true) :
  Calls P (ρ.f 22) #[.slice (some ⟨b,0,none⟩) n c,.int .i64 i,.slice (some ⟨vb,voff,none⟩) 1 vc] w λe w'=>
   e= .returned (.slice (some ⟨w.heap.size,0,none⟩) (n+1) (grownCap w (n+1) c (ρ.t 9)))/\
   w'=(((w.alloc (.cells ((cs.take (i*Z)).toArray++Builtin.zeroCells z.cells (n+1-i)++Builtin.zeroCells z.cells (grownCap w (n+1) c (ρ.t 9)-(n+1))) (ρ.t 9))).drew.setCells w.heap.size (i*Z) vs).drew).setCells w.heap.size ((i+1)*Z) (cs.drop (i*Z)):=by
 have t0:=L.t0;have a0:=L.a0;have z0:=L.z0;have v0:=L.v0;have t3:=L.t3;have a3:=L.a3;have z3:=L.z3;have v3:=L.v3;have t4:=L.t4;have a4:=L.a4;have z4:=L.z4;have v4:=L.v4;have z9:=L.z9;have t24:=L.t24;have a24:=L.a24;have z24:=L.z24;have v24:=L.v24
 have u0:=run_underlying L.t0;have u3:=run_underlying L.t3;have u4:=run_underlying L.t4;have u24:=run_underlying L.t24
 have mixed:=L.mixed
 obtain⟨i0,hi0,hz0,hzs,hzb⟩:=info_parts L.i9
 have hz2:¬((i:Int)=(n:Int)):=by omega
 have hz3:(c:Int)<(n:Int)+1:=by omega
 have hsz:(P.info? (ρ.t 9)).map (·.size)=some Z:=by rw[hi0];simp[hzs]
 have hm1:(i+1)*Z=i*Z+Z:=Nat.succ_mul i Z
 have hm2:(n+1)*Z=n*Z+Z:=Nat.succ_mul n Z
 have hm3:i*Z+(n-i)*Z=n*Z:=by rw[<-Nat.add_mul];congr 1;omega
 have hm4:0<n*Z:=Nat.mul_pos (by omega) hZ
 have hbw:b<w.heap.size:=block_lt_of_cell (hcs 0 _ (List.getElem?_eq_getElem (by omega)))
 have hvw:vb<w.heap.size:=block_lt_of_cell (hvs 0 _ (List.getElem?_eq_getElem (by omega)))
 have hkk:(n:Int)+1-(i:Int)=((n+1-i:Nat):Int):=by omega
 have hik:i+(n+1-i)=n+1:=by omega
 have hold:(Builtin.firstCells i0.size i (.slice (some ⟨b,0,none⟩) i c)).run P w.drew= .ok (cs.take (i*Z)).toArray w.drew:=by
  rw[hzs]
  exact run_firstCells_some w.drew Z i ⟨b,0,none⟩ i c (cs.take (i*Z)) (by rw[List.length_take];omega) (λj v hj=>by
   rw[Addr.add_lit]
   rw[List.getElem?_take]at hj
   split at hj
   ·rw[Nat.zero_add];exact hcs j v hj
   ·cases hj)
 have hrz:∀ty,(Builtin.append_ #[(ρ.t 24),(ρ.t 3)] ty #[.slice (some ⟨b,0,none⟩) i c,.int .i64 ((n:Int)+1-(i:Int))]).run P w=
   .ok (.slice (some ⟨w.heap.size,0,none⟩) (n+1) (grownCap w (n+1) c (ρ.t 9))) (w.drew.alloc (.cells ((cs.take (i*Z)).toArray++Builtin.zeroCells z.cells (n+1-i)++Builtin.zeroCells z.cells (grownCap w (n+1) c (ρ.t 9)-(n+1))) (ρ.t 9))):=λty=>by
  have h:=Lib.run_append_grow_zeros w (ρ.t 24) (ρ.t 3) ty (ρ.t 9) i0 _ .i64 .i64 L.t24 L.t3 hi0 hz0 (some ⟨b,0,none⟩) i c (cs.take (i*Z)) hold (n+1-i) (by omega) (by omega) (by omega) (by omega) (by rw[hzb];have:=Nat.mul_le_mul_right B (show n+1-i<=n+1 by omega);omega) (by rw[hzb,hik];exact growslice_fits hroom hbig)
  rw[hik]at h
  rw[hkk]
  exact h
 obtain⟨G,hG⟩:∃G,G=grownCap w (n+1) c (ρ.t 9):=⟨_,rfl⟩
 obtain⟨ROW,hROW⟩:∃ROW:Array Value,ROW=(cs.take (i*Z)).toArray++Builtin.zeroCells z.cells (n+1-i)++Builtin.zeroCells z.cells (G-(n+1)):=⟨_,rfl⟩
 rw[<-hG]at hrz ⊢
 rw[<-hROW]at hrz ⊢
 have hRl:(n+1)*Z<=ROW.size:=by
  rw[hROW]
  simp only[Array.size_append,List.size_toArray,size_zeroCells,hzc,List.length_take,hcl]
  have h1:i*Z+(n+1-i)*Z=(n+1)*Z:=by rw[<-Nat.add_mul,hik]
  rw[Nat.min_eq_left (show i*Z<=n*Z by omega)]
  omega
 obtain⟨W1,hW1⟩:∃W1,W1=w.drew.alloc (.cells ROW (ρ.t 9)):=⟨_,rfl⟩
 rw[<-hW1]at hrz
 have hN:∀j,j<(n+1)*Z->(W1.cell? ⟨w.heap.size,j,none⟩).isSome=true:=λj hj=>by
  rw[hW1,World.cell?_alloc_at (w:=w.drew) ROW _ w.heap.size j rfl,Array.getElem?_eq_getElem (by omega)];rfl
 have hNf:∀j,W1.frozen? ⟨w.heap.size,j,none⟩=false:=λj=>by rw[hW1];exact World.frozen?_alloc_at (w:=w.drew) ROW _ w.heap.size j rfl
 have hOb:∀j v,w.cell? ⟨b,j,none⟩=some v->W1.cell? ⟨b,j,none⟩=some v:=λj v h=>by rw[hW1,World.cell?_alloc_past (w:=w.drew) _ b j hbw];exact h
 have hOv:∀j v,w.cell? ⟨vb,j,none⟩=some v->W1.cell? ⟨vb,j,none⟩=some v:=λj v h=>by rw[hW1,World.cell?_alloc_past (w:=w.drew) _ vb j hvw];exact h
 have hin:i<=n:=by omega
 have hcpA:∀(W:World),(∀x,W.cell? x=W1.cell? x)->(∀x,W.frozen? x=W1.frozen? x)->∀ty dc,(Builtin.copy_ #[(ρ.t 24),(ρ.t 24)] ty #[.slice (some ⟨w.heap.size,i*Z,none⟩) (n+1-i) dc,.slice (some ⟨vb,voff,none⟩) 1 vc]).run P W= .ok (goInt 1) (W.setCells w.heap.size (i*Z) vs):=λW hWc hWf ty dc=>
  XD W _ _ ty (ρ.t 9) w.heap.size (i*Z) (n+1-i) dc ⟨vb,voff,none⟩ 1 vc Z 1 vs L.t24 hsz (by simp only[Nat.min_def];split<;>omega) (by rw[hvl,Nat.one_mul])
   (λj v hj=>by rw[Addr.add_lit,hWc];exact hOv _ v (hvs j v hj))
   (λj hj=>by rw[hWc];exact hN _ (by rw[hvl]at hj;have:=Nat.mul_le_mul_right Z hin;omega)) (λj hj=>by rw[hWf];exact hNf _) h1v
 have hGn:n+1<=G:=by rw[hG];exact grownCap_ge w _ _ _
 have hG63:G<=9223372036854775807:=by
  have:=grownCap_le_maxLen w (n+1) c (ρ.t 9) (by unfold maxLen;omega)
  rw[<-hG]at this
  unfold maxLen at this
  omega
 have hGi:¬(G=i):=by omega
 have hGim:¬(G=i+1):=by omega
 have hci:¬(c=i):=by omega
 have hbN:b≠w.heap.size:=by omega
 have hdl:(cs.drop (i*Z)).length=(n-i)*Z:=by rw[List.length_drop,hcl,Nat.sub_mul]
 have hcpB:∀(W:World),(∀x,W.cell? x=(W1.setCells w.heap.size (i*Z) vs).cell? x)->(∀x,W.frozen? x=(W1.setCells w.heap.size (i*Z) vs).frozen? x)->∀ty dc sc,(Builtin.copy_ #[(ρ.t 24),(ρ.t 24)] ty #[.slice (some ⟨w.heap.size,(i+1)*Z,none⟩) (n-i) dc,.slice (some ⟨b,i*Z,none⟩) (n-i) sc]).run P W= .ok (goInt ((n-i:Nat):Int)) (W.setCells w.heap.size ((i+1)*Z) (cs.drop (i*Z))):=λW hWc hWf ty dc sc=>
  XD W _ _ ty (ρ.t 9) w.heap.size ((i+1)*Z) (n-i) dc ⟨b,i*Z,none⟩ (n-i) sc Z (n-i) (cs.drop (i*Z)) L.t24 hsz (by simp only[Nat.min_def];split<;>omega) hdl
   (λj v hj=>by
    rw[Addr.add_lit,hWc,World.cell?_setCells_out _ _ _ _ _ (λh _=>absurd h hbN)]
    exact hOb _ v (hcs (i*Z+j) v (by rwa [List.getElem?_drop]at hj)))
   (λj hj=>by rw[hWc];exact Q0m _ vs (i*Z) W1 (λt ht=>hN _ (by rw[hvl]at ht;have:=Nat.mul_le_mul_right Z hin;omega)) _ (hN _ (by rw[hdl]at hj;omega)))
   (λj hj=>by rw[hWf,World.frozen?_setCells];exact hNf _) (λv hv=>h1c v (List.mem_of_mem_drop hv))
 subst hW1
 have hE1:∀x,((w.alloc (.cells ROW (ρ.t 9))).drew).cell? x=(w.drew.alloc (.cells ROW (ρ.t 9))).cell? x:=λx=>rfl
 have hE2:∀x,((w.alloc (.cells ROW (ρ.t 9))).drew).frozen? x=(w.drew.alloc (.cells ROW (ρ.t 9))).frozen? x:=λx=>rfl
 have hF1:∀x,(((w.alloc (.cells ROW (ρ.t 9))).drew.setCells w.heap.size (i*Z) vs).drew).cell? x=((w.drew.alloc (.cells ROW (ρ.t 9))).setCells w.heap.size (i*Z) vs).cell? x:=λx=>rfl
 have hF2:∀x,(((w.alloc (.cells ROW (ρ.t 9))).drew.setCells w.heap.size (i*Z) vs).drew).frozen? x=((w.drew.alloc (.cells ROW (ρ.t 9))).setCells w.heap.size (i*Z) vs).frozen? x:=λx=>rfl
 have hw1:IntKind.i64.wrap ((i:Int)+1)=(i:Int)+1:=by rw[IntKind.wrap_i64];omega
 have hw2:IntKind.i64.wrap ((n:Int)+1)=(n:Int)+1:=by rw[IntKind.wrap_i64];omega
 have hw3:IntKind.i64.wrap ((n:Int)+1-(i:Int))=(n:Int)+1-(i:Int):=by rw[IntKind.wrap_i64];omega
 have hb1:(0:Int)<=(i:Int)+1:=by omega
 have htn:((i:Int)+1).toNat=i+1:=by omega
 have hb3:(i:Int)<=(n:Int):=by omega
 clear hkk hik hold hROW hG hRl hm1 hm2 hm3 hm4 hdl
 go_enter L.f22,YS nm ρ
 go_wp2_with (first
  |(at_builtin;refine Lib.wpList_append_run _ rfl _ _ _ _ rfl _ _ rfl rfl _ _ (hrz _) ?_)
  |(at_builtin;refine D1 _ rfl _ _ (ρ.t 24) (ρ.t 24) rfl _ _ rfl rfl (hcpA _ hE1 hE2 _ _) ?_))
 go_region_law_o (refine Q0l rfl _ _ (ρ.t 24) (ρ.t 24) rfl (.slice (some ⟨w.heap.size,(i+1)*Z,none⟩) (n-i) (G-(i+1))) (.slice (some ⟨b,i*Z,none⟩) (n-i) (c-i)) (by simp[Act.eval,Act.put]) (by simp[Act.eval,Act.put]) (hcpB _ hF1 hF2 (ρ.t 3) (G-(i+1)) (c-i)) ?_)
 go_wp2
 go_ret
 exact⟨rfl,rfl⟩
theorem JU:∀(vs:List Value) (w:World) (g o:Nat) (cur:Array Value) (t:TypeId),w.heap[g]? =some (.cells cur t (0,0))->o+vs.length<=cur.size->
  w.setCells g o vs=w.setRow g (cur.toList.take o++vs++cur.toList.drop (o+vs.length)).toArray
 |[],w,g,o,cur,t,hg,hl=>by
  simp only[World.setCells,List.append_nil,List.length_nil,Nat.add_zero,List.take_append_drop,Array.toArray_toList]
  exact(setRow_self w g cur t (0,0) hg).symm
 |v::vs,w,g,o,cur,t,hg,hl=>by
  have hl':o+(vs.length+1)<=cur.size:=by simpa using hl
  rw[World.setCells,setCell_eq_setRow w g o cur t (0,0) v hg,JU vs _ g (o+1) _ t (setRow_heap w g cur _ t _ hg) (by simp;omega),setRow_setRow]
  congr 2
  have e:=list_seg_step cur.toList o v vs (by simp;omega)
  simpa[Array.toList_setIfInBounds,Nat.add_assoc]using e
structure InsOut (te Z n c g:Nat)(new:List Value)(w w':World)(g' c':Nat):Prop where
 row:∃R:List Value,w'.heap[g']? =some (.cells (new++R).toArray te (0,0))/\(new++R).length=c'*Z
 cap:n+1<=c'/\c'<=9223372036854775807
 place:(g'=g/\c'=c)\/g'=w.heap.size
 old:∀k,k<w.heap.size->k≠g'->w'.heap[k]? =w.heap[k]?
 size:w.heap.size<=w'.heap.size
 os:w'.os=w.os
 tape:w'.tape=w.tape
 output:w'.output=w.output
theorem Q8Y {α:Type}(cur cs:List α)(p q:Nat)(hcs:cs=cur.take q)(h:p<=q):cur.take p=cs.take p:=by
 rw[hcs,List.take_take,Nat.min_eq_left h]
theorem ins_any (L:InsL P ρ nm Z B z)(hZ:0<Z)(hzc:z.cells.size=Z)(g n c i vb voff vc:Nat)(cur:Array Value)(vs:List Value)(w:World)(hin:i<=n)(hnc:n<=c)(hc63:c<=9223372036854775807)(hbig:(n+1)*B<=140737488355328)(hn63:n+1<=9223372036854775807)
  (hg:w.heap[g]? =some (.cells cur (ρ.t 9) (0,0))) (hsz:cur.size=c*Z) (hvb:vb≠g) (hvl:vs.length=Z)
  (hvs:∀j v,vs[j]? =some v->w.cell? ⟨vb,voff+j,none⟩=some v) (h1c:∀v∈cur.toList.take (n*Z),v.oneCell'=true) (h1v:∀v∈vs,v.oneCell'=true) :
  Calls P (ρ.f 22) #[.slice (some ⟨g,0,none⟩) n c,.int .i64 i,.slice (some ⟨vb,voff,none⟩) 1 vc] w λe w'=>
   ∃g' c',e= .returned (.slice (some ⟨g',0,none⟩) (n+1) c')/\InsOut (ρ.t 9) Z n c g ((cur.toList.take (n*Z)).take (i*Z)++vs++(cur.toList.take (n*Z)).drop (i*Z)) w w' g' c':=by
 have hgw:g<w.heap.size:=(Array.getElem?_eq_some_iff.1 hg).1
 obtain⟨cs,hcs⟩:∃cs,cs=cur.toList.take (n*Z):=⟨_,rfl⟩
 rw[<-hcs]at h1c ⊢
 have hm0:n*Z<=c*Z:=Nat.mul_le_mul_right Z hnc
 have hcl:cs.length=n*Z:=by rw[hcs,List.length_take,Array.length_toList,hsz];omega
 have hm1:(i+1)*Z=i*Z+Z:=Nat.succ_mul i Z
 have hm2:(n+1)*Z=n*Z+Z:=Nat.succ_mul n Z
 have hm3:i*Z+(n-i)*Z=n*Z:=by rw[<-Nat.add_mul];congr 1;omega
 have hdl:(cs.drop (i*Z)).length=(n-i)*Z:=by rw[List.length_drop,hcl,Nat.sub_mul]
 have htl:(cs.take (i*Z)).length=i*Z:=by rw[List.length_take,hcl];omega
 have hcell:∀j v,cs[j]? =some v->w.cell? ⟨g,j,none⟩=some v:=λj v hj=>by
  rw[hcs,List.getElem?_take]at hj
  split at hj
  ·simpa[World.cell?,hg]using hj
  ·cases hj
 have hfz:∀j,w.frozen? ⟨g,j,none⟩=false:=λj=>by simp[World.frozen?,hg]
 have hsome:∀j,j<c*Z->(w.cell? ⟨g,j,none⟩).isSome=true:=λj hj=>by
  simp[World.cell?,hg,Array.getElem?_eq_getElem (show j<cur.size by omega)]
 have hv0:∃v,w.cell? ⟨vb,voff+0,none⟩=some v:=⟨_,hvs 0 _ (List.getElem?_eq_getElem (by omega))⟩
 have hctk:cur.toList.take (i*Z)=cs.take (i*Z):=Q8Y _ _ _ _ hcs (by omega)
 by_cases hroom:n+1<=c
 ·have hm4:(n+1)*Z<=c*Z:=Nat.mul_le_mul_right Z hroom
  by_cases hi:i<n
  ·obtain⟨tA,kA,hsa,hkA⟩:∃tA kA,w.shape? vb=some (tA,kA)/\kA≠0:=by
    obtain⟨v,hv⟩:=hv0
    unfold World.cell? at hv
    unfold World.shape?
    split at hv
    ·rename_i cells t f hh
     have hlt:voff+0<cells.size:=(Array.getElem?_eq_some_iff.1 hv).1
     rw[hh]
     exact⟨_,_,rfl,by omega⟩
    ·cases hv
   have hsb:w.shape? g=some (ρ.t 9,cur.size):=by simp[World.shape?,hg]
   refine(Q5L L hZ g n c i vb voff vc cs vs w hi hroom hc63 hvb hcl hvl hcell (λj hj=>hsome j (by omega)) hfz hvs h1c h1v tA (ρ.t 9) kA cur.size hsa hkA hsb (by omega)).mono ?_
   rintro e w' ⟨rfl,rfl⟩
   refine⟨g,c,rfl,?_⟩
   have r1:=JU (cs.drop (i*Z)) w.drew g ((i+1)*Z) cur _ hg (by rw[hdl];omega)
   have g1:=setRow_heap w.drew g cur (cur.toList.take ((i+1)*Z)++cs.drop (i*Z)++cur.toList.drop ((i+1)*Z+(cs.drop (i*Z)).length)).toArray _ _ hg
   rw[r1]
   have hl1:(cur.toList.take ((i+1)*Z)).length=i*Z+Z:=by rw[List.length_take,Array.length_toList,hsz];omega
   have r2:=JU vs _ g (i*Z) _ _ g1 (by simp only[List.size_toArray,List.length_append,hl1];omega)
   rw[r2]
   have ek:(cur.toList.take ((i+1)*Z)++cs.drop (i*Z)++cur.toList.drop ((i+1)*Z+(cs.drop (i*Z)).length)).take (i*Z)=cs.take (i*Z):=by
    rw[List.append_assoc,List.take_append_of_le_length (by omega),List.take_take,Nat.min_eq_left (by omega),hctk]
   have ed:(cur.toList.take ((i+1)*Z)++cs.drop (i*Z)++cur.toList.drop ((i+1)*Z+(cs.drop (i*Z)).length)).drop (i*Z+vs.length)=cs.drop (i*Z)++cur.toList.drop ((i+1)*Z+(cs.drop (i*Z)).length):=by
    rw[List.append_assoc,List.drop_left' (by rw[hl1,hvl])]
   refine⟨⟨cur.toList.drop ((i+1)*Z+(cs.drop (i*Z)).length),?_,?_⟩,⟨hroom,hc63⟩,.inl ⟨rfl,rfl⟩,λk hk hne=>?_,?_,rfl,rfl,rfl⟩
   ·rw[setRow_heap _ g _ _ _ _ g1]
    simp only[List.toList_toArray]
    rw[ek,ed]
    simp only[List.append_assoc]
   ·simp only[List.length_append,htl,hvl,hdl,List.length_drop,Array.length_toList,hsz]
    omega
   ·rw[setRow_other _ g k _ hne,setRow_other _ g k _ hne];rfl
   ·simp
  ·obtain rfl:i=n:=by omega
   have hd0:cs.drop (i*Z)=[]:=List.drop_eq_nil_of_le (by omega)
   have ht0:cs.take (i*Z)=cs:=List.take_of_length_le (by omega)
   refine(Q2a L g i c vb voff vc vs w hroom hc63 hvl (λj hj=>hsome _ (by omega)) hfz hvs h1v).mono ?_
   rintro e w' ⟨rfl,rfl⟩
   refine⟨g,c,rfl,?_⟩
   have r1:=JU vs w g (i*Z) cur _ hg (by omega)
   rw[r1]
   refine⟨⟨cur.toList.drop (i*Z+vs.length),?_,?_⟩,⟨hroom,hc63⟩,.inl ⟨rfl,rfl⟩,λk hk hne=>?_,?_,rfl,rfl,rfl⟩
   ·rw[setRow_heap _ g _ _ _ _ hg,hctk,hd0]
    simp only[List.append_nil,List.append_assoc]
   ·simp only[List.length_append,htl,hvl,hdl,List.length_drop,Array.length_toList,hsz]
    omega
   ·rw[setRow_other _ g k _ hne]
   ·simp
 ·have hGn:=grownCap_ge w (n+1) c (ρ.t 9)
  have hG63:grownCap w (n+1) c (ρ.t 9)<=9223372036854775807:=by
   have:=grownCap_le_maxLen w (n+1) c (ρ.t 9) (by unfold maxLen;omega)
   unfold maxLen at this
   omega
  have hm5:(n+1)*Z+(grownCap w (n+1) c (ρ.t 9)-(n+1))*Z=grownCap w (n+1) c (ρ.t 9)*Z:=by rw[<-Nat.add_mul];congr 1;omega
  by_cases hi:i<n
  ·refine(Q7i L hZ hzc g n c i vb voff vc cs vs w hi hnc (by omega) hbig hn63 hcl hvl hcell hvs h1c h1v).mono ?_
   rintro e w' ⟨rfl,rfl⟩
   refine⟨w.heap.size,grownCap w (n+1) c (ρ.t 9),rfl,?_⟩
   obtain⟨ROW,hROW⟩:∃ROW:Array Value,ROW=(cs.take (i*Z)).toArray++Builtin.zeroCells z.cells (n+1-i)++Builtin.zeroCells z.cells (grownCap w (n+1) c (ρ.t 9)-(n+1)):=⟨_,rfl⟩
   rw[<-hROW]
   have h1:i*Z+(n+1-i)*Z=(n+1)*Z:=by rw[<-Nat.add_mul];congr 1;omega
   have hRs:ROW.size=grownCap w (n+1) c (ρ.t 9)*Z:=by
    rw[hROW]
    simp only[Array.size_append,List.size_toArray,size_zeroCells,hzc,htl]
    omega
   have hRt:ROW.toList.take (i*Z)=cs.take (i*Z):=by
    rw[hROW]
    simp only[Array.toList_append,List.append_assoc]
    rw[List.take_append_of_le_length (by rw[htl];exact Nat.le_refl _),List.take_of_length_le (by rw[htl];exact Nat.le_refl _)]
   have g0:((w.alloc (.cells ROW (ρ.t 9))).drew).heap[w.heap.size]? =some (.cells ROW (ρ.t 9) (0,0)):=by
    show(w.heap.push (.cells ROW (ρ.t 9)))[w.heap.size]? =_
    simp
   have r1:=JU vs (w.alloc (.cells ROW (ρ.t 9))).drew w.heap.size (i*Z) ROW _ g0 (by omega)
   have g1:=setRow_heap (w.alloc (.cells ROW (ρ.t 9))).drew w.heap.size ROW (ROW.toList.take (i*Z)++vs++ROW.toList.drop (i*Z+vs.length)).toArray _ _ g0
   rw[r1]
   have hl1:(ROW.toList.take (i*Z)++vs).length=(i+1)*Z:=by rw[List.length_append,hRt,htl,hvl,hm1]
   have r2:=JU (cs.drop (i*Z)) (((w.alloc (.cells ROW (ρ.t 9))).drew.setRow w.heap.size (ROW.toList.take (i*Z)++vs++ROW.toList.drop (i*Z+vs.length)).toArray).drew) w.heap.size ((i+1)*Z) _ _ g1 (by
    simp only[List.size_toArray,List.length_append,hRt,htl,hvl,hdl,List.length_drop,Array.length_toList,hRs]
    omega)
   rw[r2]
   have ek:(ROW.toList.take (i*Z)++vs++ROW.toList.drop (i*Z+vs.length)).take ((i+1)*Z)=cs.take (i*Z)++vs:=by
    rw[List.take_left' hl1,hRt]
   refine⟨⟨(ROW.toList.take (i*Z)++vs++ROW.toList.drop (i*Z+vs.length)).drop ((i+1)*Z+(cs.drop (i*Z)).length),?_,?_⟩,⟨hGn,hG63⟩,.inr rfl,λk hk hne=>?_,?_,rfl,rfl,rfl⟩
   ·rw[setRow_heap (((w.alloc (.cells ROW (ρ.t 9))).drew.setRow w.heap.size (ROW.toList.take (i*Z)++vs++ROW.toList.drop (i*Z+vs.length)).toArray).drew) w.heap.size _ _ _ _ g1]
    simp only[List.toList_toArray]
    rw[ek]
   ·simp only[List.length_append,htl,hvl,hdl,List.length_drop,hRt,Array.length_toList,hRs]
    omega
   ·rw[setRow_other _ _ k _ hne]
    show((w.alloc (.cells ROW (ρ.t 9))).drew.setRow w.heap.size _).heap[k]? =_
    rw[setRow_other _ _ k _ hne]
    show(w.heap.push (.cells ROW (ρ.t 9)))[k]? =_
    rw[Array.getElem?_push,if_neg hne]
   ·rw[setRow_size]
    show _<=((w.alloc (.cells ROW (ρ.t 9))).drew.setRow w.heap.size _).heap.size
    rw[setRow_size]
    show _<=(w.heap.push (.cells ROW (ρ.t 9))).size
    rw[Array.size_push]
    omega
  ·obtain rfl:i=n:=by omega
   have hd0:cs.drop (i*Z)=[]:=List.drop_eq_nil_of_le (by omega)
   have ht0:cs.take (i*Z)=cs:=List.take_of_length_le (by omega)
   refine(Q2b L ⟨g,0,none⟩ i c vb voff vc cs vs w hnc (by omega) hbig hn63 hcl hvl (λj v hj=>by rw[Addr.add_lit,Nat.zero_add];exact hcell j v hj) hvs h1v).mono ?_
   rintro e w' ⟨rfl,rfl⟩
   refine⟨w.heap.size,grownCap w (i+1) c (ρ.t 9),rfl,?_⟩
   rw[hd0,ht0,List.append_nil]
   refine⟨⟨(Builtin.zeroCells z.cells (grownCap w (i+1) c (ρ.t 9)-(i+1))).toList,?_,?_⟩,⟨hGn,hG63⟩,.inr rfl,λk hk hne=>?_,?_,rfl,rfl,rfl⟩
   ·show(w.heap.push (.cells _ (ρ.t 9)))[w.heap.size]? =_
    rw[Array.getElem?_push_size]
    refine congrArg (λx:Array Value=>some (Obj.cells x (ρ.t 9))) (Array.ext' ?_)
    rw[Array.toList_append]
   ·simp only[List.length_append,hcl,hvl,Array.length_toList,size_zeroCells,hzc]
    omega
   ·show(w.heap.push (.cells _ (ρ.t 9)))[k]? =_
    rw[Array.getElem?_push,if_neg hne]
   ·show _<=(w.heap.push (.cells _ (ρ.t 9))).size
    rw[Array.size_push]
    omega
end Go.GxIns
end
section
/- slices.Insert of one element,in the interpreter's words. -/
namespace Go.Gx
open Go.RowKit Go.Proofs Go.Shelf Go.GxIns
def Q80 (τ:Ty)(xs:List (den τ))(i:Int)(ys:List (den τ)):Option (List (den τ)):=
 bif decide (0<=i)&&(decide (i<=(xs.length:Int))&&(Nat.beq ys.length 1&&room (xs.length+1) τ))then some (xs.take i.toNat++ys++xs.drop i.toNat)else none
theorem Q3c {P:Program}{ρ:Ren}{nm:String}{Z B:Nat}{z:Value}(L:InsL P ρ nm Z B z)(hzc:z.cells.size=Z)(vb voff vc:Nat)(vs:List Value)(w:World)(hbig:B<=140737488355328)
  (hvl:vs.length=Z) (hvs:∀j v,vs[j]? =some v->w.cell? ⟨vb,voff+j,none⟩=some v) (h1v:∀v∈vs,v.oneCell'=true) :
  Calls P (ρ.f 22) #[.slice none 0 0,.int .i64 0,.slice (some ⟨vb,voff,none⟩) 1 vc] w λe w'=>
   ∃g' c',e= .returned (.slice (some ⟨g',0,none⟩) 1 c')/\InsOut (ρ.t 9) Z 0 0 w.heap.size vs w w' g' c':=by
 have hGn:=grownCap_ge w 1 0 (ρ.t 9)
 have hG63:grownCap w 1 0 (ρ.t 9)<=9223372036854775807:=by
  have:=grownCap_le_maxLen w 1 0 (ρ.t 9) (by unfold maxLen;omega)
  unfold maxLen at this
  omega
 have hm5:1*Z+(grownCap w 1 0 (ρ.t 9)-1)*Z=grownCap w 1 0 (ρ.t 9)*Z:=by rw[<-Nat.add_mul];congr 1;omega
 refine(Q7Z L vb voff vc vs w hbig hvl hvs h1v).mono ?_
 rintro e w' ⟨rfl,rfl⟩
 refine⟨w.heap.size,grownCap w 1 0 (ρ.t 9),rfl,⟨(Builtin.zeroCells z.cells (grownCap w 1 0 (ρ.t 9)-1)).toList,?_,?_⟩,⟨hGn,hG63⟩,.inr rfl,λk hk hne=>?_,?_,rfl,rfl,rfl⟩
 ·show(w.heap.push (.cells _ (ρ.t 9)))[w.heap.size]? =_
  rw[Array.getElem?_push_size]
  refine congrArg (λx:Array Value=>some (Obj.cells x (ρ.t 9))) (Array.ext' ?_)
  rw[Array.toList_append]
 ·simp only[List.length_append,hvl,Array.length_toList,size_zeroCells,hzc]
  omega
 ·show(w.heap.push (.cells _ (ρ.t 9)))[k]? =_
  rw[Array.getElem?_push,if_neg hne]
 ·show _<=(w.heap.push (.cells _ (ρ.t 9))).size
  rw[Array.size_push]
  omega
theorem Q3d {pv:Nat->Value}{S:Nat->Prop}{w w':World}{te n c g g' c':Nat}{τ:Ty}{new:List Value}{xs ys:List (den τ)}{l:Loc}(hS:∀b,S b->b<w.heap.size)
  (ho:InsOut te (nc τ) n c g new w w' g' c') (hl:(l= .at g c)\/(g=w.heap.size/\l= .nilrow)) (hpin:∀g c,l= .at g c->¬S g) (hpos:0<nc τ) (hn:ys.length=n+1)
  (hnew:∀i (hi:i<ys.length),∃cs,CR (cS pv S w) w τ ys[i] cs/\∀j v,cs[j]? =some v->new[i*nc τ+j]? =some v) :
  Blw ⟨λb=>b<w.heap.size/\∀g c,l= .at g c->b≠g,none⟩ w w'/\∃S':Nat->Prop,(∀b,S b->S' b)/\(∀b,S' b->S b\/(∃c,l= .at b c)\/(w.heap.size<=b/\b<w'.heap.size))/\Q8s S' w' w.heap.size pv (.fr te τ xs) l (.mov te τ ys) (.slice (some ⟨g',0,none⟩) (n+1) c'):=by
 obtain⟨R,hR,hRs⟩:=ho.row
 have hgS:¬S g':=λh=>by
  have hb:=hS _ h
  rcases ho.place with⟨e,_⟩|e
  ·rcases hl with e2|⟨e2,_⟩
   ·exact hpin g c e2 (e▸h)
   ·omega
  ·omega
 have hne:∀k,k<w.heap.size->(∀g c,l= .at g c->k≠g)->k≠g':=λk hk h e2=>by
  rcases ho.place with⟨e,_⟩|e
  ·rcases hl with e3|⟨e3,_⟩
   ·exact h g c e3 (e2.trans e)
   ·omega
  ·omega
 have hSh:∀b,S b->w'.heap[b]? =w.heap[b]?:=λb hb=>ho.old b (hS b hb) λe=>hgS (e▸hb)
 refine⟨⟨ho.os,ho.tape,ho.output,ho.size,λk hk=>ho.old k hk.1 (hne k hk.1 hk.2)⟩,S,λb hb=>hb,λb hb=>.inl hb,.at g' c',⟨_,(0,0),hR,by simpa using hRs,(by have:=ho.cap.1;omega),(by have:=ho.cap.2;unfold maxLen;omega),λ_=>rfl,.inl (Nat.le_refl _),hpos,λi hi=>?_⟩,?_,λg2 c2 h2=>?_⟩
 ·obtain⟨cs,h1,h2⟩:=hnew i hi
  refine⟨cs,h1.mono (λb hb=>hb.mono (λh=>h) (hSh b hb.1)) (λb hb=>hSh b hb.1),λj v hj=>?_⟩
  have h3:=h2 j v hj
  have hlt:=(List.getElem?_eq_some_iff.1 h3).1
  rw[List.getElem?_toArray,List.getElem?_append_left hlt,h3]
 ·rw[<-hn];rfl
 ·cases h2
  refine⟨hgS,?_⟩
  rcases ho.place with⟨e,_⟩|e
  ·rcases hl with e3|⟨e3,_⟩
   ·exact .inl ⟨c,e▸e3⟩
   ·exact .inr (by omega)
  ·exact .inr (by omega)
theorem Q4a {P:Program}{E:Env}{pv:Nat->Value}{ρ:Ren}{nm:String}{fn:Func}{cd:Code}{τ:Ty}{te:Nat}(hE:EnvOk P E)(hte:E.ty te=some τ)(hon:(E.on&&slT τ)=false)(hpos:0<nc τ)(hnb:0<nb τ)
  (L:InsL P ρ nm (nc τ) (nb τ) (valOf (.t τ (Q9 τ)) (zc τ))) (h9:ρ.t 9=te) (hf:P.funcs[ρ.f 22]? =some fn) (hb:fn.body=some cd) (hname:(fn.name== "runtime.NumGoroutine")=false)
  {xs ys y:List (den τ)} {i:Int} (h:Q80 τ xs i ys=some y):J0 P E pv (ρ.f 22) (.fr te τ xs) [.t (.int .i64) i,.t (.sl τ) ys] (.mov te τ y):=by
 unfold Q80 at h
 cases hc:(decide (0<=i)&&(decide (i<=(xs.length:Int))&&(Nat.beq ys.length 1&&room (xs.length+1) τ)))with
 |false=>rw[hc]at h;cases h
 |true=>
  rw[hc]at h
  cases h
  simp only[Bool.and_eq_true,decide_eq_true_eq]at hc
  obtain⟨h0,h1,h2,h3⟩:=hc
  have h2:ys.length=1:=Nat.eq_of_beq_eq_true h2
  obtain⟨y0,rfl⟩:=List.length_eq_one_iff.1 h2
  obtain⟨m,rfl⟩:∃m:Nat,i=m:=⟨i.toNat,by omega⟩
  rw[Int.toNat_natCast]
  have hbig:(xs.length+1)*nb τ<=140737488355328:=Nat.le_of_ble_eq_true h3
  have hlen:xs.length+1<=140737488355328:=Nat.le_trans (Nat.le_mul_of_pos_right _ hnb) hbig
  have hzc:(valOf (.t τ (Q9 τ)) (zc τ)).cells.toList=zc τ:=QX (S:=λ_=>False) (w:=default) (ρ:=λ_=>none) (row:=λ_=>none) (pv:=pv) (.t τ (Q9 τ)) (.t τ _ _ (Jg _ _ τ))
  have hzs:(valOf (.t τ (Q9 τ)) (zc τ)).cells.size=nc τ:=by rw[<-Array.length_toList,hzc];exact(Jg (λ_=>False) default τ).len
  intro S w v0 vs l r0 hS hgl hargs hr hrow hpin hv
  obtain⟨vs1,rfl,ha1⟩:=Q7e hargs
  obtain⟨cs2,vs2,hc2,rfl,ha2⟩:=Ur ha1
  obtain rfl:=Up ha2
  cases hc2 with
  |t _ _ _ hcr=>
  cases hcr with
  |sl _ _ A vc cv hvc hvm k1 k2=>
  obtain⟨vb,vo,rfl,hSv,hcell⟩:=k2 0 (by simp)
  have hvl:(cv 0).length=nc τ:=(k1 0 (by simp)).len
  have hv1:=(k1 0 (by simp)).one
  have hvs:∀j v,(cv 0)[j]? =some v->w.cell? ⟨vb,vo+j,none⟩=some v:=λj v hj=>by
   have:=hcell j v hj
   rwa [Nat.zero_mul,Nat.zero_add]at this
  have hy0:CR (cS pv S w) w τ y0 (cv 0):=hgl.up hon (k1 0 (by simp))
  cases hr
  subst hv
  show Goes P (ρ.f 22) (Yq (.fr te τ xs) l::[.int .i64 m,.slice (some ⟨vb,vo,none⟩) 1 vc]).toArray w _
  cases l with
  |soft T v=>exact hrow.elim
  |tree cs T v=>exact hrow.elim
  |nilrow=>
   obtain⟨e0,_,hn⟩:=hrow
   have e0:xs=[]:=e0
   subst e0
   obtain rfl:m=0:=by simpa using h1
   refine Uo hf hb hname ((Q3c L hzs vb vo vc (cv 0) w (by simpa using hbig) hvl hvs hv1).mono λe w' ⟨g',c',he,ho⟩=>⟨_,he,?_⟩)
   rw[h9]at ho
   refine Q3d (n:=0) hS ho (.inr ⟨rfl,rfl⟩) hpin hpos rfl λi hi=>?_
   obtain rfl:i=0:=by simpa using hi
   exact⟨cv 0,hy0,λj v hj=>by rwa [Nat.zero_mul,Nat.zero_add]⟩
  |«at» g cap=>
   obtain⟨cur,fr,r1,r2,r3,r4,r5,r6,r7,r8⟩:=hrow
   obtain rfl:=r5 rfl
   have hcz:xs.length*nc τ<=cap*nc τ:=Nat.mul_le_mul_right _ r3
   have hct:cur.toList.length=cap*nc τ:=by rw[<-r2];exact Array.length_toList
   have hcell1:∀v∈cur.toList.take (xs.length*nc τ),v.oneCell'=true:=λv hv=>by
    obtain⟨j,hj,rfl⟩:=List.getElem_of_mem hv
    rw[List.length_take,hct]at hj
    have hj1:j / nc τ<xs.length:=Nat.div_lt_of_lt_mul (by rw[Nat.mul_comm];omega)
    obtain⟨cs,q1,q2⟩:=r8 _ hj1
    have hj2:j % nc τ<cs.length:=by rw[q1.len];exact Nat.mod_lt _ hpos
    have q3:=q2 _ _ (List.getElem?_eq_getElem hj2)
    have e1:j / nc τ*nc τ+j % nc τ=j:=by rw[Nat.mul_comm];exact Nat.div_add_mod j (nc τ)
    rw[e1,Array.getElem?_eq_getElem (by omega)]at q3
    rw[List.getElem_take,Array.getElem_toList,Option.some.inj q3]
    exact q1.one _ (List.getElem_mem hj2)
   have hvb:vb≠g:=λe=>hpin g cap rfl (e▸hSv)
   have hin:m<=xs.length:=by omega
   rw[<-h9]at r1
   refine Uo hf hb hname ((ins_any L hpos hzs g xs.length cap m vb vo vc cur (cv 0) w hin r3 r4 hbig (by omega) r1 r2 hvb hvl hvs hcell1 hv1).mono λe w' ⟨g',c',he,ho⟩=>⟨_,he,?_⟩)
   rw[h9]at ho
   have hnl:(xs.take m++[y0]++xs.drop m).length=xs.length+1:=by simp;omega
   refine Q3d (n:=xs.length) hS ho (.inl rfl) hpin hpos hnl λi hi=>?_
   have hcl:(cur.toList.take (xs.length*nc τ)).length=xs.length*nc τ:=by rw[List.length_take,hct];omega
   have hmz:m*nc τ<=xs.length*nc τ:=Nat.mul_le_mul_right _ hin
   have htl:((cur.toList.take (xs.length*nc τ)).take (m*nc τ)).length=m*nc τ:=by rw[List.length_take,hcl];omega
   have hci:∀k (hk:k<xs.length),∃cs,CR (cS pv S w) w τ xs[k] cs/\cs.length=nc τ/\∀j v,cs[j]? =some v->(cur.toList.take (xs.length*nc τ))[k*nc τ+j]? =some v:=λk hk=>by
    obtain⟨cs,q1,q2⟩:=r8 k hk
    refine⟨cs,q1,q1.len,λj v hj=>?_⟩
    have hj2:=(List.getElem?_eq_some_iff.1 hj).1
    have hk2:(k+1)*nc τ<=xs.length*nc τ:=Nat.mul_le_mul_right _ hk
    rw[Nat.succ_mul]at hk2
    rw[q1.len]at hj2
    rw[List.getElem?_take,if_pos (by omega),Array.getElem?_toList]
    exact q2 j v hj
   rcases Nat.lt_trichotomy i m with hlt|rfl|hgt
   ·obtain⟨cs,q1,q2,q3⟩:=hci i (by omega)
    refine⟨cs,?_,λj v hj=>?_⟩
    ·have e:(xs.take m++[y0]++xs.drop m)[i]=xs[i]:=by
      have e1:(xs.take m++[y0]++xs.drop m)[i]? =xs[i]?:=by
       rw[List.append_assoc,List.getElem?_append_left (by rw[List.length_take];omega),List.getElem?_take,if_pos hlt]
      rw[List.getElem?_eq_getElem hi,List.getElem?_eq_getElem (by omega)]at e1
      exact Option.some.inj e1
     rw[e];exact q1
    ·have hj2:=(List.getElem?_eq_some_iff.1 hj).1
     have hk2:(i+1)*nc τ<=m*nc τ:=Nat.mul_le_mul_right _ hlt
     rw[Nat.succ_mul]at hk2
     rw[List.append_assoc,List.getElem?_append_left (by rw[htl];omega),List.getElem?_take,if_pos (by omega)]
     exact q3 j v hj
   ·refine⟨cv 0,?_,λj v hj=>?_⟩
    ·have e:(xs.take i++[y0]++xs.drop i)[i]=y0:=by
      have e1:(xs.take i++[y0]++xs.drop i)[i]? =some y0:=by
       rw[List.append_assoc,List.getElem?_append_right (by rw[List.length_take];omega),List.length_take,Nat.min_eq_left hin,Nat.sub_self]
       rfl
      rw[List.getElem?_eq_getElem hi]at e1
      exact Option.some.inj e1
     rw[e];exact hy0
    ·have hj2:=(List.getElem?_eq_some_iff.1 hj).1
     rw[List.append_assoc,List.getElem?_append_right (by rw[htl];omega),htl,Nat.add_sub_cancel_left,List.getElem?_append_left hj2]
     exact hj
   ·have hi2:i-1<xs.length:=by omega
    obtain⟨cs,q1,q2,q3⟩:=hci (i-1) hi2
    refine⟨cs,?_,λj v hj=>?_⟩
    ·have e:(xs.take m++[y0]++xs.drop m)[i]=xs[i-1]:=by
      have hl2:(xs.take m++[y0]).length=m+1:=by simp[Nat.min_eq_left hin]
      have e1:(xs.take m++[y0]++xs.drop m)[i]? =xs[i-1]?:=by
       rw[List.getElem?_append_right (by omega),hl2,List.getElem?_drop]
       congr 1
       omega
      rw[List.getElem?_eq_getElem hi,List.getElem?_eq_getElem hi2]at e1
      exact Option.some.inj e1
     rw[e];exact q1
    ·have hk2:(m+1)*nc τ<=i*nc τ:=Nat.mul_le_mul_right _ hgt
     have hk3:i*nc τ=(i-1)*nc τ+nc τ:=by rw[<-Nat.succ_mul];congr 1;omega
     rw[Nat.succ_mul]at hk2
     rw[List.getElem?_append_right (by rw[List.length_append,htl,hvl];omega),List.length_append,htl,hvl,List.getElem?_drop]
     have e:m*nc τ+(i*nc τ+j-(m*nc τ+nc τ))=(i-1)*nc τ+j:=by omega
     rw[e]
     exact q3 j v hj
end Go.Gx
end
section
namespace Go.Proofs.YtfindpalabmmmaaGreatDoor
open Go.Gx
def tyT (t:Nat):Option Ty:=match t with
 |2=>some (.int .i64)
 |3=>some (.int .i64)
 |4=>some .bool
 |5=>some (.int .u8)
 |6=>some (.int .u8)
 |9=>some .str
 |10=>some .str
 |11=>some .str
 |12=>some (.int .u64)
 |21=>some (.int .i32)
 |22=>some (.sl (.int .u8))
 |24=>some (.sl .abbr)
 |26=>some .abbr
 |36=>some (.sl .str)
 |40=>some (.sl (.int .i64))
 |44=>some (.int .u64)
 |46=>some .cur
 |89=>some (.int .u64)
 |93=>some (.arr 256 .bool)
 |100=>some (.int .u32)
 |112=>some (.arr 256 (.int .u8))
 |123=>some (.int .u8)
 |_=>none
def elT (t:Nat):Nat:=match t with
 |22=>5
 |24=>26
 |36=>9
 |40=>3
 |_=>0
def mdT (f:Nat):Bool:=match f with
 |19=>true
 |20=>true
 |21=>true
 |29=>true
 |35=>true
 |41=>true
 |42=>true
 |67=>true
 |86=>true
 |_=>false
def glT (g:Nat):Option AV:=match g with
 |_=>none
def giT (g:Nat):Bool:=match g with
 |0=>true
 |_=>false
def dmT (f:Nat):Bool:=match f with
 |_=>false
def pmT (f:Nat):Bool:=match f with
 |_=>false
def tmX (f:Nat):Bool:=match f with
 |_=>false
def Q0:Env:={ty:=tyT,el:=elT,gl:=glT,md:=mdT,gi:=giT,dm:=dmT,pm:=pmT,tm:=tmX}
theorem Q4b:∀T τ,Q0.ty T=some τ->TyOk Tryz.prog Q0 T τ:=λT τ h=>by
 dsimp only[Q0,tyT]at h
 split at h<;>first
  |(cases h;done)
  |(cases h;exact Q7I (by kernel_rfl) (by kernel_rfl))
theorem Q8e:EnvOk Tryz.prog Q0:=⟨Q4b,by kernel_rfl,λT h=>by
 dsimp only[Q0,tyT]at h
 split at h<;>first
  |(cases h;done)
  |exact Q7X Q4b rfl (by kernel_rfl) (by kernel_rfl) (by kernel_rfl),λT h=>by
 dsimp only[Q0,tyT]at h
 split at h<;>first
  |(cases h;done)
  |exact Q7Y Q4b rfl (by kernel_rfl) (by kernel_rfl) (by kernel_rfl)⟩
def Z72.F (a0:List Int):Option (Bool):=some (decide ((a0.length:Int) > 65536))
def Z72.C:Cal->Option CArm:=λc=>match c with
 |_=>none
theorem Z72.run (a0:List Int):QB Q0 (Qf Z72.C) (Qd 6 0 (λ_=>none)) Tryz.f4 [.t (.sl (.int .u8)) a0] (Qh (.t .bool))=Z72.F a0:=by kernel_rfl
theorem Z72.G (hE:EnvOk Tryz.prog Q0)(pv:Nat->Value):∀cal A,Z72.C cal=some A->Qe Tryz.prog Q0 pv cal A:=by
 intro cal A h
 unfold Z72.C at h
 cases h
theorem Z72.good (hE:EnvOk Tryz.prog Q0)(pv:Nat->Value)(a0:List Int){y:_}(h:Z72.F a0=some y):Qa Tryz.prog Q0 pv (.f 4) (Qb [(.sl (.int .u8))] (a0,())) (.t .bool y):=
 Qc hE (Z72.G hE pv) (f:=4) (fn:=Tryz.f4) (by kernel_rfl) rfl (by kernel_rfl) (by kernel_rfl) ((Z72.run a0).trans h) (λr hr=>Q6 hr)
def Z59.F (a0:Cur):Option (Cur×Int):=bif (decide (a0.at_<(a0.code.length:Int)))then(bif decide (0<=a0.at_)then(bif decide (a0.at_<(a0.code.length:Int))then(bif (decide ((IntKind.wrap .i64 (a0.at_+1))<=(a0.code.length:Int)))then(some ((⟨a0.code,(IntKind.wrap .i64 (a0.at_+1)),(IntKind.wrap .u64 ((IntKind.wrap .u64 ((IntKind.wrap .u64 (a0.seed*6364136223846793005))+(IntKind.wrap .u64 (IntKind.wrap .i64 (a0.code.getD (a0.at_:Int).toNat 0)))))+896896))⟩:Cur),(IntKind.wrap .i64 (a0.code.getD (a0.at_:Int).toNat 0))))else(bif decide (0<=40)then(some ((⟨a0.code,(IntKind.wrap .i64 (a0.at_+1)),(IntKind.wrap .u64 ((IntKind.wrap .u64 ((IntKind.wrap .u64 (a0.seed*6364136223846793005))+(IntKind.wrap .u64 (IntKind.wrap .i64 (a0.code.getD (a0.at_:Int).toNat 0)))))+896896))⟩:Cur),(IntKind.wrap .i64 (IntKind.wrap .u64 ((BitVec.ofInt (IntKind.bits .u64) (Int.fdiv (IntKind.wrap .u64 ((IntKind.wrap .u64 ((IntKind.wrap .u64 (a0.seed*6364136223846793005))+(IntKind.wrap .u64 (IntKind.wrap .i64 (a0.code.getD (a0.at_:Int).toNat 0)))))+896896)) (2 ^ min (40:Int).toNat (IntKind.bits .u64)))&&& BitVec.ofInt (IntKind.bits .u64) 255).toNat:Int)))))else none))else none)else none)else(bif (decide ((IntKind.wrap .i64 (a0.at_+1))<=(a0.code.length:Int)))then(some ((⟨a0.code,(IntKind.wrap .i64 (a0.at_+1)),(IntKind.wrap .u64 ((IntKind.wrap .u64 ((IntKind.wrap .u64 (a0.seed*6364136223846793005))+(IntKind.wrap .u64 0)))+896896))⟩:Cur),0))else(bif decide (0<=40)then(some ((⟨a0.code,(IntKind.wrap .i64 (a0.at_+1)),(IntKind.wrap .u64 ((IntKind.wrap .u64 ((IntKind.wrap .u64 (a0.seed*6364136223846793005))+(IntKind.wrap .u64 0)))+896896))⟩:Cur),(IntKind.wrap .i64 (IntKind.wrap .u64 ((BitVec.ofInt (IntKind.bits .u64) (Int.fdiv (IntKind.wrap .u64 ((IntKind.wrap .u64 ((IntKind.wrap .u64 (a0.seed*6364136223846793005))+(IntKind.wrap .u64 0)))+896896)) (2 ^ min (40:Int).toNat (IntKind.bits .u64)))&&& BitVec.ofInt (IntKind.bits .u64) 255).toNat:Int)))))else none))
def Z59.C:Cal->Option CArm:=λc=>match c with
 |_=>none
theorem Z59.run (a0:Cur):Kr Q0 (Qf Z59.C) (Qd 62 0 (λ_=>none)) Tryz.f67 Q7 (.bx .cur a0) [] (G4 (.bx .cur) (Qh (.t (.int .i64))))=Z59.F a0:=by kernel_rfl
theorem Z59.G (hE:EnvOk Tryz.prog Q0)(pv:Nat->Value):∀cal A,Z59.C cal=some A->Qe Tryz.prog Q0 pv cal A:=by
 intro cal A h
 unfold Z59.C at h
 cases h
theorem Z59.good (hE:EnvOk Tryz.prog Q0)(pv:Nat->Value)(a0:Cur){y:_}(h:Z59.F a0=some y):J0 Tryz.prog Q0 pv 67 (.bx .cur a0) (Qb [] (())) (.kep (.bx .cur y.1) (.t (.int .i64) y.2)):=
 UJ hE (Z59.G hE pv) (f:=67) (fn:=Tryz.f67) (by kernel_rfl) rfl (by kernel_rfl) (.inl rfl) (by kernel_rfl) ((Z59.run a0).trans h) (λr hr=>Um (λr y h=>Q6 h) hr)
def Z35.F (a0:Cur)(a1:Int):Option (Cur×Int):=bif (decide (a1<=1))then(some (a0,0))else((Z59.F a0).bind λr1=>bif (decide (a1 > 200))then((Z59.F r1.1).bind λr2=>bif (a1==0)then(none)else(some (r2.1,(Int.tmod (IntKind.wrap .i64 ((IntKind.wrap .i64 (r1.2*256))+r2.2)) a1))))else(bif (a1==0)then(none)else(some (r1.1,(Int.tmod r1.2 a1)))))
def Z35.C:Cal->Option CArm:=λc=>match c with
 |.f 67=>some (.m (.bx .cur) [] _ (λx0 x=>Z59.F x0) (λr=>.kep (.bx .cur r.1) (.t (.int .i64) r.2)))
 |_=>none
theorem Z35.run (a0:Cur)(a1:Int):Kr Q0 (Qf Z35.C) (Qd 20 0 (λ_=>none)) Tryz.f42 Q7 (.bx .cur a0) [.t (.int .i64) a1] (G4 (.bx .cur) (Qh (.t (.int .i64))))=Z35.F a0 a1:=by kernel_rfl
theorem Z35.G (hE:EnvOk Tryz.prog Q0)(pv:Nat->Value):∀cal A,Z35.C cal=some A->Qe Tryz.prog Q0 pv cal A:=by
 intro cal A h
 unfold Z35.C at h
 split at h
 ·cases h;exact⟨_,rfl,λx0 x y hy=>Z59.good hE pv x0 hy⟩
 ·cases h
theorem Z35.good (hE:EnvOk Tryz.prog Q0)(pv:Nat->Value)(a0:Cur)(a1:Int){y:_}(h:Z35.F a0 a1=some y):J0 Tryz.prog Q0 pv 42 (.bx .cur a0) (Qb [(.int .i64)] (a1,())) (.kep (.bx .cur y.1) (.t (.int .i64) y.2)):=
 UJ hE (Z35.G hE pv) (f:=42) (fn:=Tryz.f42) (by kernel_rfl) rfl (by kernel_rfl) (.inl rfl) (by kernel_rfl) ((Z35.run a0 a1).trans h) (λr hr=>Um (λr y h=>Q6 h) hr)
def Z34.F (a0:Cur)(a1:List ByteArray):Option (Cur×ByteArray):=(Z35.F a0 (a1.length:Int)).bind λr1=>bif decide (0<=r1.2)then(bif decide (r1.2<(a1.length:Int))then(some (r1.1,(a1.getD (r1.2:Int).toNat (⟨#[]⟩:ByteArray))))else none)else none
def Z34.C:Cal->Option CArm:=λc=>match c with
 |.f 42=>some (.m (.bx .cur) [(.int .i64)] _ (λx0 x=>Z35.F x0 x.1) (λr=>.kep (.bx .cur r.1) (.t (.int .i64) r.2)))
 |_=>none
theorem Z34.run (a0:Cur)(a1:List ByteArray):Kr Q0 (Qf Z34.C) (Qd 12 0 (λ_=>none)) Tryz.f20 Q7 (.bx .cur a0) [.t (.sl .str) a1] (G4 (.bx .cur) (Qh (.t .str)))=Z34.F a0 a1:=by kernel_rfl
theorem Z34.G (hE:EnvOk Tryz.prog Q0)(pv:Nat->Value):∀cal A,Z34.C cal=some A->Qe Tryz.prog Q0 pv cal A:=by
 intro cal A h
 unfold Z34.C at h
 split at h
 ·cases h;exact⟨_,rfl,λx0 x y hy=>Z35.good hE pv x0 x.1 hy⟩
 ·cases h
theorem Z34.good (hE:EnvOk Tryz.prog Q0)(pv:Nat->Value)(a0:Cur)(a1:List ByteArray){y:_}(h:Z34.F a0 a1=some y):J0 Tryz.prog Q0 pv 20 (.bx .cur a0) (Qb [(.sl .str)] (a1,())) (.kep (.bx .cur y.1) (.t .str y.2)):=
 UJ hE (Z34.G hE pv) (f:=20) (fn:=Tryz.f20) (by kernel_rfl) rfl (by kernel_rfl) (.inl rfl) (by kernel_rfl) ((Z34.run a0 a1).trans h) (λr hr=>Um (λr y h=>Q6 h) hr)
def Z61.F (a0:Cur)(a1:Int):Option (Cur×Bool):=(Z35.F a0 a1).bind λr1=>some (r1.1,(r1.2==0))
def Z61.C:Cal->Option CArm:=λc=>match c with
 |.f 42=>some (.m (.bx .cur) [(.int .i64)] _ (λx0 x=>Z35.F x0 x.1) (λr=>.kep (.bx .cur r.1) (.t (.int .i64) r.2)))
 |_=>none
theorem Z61.run (a0:Cur)(a1:Int):Kr Q0 (Qf Z61.C) (Qd 9 0 (λ_=>none)) Tryz.f41 Q7 (.bx .cur a0) [.t (.int .i64) a1] (G4 (.bx .cur) (Qh (.t .bool)))=Z61.F a0 a1:=by kernel_rfl
theorem Z61.G (hE:EnvOk Tryz.prog Q0)(pv:Nat->Value):∀cal A,Z61.C cal=some A->Qe Tryz.prog Q0 pv cal A:=by
 intro cal A h
 unfold Z61.C at h
 split at h
 ·cases h;exact⟨_,rfl,λx0 x y hy=>Z35.good hE pv x0 x.1 hy⟩
 ·cases h
theorem Z61.good (hE:EnvOk Tryz.prog Q0)(pv:Nat->Value)(a0:Cur)(a1:Int){y:_}(h:Z61.F a0 a1=some y):J0 Tryz.prog Q0 pv 41 (.bx .cur a0) (Qb [(.int .i64)] (a1,())) (.kep (.bx .cur y.1) (.t .bool y.2)):=
 UJ hE (Z61.G hE pv) (f:=41) (fn:=Tryz.f41) (by kernel_rfl) rfl (by kernel_rfl) (.inl rfl) (by kernel_rfl) ((Z61.run a0 a1).trans h) (λr hr=>Um (λr y h=>Q6 h) hr)
def Z4.l0:Nat->Cur->(List Abbr)->(List Abbr)->Int->Option (Cur× (List Abbr))
 |0,_,_,_,_=>none
 |k+1,x0,x3,x4,x5=>bif (decide (x5<(x3.length:Int)))then((Z61.F x0 3).bind λr1=>bif (!r1.2)then(bif decide (0<=x5)then(bif decide (x5<(x3.length:Int))then(bif room (x4.length+([(x3.getD ((x5:Int).toNat) (Q9 .abbr))]:List Abbr).length) .abbr then(Z4.l0 k r1.1 x3 (x4++([(x3.getD ((x5:Int).toNat) (Q9 .abbr))]:List Abbr)) (IntKind.wrap .i64 (x5+1)))else none)else none)else none)else(Z4.l0 k r1.1 x3 x4 (IntKind.wrap .i64 (x5+1))))else(some (x0,x4))
def Z4.F (k:Nat)(a0:Cur):Option (Cur×List Abbr):=(Z4.l0 k a0 ([(⟨(⟨#[104,105,115,116,111,114,121]⟩:ByteArray),(⟨#[104,105,115,116,46]⟩:ByteArray)⟩:Abbr),(⟨(⟨#[105,110,116,45]⟩:ByteArray),(⟨#[105,46]⟩:ByteArray)⟩:Abbr),(⟨(⟨#[105,110,116,101,114,110,97,116,45]⟩:ByteArray),(⟨#[105,110,116,46]⟩:ByteArray)⟩:Abbr),(⟨(⟨#[106,111,117,114,110,45]⟩:ByteArray),(⟨#[106,46]⟩:ByteArray)⟩:Abbr),(⟨(⟨#[106,111,117,114,110,97,108]⟩:ByteArray),(⟨#[106,110,108]⟩:ByteArray)⟩:Abbr),(⟨(⟨#[114,101,118,105,101,119]⟩:ByteArray),(⟨#[114,101,118,46]⟩:ByteArray)⟩:Abbr),(⟨(⟨#[115,99,105,101,110,99,101]⟩:ByteArray),(⟨#[115,99,105,46]⟩:ByteArray)⟩:Abbr)]:List Abbr) ([]:List Abbr) 0).bind λy2=>(Z35.F y2.1 40).bind λr3=>bif (r3.2==0)then((Z34.F r3.1 ([(⟨#[97]⟩:ByteArray),(⟨#[122,111,111]⟩:ByteArray),(⟨#[90,111,111]⟩:ByteArray),(⟨#[122,122,45,120]⟩:ByteArray),(⟨#[97,98,99]⟩:ByteArray)]:List ByteArray)).bind λr4=>bif room (y2.2.length+([(⟨r4.2,(⟨#[122,46]⟩:ByteArray)⟩:Abbr)]:List Abbr).length) .abbr then(some (r4.1,(y2.2++([(⟨r4.2,(⟨#[122,46]⟩:ByteArray)⟩:Abbr)]:List Abbr))))else none)else(bif (r3.2==1)then((Z34.F r3.1 ([(⟨#[]⟩:ByteArray),(⟨#[46]⟩:ByteArray),(⟨#[122,111,111,108]⟩:ByteArray),(⟨#[90,46]⟩:ByteArray)]:List ByteArray)).bind λr5=>bif room (y2.2.length+([(⟨(⟨#[122,111,111,108,111,103,121]⟩:ByteArray),r5.2⟩:Abbr)]:List Abbr).length) .abbr then(some (r5.1,(y2.2++([(⟨(⟨#[122,111,111,108,111,103,121]⟩:ByteArray),r5.2⟩:Abbr)]:List Abbr))))else none)else(some (r3.1,y2.2)))
def Z4.C (k:Nat):Cal->Option CArm:=λc=>match c with
 |.f 41=>some (.m (.bx .cur) [(.int .i64)] _ (λx0 x=>Z61.F x0 x.1) (λr=>.kep (.bx .cur r.1) (.t .bool r.2)))
 |.f 42=>some (.m (.bx .cur) [(.int .i64)] _ (λx0 x=>Z35.F x0 x.1) (λr=>.kep (.bx .cur r.1) (.t (.int .i64) r.2)))
 |.f 20=>some (.m (.bx .cur) [(.sl .str)] _ (λx0 x=>Z34.F x0 x.1) (λr=>.kep (.bx .cur r.1) (.t .str r.2)))
 |_=>none
def Z4.sp0:List Sp:=[.boxT 0 1099511627776 .cur,.own 3 1052 26 .abbr false true,.own 4 2048 26 .abbr false true,.t 5 (.int .i64)]
def Z4.sp0_0:List Sp:=[.boxT 0 1099511627776 .cur,.own 4 2048 26 .abbr false true]
def Z4.A0:LArm:=.one Z4.sp0 Z4.sp0_0 (Cur× (List Abbr)) (λk x=>Z4.l0 k x.1 x.2.1 x.2.2.1 x.2.2.2.1) (.exit 0) (λy=>(y.1,y.2,())) (λx=>(x.1,x.2.1))
def Z4.L:Nat->Option LArm:=λb=>match b with
 |0=>some Z4.A0
 |_=>none
theorem Z4.run (k:Nat)(a0:Cur):Kr Q0 (Qf (Z4.C k)) (Qd 52 k Z4.L) Tryz.f19 Q7 (.bx .cur a0) [] (G4 (.bx .cur) (Qh (.fr 26 .abbr)))=Z4.F k a0:=by kernel_rfl
theorem Z4.step0 (k:Nat)(x0:Cur)(x3:List Abbr)(x4:List Abbr)(x5:Int):QO Q0 (Qf (Z4.C k)) (Qd 52 k Z4.L) 0 (Qr Tryz.f19 0) (Jf 52 Z4.sp0 (x0,x3,x4,x5,())) (Z4.A0.cont 52 k)=Z4.l0 (k+1) x0 x3 x4 x5:=by kernel_rfl
theorem Z4.G (hE:EnvOk Tryz.prog Q0)(pv:Nat->Value)(k:Nat):∀cal A,Z4.C k cal=some A->Qe Tryz.prog Q0 pv cal A:=by
 intro cal A h
 unfold Z4.C at h
 split at h
 ·cases h;exact⟨_,rfl,λx0 x y hy=>Z61.good hE pv x0 x.1 hy⟩
 ·cases h;exact⟨_,rfl,λx0 x y hy=>Z35.good hE pv x0 x.1 hy⟩
 ·cases h;exact⟨_,rfl,λx0 x y hy=>Z34.good hE pv x0 x.1 hy⟩
 ·cases h
theorem Z4.good (hE:EnvOk Tryz.prog Q0)(pv:Nat->Value)(k:Nat)(a0:Cur){y:_}(h:Z4.F k a0=some y):J0 Tryz.prog Q0 pv 19 (.bx .cur a0) (Qb [] (())) (.kep (.bx .cur y.1) (.fr 26 .abbr y.2)):=
 YQ hE (t:=Z4.C) k (λk _=>Z4.G hE pv k) (f:=19) (fn:=Tryz.f19) (by kernel_rfl) rfl (by kernel_rfl) (.inl rfl) (by kernel_rfl) (lt:=Z4.L) (by kernel_rfl) (λb A h=>by
  unfold Z4.L at h;split at h
  ·cases h;exact⟨by kernel_rfl,by kernel_rfl,λ_=>rfl,λ_=>rfl⟩
  ·cases h) (λb A h=>by
  unfold Z4.L at h;split at h
  ·cases h;exact λk x=>Z4.step0 k x.1 x.2.1 x.2.2.1 x.2.2.2.1
  ·cases h) ((Z4.run k a0).trans h) (λr hr=>Um (λr y h=>Q6 h) hr)
def Z62.F (k:Nat)(a0:List Int):Option ((List Abbr)×Abbr):=(Z4.F k (⟨a0,0,0⟩:Cur)).bind λr1=>(Z34.F r1.1 ([(⟨#[114,101,118,105,101,119]⟩:ByteArray),(⟨#[108,101,116,116,101,114,115]⟩:ByteArray),(⟨#[97]⟩:ByteArray),(⟨#[108,101,116,116,45]⟩:ByteArray),(⟨#[122,122,122]⟩:ByteArray),(⟨#[82,101,118]⟩:ByteArray)]:List ByteArray)).bind λr2=>(Z34.F r2.1 ([(⟨#[114,46]⟩:ByteArray),(⟨#[114,101,118]⟩:ByteArray),(⟨#[120]⟩:ByteArray),(⟨#[]⟩:ByteArray),(⟨#[82,46]⟩:ByteArray)]:List ByteArray)).bind λr3=>some (r1.2,(⟨r2.2,r3.2⟩:Abbr))
def Z62.C (k:Nat):Cal->Option CArm:=λc=>match c with
 |.f 19=>some (.m (.bx .cur) [] _ (λx0 x=>Z4.F k x0) (λr=>.kep (.bx .cur r.1) (.fr 26 .abbr r.2)))
 |.f 20=>some (.m (.bx .cur) [(.sl .str)] _ (λx0 x=>Z34.F x0 x.1) (λr=>.kep (.bx .cur r.1) (.t .str r.2)))
 |_=>none
theorem Z62.run (k:Nat)(a0:List Int):QB Q0 (Qf (Z62.C k)) (Qd 19 0 (λ_=>none)) Tryz.f5 [.t (.sl (.int .u8)) a0] (JE (.fr 26 .abbr) (.t .abbr))=Z62.F k a0:=by kernel_rfl
theorem Z62.G (hE:EnvOk Tryz.prog Q0)(pv:Nat->Value)(k:Nat):∀cal A,Z62.C k cal=some A->Qe Tryz.prog Q0 pv cal A:=by
 intro cal A h
 unfold Z62.C at h
 split at h
 ·cases h;exact⟨_,rfl,λx0 x y hy=>Z4.good hE pv k x0 hy⟩
 ·cases h;exact⟨_,rfl,λx0 x y hy=>Z34.good hE pv x0 x.1 hy⟩
 ·cases h
theorem Z62.good (hE:EnvOk Tryz.prog Q0)(pv:Nat->Value)(k:Nat)(a0:List Int){y:_}(h:Z62.F k a0=some y):Qa Tryz.prog Q0 pv (.f 5) (Qb [(.sl (.int .u8))] (a0,())) (.tup [.fr 26 .abbr y.1,.t .abbr y.2]):=
 Qc hE (Z62.G hE pv k) (f:=5) (fn:=Tryz.f5) (by kernel_rfl) rfl (by kernel_rfl) (by kernel_rfl) ((Z62.run k a0).trans h) (λr hr=>J5 hr)
def Z48.F (a0:Int)(a1:Int)(a2:Int):Option (Bool):=bif (decide (a0 ≥ a1))then(some (decide (a0<=a2)))else(some false)
def Z48.C:Cal->Option CArm:=λc=>match c with
 |_=>none
theorem Z48.run (a0:Int)(a1:Int)(a2:Int):QB Q0 (Qf Z48.C) (Qd 15 0 (λ_=>none)) Tryz.f24 [.t (.int .i64) a0,.t (.int .i64) a1,.t (.int .i64) a2] (Qh (.t .bool))=Z48.F a0 a1 a2:=by kernel_rfl
theorem Z48.G (hE:EnvOk Tryz.prog Q0)(pv:Nat->Value):∀cal A,Z48.C cal=some A->Qe Tryz.prog Q0 pv cal A:=by
 intro cal A h
 unfold Z48.C at h
 cases h
theorem Z48.good (hE:EnvOk Tryz.prog Q0)(pv:Nat->Value)(a0:Int)(a1:Int)(a2:Int){y:_}(h:Z48.F a0 a1 a2=some y):Qa Tryz.prog Q0 pv (.f 24) (Qb [(.int .i64),(.int .i64),(.int .i64)] (a0,a1,a2,())) (.t .bool y):=
 Qc hE (Z48.G hE pv) (f:=24) (fn:=Tryz.f24) (by kernel_rfl) rfl (by kernel_rfl) (by kernel_rfl) ((Z48.run a0 a1 a2).trans h) (λr hr=>Q6 hr)
def Z49.F (a0:ByteArray)(a1:ByteArray):Option (Bool):=bif (decide ((a0.size:Int) ≥ (a1.size:Int)))then(bif decide (0<=(IntKind.wrap .i64 ((a0.size:Int)-(a1.size:Int))))then(bif decide ((IntKind.wrap .i64 ((a0.size:Int)-(a1.size:Int)))<=(a0.size:Int))then(some (Qi (a0.extract ((IntKind.wrap .i64 ((a0.size:Int)-(a1.size:Int))):Int).toNat a0.size) a1))else none)else none)else(some false)
def Z49.C:Cal->Option CArm:=λc=>match c with
 |_=>none
theorem Z49.run (a0:ByteArray)(a1:ByteArray):QB Q0 (Qf Z49.C) (Qd 21 0 (λ_=>none)) Tryz.f93 [.t .str a0,.t .str a1] (Qh (.t .bool))=Z49.F a0 a1:=by kernel_rfl
theorem Z49.G (hE:EnvOk Tryz.prog Q0)(pv:Nat->Value):∀cal A,Z49.C cal=some A->Qe Tryz.prog Q0 pv cal A:=by
 intro cal A h
 unfold Z49.C at h
 cases h
theorem Z49.good (hE:EnvOk Tryz.prog Q0)(pv:Nat->Value)(a0:ByteArray)(a1:ByteArray){y:_}(h:Z49.F a0 a1=some y):Qa Tryz.prog Q0 pv (.f 93) (Qb [.str,.str] (a0,a1,())) (.t .bool y):=
 Qc hE (Z49.G hE pv) (f:=93) (fn:=Tryz.f93) (by kernel_rfl) rfl (by kernel_rfl) (by kernel_rfl) ((Z49.run a0 a1).trans h) (λr hr=>Q6 hr)
def Z73.F (a0:ByteArray)(a1:ByteArray):Option (ByteArray):=(Z49.F a0 a1).bind λr1=>bif r1 then(bif decide (0<=(IntKind.wrap .i64 ((a0.size:Int)-(a1.size:Int))))then(bif decide ((IntKind.wrap .i64 ((a0.size:Int)-(a1.size:Int)))<=(a0.size:Int))then(some (a0.extract 0 ((IntKind.wrap .i64 ((a0.size:Int)-(a1.size:Int))):Int).toNat))else none)else none)else(some a0)
def Z73.C:Cal->Option CArm:=λc=>match c with
 |.f 93=>some (.p [.str,.str] _ (λx=>Z49.F x.1 x.2.1) (λr=>(.t .bool r)))
 |_=>none
theorem Z73.run (a0:ByteArray)(a1:ByteArray):QB Q0 (Qf Z73.C) (Qd 16 0 (λ_=>none)) Tryz.f76 [.t .str a0,.t .str a1] (Qh (.t .str))=Z73.F a0 a1:=by kernel_rfl
theorem Z73.G (hE:EnvOk Tryz.prog Q0)(pv:Nat->Value):∀cal A,Z73.C cal=some A->Qe Tryz.prog Q0 pv cal A:=by
 intro cal A h
 unfold Z73.C at h
 split at h
 ·cases h;exact λx y hy=>Z49.good hE pv x.1 x.2.1 hy
 ·cases h
theorem Z73.good (hE:EnvOk Tryz.prog Q0)(pv:Nat->Value)(a0:ByteArray)(a1:ByteArray){y:_}(h:Z73.F a0 a1=some y):Qa Tryz.prog Q0 pv (.f 76) (Qb [.str,.str] (a0,a1,())) (.t .str y):=
 Qc hE (Z73.G hE pv) (f:=76) (fn:=Tryz.f76) (by kernel_rfl) rfl (by kernel_rfl) (by kernel_rfl) ((Z73.run a0 a1).trans h) (λr hr=>Q6 hr)
def Z63.F (a0:ByteArray)(a1:ByteArray):Option (ByteArray):=(Z73.F a0 a1).bind λr1=>some r1
def Z63.C:Cal->Option CArm:=λc=>match c with
 |.f 76=>some (.p [.str,.str] _ (λx=>Z73.F x.1 x.2.1) (λr=>(.t .str r)))
 |_=>none
theorem Z63.run (a0:ByteArray)(a1:ByteArray):QB Q0 (Qf Z63.C) (Qd 8 0 (λ_=>none)) Tryz.f51 [.t .str a0,.t .str a1] (Qh (.t .str))=Z63.F a0 a1:=by kernel_rfl
theorem Z63.G (hE:EnvOk Tryz.prog Q0)(pv:Nat->Value):∀cal A,Z63.C cal=some A->Qe Tryz.prog Q0 pv cal A:=by
 intro cal A h
 unfold Z63.C at h
 split at h
 ·cases h;exact λx y hy=>Z73.good hE pv x.1 x.2.1 hy
 ·cases h
theorem Z63.good (hE:EnvOk Tryz.prog Q0)(pv:Nat->Value)(a0:ByteArray)(a1:ByteArray){y:_}(h:Z63.F a0 a1=some y):Qa Tryz.prog Q0 pv (.f 51) (Qb [.str,.str] (a0,a1,())) (.t .str y):=
 Qc hE (Z63.G hE pv) (f:=51) (fn:=Tryz.f51) (by kernel_rfl) rfl (by kernel_rfl) (by kernel_rfl) ((Z63.run a0 a1).trans h) (λr hr=>Q6 hr)
def Z39.F (a0:Int):Option (Bool):=bif (decide (a0 ≥ 97))then(some (decide (a0<=122)))else(some false)
def Z39.C:Cal->Option CArm:=λc=>match c with
 |_=>none
theorem Z39.run (a0:Int):QB Q0 (Qf Z39.C) (Qd 9 0 (λ_=>none)) Tryz.f52 [.t (.int .u8) a0] (Qh (.t .bool))=Z39.F a0:=by kernel_rfl
theorem Z39.G (hE:EnvOk Tryz.prog Q0)(pv:Nat->Value):∀cal A,Z39.C cal=some A->Qe Tryz.prog Q0 pv cal A:=by
 intro cal A h
 unfold Z39.C at h
 cases h
theorem Z39.good (hE:EnvOk Tryz.prog Q0)(pv:Nat->Value)(a0:Int){y:_}(h:Z39.F a0=some y):Qa Tryz.prog Q0 pv (.f 52) (Qb [(.int .u8)] (a0,())) (.t .bool y):=
 Qc hE (Z39.G hE pv) (f:=52) (fn:=Tryz.f52) (by kernel_rfl) rfl (by kernel_rfl) (by kernel_rfl) ((Z39.run a0).trans h) (λr hr=>Q6 hr)
def Z16.l0:Nat->ByteArray->Int->Int->Int->Option (Sum Bool (ByteArray×Int×Int))
 |0,_,_,_,_=>none
 |k+1,x0,x1,x2,x9=>bif (decide (x9<(x0.size:Int)))then(bif decide (0<=x9)then(bif decide (x9<(x0.size:Int))then((Z39.F (bt x0 (x9:Int).toNat)).bind λr2=>bif (!r2)then(some (.inl false))else(Z16.l0 k x0 x1 x2 (IntKind.wrap .i64 (x9+1))))else none)else none)else(some (.inr (x0,x1,x2)))
def Z16.F (k:Nat)(a0:ByteArray)(a1:Int)(a2:Int)(a3:ByteArray):Option (Bool):=(Z63.F a0 a3).bind λr1=>(Z16.l0 k r1 a1 a2 0).bind λy3=>match y3 with|.inl z4=>some z4|.inr z4=>(Z48.F (z4.1.size:Int) z4.2.1 z4.2.2).bind λr5=>some r5
def Z16.C (k:Nat):Cal->Option CArm:=λc=>match c with
 |.f 51=>some (.p [.str,.str] _ (λx=>Z63.F x.1 x.2.1) (λr=>(.t .str r)))
 |.f 52=>some (.p [(.int .u8)] _ (λx=>Z39.F x.1) (λr=>(.t .bool r)))
 |.f 24=>some (.p [(.int .i64),(.int .i64),(.int .i64)] _ (λx=>Z48.F x.1 x.2.1 x.2.2.1) (λr=>(.t .bool r)))
 |_=>none
def Z16.sp0:List Sp:=[.t 0 .str,.t 1 (.int .i64),.t 2 (.int .i64),.t 9 (.int .i64)]
def Z16.sp0_0:List Sp:=[.t 8 .bool]
def Z16.sp0_1:List Sp:=[.t 0 .str,.t 1 (.int .i64),.t 2 (.int .i64)]
def Z16.A0:LArm:=.two Z16.sp0 Z16.sp0_0 Z16.sp0_1 (Bool) (ByteArray×Int×Int) (λk x=>Z16.l0 k x.1 x.2.1 x.2.2.1 x.2.2.2.1) .ret (.exit 0) (λy=>(y,())) (λx=>x.1) (λy=>(y.1,y.2.1,y.2.2,())) (λx=>(x.1,x.2.1,x.2.2.1))
def Z16.L:Nat->Option LArm:=λb=>match b with
 |0=>some Z16.A0
 |_=>none
theorem Z16.run (k:Nat)(a0:ByteArray)(a1:Int)(a2:Int)(a3:ByteArray):QB Q0 (Qf (Z16.C k)) (Qd 29 k Z16.L) Tryz.f28 [.t .str a0,.t (.int .i64) a1,.t (.int .i64) a2,.t .str a3] (Qh (.t .bool))=Z16.F k a0 a1 a2 a3:=by kernel_rfl
theorem Z16.step0 (k:Nat)(x0:ByteArray)(x1:Int)(x2:Int)(x9:Int):QO Q0 (Qf (Z16.C k)) (Qd 29 k Z16.L) 0 (Qr Tryz.f28 0) (Jf 29 Z16.sp0 (x0,x1,x2,x9,())) (Z16.A0.cont 29 k)=Z16.l0 (k+1) x0 x1 x2 x9:=by kernel_rfl
theorem Z16.G (hE:EnvOk Tryz.prog Q0)(pv:Nat->Value)(k:Nat):∀cal A,Z16.C k cal=some A->Qe Tryz.prog Q0 pv cal A:=by
 intro cal A h
 unfold Z16.C at h
 split at h
 ·cases h;exact λx y hy=>Z63.good hE pv x.1 x.2.1 hy
 ·cases h;exact λx y hy=>Z39.good hE pv x.1 hy
 ·cases h;exact λx y hy=>Z48.good hE pv x.1 x.2.1 x.2.2.1 hy
 ·cases h
theorem Z16.good (hE:EnvOk Tryz.prog Q0)(pv:Nat->Value)(k:Nat)(a0:ByteArray)(a1:Int)(a2:Int)(a3:ByteArray){y:_}(h:Z16.F k a0 a1 a2 a3=some y):Qa Tryz.prog Q0 pv (.f 28) (Qb [.str,(.int .i64),(.int .i64),.str] (a0,a1,a2,a3,())) (.t .bool y):=
 Qm hE (t:=Z16.C) k (λk _=>Z16.G hE pv k) (f:=28) (fn:=Tryz.f28) (by kernel_rfl) rfl (by kernel_rfl) (by kernel_rfl) (lt:=Z16.L) (by kernel_rfl) (λb A h=>by
  unfold Z16.L at h;split at h
  ·cases h;exact⟨by kernel_rfl,by kernel_rfl,by kernel_rfl,λ_=>rfl,λ_=>rfl,λ_=>rfl⟩
  ·cases h) (λb A h=>by
  unfold Z16.L at h;split at h
  ·cases h;exact λk x=>Z16.step0 k x.1 x.2.1 x.2.2.1 x.2.2.2.1
  ·cases h) ((Z16.run k a0 a1 a2 a3).trans h) (λr hr=>Q6 hr)
def Z1.l0:Nat->(List Abbr)->(List Abbr)->Int->Int->Option (Sum Bool (List Abbr))
 |0,_,_,_,_=>none
 |k+1,x0,x5,x6,x7=>bif (decide (x7<x6))then(bif decide (0<=x7)then(bif decide (x7<(x5.length:Int))then((Z16.F k ((x5.getD (x7:Int).toNat (Q9 .abbr)).word) 2 15 (⟨#[45]⟩:ByteArray)).bind λr1=>bif (!r1)then(some (.inl false))else((Z16.F k ((x5.getD (x7:Int).toNat (Q9 .abbr)).short) 1 12 (⟨#[46]⟩:ByteArray)).bind λr2=>bif (!r2)then(some (.inl false))else(bif (decide (x7 > 0))then(bif decide (0<=(IntKind.wrap .i64 (x7-1)))then(bif decide ((IntKind.wrap .i64 (x7-1))<(x0.length:Int))then(bif (!ltS ((x0.getD ((IntKind.wrap .i64 (x7-1)):Int).toNat (Q9 .abbr)).word) ((x5.getD (x7:Int).toNat (Q9 .abbr)).word))then(some (.inl false))else(Z1.l0 k x0 x5 x6 (IntKind.wrap .i64 (x7+1))))else none)else none)else(Z1.l0 k x0 x5 x6 (IntKind.wrap .i64 (x7+1))))))else none)else none)else(some (.inr x0))
def Z1.F (k:Nat)(a0:List Abbr):Option (Bool):=(Z1.l0 k a0 a0 (a0.length:Int) 0).bind λy3=>match y3 with|.inl z4=>some z4|.inr z4=>some (decide ((z4.length:Int)<=15))
def Z1.C (k:Nat):Cal->Option CArm:=λc=>match c with
 |.f 28=>some (.p [.str,(.int .i64),(.int .i64),.str] _ (λx=>Z16.F k x.1 x.2.1 x.2.2.1 x.2.2.2.1) (λr=>(.t .bool r)))
 |_=>none
def Z1.sp0:List Sp:=[.t 0 (.sl .abbr),.t 5 (.sl .abbr),.t 6 (.int .i64),.t 7 (.int .i64)]
def Z1.sp0_0:List Sp:=[.t 2 .bool]
def Z1.sp0_1:List Sp:=[.t 0 (.sl .abbr)]
def Z1.A0:LArm:=.two Z1.sp0 Z1.sp0_0 Z1.sp0_1 (Bool) ((List Abbr)) (λk x=>Z1.l0 k x.1 x.2.1 x.2.2.1 x.2.2.2.1) .ret (.exit 0) (λy=>(y,())) (λx=>x.1) (λy=>(y,())) (λx=>x.1)
def Z1.L:Nat->Option LArm:=λb=>match b with
 |0=>some Z1.A0
 |_=>none
theorem Z1.run (k:Nat)(a0:List Abbr):QB Q0 (Qf (Z1.C k)) (Qd 41 k Z1.L) Tryz.f9 [.t (.sl .abbr) a0] (Qh (.t .bool))=Z1.F k a0:=by kernel_rfl
theorem Z1.step0 (k:Nat)(x0:List Abbr)(x5:List Abbr)(x6:Int)(x7:Int):QO Q0 (Qf (Z1.C k)) (Qd 41 k Z1.L) 0 (Qr Tryz.f9 0) (Jf 41 Z1.sp0 (x0,x5,x6,x7,())) (Z1.A0.cont 41 k)=Z1.l0 (k+1) x0 x5 x6 x7:=by kernel_rfl
theorem Z1.G (hE:EnvOk Tryz.prog Q0)(pv:Nat->Value)(k:Nat):∀cal A,Z1.C k cal=some A->Qe Tryz.prog Q0 pv cal A:=by
 intro cal A h
 unfold Z1.C at h
 split at h
 ·cases h;exact λx y hy=>Z16.good hE pv k x.1 x.2.1 x.2.2.1 x.2.2.2.1 hy
 ·cases h
theorem Z1.good (hE:EnvOk Tryz.prog Q0)(pv:Nat->Value)(k:Nat)(a0:List Abbr){y:_}(h:Z1.F k a0=some y):Qa Tryz.prog Q0 pv (.f 9) (Qb [(.sl .abbr)] (a0,())) (.t .bool y):=
 Qm hE (t:=Z1.C) k (λk _=>Z1.G hE pv k) (f:=9) (fn:=Tryz.f9) (by kernel_rfl) rfl (by kernel_rfl) (by kernel_rfl) (lt:=Z1.L) (by kernel_rfl) (λb A h=>by
  unfold Z1.L at h;split at h
  ·cases h;exact⟨by kernel_rfl,by kernel_rfl,by kernel_rfl,λ_=>rfl,λ_=>rfl,λ_=>rfl⟩
  ·cases h) (λb A h=>by
  unfold Z1.L at h;split at h
  ·cases h;exact λk x=>Z1.step0 k x.1 x.2.1 x.2.2.1 x.2.2.2.1
  ·cases h) ((Z1.run k a0).trans h) (λr hr=>Q6 hr)
def Z78.F (a0:List Abbr)(a1:Int)(a2:List Abbr):Option (List Abbr):=Q80 .abbr a0 a1 a2
def Z78.ren:Go.Shelf.Ren:=⟨fun|22=>21|29=>43|30=>44|36=>68|n=>n,fun|3=>3|4=>4|9=>26|24=>24|n=>n,λn=>n⟩
theorem Z78.lay:Go.GxIns.InsL Tryz.prog Z78.ren "slices.Insert[[]loop.example/g00896/impl.Abbreviation,loop.example/g00896/impl.Abbreviation]" (nc .abbr) (nb .abbr) (Go.Gx.valOf (Go.Gx.AV.t .abbr (Q9 .abbr)) (zc .abbr)):={
 mixed:=by kernel_rfl
 f22:=Tryz.func21.trans (congrArg some (by kernel_rfl))
 ov:=λargs w=>Go.run_callFunc_extern (fn:=Tryz.f43) Tryz.func43 (by kernel_rfl) (by kernel_rfl) (by kernel_rfl) (e:=Go.Extern.SlicesOverlaps.overlaps #[24,24] #[4]) (by kernel_rfl) args w
 t0:=Tryz.underlying0
 a0:=Tryz.isAgg0
 z0:=Tryz.sizeOf0
 v0:=Tryz.zeroValue0
 t3:=Tryz.underlying3
 a3:=Tryz.isAgg3
 z3:=Tryz.sizeOf3
 v3:=Tryz.zeroValue3
 t4:=Tryz.underlying4
 a4:=Tryz.isAgg4
 z4:=Tryz.sizeOf4
 v4:=Tryz.zeroValue4
 z9:=Tryz.sizeOf26
 t24:=Tryz.underlying24
 a24:=Tryz.isAgg24
 z24:=Tryz.sizeOf24
 v24:=Tryz.zeroValue24
 i9:=by kernel_rfl}
theorem Z78.good (hE:EnvOk Tryz.prog Q0)(pv:Nat->Value)(a0:List Abbr)(a1:Int)(a2:List Abbr){y:_}(h:Z78.F a0 a1 a2=some y):J0 Tryz.prog Q0 pv 21 (.fr 26 .abbr a0) (Qb [(.int .i64),(.sl .abbr)] (a1,a2,())) (.mov 26 .abbr y):=
 Q4a (ρ:=Z78.ren) (fn:=Tryz.f21) hE (te:=26) rfl rfl (by decide) (by decide) Z78.lay rfl Tryz.func21 rfl (by kernel_rfl) h
def Z7.l0:Nat->Abbr->(List Abbr)->Int->Option (Abbr× (List Abbr)×Int)
 |0,_,_,_=>none
 |k+1,x3,x6,x7=>bif (decide (x7<(x6.length:Int)))then(bif decide (0<=x7)then(bif decide (x7<(x6.length:Int))then(bif (ltS ((x6.getD ((x7:Int).toNat) (Q9 .abbr)).word) x3.word)then(Z7.l0 k x3 x6 (IntKind.wrap .i64 (x7+1)))else(some (x3,x6,x7)))else none)else none)else(some (x3,x6,x7))
def Z7.F (k:Nat)(a0:List Abbr)(a1:Abbr):Option ((List Abbr)×Bool):=(Z1.F k a0).bind λr1=>bif (!r1)then(some ([],false))else(bif room (([]:List Abbr).length+a0.length) .abbr then((Z7.l0 k a1 (([]:List Abbr)++a0) 0).bind λy2=>bif (decide (y2.2.2<(y2.2.1.length:Int)))then(bif decide (0<=y2.2.2)then(bif decide (y2.2.2<(y2.2.1.length:Int))then(bif (Qi ((y2.2.1.getD ((y2.2.2:Int).toNat) (Q9 .abbr)).word) y2.1.word)then(bif decide (0<=y2.2.2)then(bif decide (y2.2.2<(y2.2.1.length:Int))then((Z1.F k (y2.2.1.set ((y2.2.2:Int).toNat) y2.1)).bind λr3=>bif (!r3)then(some ([],false))else(some ((y2.2.1.set ((y2.2.2:Int).toNat) y2.1),true)))else none)else none)else((Z78.F y2.2.1 y2.2.2 ([y2.1]:List Abbr)).bind λr4=>(Z1.F k r4).bind λr5=>bif (!r5)then(some ([],false))else(some (r4,true))))else none)else none)else((Z78.F y2.2.1 y2.2.2 ([y2.1]:List Abbr)).bind λr6=>(Z1.F k r6).bind λr7=>bif (!r7)then(some ([],false))else(some (r6,true))))else none)
def Z7.C (k:Nat):Cal->Option CArm:=λc=>match c with
 |.f 9=>some (.p [(.sl .abbr)] _ (λx=>Z1.F k x.1) (λr=>(.t .bool r)))
 |.f 21=>some (.m (.fr 26 .abbr) [(.int .i64),(.sl .abbr)] _ (λx0 x=>Z78.F x0 x.1 x.2.1) (λr=>.mov 26 .abbr r))
 |_=>none
def Z7.sp0:List Sp:=[.boxT 3 0 .abbr,.own 6 3072 26 .abbr false true,.t 7 (.int .i64)]
def Z7.sp0_0:List Sp:=[.boxT 3 0 .abbr,.own 6 3072 26 .abbr false true,.t 7 (.int .i64)]
def Z7.A0:LArm:=.one Z7.sp0 Z7.sp0_0 (Abbr× (List Abbr)×Int) (λk x=>Z7.l0 k x.1 x.2.1 x.2.2.1) (.exit 0) (λy=>(y.1,y.2.1,y.2.2,())) (λx=>(x.1,x.2.1,x.2.2.1))
def Z7.L:Nat->Option LArm:=λb=>match b with
 |0=>some Z7.A0
 |_=>none
theorem Z7.run (k:Nat)(a0:List Abbr)(a1:Abbr):QB Q0 (Qf (Z7.C k)) (Qd 57 k Z7.L) Tryz.f6 [.t (.sl .abbr) a0,.t .abbr a1] (JE (.fr 26 .abbr) (.t .bool))=Z7.F k a0 a1:=by kernel_rfl
theorem Z7.step0 (k:Nat)(x3:Abbr)(x6:List Abbr)(x7:Int):QO Q0 (Qf (Z7.C k)) (Qd 57 k Z7.L) 0 (Qr Tryz.f6 0) (Jf 57 Z7.sp0 (x3,x6,x7,())) (Z7.A0.cont 57 k)=Z7.l0 (k+1) x3 x6 x7:=by kernel_rfl
theorem Z7.G (hE:EnvOk Tryz.prog Q0)(pv:Nat->Value)(k:Nat):∀cal A,Z7.C k cal=some A->Qe Tryz.prog Q0 pv cal A:=by
 intro cal A h
 unfold Z7.C at h
 split at h
 ·cases h;exact λx y hy=>Z1.good hE pv k x.1 hy
 ·cases h;exact⟨_,rfl,λx0 x y hy=>Z78.good hE pv x0 x.1 x.2.1 hy⟩
 ·cases h
theorem Z7.good (hE:EnvOk Tryz.prog Q0)(pv:Nat->Value)(k:Nat)(a0:List Abbr)(a1:Abbr){y:_}(h:Z7.F k a0 a1=some y):Qa Tryz.prog Q0 pv (.f 6) (Qb [(.sl .abbr),.abbr] (a0,a1,())) (.tup [.fr 26 .abbr y.1,.t .bool y.2]):=
 Qm hE (t:=Z7.C) k (λk _=>Z7.G hE pv k) (f:=6) (fn:=Tryz.f6) (by kernel_rfl) rfl (by kernel_rfl) (by kernel_rfl) (lt:=Z7.L) (by kernel_rfl) (λb A h=>by
  unfold Z7.L at h;split at h
  ·cases h;exact⟨by kernel_rfl,by kernel_rfl,λ_=>rfl,λ_=>rfl⟩
  ·cases h) (λb A h=>by
  unfold Z7.L at h;split at h
  ·cases h;exact λk x=>Z7.step0 k x.1 x.2.1 x.2.2.1
  ·cases h) ((Z7.run k a0 a1).trans h) (λr hr=>J5 hr)
def Z50.F (a0:Int)(a1:Int)(a2:Int):Option (Bool):=bif (decide (a0 ≥ a1))then(some (decide (a0<=a2)))else(some false)
def Z50.C:Cal->Option CArm:=λc=>match c with
 |_=>none
theorem Z50.run (a0:Int)(a1:Int)(a2:Int):QB Q0 (Qf Z50.C) (Qd 15 0 (λ_=>none)) Tryz.f66 [.t (.int .i64) a0,.t (.int .i64) a1,.t (.int .i64) a2] (Qh (.t .bool))=Z50.F a0 a1 a2:=by kernel_rfl
theorem Z50.G (hE:EnvOk Tryz.prog Q0)(pv:Nat->Value):∀cal A,Z50.C cal=some A->Qe Tryz.prog Q0 pv cal A:=by
 intro cal A h
 unfold Z50.C at h
 cases h
theorem Z50.good (hE:EnvOk Tryz.prog Q0)(pv:Nat->Value)(a0:Int)(a1:Int)(a2:Int){y:_}(h:Z50.F a0 a1 a2=some y):Qa Tryz.prog Q0 pv (.f 66) (Qb [(.int .i64),(.int .i64),(.int .i64)] (a0,a1,a2,())) (.t .bool y):=
 Qc hE (Z50.G hE pv) (f:=66) (fn:=Tryz.f66) (by kernel_rfl) rfl (by kernel_rfl) (by kernel_rfl) ((Z50.run a0 a1 a2).trans h) (λr hr=>Q6 hr)
def Z17.l0:Nat->ByteArray->Int->Int->Int->Option (Sum Bool (ByteArray×Int×Int))
 |0,_,_,_,_=>none
 |k+1,x0,x1,x2,x7=>bif (decide (x7<(x0.size:Int)))then(bif decide (0<=x7)then(bif decide (x7<(x0.size:Int))then(bif (decide ((bt x0 (x7:Int).toNat)<97))then(some (.inl false))else(bif decide (0<=x7)then(bif decide (x7<(x0.size:Int))then(bif (decide ((bt x0 (x7:Int).toNat) > 122))then(some (.inl false))else(Z17.l0 k x0 x1 x2 (IntKind.wrap .i64 (x7+1))))else none)else none))else none)else none)else(some (.inr (x0,x1,x2)))
def Z17.F (k:Nat)(a0:ByteArray)(a1:Int)(a2:Int):Option (Bool):=(Z17.l0 k a0 a1 a2 0).bind λy1=>match y1 with|.inl z2=>some z2|.inr z2=>(Z50.F (z2.1.size:Int) z2.2.1 z2.2.2).bind λr3=>some r3
def Z17.C (k:Nat):Cal->Option CArm:=λc=>match c with
 |.f 66=>some (.p [(.int .i64),(.int .i64),(.int .i64)] _ (λx=>Z50.F x.1 x.2.1 x.2.2.1) (λr=>(.t .bool r)))
 |_=>none
def Z17.sp0:List Sp:=[.t 0 .str,.t 1 (.int .i64),.t 2 (.int .i64),.t 7 (.int .i64)]
def Z17.sp0_0:List Sp:=[.t 6 .bool]
def Z17.sp0_1:List Sp:=[.t 0 .str,.t 1 (.int .i64),.t 2 (.int .i64)]
def Z17.A0:LArm:=.two Z17.sp0 Z17.sp0_0 Z17.sp0_1 (Bool) (ByteArray×Int×Int) (λk x=>Z17.l0 k x.1 x.2.1 x.2.2.1 x.2.2.2.1) .ret (.exit 0) (λy=>(y,())) (λx=>x.1) (λy=>(y.1,y.2.1,y.2.2,())) (λx=>(x.1,x.2.1,x.2.2.1))
def Z17.L:Nat->Option LArm:=λb=>match b with
 |0=>some Z17.A0
 |_=>none
theorem Z17.run (k:Nat)(a0:ByteArray)(a1:Int)(a2:Int):QB Q0 (Qf (Z17.C k)) (Qd 29 k Z17.L) Tryz.f45 [.t .str a0,.t (.int .i64) a1,.t (.int .i64) a2] (Qh (.t .bool))=Z17.F k a0 a1 a2:=by kernel_rfl
theorem Z17.step0 (k:Nat)(x0:ByteArray)(x1:Int)(x2:Int)(x7:Int):QO Q0 (Qf (Z17.C k)) (Qd 29 k Z17.L) 0 (Qr Tryz.f45 0) (Jf 29 Z17.sp0 (x0,x1,x2,x7,())) (Z17.A0.cont 29 k)=Z17.l0 (k+1) x0 x1 x2 x7:=by kernel_rfl
theorem Z17.G (hE:EnvOk Tryz.prog Q0)(pv:Nat->Value)(k:Nat):∀cal A,Z17.C k cal=some A->Qe Tryz.prog Q0 pv cal A:=by
 intro cal A h
 unfold Z17.C at h
 split at h
 ·cases h;exact λx y hy=>Z50.good hE pv x.1 x.2.1 x.2.2.1 hy
 ·cases h
theorem Z17.good (hE:EnvOk Tryz.prog Q0)(pv:Nat->Value)(k:Nat)(a0:ByteArray)(a1:Int)(a2:Int){y:_}(h:Z17.F k a0 a1 a2=some y):Qa Tryz.prog Q0 pv (.f 45) (Qb [.str,(.int .i64),(.int .i64)] (a0,a1,a2,())) (.t .bool y):=
 Qm hE (t:=Z17.C) k (λk _=>Z17.G hE pv k) (f:=45) (fn:=Tryz.f45) (by kernel_rfl) rfl (by kernel_rfl) (by kernel_rfl) (lt:=Z17.L) (by kernel_rfl) (λb A h=>by
  unfold Z17.L at h;split at h
  ·cases h;exact⟨by kernel_rfl,by kernel_rfl,by kernel_rfl,λ_=>rfl,λ_=>rfl,λ_=>rfl⟩
  ·cases h) (λb A h=>by
  unfold Z17.L at h;split at h
  ·cases h;exact λk x=>Z17.step0 k x.1 x.2.1 x.2.2.1 x.2.2.2.1
  ·cases h) ((Z17.run k a0 a1 a2).trans h) (λr hr=>Q6 hr)
def Z43.F (a0:ByteArray)(a1:Int):Option (ByteArray):=bif (!Qi a0 (⟨#[]⟩:ByteArray))then(bif decide (0<=(IntKind.wrap .i64 ((a0.size:Int)-1)))then(bif decide ((IntKind.wrap .i64 ((a0.size:Int)-1))<(a0.size:Int))then(bif ((bt a0 ((IntKind.wrap .i64 ((a0.size:Int)-1)):Int).toNat)==a1)then(bif decide (0<=(IntKind.wrap .i64 ((a0.size:Int)-1)))then(bif decide ((IntKind.wrap .i64 ((a0.size:Int)-1))<=(a0.size:Int))then(some (a0.extract 0 ((IntKind.wrap .i64 ((a0.size:Int)-1)):Int).toNat))else none)else none)else(some a0))else none)else none)else(some a0)
def Z43.C:Cal->Option CArm:=λc=>match c with
 |_=>none
theorem Z43.run (a0:ByteArray)(a1:Int):QB Q0 (Qf Z43.C) (Qd 22 0 (λ_=>none)) Tryz.f46 [.t .str a0,.t (.int .u8) a1] (Qh (.t .str))=Z43.F a0 a1:=by kernel_rfl
theorem Z43.G (hE:EnvOk Tryz.prog Q0)(pv:Nat->Value):∀cal A,Z43.C cal=some A->Qe Tryz.prog Q0 pv cal A:=by
 intro cal A h
 unfold Z43.C at h
 cases h
theorem Z43.good (hE:EnvOk Tryz.prog Q0)(pv:Nat->Value)(a0:ByteArray)(a1:Int){y:_}(h:Z43.F a0 a1=some y):Qa Tryz.prog Q0 pv (.f 46) (Qb [.str,(.int .u8)] (a0,a1,())) (.t .str y):=
 Qc hE (Z43.G hE pv) (f:=46) (fn:=Tryz.f46) (by kernel_rfl) rfl (by kernel_rfl) (by kernel_rfl) ((Z43.run a0 a1).trans h) (λr hr=>Q6 hr)
def Z51.F (k:Nat)(a0:Abbr):Option (Bool):=(Z43.F a0.word 45).bind λr1=>(Z17.F k r1 2 15).bind λr2=>bif r2 then((Z43.F a0.short 46).bind λr3=>(Z17.F k r3 1 12).bind λr4=>some r4)else(some false)
def Z51.C (k:Nat):Cal->Option CArm:=λc=>match c with
 |.f 46=>some (.p [.str,(.int .u8)] _ (λx=>Z43.F x.1 x.2.1) (λr=>(.t .str r)))
 |.f 45=>some (.p [.str,(.int .i64),(.int .i64)] _ (λx=>Z17.F k x.1 x.2.1 x.2.2.1) (λr=>(.t .bool r)))
 |_=>none
theorem Z51.run (k:Nat)(a0:Abbr):QB Q0 (Qf (Z51.C k)) (Qd 13 0 (λ_=>none)) Tryz.f23 [.t .abbr a0] (Qh (.t .bool))=Z51.F k a0:=by kernel_rfl
theorem Z51.G (hE:EnvOk Tryz.prog Q0)(pv:Nat->Value)(k:Nat):∀cal A,Z51.C k cal=some A->Qe Tryz.prog Q0 pv cal A:=by
 intro cal A h
 unfold Z51.C at h
 split at h
 ·cases h;exact λx y hy=>Z43.good hE pv x.1 x.2.1 hy
 ·cases h;exact λx y hy=>Z17.good hE pv k x.1 x.2.1 x.2.2.1 hy
 ·cases h
theorem Z51.good (hE:EnvOk Tryz.prog Q0)(pv:Nat->Value)(k:Nat)(a0:Abbr){y:_}(h:Z51.F k a0=some y):Qa Tryz.prog Q0 pv (.f 23) (Qb [.abbr] (a0,())) (.t .bool y):=
 Qc hE (Z51.G hE pv k) (f:=23) (fn:=Tryz.f23) (by kernel_rfl) rfl (by kernel_rfl) (by kernel_rfl) ((Z51.run k a0).trans h) (λr hr=>Q6 hr)
def Z2.l0:Nat->(List Abbr)->Int->Option (Sum Bool (List Abbr))
 |0,_,_=>none
 |k+1,x0,x3=>bif (decide (x3<(x0.length:Int)))then(bif (decide (x3<=15))then(bif decide (0<=x3)then(bif decide (x3<(x0.length:Int))then((Z51.F k (x0.getD (x3:Int).toNat (Q9 .abbr))).bind λr1=>bif (!r1)then(some (.inl false))else(bif (decide (x3 > 0))then(bif decide (0<=(IntKind.wrap .i64 (x3-1)))then(bif decide ((IntKind.wrap .i64 (x3-1))<(x0.length:Int))then(bif decide (0<=x3)then(bif decide (x3<(x0.length:Int))then(bif (!ltS ((x0.getD ((IntKind.wrap .i64 (x3-1)):Int).toNat (Q9 .abbr)).word) ((x0.getD (x3:Int).toNat (Q9 .abbr)).word))then(some (.inl false))else(Z2.l0 k x0 (IntKind.wrap .i64 (x3+1))))else none)else none)else none)else none)else(Z2.l0 k x0 (IntKind.wrap .i64 (x3+1)))))else none)else none)else(some (.inr x0)))else(some (.inr x0))
def Z2.F (k:Nat)(a0:List Abbr):Option (Bool):=(Z2.l0 k a0 0).bind λy2=>match y2 with|.inl z3=>some z3|.inr z3=>some (decide ((z3.length:Int)<=15))
def Z2.C (k:Nat):Cal->Option CArm:=λc=>match c with
 |.f 23=>some (.p [.abbr] _ (λx=>Z51.F k x.1) (λr=>(.t .bool r)))
 |_=>none
def Z2.sp0:List Sp:=[.t 0 (.sl .abbr),.t 3 (.int .i64)]
def Z2.sp0_0:List Sp:=[.t 2 .bool]
def Z2.sp0_1:List Sp:=[.t 0 (.sl .abbr)]
def Z2.A0:LArm:=.two Z2.sp0 Z2.sp0_0 Z2.sp0_1 (Bool) ((List Abbr)) (λk x=>Z2.l0 k x.1 x.2.1) .ret (.exit 0) (λy=>(y,())) (λx=>x.1) (λy=>(y,())) (λx=>x.1)
def Z2.L:Nat->Option LArm:=λb=>match b with
 |0=>some Z2.A0
 |_=>none
theorem Z2.run (k:Nat)(a0:List Abbr):QB Q0 (Qf (Z2.C k)) (Qd 41 k Z2.L) Tryz.f22 [.t (.sl .abbr) a0] (Qh (.t .bool))=Z2.F k a0:=by kernel_rfl
theorem Z2.step0 (k:Nat)(x0:List Abbr)(x3:Int):QO Q0 (Qf (Z2.C k)) (Qd 41 k Z2.L) 0 (Qr Tryz.f22 0) (Jf 41 Z2.sp0 (x0,x3,())) (Z2.A0.cont 41 k)=Z2.l0 (k+1) x0 x3:=by kernel_rfl
theorem Z2.G (hE:EnvOk Tryz.prog Q0)(pv:Nat->Value)(k:Nat):∀cal A,Z2.C k cal=some A->Qe Tryz.prog Q0 pv cal A:=by
 intro cal A h
 unfold Z2.C at h
 split at h
 ·cases h;exact λx y hy=>Z51.good hE pv k x.1 hy
 ·cases h
theorem Z2.good (hE:EnvOk Tryz.prog Q0)(pv:Nat->Value)(k:Nat)(a0:List Abbr){y:_}(h:Z2.F k a0=some y):Qa Tryz.prog Q0 pv (.f 22) (Qb [(.sl .abbr)] (a0,())) (.t .bool y):=
 Qm hE (t:=Z2.C) k (λk _=>Z2.G hE pv k) (f:=22) (fn:=Tryz.f22) (by kernel_rfl) rfl (by kernel_rfl) (by kernel_rfl) (lt:=Z2.L) (by kernel_rfl) (λb A h=>by
  unfold Z2.L at h;split at h
  ·cases h;exact⟨by kernel_rfl,by kernel_rfl,by kernel_rfl,λ_=>rfl,λ_=>rfl,λ_=>rfl⟩
  ·cases h) (λb A h=>by
  unfold Z2.L at h;split at h
  ·cases h;exact λk x=>Z2.step0 k x.1 x.2.1
  ·cases h) ((Z2.run k a0).trans h) (λr hr=>Q6 hr)
def Z8.l0:Nat->(List Abbr)->Abbr->Int->Option ((List Abbr)×Abbr×Int)
 |0,_,_,_=>none
 |k+1,x0,x3,x6=>bif (decide (x6<(x0.length:Int)))then(bif decide (0<=x6)then(bif decide (x6<(x0.length:Int))then(bif (ltS ((x0.getD (x6:Int).toNat (Q9 .abbr)).word) x3.word)then(Z8.l0 k x0 x3 (IntKind.wrap .i64 (x6+1)))else(some (x0,x3,x6)))else none)else none)else(some (x0,x3,x6))
def Z8.F (k:Nat)(a0:List Abbr)(a1:Abbr):Option ((List Abbr)×Bool):=(Z2.F k a0).bind λr1=>bif (!r1)then(some (([]:List Abbr),false))else((Z51.F k a1).bind λr2=>bif (!r2)then(some (([]:List Abbr),false))else((Z8.l0 k a0 a1 0).bind λy3=>bif (decide (y3.2.2<(y3.1.length:Int)))then(bif decide (0<=y3.2.2)then(bif decide (y3.2.2<(y3.1.length:Int))then(bif (Qi ((y3.1.getD (y3.2.2:Int).toNat (Q9 .abbr)).word) y3.2.1.word)then(bif decide (0<=y3.2.2)then(bif decide (y3.2.2<=(y3.1.length:Int))then(bif room (([]:List Abbr).length+(y3.1.take (y3.2.2:Int).toNat).length) .abbr then(bif room ((([]:List Abbr)++(y3.1.take (y3.2.2:Int).toNat)).length+([y3.2.1]:List Abbr).length) .abbr then(bif decide (0<=(IntKind.wrap .i64 (y3.2.2+1)))then(bif decide ((IntKind.wrap .i64 (y3.2.2+1))<=(y3.1.length:Int))then(bif room (((([]:List Abbr)++(y3.1.take (y3.2.2:Int).toNat))++([y3.2.1]:List Abbr)).length+(y3.1.drop ((IntKind.wrap .i64 (y3.2.2+1)):Int).toNat).length) .abbr then((Z2.F k (((([]:List Abbr)++(y3.1.take (y3.2.2:Int).toNat))++([y3.2.1]:List Abbr))++(y3.1.drop ((IntKind.wrap .i64 (y3.2.2+1)):Int).toNat))).bind λr4=>bif (!r4)then(some (([]:List Abbr),false))else(some ((((([]:List Abbr)++(y3.1.take (y3.2.2:Int).toNat))++([y3.2.1]:List Abbr))++(y3.1.drop ((IntKind.wrap .i64 (y3.2.2+1)):Int).toNat)),true)))else none)else none)else none)else none)else none)else none)else none)else(bif decide (0<=y3.2.2)then(bif decide (y3.2.2<=(y3.1.length:Int))then(bif room (([]:List Abbr).length+(y3.1.take (y3.2.2:Int).toNat).length) .abbr then(bif room ((([]:List Abbr)++(y3.1.take (y3.2.2:Int).toNat)).length+([y3.2.1]:List Abbr).length) .abbr then(bif decide (0<=y3.2.2)then(bif decide (y3.2.2<=(y3.1.length:Int))then(bif room (((([]:List Abbr)++(y3.1.take (y3.2.2:Int).toNat))++([y3.2.1]:List Abbr)).length+(y3.1.drop (y3.2.2:Int).toNat).length) .abbr then((Z2.F k (((([]:List Abbr)++(y3.1.take (y3.2.2:Int).toNat))++([y3.2.1]:List Abbr))++(y3.1.drop (y3.2.2:Int).toNat))).bind λr5=>bif (!r5)then(some (([]:List Abbr),false))else(some ((((([]:List Abbr)++(y3.1.take (y3.2.2:Int).toNat))++([y3.2.1]:List Abbr))++(y3.1.drop (y3.2.2:Int).toNat)),true)))else none)else none)else none)else none)else none)else none)else none))else none)else none)else(bif decide (0<=y3.2.2)then(bif decide (y3.2.2<=(y3.1.length:Int))then(bif room (([]:List Abbr).length+(y3.1.take (y3.2.2:Int).toNat).length) .abbr then(bif room ((([]:List Abbr)++(y3.1.take (y3.2.2:Int).toNat)).length+([y3.2.1]:List Abbr).length) .abbr then(bif decide (0<=y3.2.2)then(bif decide (y3.2.2<=(y3.1.length:Int))then(bif room (((([]:List Abbr)++(y3.1.take (y3.2.2:Int).toNat))++([y3.2.1]:List Abbr)).length+(y3.1.drop (y3.2.2:Int).toNat).length) .abbr then((Z2.F k (((([]:List Abbr)++(y3.1.take (y3.2.2:Int).toNat))++([y3.2.1]:List Abbr))++(y3.1.drop (y3.2.2:Int).toNat))).bind λr6=>bif (!r6)then(some (([]:List Abbr),false))else(some ((((([]:List Abbr)++(y3.1.take (y3.2.2:Int).toNat))++([y3.2.1]:List Abbr))++(y3.1.drop (y3.2.2:Int).toNat)),true)))else none)else none)else none)else none)else none)else none)else none)))
def Z8.C (k:Nat):Cal->Option CArm:=λc=>match c with
 |.f 22=>some (.p [(.sl .abbr)] _ (λx=>Z2.F k x.1) (λr=>(.t .bool r)))
 |.f 23=>some (.p [.abbr] _ (λx=>Z51.F k x.1) (λr=>(.t .bool r)))
 |_=>none
def Z8.sp0:List Sp:=[.t 0 (.sl .abbr),.rp 3 .abbr,.t 6 (.int .i64)]
def Z8.sp0_0:List Sp:=[.t 0 (.sl .abbr),.rp 3 .abbr,.t 6 (.int .i64)]
def Z8.A0:LArm:=.one Z8.sp0 Z8.sp0_0 ((List Abbr)×Abbr×Int) (λk x=>Z8.l0 k x.1 x.2.1 x.2.2.1) (.exit 0) (λy=>(y.1,y.2.1,y.2.2,())) (λx=>(x.1,x.2.1,x.2.2.1))
def Z8.L:Nat->Option LArm:=λb=>match b with
 |0=>some Z8.A0
 |_=>none
theorem Z8.run (k:Nat)(a0:List Abbr)(a1:Abbr):QB Q0 (Qf (Z8.C k)) (Qd 68 k Z8.L) Tryz.f7 [.t (.sl .abbr) a0,.t .abbr a1] (JE (.fr 26 .abbr) (.t .bool))=Z8.F k a0 a1:=by kernel_rfl
theorem Z8.step0 (k:Nat)(x0:List Abbr)(x3:Abbr)(x6:Int):QO Q0 (Qf (Z8.C k)) (Qd 68 k Z8.L) 0 (Qr Tryz.f7 0) (Jf 68 Z8.sp0 (x0,x3,x6,())) (Z8.A0.cont 68 k)=Z8.l0 (k+1) x0 x3 x6:=by kernel_rfl
theorem Z8.G (hE:EnvOk Tryz.prog Q0)(pv:Nat->Value)(k:Nat):∀cal A,Z8.C k cal=some A->Qe Tryz.prog Q0 pv cal A:=by
 intro cal A h
 unfold Z8.C at h
 split at h
 ·cases h;exact λx y hy=>Z2.good hE pv k x.1 hy
 ·cases h;exact λx y hy=>Z51.good hE pv k x.1 hy
 ·cases h
theorem Z8.good (hE:EnvOk Tryz.prog Q0)(pv:Nat->Value)(k:Nat)(a0:List Abbr)(a1:Abbr){y:_}(h:Z8.F k a0 a1=some y):Qa Tryz.prog Q0 pv (.f 7) (Qb [(.sl .abbr),.abbr] (a0,a1,())) (.tup [.fr 26 .abbr y.1,.t .bool y.2]):=
 Qm hE (t:=Z8.C) k (λk _=>Z8.G hE pv k) (f:=7) (fn:=Tryz.f7) (by kernel_rfl) rfl (by kernel_rfl) (by kernel_rfl) (lt:=Z8.L) (by kernel_rfl) (λb A h=>by
  unfold Z8.L at h;split at h
  ·cases h;exact⟨by kernel_rfl,by kernel_rfl,λ_=>rfl,λ_=>rfl⟩
  ·cases h) (λb A h=>by
  unfold Z8.L at h;split at h
  ·cases h;exact λk x=>Z8.step0 k x.1 x.2.1 x.2.2.1
  ·cases h) ((Z8.run k a0 a1).trans h) (λr hr=>J5 hr)
def Z20.l0:Nat->ByteArray->Int->Option (Sum Bool Unit)
 |0,_,_=>none
 |k+1,x0,x3=>bif (decide (x3<(x0.size:Int)))then(bif decide (0<=x3)then(bif decide (x3<(x0.size:Int))then(bif (decide ((bt x0 (x3:Int).toNat)<32))then(some (.inl false))else(bif decide (0<=x3)then(bif decide (x3<(x0.size:Int))then(bif (decide ((bt x0 (x3:Int).toNat) > 126))then(some (.inl false))else(Z20.l0 k x0 (IntKind.wrap .i64 (x3+1))))else none)else none))else none)else none)else(some (.inr ()))
def Z20.F (k:Nat)(a0:ByteArray):Option (Bool):=(Z20.l0 k a0 0).bind λy1=>match y1 with|.inl z2=>some z2|.inr z2=>some true
def Z20.C (k:Nat):Cal->Option CArm:=λc=>match c with
 |_=>none
def Z20.sp0:List Sp:=[.t 0 .str,.t 3 (.int .i64)]
def Z20.sp0_0:List Sp:=[.t 2 .bool]
def Z20.sp0_1:List Sp:=[]
def Z20.A0:LArm:=.two Z20.sp0 Z20.sp0_0 Z20.sp0_1 (Bool) (Unit) (λk x=>Z20.l0 k x.1 x.2.1) .ret (.exit 0) (λy=>(y,())) (λx=>x.1) (λy=>()) (λx=>())
def Z20.L:Nat->Option LArm:=λb=>match b with
 |0=>some Z20.A0
 |_=>none
theorem Z20.run (k:Nat)(a0:ByteArray):QB Q0 (Qf (Z20.C k)) (Qd 20 k Z20.L) Tryz.f25 [.t .str a0] (Qh (.t .bool))=Z20.F k a0:=by kernel_rfl
theorem Z20.step0 (k:Nat)(x0:ByteArray)(x3:Int):QO Q0 (Qf (Z20.C k)) (Qd 20 k Z20.L) 0 (Qr Tryz.f25 0) (Jf 20 Z20.sp0 (x0,x3,())) (Z20.A0.cont 20 k)=Z20.l0 (k+1) x0 x3:=by kernel_rfl
theorem Z20.G (hE:EnvOk Tryz.prog Q0)(pv:Nat->Value)(k:Nat):∀cal A,Z20.C k cal=some A->Qe Tryz.prog Q0 pv cal A:=by
 intro cal A h
 unfold Z20.C at h
 cases h
theorem Z20.good (hE:EnvOk Tryz.prog Q0)(pv:Nat->Value)(k:Nat)(a0:ByteArray){y:_}(h:Z20.F k a0=some y):Qa Tryz.prog Q0 pv (.f 25) (Qb [.str] (a0,())) (.t .bool y):=
 Qm hE (t:=Z20.C) k (λk _=>Z20.G hE pv k) (f:=25) (fn:=Tryz.f25) (by kernel_rfl) rfl (by kernel_rfl) (by kernel_rfl) (lt:=Z20.L) (by kernel_rfl) (λb A h=>by
  unfold Z20.L at h;split at h
  ·cases h;exact⟨by kernel_rfl,by kernel_rfl,by kernel_rfl,λ_=>rfl,λ_=>rfl,λ_=>rfl⟩
  ·cases h) (λb A h=>by
  unfold Z20.L at h;split at h
  ·cases h;exact λk x=>Z20.step0 k x.1 x.2.1
  ·cases h) ((Z20.run k a0).trans h) (λr hr=>Q6 hr)
def Z80.F (a0:ByteArray)(a1:ByteArray):Option (Bool):=XC a0 a1
theorem Z80.good (hE:EnvOk Tryz.prog Q0)(pv:Nat->Value)(a0:ByteArray)(a1:ByteArray){y:_}(h:Z80.F a0 a1=some y):Qa Tryz.prog Q0 pv (.f 26) (Qb [.str,.str] (a0,a1,())) (.t .bool y):=
 Q26 (fn:=Tryz.f26) (by kernel_rfl) rfl (by kernel_rfl) (mx:=0) (by kernel_rfl) Tryz.strings_Contains h
def Z42.F (a0:Int):Option (Bool):=bif (decide (a0 ≥ 65))then(some (decide (a0<=90)))else(some false)
def Z42.C:Cal->Option CArm:=λc=>match c with
 |_=>none
theorem Z42.run (a0:Int):QB Q0 (Qf Z42.C) (Qd 9 0 (λ_=>none)) Tryz.f49 [.t (.int .u8) a0] (Qh (.t .bool))=Z42.F a0:=by kernel_rfl
theorem Z42.G (hE:EnvOk Tryz.prog Q0)(pv:Nat->Value):∀cal A,Z42.C cal=some A->Qe Tryz.prog Q0 pv cal A:=by
 intro cal A h
 unfold Z42.C at h
 cases h
theorem Z42.good (hE:EnvOk Tryz.prog Q0)(pv:Nat->Value)(a0:Int){y:_}(h:Z42.F a0=some y):Qa Tryz.prog Q0 pv (.f 49) (Qb [(.int .u8)] (a0,())) (.t .bool y):=
 Qc hE (Z42.G hE pv) (f:=49) (fn:=Tryz.f49) (by kernel_rfl) rfl (by kernel_rfl) (by kernel_rfl) ((Z42.run a0).trans h) (λr hr=>Q6 hr)
def Z52.F (a0:Int):Option (Bool):=(Z42.F a0).bind λr1=>bif r1 then(some true)else((Z39.F a0).bind λr2=>some r2)
def Z52.C:Cal->Option CArm:=λc=>match c with
 |.f 49=>some (.p [(.int .u8)] _ (λx=>Z42.F x.1) (λr=>(.t .bool r)))
 |.f 52=>some (.p [(.int .u8)] _ (λx=>Z39.F x.1) (λr=>(.t .bool r)))
 |_=>none
theorem Z52.run (a0:Int):QB Q0 (Qf Z52.C) (Qd 9 0 (λ_=>none)) Tryz.f74 [.t (.int .u8) a0] (Qh (.t .bool))=Z52.F a0:=by kernel_rfl
theorem Z52.G (hE:EnvOk Tryz.prog Q0)(pv:Nat->Value):∀cal A,Z52.C cal=some A->Qe Tryz.prog Q0 pv cal A:=by
 intro cal A h
 unfold Z52.C at h
 split at h
 ·cases h;exact λx y hy=>Z42.good hE pv x.1 hy
 ·cases h;exact λx y hy=>Z39.good hE pv x.1 hy
 ·cases h
theorem Z52.good (hE:EnvOk Tryz.prog Q0)(pv:Nat->Value)(a0:Int){y:_}(h:Z52.F a0=some y):Qa Tryz.prog Q0 pv (.f 74) (Qb [(.int .u8)] (a0,())) (.t .bool y):=
 Qc hE (Z52.G hE pv) (f:=74) (fn:=Tryz.f74) (by kernel_rfl) rfl (by kernel_rfl) (by kernel_rfl) ((Z52.run a0).trans h) (λr hr=>Q6 hr)
def Z21.l0:Nat->ByteArray->Int->Option (Sum Bool ByteArray)
 |0,_,_=>none
 |k+1,x0,x3=>bif (decide (x3<(x0.size:Int)))then(bif decide (0<=x3)then(bif decide (x3<(x0.size:Int))then((Z52.F (bt x0 (x3:Int).toNat)).bind λr1=>bif (!r1)then(some (.inl false))else(Z21.l0 k x0 (IntKind.wrap .i64 (x3+1))))else none)else none)else(some (.inr x0))
def Z21.F (k:Nat)(a0:ByteArray):Option (Bool):=(Z21.l0 k a0 0).bind λy2=>match y2 with|.inl z3=>some z3|.inr z3=>some (!Qi z3 (⟨#[]⟩:ByteArray))
def Z21.C (k:Nat):Cal->Option CArm:=λc=>match c with
 |.f 74=>some (.p [(.int .u8)] _ (λx=>Z52.F x.1) (λr=>(.t .bool r)))
 |_=>none
def Z21.sp0:List Sp:=[.t 0 .str,.t 3 (.int .i64)]
def Z21.sp0_0:List Sp:=[.t 2 .bool]
def Z21.sp0_1:List Sp:=[.t 0 .str]
def Z21.A0:LArm:=.two Z21.sp0 Z21.sp0_0 Z21.sp0_1 (Bool) (ByteArray) (λk x=>Z21.l0 k x.1 x.2.1) .ret (.exit 0) (λy=>(y,())) (λx=>x.1) (λy=>(y,())) (λx=>x.1)
def Z21.L:Nat->Option LArm:=λb=>match b with
 |0=>some Z21.A0
 |_=>none
theorem Z21.run (k:Nat)(a0:ByteArray):QB Q0 (Qf (Z21.C k)) (Qd 17 k Z21.L) Tryz.f70 [.t .str a0] (Qh (.t .bool))=Z21.F k a0:=by kernel_rfl
theorem Z21.step0 (k:Nat)(x0:ByteArray)(x3:Int):QO Q0 (Qf (Z21.C k)) (Qd 17 k Z21.L) 0 (Qr Tryz.f70 0) (Jf 17 Z21.sp0 (x0,x3,())) (Z21.A0.cont 17 k)=Z21.l0 (k+1) x0 x3:=by kernel_rfl
theorem Z21.G (hE:EnvOk Tryz.prog Q0)(pv:Nat->Value)(k:Nat):∀cal A,Z21.C k cal=some A->Qe Tryz.prog Q0 pv cal A:=by
 intro cal A h
 unfold Z21.C at h
 split at h
 ·cases h;exact λx y hy=>Z52.good hE pv x.1 hy
 ·cases h
theorem Z21.good (hE:EnvOk Tryz.prog Q0)(pv:Nat->Value)(k:Nat)(a0:ByteArray){y:_}(h:Z21.F k a0=some y):Qa Tryz.prog Q0 pv (.f 70) (Qb [.str] (a0,())) (.t .bool y):=
 Qm hE (t:=Z21.C) k (λk _=>Z21.G hE pv k) (f:=70) (fn:=Tryz.f70) (by kernel_rfl) rfl (by kernel_rfl) (by kernel_rfl) (lt:=Z21.L) (by kernel_rfl) (λb A h=>by
  unfold Z21.L at h;split at h
  ·cases h;exact⟨by kernel_rfl,by kernel_rfl,by kernel_rfl,λ_=>rfl,λ_=>rfl,λ_=>rfl⟩
  ·cases h) (λb A h=>by
  unfold Z21.L at h;split at h
  ·cases h;exact λk x=>Z21.step0 k x.1 x.2.1
  ·cases h) ((Z21.run k a0).trans h) (λr hr=>Q6 hr)
def Z13.l0:Nat->(List Int)->Int->Int->Option ((List Int))
 |0,_,_,_=>none
 |k+1,x3,x9,x10=>bif (decide (x10<x9))then(bif decide (0<=x10)then(bif decide (x10<(x3.length:Int))then((Z42.F (x3.getD ((x10:Int).toNat) 0)).bind λr1=>bif r1 then(bif decide (0<=x10)then(bif decide (x10<(x3.length:Int))then(Z13.l0 k (x3.set ((x10:Int).toNat) (IntKind.wrap .u8 ((IntKind.wrap .u8 ((x3.getD ((x10:Int).toNat) 0)+97))-65))) x9 (IntKind.wrap .i64 (x10+1)))else none)else none)else(Z13.l0 k x3 x9 (IntKind.wrap .i64 (x10+1))))else none)else none)else(some x3)
def Z13.F (k:Nat)(a0:ByteArray):Option (ByteArray):=bif Nat.ble a0.size 9223372036854775807 then((Z13.l0 k (Q2 a0) ((Q2 a0).length:Int) 0).bind λy2=>some (YW y2))else none
def Z13.C (k:Nat):Cal->Option CArm:=λc=>match c with
 |.f 49=>some (.p [(.int .u8)] _ (λx=>Z42.F x.1) (λr=>(.t .bool r)))
 |_=>none
def Z13.sp0:List Sp:=[.own 3 1028 5 (.int .u8) false false,.con 8 (.own 1028),.t 9 (.int .i64),.t 10 (.int .i64)]
def Z13.sp0_0:List Sp:=[.own 3 1028 5 (.int .u8) false false]
def Z13.A0:LArm:=.one Z13.sp0 Z13.sp0_0 ((List Int)) (λk x=>Z13.l0 k x.1 x.2.2.1 x.2.2.2.1) (.exit 0) (λy=>(y,())) (λx=>x.1)
def Z13.L:Nat->Option LArm:=λb=>match b with
 |0=>some Z13.A0
 |_=>none
theorem Z13.run (k:Nat)(a0:ByteArray):QB Q0 (Qf (Z13.C k)) (Qd 26 k Z13.L) Tryz.f71 [.t .str a0] (Qh (.t .str))=Z13.F k a0:=by kernel_rfl
theorem Z13.step0 (k:Nat)(x3:List Int)(x9:Int)(x10:Int):QO Q0 (Qf (Z13.C k)) (Qd 26 k Z13.L) 0 (Qr Tryz.f71 0) (Jf 26 Z13.sp0 (x3,(),x9,x10,())) (Z13.A0.cont 26 k)=Z13.l0 (k+1) x3 x9 x10:=by kernel_rfl
theorem Z13.G (hE:EnvOk Tryz.prog Q0)(pv:Nat->Value)(k:Nat):∀cal A,Z13.C k cal=some A->Qe Tryz.prog Q0 pv cal A:=by
 intro cal A h
 unfold Z13.C at h
 split at h
 ·cases h;exact λx y hy=>Z42.good hE pv x.1 hy
 ·cases h
theorem Z13.good (hE:EnvOk Tryz.prog Q0)(pv:Nat->Value)(k:Nat)(a0:ByteArray){y:_}(h:Z13.F k a0=some y):Qa Tryz.prog Q0 pv (.f 71) (Qb [.str] (a0,())) (.t .str y):=
 Qm hE (t:=Z13.C) k (λk _=>Z13.G hE pv k) (f:=71) (fn:=Tryz.f71) (by kernel_rfl) rfl (by kernel_rfl) (by kernel_rfl) (lt:=Z13.L) (by kernel_rfl) (λb A h=>by
  unfold Z13.L at h;split at h
  ·cases h;exact⟨by kernel_rfl,by kernel_rfl,λ_=>rfl,λ_=>rfl⟩
  ·cases h) (λb A h=>by
  unfold Z13.L at h;split at h
  ·cases h;exact λk x=>Z13.step0 k x.1 x.2.2.1 x.2.2.2.1
  ·cases h) ((Z13.run k a0).trans h) (λr hr=>Q6 hr)
def Z74.F (a0:ByteArray)(a1:ByteArray):Option (ByteArray×Bool):=(Z49.F a0 a1).bind λr1=>bif (!r1)then(some (a0,false))else(bif decide (0<=(IntKind.wrap .i64 ((a0.size:Int)-(a1.size:Int))))then(bif decide ((IntKind.wrap .i64 ((a0.size:Int)-(a1.size:Int)))<=(a0.size:Int))then(some ((a0.extract 0 ((IntKind.wrap .i64 ((a0.size:Int)-(a1.size:Int))):Int).toNat),true))else none)else none)
def Z74.C:Cal->Option CArm:=λc=>match c with
 |.f 93=>some (.p [.str,.str] _ (λx=>Z49.F x.1 x.2.1) (λr=>(.t .bool r)))
 |_=>none
theorem Z74.run (a0:ByteArray)(a1:ByteArray):QB Q0 (Qf Z74.C) (Qd 18 0 (λ_=>none)) Tryz.f91 [.t .str a0,.t .str a1] (JE (.t .str) (.t .bool))=Z74.F a0 a1:=by kernel_rfl
theorem Z74.G (hE:EnvOk Tryz.prog Q0)(pv:Nat->Value):∀cal A,Z74.C cal=some A->Qe Tryz.prog Q0 pv cal A:=by
 intro cal A h
 unfold Z74.C at h
 split at h
 ·cases h;exact λx y hy=>Z49.good hE pv x.1 x.2.1 hy
 ·cases h
theorem Z74.good (hE:EnvOk Tryz.prog Q0)(pv:Nat->Value)(a0:ByteArray)(a1:ByteArray){y:_}(h:Z74.F a0 a1=some y):Qa Tryz.prog Q0 pv (.f 91) (Qb [.str,.str] (a0,a1,())) (.tup [.t .str y.1,.t .bool y.2]):=
 Qc hE (Z74.G hE pv) (f:=91) (fn:=Tryz.f91) (by kernel_rfl) rfl (by kernel_rfl) (by kernel_rfl) ((Z74.run a0 a1).trans h) (λr hr=>J5 hr)
def Z64.F (a0:ByteArray)(a1:ByteArray):Option (ByteArray×Bool):=(Z74.F a0 a1).bind λr1=>some (r1.1,r1.2)
def Z64.C:Cal->Option CArm:=λc=>match c with
 |.f 91=>some (.p [.str,.str] _ (λx=>Z74.F x.1 x.2.1) (λr=>(.tup [.t .str r.1,.t .bool r.2])))
 |_=>none
theorem Z64.run (a0:ByteArray)(a1:ByteArray):QB Q0 (Qf Z64.C) (Qd 11 0 (λ_=>none)) Tryz.f72 [.t .str a0,.t .str a1] (JE (.t .str) (.t .bool))=Z64.F a0 a1:=by kernel_rfl
theorem Z64.G (hE:EnvOk Tryz.prog Q0)(pv:Nat->Value):∀cal A,Z64.C cal=some A->Qe Tryz.prog Q0 pv cal A:=by
 intro cal A h
 unfold Z64.C at h
 split at h
 ·cases h;exact λx y hy=>Z74.good hE pv x.1 x.2.1 hy
 ·cases h
theorem Z64.good (hE:EnvOk Tryz.prog Q0)(pv:Nat->Value)(a0:ByteArray)(a1:ByteArray){y:_}(h:Z64.F a0 a1=some y):Qa Tryz.prog Q0 pv (.f 72) (Qb [.str,.str] (a0,a1,())) (.tup [.t .str y.1,.t .bool y.2]):=
 Qc hE (Z64.G hE pv) (f:=72) (fn:=Tryz.f72) (by kernel_rfl) rfl (by kernel_rfl) (by kernel_rfl) ((Z64.run a0 a1).trans h) (λr hr=>J5 hr)
def Z75.F (a0:ByteArray)(a1:ByteArray):Option (Bool):=bif (decide ((a0.size:Int) ≥ (a1.size:Int)))then(bif decide (0<=(a1.size:Int))then(bif decide ((a1.size:Int)<=(a0.size:Int))then(some (Qi (a0.extract 0 ((a1.size:Int):Int).toNat) a1))else none)else none)else(some false)
def Z75.C:Cal->Option CArm:=λc=>match c with
 |_=>none
theorem Z75.run (a0:ByteArray)(a1:ByteArray):QB Q0 (Qf Z75.C) (Qd 18 0 (λ_=>none)) Tryz.f92 [.t .str a0,.t .str a1] (Qh (.t .bool))=Z75.F a0 a1:=by kernel_rfl
theorem Z75.G (hE:EnvOk Tryz.prog Q0)(pv:Nat->Value):∀cal A,Z75.C cal=some A->Qe Tryz.prog Q0 pv cal A:=by
 intro cal A h
 unfold Z75.C at h
 cases h
theorem Z75.good (hE:EnvOk Tryz.prog Q0)(pv:Nat->Value)(a0:ByteArray)(a1:ByteArray){y:_}(h:Z75.F a0 a1=some y):Qa Tryz.prog Q0 pv (.f 92) (Qb [.str,.str] (a0,a1,())) (.t .bool y):=
 Qc hE (Z75.G hE pv) (f:=92) (fn:=Tryz.f92) (by kernel_rfl) rfl (by kernel_rfl) (by kernel_rfl) ((Z75.run a0 a1).trans h) (λr hr=>Q6 hr)
def Z65.F (a0:ByteArray)(a1:ByteArray):Option (Bool):=(Z75.F a0 a1).bind λr1=>some r1
def Z65.C:Cal->Option CArm:=λc=>match c with
 |.f 92=>some (.p [.str,.str] _ (λx=>Z75.F x.1 x.2.1) (λr=>(.t .bool r)))
 |_=>none
theorem Z65.run (a0:ByteArray)(a1:ByteArray):QB Q0 (Qf Z65.C) (Qd 8 0 (λ_=>none)) Tryz.f73 [.t .str a0,.t .str a1] (Qh (.t .bool))=Z65.F a0 a1:=by kernel_rfl
theorem Z65.G (hE:EnvOk Tryz.prog Q0)(pv:Nat->Value):∀cal A,Z65.C cal=some A->Qe Tryz.prog Q0 pv cal A:=by
 intro cal A h
 unfold Z65.C at h
 split at h
 ·cases h;exact λx y hy=>Z75.good hE pv x.1 x.2.1 hy
 ·cases h
theorem Z65.good (hE:EnvOk Tryz.prog Q0)(pv:Nat->Value)(a0:ByteArray)(a1:ByteArray){y:_}(h:Z65.F a0 a1=some y):Qa Tryz.prog Q0 pv (.f 73) (Qb [.str,.str] (a0,a1,())) (.t .bool y):=
 Qc hE (Z65.G hE pv) (f:=73) (fn:=Tryz.f73) (by kernel_rfl) rfl (by kernel_rfl) (by kernel_rfl) ((Z65.run a0 a1).trans h) (λr hr=>Q6 hr)
def Z3.l0:Nat->(List Abbr)->ByteArray->Int->(List Abbr)->Int->Int->Option (Sum Int Int)
 |0,_,_,_,_,_,_=>none
 |k+1,x0,x5,x6,x16,x17,x18=>bif (decide (x18<x17))then(bif decide (0<=x18)then(bif decide (x18<(x16.length:Int))then(bif (Qi ((x16.getD (x18:Int).toNat (Q9 .abbr)).word) x5)then(some (.inl x18))else((Z64.F ((x16.getD (x18:Int).toNat (Q9 .abbr)).word) (⟨#[45]⟩:ByteArray)).bind λr3=>bif r3.2 then((Z65.F x5 r3.1).bind λr4=>bif r4 then(bif (decide (x6<0))then(Z3.l0 k x0 x5 x18 x16 x17 (IntKind.wrap .i64 (x18+1)))else(bif decide (0<=x6)then(bif decide (x6<(x0.length:Int))then(bif (decide ((((x16.getD (x18:Int).toNat (Q9 .abbr)).word).size:Int) > (((x0.getD (x6:Int).toNat (Q9 .abbr)).word).size:Int)))then(Z3.l0 k x0 x5 x18 x16 x17 (IntKind.wrap .i64 (x18+1)))else(Z3.l0 k x0 x5 x6 x16 x17 (IntKind.wrap .i64 (x18+1))))else none)else none))else(Z3.l0 k x0 x5 x6 x16 x17 (IntKind.wrap .i64 (x18+1))))else(Z3.l0 k x0 x5 x6 x16 x17 (IntKind.wrap .i64 (x18+1)))))else none)else none)else(some (.inr x6))
def Z3.F (k:Nat)(a0:List Abbr)(a1:ByteArray):Option (Int):=(Z21.F k a1).bind λr1=>bif (!r1)then(some (-1))else((Z13.F k a1).bind λr2=>(Z3.l0 k a0 r2 (-1) a0 (a0.length:Int) 0).bind λy5=>match y5 with|.inl z6=>some z6|.inr z6=>some z6)
def Z3.C (k:Nat):Cal->Option CArm:=λc=>match c with
 |.f 70=>some (.p [.str] _ (λx=>Z21.F k x.1) (λr=>(.t .bool r)))
 |.f 71=>some (.p [.str] _ (λx=>Z13.F k x.1) (λr=>(.t .str r)))
 |.f 72=>some (.p [.str,.str] _ (λx=>Z64.F x.1 x.2.1) (λr=>(.tup [.t .str r.1,.t .bool r.2])))
 |.f 73=>some (.p [.str,.str] _ (λx=>Z65.F x.1 x.2.1) (λr=>(.t .bool r)))
 |_=>none
def Z3.sp0:List Sp:=[.t 0 (.sl .abbr),.t 5 .str,.t 6 (.int .i64),.t 16 (.sl .abbr),.t 17 (.int .i64),.t 18 (.int .i64)]
def Z3.sp0_0:List Sp:=[.t 4 (.int .i64)]
def Z3.sp0_1:List Sp:=[.t 6 (.int .i64)]
def Z3.A0:LArm:=.two Z3.sp0 Z3.sp0_0 Z3.sp0_1 (Int) (Int) (λk x=>Z3.l0 k x.1 x.2.1 x.2.2.1 x.2.2.2.1 x.2.2.2.2.1 x.2.2.2.2.2.1) .ret (.exit 0) (λy=>(y,())) (λx=>x.1) (λy=>(y,())) (λx=>x.1)
def Z3.L:Nat->Option LArm:=λb=>match b with
 |0=>some Z3.A0
 |_=>none
theorem Z3.run (k:Nat)(a0:List Abbr)(a1:ByteArray):QB Q0 (Qf (Z3.C k)) (Qd 59 k Z3.L) Tryz.f48 [.t (.sl .abbr) a0,.t .str a1] (Qh (.t (.int .i64)))=Z3.F k a0 a1:=by kernel_rfl
theorem Z3.step0 (k:Nat)(x0:List Abbr)(x5:ByteArray)(x6:Int)(x16:List Abbr)(x17:Int)(x18:Int):QO Q0 (Qf (Z3.C k)) (Qd 59 k Z3.L) 0 (Qr Tryz.f48 0) (Jf 59 Z3.sp0 (x0,x5,x6,x16,x17,x18,())) (Z3.A0.cont 59 k)=Z3.l0 (k+1) x0 x5 x6 x16 x17 x18:=by kernel_rfl
theorem Z3.G (hE:EnvOk Tryz.prog Q0)(pv:Nat->Value)(k:Nat):∀cal A,Z3.C k cal=some A->Qe Tryz.prog Q0 pv cal A:=by
 intro cal A h
 unfold Z3.C at h
 split at h
 ·cases h;exact λx y hy=>Z21.good hE pv k x.1 hy
 ·cases h;exact λx y hy=>Z13.good hE pv k x.1 hy
 ·cases h;exact λx y hy=>Z64.good hE pv x.1 x.2.1 hy
 ·cases h;exact λx y hy=>Z65.good hE pv x.1 x.2.1 hy
 ·cases h
theorem Z3.good (hE:EnvOk Tryz.prog Q0)(pv:Nat->Value)(k:Nat)(a0:List Abbr)(a1:ByteArray){y:_}(h:Z3.F k a0 a1=some y):Qa Tryz.prog Q0 pv (.f 48) (Qb [(.sl .abbr),.str] (a0,a1,())) (.t (.int .i64) y):=
 Qm hE (t:=Z3.C) k (λk _=>Z3.G hE pv k) (f:=48) (fn:=Tryz.f48) (by kernel_rfl) rfl (by kernel_rfl) (by kernel_rfl) (lt:=Z3.L) (by kernel_rfl) (λb A h=>by
  unfold Z3.L at h;split at h
  ·cases h;exact⟨by kernel_rfl,by kernel_rfl,by kernel_rfl,λ_=>rfl,λ_=>rfl,λ_=>rfl⟩
  ·cases h) (λb A h=>by
  unfold Z3.L at h;split at h
  ·cases h;exact λk x=>Z3.step0 k x.1 x.2.1 x.2.2.1 x.2.2.2.1 x.2.2.2.2.1 x.2.2.2.2.2.1
  ·cases h) ((Z3.run k a0 a1).trans h) (λr hr=>Q6 hr)
def Z66.F (a0:Int):Option (Int):=(Z39.F a0).bind λr1=>bif r1 then(some (IntKind.wrap .u8 (a0-32)))else(some a0)
def Z66.C:Cal->Option CArm:=λc=>match c with
 |.f 52=>some (.p [(.int .u8)] _ (λx=>Z39.F x.1) (λr=>(.t .bool r)))
 |_=>none
theorem Z66.run (a0:Int):QB Q0 (Qf Z66.C) (Qd 8 0 (λ_=>none)) Tryz.f75 [.t (.int .u8) a0] (Qh (.t (.int .u8)))=Z66.F a0:=by kernel_rfl
theorem Z66.G (hE:EnvOk Tryz.prog Q0)(pv:Nat->Value):∀cal A,Z66.C cal=some A->Qe Tryz.prog Q0 pv cal A:=by
 intro cal A h
 unfold Z66.C at h
 split at h
 ·cases h;exact λx y hy=>Z39.good hE pv x.1 hy
 ·cases h
theorem Z66.good (hE:EnvOk Tryz.prog Q0)(pv:Nat->Value)(a0:Int){y:_}(h:Z66.F a0=some y):Qa Tryz.prog Q0 pv (.f 75) (Qb [(.int .u8)] (a0,())) (.t (.int .u8) y):=
 Qc hE (Z66.G hE pv) (f:=75) (fn:=Tryz.f75) (by kernel_rfl) rfl (by kernel_rfl) (by kernel_rfl) ((Z66.run a0).trans h) (λr hr=>Q6 hr)
def Z24.l0:Nat->(List Int)->Int->Int->Option ((List Int))
 |0,_,_,_=>none
 |k+1,x3,x9,x10=>bif (decide (x10<x9))then(bif decide (0<=x10)then(bif decide (x10<(x3.length:Int))then((Z52.F (x3.getD ((x10:Int).toNat) 0)).bind λr1=>bif r1 then((Z66.F (x3.getD ((x10:Int).toNat) 0)).bind λr2=>bif decide (0<=x10)then(bif decide (x10<(x3.length:Int))then(some (x3.set ((x10:Int).toNat) r2))else none)else none)else(Z24.l0 k x3 x9 (IntKind.wrap .i64 (x10+1))))else none)else none)else(some x3)
def Z24.F (k:Nat)(a0:ByteArray):Option (ByteArray):=bif Nat.ble a0.size 9223372036854775807 then((Z24.l0 k (Q2 a0) ((Q2 a0).length:Int) 0).bind λy3=>some (YW y3))else none
def Z24.C (k:Nat):Cal->Option CArm:=λc=>match c with
 |.f 74=>some (.p [(.int .u8)] _ (λx=>Z52.F x.1) (λr=>(.t .bool r)))
 |.f 75=>some (.p [(.int .u8)] _ (λx=>Z66.F x.1) (λr=>(.t (.int .u8) r)))
 |_=>none
def Z24.sp0:List Sp:=[.own 3 1028 5 (.int .u8) false false,.con 8 (.own 1028),.t 9 (.int .i64),.t 10 (.int .i64)]
def Z24.sp0_0:List Sp:=[.own 3 1028 5 (.int .u8) false false]
def Z24.A0:LArm:=.one Z24.sp0 Z24.sp0_0 ((List Int)) (λk x=>Z24.l0 k x.1 x.2.2.1 x.2.2.2.1) (.exit 0) (λy=>(y,())) (λx=>x.1)
def Z24.L:Nat->Option LArm:=λb=>match b with
 |0=>some Z24.A0
 |_=>none
theorem Z24.run (k:Nat)(a0:ByteArray):QB Q0 (Qf (Z24.C k)) (Qd 25 k Z24.L) Tryz.f50 [.t .str a0] (Qh (.t .str))=Z24.F k a0:=by kernel_rfl
theorem Z24.step0 (k:Nat)(x3:List Int)(x9:Int)(x10:Int):QO Q0 (Qf (Z24.C k)) (Qd 25 k Z24.L) 0 (Qr Tryz.f50 0) (Jf 25 Z24.sp0 (x3,(),x9,x10,())) (Z24.A0.cont 25 k)=Z24.l0 (k+1) x3 x9 x10:=by kernel_rfl
theorem Z24.G (hE:EnvOk Tryz.prog Q0)(pv:Nat->Value)(k:Nat):∀cal A,Z24.C k cal=some A->Qe Tryz.prog Q0 pv cal A:=by
 intro cal A h
 unfold Z24.C at h
 split at h
 ·cases h;exact λx y hy=>Z52.good hE pv x.1 hy
 ·cases h;exact λx y hy=>Z66.good hE pv x.1 hy
 ·cases h
theorem Z24.good (hE:EnvOk Tryz.prog Q0)(pv:Nat->Value)(k:Nat)(a0:ByteArray){y:_}(h:Z24.F k a0=some y):Qa Tryz.prog Q0 pv (.f 50) (Qb [.str] (a0,())) (.t .str y):=
 Qm hE (t:=Z24.C) k (λk _=>Z24.G hE pv k) (f:=50) (fn:=Tryz.f50) (by kernel_rfl) rfl (by kernel_rfl) (by kernel_rfl) (lt:=Z24.L) (by kernel_rfl) (λb A h=>by
  unfold Z24.L at h;split at h
  ·cases h;exact⟨by kernel_rfl,by kernel_rfl,λ_=>rfl,λ_=>rfl⟩
  ·cases h) (λb A h=>by
  unfold Z24.L at h;split at h
  ·cases h;exact λk x=>Z24.step0 k x.1 x.2.2.1 x.2.2.2.1
  ·cases h) ((Z24.run k a0).trans h) (λr hr=>Q6 hr)
def Z40.F (k:Nat)(a0:List Abbr)(a1:ByteArray):Option (ByteArray):=(Z3.F k a0 a1).bind λr1=>bif (decide (r1<0))then(some a1)else(bif decide (0<=0)then(bif decide (0<(a1.size:Int))then((Z42.F (bt a1 (0:Int).toNat)).bind λr2=>bif r2 then(bif decide (0<=r1)then(bif decide (r1<(a0.length:Int))then((Z24.F k ((a0.getD (r1:Int).toNat (Q9 .abbr)).short)).bind λr3=>some r3)else none)else none)else(bif decide (0<=r1)then(bif decide (r1<(a0.length:Int))then(some ((a0.getD (r1:Int).toNat (Q9 .abbr)).short))else none)else none))else none)else none)
def Z40.C (k:Nat):Cal->Option CArm:=λc=>match c with
 |.f 48=>some (.p [(.sl .abbr),.str] _ (λx=>Z3.F k x.1 x.2.1) (λr=>(.t (.int .i64) r)))
 |.f 49=>some (.p [(.int .u8)] _ (λx=>Z42.F x.1) (λr=>(.t .bool r)))
 |.f 50=>some (.p [.str] _ (λx=>Z24.F k x.1) (λr=>(.t .str r)))
 |_=>none
theorem Z40.run (k:Nat)(a0:List Abbr)(a1:ByteArray):QB Q0 (Qf (Z40.C k)) (Qd 28 0 (λ_=>none)) Tryz.f27 [.t (.sl .abbr) a0,.t .str a1] (Qh (.t .str))=Z40.F k a0 a1:=by kernel_rfl
theorem Z40.G (hE:EnvOk Tryz.prog Q0)(pv:Nat->Value)(k:Nat):∀cal A,Z40.C k cal=some A->Qe Tryz.prog Q0 pv cal A:=by
 intro cal A h
 unfold Z40.C at h
 split at h
 ·cases h;exact λx y hy=>Z3.good hE pv k x.1 x.2.1 hy
 ·cases h;exact λx y hy=>Z42.good hE pv x.1 hy
 ·cases h;exact λx y hy=>Z24.good hE pv k x.1 hy
 ·cases h
theorem Z40.good (hE:EnvOk Tryz.prog Q0)(pv:Nat->Value)(k:Nat)(a0:List Abbr)(a1:ByteArray){y:_}(h:Z40.F k a0 a1=some y):Qa Tryz.prog Q0 pv (.f 27) (Qb [(.sl .abbr),.str] (a0,a1,())) (.t .str y):=
 Qc hE (Z40.G hE pv k) (f:=27) (fn:=Tryz.f27) (by kernel_rfl) rfl (by kernel_rfl) (by kernel_rfl) ((Z40.run k a0 a1).trans h) (λr hr=>Q6 hr)
def Z36.F (k:Nat)(a0:List Abbr)(a1:ByteArray):Option (ByteArray×Bool):=(Z1.F k a0).bind λr1=>bif (!r1)then(some ((⟨#[]⟩:ByteArray),false))else((Z48.F (a1.size:Int) 1 40).bind λr2=>bif (!r2)then(some ((⟨#[]⟩:ByteArray),false))else((Z20.F k a1).bind λr3=>bif (!r3)then(some ((⟨#[]⟩:ByteArray),false))else((Z80.F a1 (⟨#[32]⟩:ByteArray)).bind λr4=>bif r4 then(some ((⟨#[]⟩:ByteArray),false))else((Z40.F k a0 a1).bind λr5=>some (r5,true)))))
def Z36.C (k:Nat):Cal->Option CArm:=λc=>match c with
 |.f 9=>some (.p [(.sl .abbr)] _ (λx=>Z1.F k x.1) (λr=>(.t .bool r)))
 |.f 24=>some (.p [(.int .i64),(.int .i64),(.int .i64)] _ (λx=>Z48.F x.1 x.2.1 x.2.2.1) (λr=>(.t .bool r)))
 |.f 25=>some (.p [.str] _ (λx=>Z20.F k x.1) (λr=>(.t .bool r)))
 |.f 26=>some (.p [.str,.str] _ (λx=>Z80.F x.1 x.2.1) (λr=>(.t .bool r)))
 |.f 27=>some (.p [(.sl .abbr),.str] _ (λx=>Z40.F k x.1 x.2.1) (λr=>(.t .str r)))
 |_=>none
theorem Z36.run (k:Nat)(a0:List Abbr)(a1:ByteArray):QB Q0 (Qf (Z36.C k)) (Qd 27 0 (λ_=>none)) Tryz.f8 [.t (.sl .abbr) a0,.t .str a1] (JE (.t .str) (.t .bool))=Z36.F k a0 a1:=by kernel_rfl
theorem Z36.G (hE:EnvOk Tryz.prog Q0)(pv:Nat->Value)(k:Nat):∀cal A,Z36.C k cal=some A->Qe Tryz.prog Q0 pv cal A:=by
 intro cal A h
 unfold Z36.C at h
 split at h
 ·cases h;exact λx y hy=>Z1.good hE pv k x.1 hy
 ·cases h;exact λx y hy=>Z48.good hE pv x.1 x.2.1 x.2.2.1 hy
 ·cases h;exact λx y hy=>Z20.good hE pv k x.1 hy
 ·cases h;exact λx y hy=>Z80.good hE pv x.1 x.2.1 hy
 ·cases h;exact λx y hy=>Z40.good hE pv k x.1 x.2.1 hy
 ·cases h
theorem Z36.good (hE:EnvOk Tryz.prog Q0)(pv:Nat->Value)(k:Nat)(a0:List Abbr)(a1:ByteArray){y:_}(h:Z36.F k a0 a1=some y):Qa Tryz.prog Q0 pv (.f 8) (Qb [(.sl .abbr),.str] (a0,a1,())) (.tup [.t .str y.1,.t .bool y.2]):=
 Qc hE (Z36.G hE pv k) (f:=8) (fn:=Tryz.f8) (by kernel_rfl) rfl (by kernel_rfl) (by kernel_rfl) ((Z36.run k a0 a1).trans h) (λr hr=>J5 hr)
def Z25.l0:Nat->Cur->ByteArray->Int->Option (Cur×ByteArray)
 |0,_,_,_=>none
 |k+1,x0,x3,x4=>bif (decide (x4 > 0))then(bif (!Qi x3 (⟨#[]⟩:ByteArray))then(bif Nat.ble (x3.size+(⟨#[32]⟩:ByteArray).size) 9223372036854775807 then((Z34.F x0 ([(⟨#[84,104,101]⟩:ByteArray),(⟨#[74,111,117,114,110,97,108]⟩:ByteArray),(⟨#[111,102]⟩:ByteArray),(⟨#[72,105,115,116,111,114,121]⟩:ByteArray),(⟨#[115,99,105,101,110,99,101]⟩:ByteArray),(⟨#[73,110,116,101,114,110,97,116,105,111,110,97,108]⟩:ByteArray),(⟨#[82,101,118,105,101,119]⟩:ByteArray),(⟨#[97,110,100]⟩:ByteArray),(⟨#[76,101,116,116,101,114,115]⟩:ByteArray),(⟨#[65]⟩:ByteArray),(⟨#[101,45,83,99,105,101,110,99,101]⟩:ByteArray),(⟨#[73,78,84]⟩:ByteArray)]:List ByteArray)).bind λr2=>bif Nat.ble ((x3++(⟨#[32]⟩:ByteArray)).size+r2.2.size) 9223372036854775807 then(Z25.l0 k r2.1 ((x3++(⟨#[32]⟩:ByteArray))++r2.2) (IntKind.wrap .i64 (x4-1)))else none)else none)else((Z34.F x0 ([(⟨#[84,104,101]⟩:ByteArray),(⟨#[74,111,117,114,110,97,108]⟩:ByteArray),(⟨#[111,102]⟩:ByteArray),(⟨#[72,105,115,116,111,114,121]⟩:ByteArray),(⟨#[115,99,105,101,110,99,101]⟩:ByteArray),(⟨#[73,110,116,101,114,110,97,116,105,111,110,97,108]⟩:ByteArray),(⟨#[82,101,118,105,101,119]⟩:ByteArray),(⟨#[97,110,100]⟩:ByteArray),(⟨#[76,101,116,116,101,114,115]⟩:ByteArray),(⟨#[65]⟩:ByteArray),(⟨#[101,45,83,99,105,101,110,99,101]⟩:ByteArray),(⟨#[73,78,84]⟩:ByteArray)]:List ByteArray)).bind λr3=>bif Nat.ble (x3.size+r3.2.size) 9223372036854775807 then(Z25.l0 k r3.1 (x3++r3.2) (IntKind.wrap .i64 (x4-1)))else none))else(some (x0,x3))
def Z25.F (k:Nat)(a0:Cur):Option (Cur×ByteArray):=(Z35.F a0 5).bind λr1=>(Z25.l0 k r1.1 (⟨#[]⟩:ByteArray) (IntKind.wrap .i64 (1+r1.2))).bind λy4=>bif (decide ((y4.2.size:Int) > 40))then(bif decide (0<=20)then(bif decide (20<=(y4.2.size:Int))then(bif Nat.ble ((y4.2.extract 0 (20:Int).toNat).size+(⟨#[120]⟩:ByteArray).size) 9223372036854775807 then((Z35.F y4.1 40).bind λr5=>bif (r5.2==0)then(some (r5.1,(⟨#[]⟩:ByteArray)))else(bif (r5.2==1)then((Z34.F r5.1 ([(⟨#[32]⟩:ByteArray),(⟨#[9]⟩:ByteArray)]:List ByteArray)).bind λr6=>bif Nat.ble (((y4.2.extract 0 (20:Int).toNat)++(⟨#[120]⟩:ByteArray)).size+r6.2.size) 9223372036854775807 then(some (r6.1,(((y4.2.extract 0 (20:Int).toNat)++(⟨#[120]⟩:ByteArray))++r6.2)))else none)else(bif (r5.2==2)then(some (r5.1,(⟨#[111,102,32,32,84,104,101]⟩:ByteArray)))else(some (r5.1,((y4.2.extract 0 (20:Int).toNat)++(⟨#[120]⟩:ByteArray)))))))else none)else none)else none)else((Z35.F y4.1 40).bind λr7=>bif (r7.2==0)then(some (r7.1,(⟨#[]⟩:ByteArray)))else(bif (r7.2==1)then((Z34.F r7.1 ([(⟨#[32]⟩:ByteArray),(⟨#[9]⟩:ByteArray)]:List ByteArray)).bind λr8=>bif Nat.ble (y4.2.size+r8.2.size) 9223372036854775807 then(some (r8.1,(y4.2++r8.2)))else none)else(bif (r7.2==2)then(some (r7.1,(⟨#[111,102,32,32,84,104,101]⟩:ByteArray)))else(some (r7.1,y4.2)))))
def Z25.C (k:Nat):Cal->Option CArm:=λc=>match c with
 |.f 42=>some (.m (.bx .cur) [(.int .i64)] _ (λx0 x=>Z35.F x0 x.1) (λr=>.kep (.bx .cur r.1) (.t (.int .i64) r.2)))
 |.f 20=>some (.m (.bx .cur) [(.sl .str)] _ (λx0 x=>Z34.F x0 x.1) (λr=>.kep (.bx .cur r.1) (.t .str r.2)))
 |_=>none
def Z25.sp0:List Sp:=[.boxT 0 1099511627776 .cur,.t 3 .str,.t 4 (.int .i64)]
def Z25.sp0_0:List Sp:=[.boxT 0 1099511627776 .cur,.t 3 .str]
def Z25.A0:LArm:=.one Z25.sp0 Z25.sp0_0 (Cur×ByteArray) (λk x=>Z25.l0 k x.1 x.2.1 x.2.2.1) (.exit 0) (λy=>(y.1,y.2,())) (λx=>(x.1,x.2.1))
def Z25.L:Nat->Option LArm:=λb=>match b with
 |0=>some Z25.A0
 |_=>none
theorem Z25.run (k:Nat)(a0:Cur):Kr Q0 (Qf (Z25.C k)) (Qd 41 k Z25.L) Tryz.f29 Q7 (.bx .cur a0) [] (G4 (.bx .cur) (Qh (.t .str)))=Z25.F k a0:=by kernel_rfl
theorem Z25.step0 (k:Nat)(x0:Cur)(x3:ByteArray)(x4:Int):QO Q0 (Qf (Z25.C k)) (Qd 41 k Z25.L) 0 (Qr Tryz.f29 0) (Jf 41 Z25.sp0 (x0,x3,x4,())) (Z25.A0.cont 41 k)=Z25.l0 (k+1) x0 x3 x4:=by kernel_rfl
theorem Z25.G (hE:EnvOk Tryz.prog Q0)(pv:Nat->Value)(k:Nat):∀cal A,Z25.C k cal=some A->Qe Tryz.prog Q0 pv cal A:=by
 intro cal A h
 unfold Z25.C at h
 split at h
 ·cases h;exact⟨_,rfl,λx0 x y hy=>Z35.good hE pv x0 x.1 hy⟩
 ·cases h;exact⟨_,rfl,λx0 x y hy=>Z34.good hE pv x0 x.1 hy⟩
 ·cases h
theorem Z25.good (hE:EnvOk Tryz.prog Q0)(pv:Nat->Value)(k:Nat)(a0:Cur){y:_}(h:Z25.F k a0=some y):J0 Tryz.prog Q0 pv 29 (.bx .cur a0) (Qb [] (())) (.kep (.bx .cur y.1) (.t .str y.2)):=
 YQ hE (t:=Z25.C) k (λk _=>Z25.G hE pv k) (f:=29) (fn:=Tryz.f29) (by kernel_rfl) rfl (by kernel_rfl) (.inl rfl) (by kernel_rfl) (lt:=Z25.L) (by kernel_rfl) (λb A h=>by
  unfold Z25.L at h;split at h
  ·cases h;exact⟨by kernel_rfl,by kernel_rfl,λ_=>rfl,λ_=>rfl⟩
  ·cases h) (λb A h=>by
  unfold Z25.L at h;split at h
  ·cases h;exact λk x=>Z25.step0 k x.1 x.2.1 x.2.2.1
  ·cases h) ((Z25.run k a0).trans h) (λr hr=>Um (λr y h=>Q6 h) hr)
def Z53.F (k:Nat)(a0:List Int):Option ((List Abbr)×ByteArray):=(Z4.F k (⟨a0,0,0⟩:Cur)).bind λr1=>(Z25.F k r1.1).bind λr2=>some (r1.2,r2.2)
def Z53.C (k:Nat):Cal->Option CArm:=λc=>match c with
 |.f 19=>some (.m (.bx .cur) [] _ (λx0 x=>Z4.F k x0) (λr=>.kep (.bx .cur r.1) (.fr 26 .abbr r.2)))
 |.f 29=>some (.m (.bx .cur) [] _ (λx0 x=>Z25.F k x0) (λr=>.kep (.bx .cur r.1) (.t .str r.2)))
 |_=>none
theorem Z53.run (k:Nat)(a0:List Int):QB Q0 (Qf (Z53.C k)) (Qd 14 0 (λ_=>none)) Tryz.f10 [.t (.sl (.int .u8)) a0] (JE (.fr 26 .abbr) (.t .str))=Z53.F k a0:=by kernel_rfl
theorem Z53.G (hE:EnvOk Tryz.prog Q0)(pv:Nat->Value)(k:Nat):∀cal A,Z53.C k cal=some A->Qe Tryz.prog Q0 pv cal A:=by
 intro cal A h
 unfold Z53.C at h
 split at h
 ·cases h;exact⟨_,rfl,λx0 x y hy=>Z4.good hE pv k x0 hy⟩
 ·cases h;exact⟨_,rfl,λx0 x y hy=>Z25.good hE pv k x0 hy⟩
 ·cases h
theorem Z53.good (hE:EnvOk Tryz.prog Q0)(pv:Nat->Value)(k:Nat)(a0:List Int){y:_}(h:Z53.F k a0=some y):Qa Tryz.prog Q0 pv (.f 10) (Qb [(.sl (.int .u8))] (a0,())) (.tup [.fr 26 .abbr y.1,.t .str y.2]):=
 Qc hE (Z53.G hE pv k) (f:=10) (fn:=Tryz.f10) (by kernel_rfl) rfl (by kernel_rfl) (by kernel_rfl) ((Z53.run k a0).trans h) (λr hr=>J5 hr)
def Z81.F (a0:ByteArray)(a1:ByteArray):Option (ByteArray):=Q28 a0 a1
theorem Z81.good (hE:EnvOk Tryz.prog Q0)(pv:Nat->Value)(a0:ByteArray)(a1:ByteArray){y:_}(h:Z81.F a0 a1=some y):Qa Tryz.prog Q0 pv (.f 77) (Qb [.str,.str] (a0,a1,())) (.t .str y):=
 Q5J (fn:=Tryz.f77) (by kernel_rfl) rfl (by kernel_rfl) Tryz.strings_Trim_one h
def Z26.l0:Nat->ByteArray->Int->Option (Sum Bool ByteArray)
 |0,_,_=>none
 |k+1,x0,x3=>bif (decide (x3<(x0.size:Int)))then(bif decide (0<=x3)then(bif decide (x3<(x0.size:Int))then(bif (decide ((bt x0 (x3:Int).toNat)<32))then(some (.inl false))else(bif decide (0<=x3)then(bif decide (x3<(x0.size:Int))then(bif (decide ((bt x0 (x3:Int).toNat) > 126))then(some (.inl false))else(Z26.l0 k x0 (IntKind.wrap .i64 (x3+1))))else none)else none))else none)else none)else(some (.inr x0))
def Z26.F (k:Nat)(a0:ByteArray):Option (Bool):=(Z26.l0 k a0 0).bind λy1=>match y1 with|.inl z2=>some z2|.inr z2=>(Z81.F z2 (⟨#[32]⟩:ByteArray)).bind λr3=>some (Qi r3 z2)
def Z26.C (k:Nat):Cal->Option CArm:=λc=>match c with
 |.f 77=>some (.p [.str,.str] _ (λx=>Z81.F x.1 x.2.1) (λr=>(.t .str r)))
 |_=>none
def Z26.sp0:List Sp:=[.t 0 .str,.t 3 (.int .i64)]
def Z26.sp0_0:List Sp:=[.t 2 .bool]
def Z26.sp0_1:List Sp:=[.t 0 .str]
def Z26.A0:LArm:=.two Z26.sp0 Z26.sp0_0 Z26.sp0_1 (Bool) (ByteArray) (λk x=>Z26.l0 k x.1 x.2.1) .ret (.exit 0) (λy=>(y,())) (λx=>x.1) (λy=>(y,())) (λx=>x.1)
def Z26.L:Nat->Option LArm:=λb=>match b with
 |0=>some Z26.A0
 |_=>none
theorem Z26.run (k:Nat)(a0:ByteArray):QB Q0 (Qf (Z26.C k)) (Qd 24 k Z26.L) Tryz.f53 [.t .str a0] (Qh (.t .bool))=Z26.F k a0:=by kernel_rfl
theorem Z26.step0 (k:Nat)(x0:ByteArray)(x3:Int):QO Q0 (Qf (Z26.C k)) (Qd 24 k Z26.L) 0 (Qr Tryz.f53 0) (Jf 24 Z26.sp0 (x0,x3,())) (Z26.A0.cont 24 k)=Z26.l0 (k+1) x0 x3:=by kernel_rfl
theorem Z26.G (hE:EnvOk Tryz.prog Q0)(pv:Nat->Value)(k:Nat):∀cal A,Z26.C k cal=some A->Qe Tryz.prog Q0 pv cal A:=by
 intro cal A h
 unfold Z26.C at h
 split at h
 ·cases h;exact λx y hy=>Z81.good hE pv x.1 x.2.1 hy
 ·cases h
theorem Z26.good (hE:EnvOk Tryz.prog Q0)(pv:Nat->Value)(k:Nat)(a0:ByteArray){y:_}(h:Z26.F k a0=some y):Qa Tryz.prog Q0 pv (.f 53) (Qb [.str] (a0,())) (.t .bool y):=
 Qm hE (t:=Z26.C) k (λk _=>Z26.G hE pv k) (f:=53) (fn:=Tryz.f53) (by kernel_rfl) rfl (by kernel_rfl) (by kernel_rfl) (lt:=Z26.L) (by kernel_rfl) (λb A h=>by
  unfold Z26.L at h;split at h
  ·cases h;exact⟨by kernel_rfl,by kernel_rfl,by kernel_rfl,λ_=>rfl,λ_=>rfl,λ_=>rfl⟩
  ·cases h) (λb A h=>by
  unfold Z26.L at h;split at h
  ·cases h;exact λk x=>Z26.step0 k x.1 x.2.1
  ·cases h) ((Z26.run k a0).trans h) (λr hr=>Q6 hr)
def Z44.F (k:Nat)(a0:ByteArray):Option (Bool):=bif (decide ((a0.size:Int)<=40))then((Z26.F k a0).bind λr1=>some r1)else(some false)
def Z44.C (k:Nat):Cal->Option CArm:=λc=>match c with
 |.f 53=>some (.p [.str] _ (λx=>Z26.F k x.1) (λr=>(.t .bool r)))
 |_=>none
theorem Z44.run (k:Nat)(a0:ByteArray):QB Q0 (Qf (Z44.C k)) (Qd 10 0 (λ_=>none)) Tryz.f30 [.t .str a0] (Qh (.t .bool))=Z44.F k a0:=by kernel_rfl
theorem Z44.G (hE:EnvOk Tryz.prog Q0)(pv:Nat->Value)(k:Nat):∀cal A,Z44.C k cal=some A->Qe Tryz.prog Q0 pv cal A:=by
 intro cal A h
 unfold Z44.C at h
 split at h
 ·cases h;exact λx y hy=>Z26.good hE pv k x.1 hy
 ·cases h
theorem Z44.good (hE:EnvOk Tryz.prog Q0)(pv:Nat->Value)(k:Nat)(a0:ByteArray){y:_}(h:Z44.F k a0=some y):Qa Tryz.prog Q0 pv (.f 30) (Qb [.str] (a0,())) (.t .bool y):=
 Qc hE (Z44.G hE pv k) (f:=30) (fn:=Tryz.f30) (by kernel_rfl) rfl (by kernel_rfl) (by kernel_rfl) ((Z44.run k a0).trans h) (λr hr=>Q6 hr)
def Z82.F (a0:ByteArray)(a1:ByteArray):Option (List ByteArray):=Q27 a0 a1
theorem Z82.good (hE:EnvOk Tryz.prog Q0)(pv:Nat->Value)(a0:ByteArray)(a1:ByteArray){y:_}(h:Z82.F a0 a1=some y):Qa Tryz.prog Q0 pv (.f 81) (Qb [.str,.str] (a0,a1,())) (.fr 9 .str y):=
 Q5I (fn:=Tryz.f81) (by kernel_rfl) rfl (by kernel_rfl) (mx:=0) (by kernel_rfl) Tryz.strings_Split h
def Z47.F (a0:ByteArray):Option (Bool):=some (Qi a0 (⟨#[]⟩:ByteArray))
def Z47.C:Cal->Option CArm:=λc=>match c with
 |_=>none
theorem Z47.run (a0:ByteArray):QB Q0 (Qf Z47.C) (Qd 5 0 (λ_=>none)) Tryz.f82 [.t .str a0] (Qh (.t .bool))=Z47.F a0:=by kernel_rfl
theorem Z47.G (hE:EnvOk Tryz.prog Q0)(pv:Nat->Value):∀cal A,Z47.C cal=some A->Qe Tryz.prog Q0 pv cal A:=by
 intro cal A h
 unfold Z47.C at h
 cases h
theorem Z47.good (hE:EnvOk Tryz.prog Q0)(pv:Nat->Value)(a0:ByteArray){y:_}(h:Z47.F a0=some y):Qa Tryz.prog Q0 pv (.f 82) (Qb [.str] (a0,())) (.t .bool y):=
 Qc hE (Z47.G hE pv) (f:=82) (fn:=Tryz.f82) (by kernel_rfl) rfl (by kernel_rfl) (by kernel_rfl) ((Z47.run a0).trans h) (λr hr=>Q6 hr)
def Z28.l0:Nat->(List ByteArray)->Int->Int->Option (Sum Int Unit)
 |0,_,_,_=>none
 |k+1,x0,x7,x8=>bif (decide (x8<x7))then(bif decide (0<=x8)then(bif decide (x8<(x0.length:Int))then((Z47.F (x0.getD (x8:Int).toNat (⟨#[]⟩:ByteArray))).bind λr1=>bif r1 then(some (.inl x8))else(Z28.l0 k x0 x7 (IntKind.wrap .i64 (x8+1))))else none)else none)else(some (.inr ()))
def Z28.F (k:Nat)(a0:List ByteArray):Option (Int):=(Z28.l0 k a0 (a0.length:Int) 0).bind λy2=>match y2 with|.inl z3=>some z3|.inr z3=>some (-1)
def Z28.C (k:Nat):Cal->Option CArm:=λc=>match c with
 |.f 82=>some (.p [.str] _ (λx=>Z47.F x.1) (λr=>(.t .bool r)))
 |_=>none
def Z28.sp0:List Sp:=[.t 0 (.sl .str),.con 1 (.clo 82),.t 7 (.int .i64),.t 8 (.int .i64)]
def Z28.sp0_0:List Sp:=[.t 4 (.int .i64)]
def Z28.sp0_1:List Sp:=[]
def Z28.A0:LArm:=.two Z28.sp0 Z28.sp0_0 Z28.sp0_1 (Int) (Unit) (λk x=>Z28.l0 k x.1 x.2.2.1 x.2.2.2.1) .ret (.exit 0) (λy=>(y,())) (λx=>x.1) (λy=>()) (λx=>())
def Z28.L:Nat->Option LArm:=λb=>match b with
 |0=>some Z28.A0
 |_=>none
theorem Z28.run (k:Nat)(a0:List ByteArray):QB Q0 (Qf (Z28.C k)) (Qd 19 k Z28.L) Tryz.f59 [.t (.sl .str) a0,.clo 82 []] (Qh (.t (.int .i64)))=Z28.F k a0:=by kernel_rfl
theorem Z28.step0 (k:Nat)(x0:List ByteArray)(x7:Int)(x8:Int):QO Q0 (Qf (Z28.C k)) (Qd 19 k Z28.L) 0 (Qr Tryz.f59 0) (Jf 19 Z28.sp0 (x0,(),x7,x8,())) (Z28.A0.cont 19 k)=Z28.l0 (k+1) x0 x7 x8:=by kernel_rfl
theorem Z28.G (hE:EnvOk Tryz.prog Q0)(pv:Nat->Value)(k:Nat):∀cal A,Z28.C k cal=some A->Qe Tryz.prog Q0 pv cal A:=by
 intro cal A h
 unfold Z28.C at h
 split at h
 ·cases h;exact λx y hy=>Z47.good hE pv x.1 hy
 ·cases h
theorem Z28.good (hE:EnvOk Tryz.prog Q0)(pv:Nat->Value)(k:Nat)(a0:List ByteArray){y:_}(h:Z28.F k a0=some y):Qa Tryz.prog Q0 pv (.f 59) (Ys [.t (.sl .str),.clo 82 []] (a0,(()),())) (.t (.int .i64) y):=
 Qm hE (t:=Z28.C) k (λk _=>Z28.G hE pv k) (f:=59) (fn:=Tryz.f59) (by kernel_rfl) rfl (by kernel_rfl) (by kernel_rfl) (lt:=Z28.L) (by kernel_rfl) (λb A h=>by
  unfold Z28.L at h;split at h
  ·cases h;exact⟨by kernel_rfl,by kernel_rfl,by kernel_rfl,λ_=>rfl,λ_=>rfl,λ_=>rfl⟩
  ·cases h) (λb A h=>by
  unfold Z28.L at h;split at h
  ·cases h;exact λk x=>Z28.step0 k x.1 x.2.2.1 x.2.2.2.1
  ·cases h) ((Z28.run k a0).trans h) (λr hr=>Q6 hr)
def Z32.l0:Nat->(List ByteArray)->Int->Int->Option ((List ByteArray)×Int)
 |0,_,_,_=>none
 |k+1,x0,x5,x6=>bif (decide (x6<(x0.length:Int)))then(bif decide (0<=x6)then(bif decide (x6<(x0.length:Int))then((Z47.F (x0.getD ((x6:Int).toNat) (⟨#[]⟩:ByteArray))).bind λr2=>bif (!r2)then(bif decide (0<=x5)then(bif decide (x5<(x0.length:Int))then(Z32.l0 k (x0.set ((x5:Int).toNat) (x0.getD ((x6:Int).toNat) (⟨#[]⟩:ByteArray))) (IntKind.wrap .i64 (x5+1)) (IntKind.wrap .i64 (x6+1)))else none)else none)else(Z32.l0 k x0 x5 (IntKind.wrap .i64 (x6+1))))else none)else none)else(some (x0,x5))
def Z32.F (k:Nat)(a0:List ByteArray):Option (List ByteArray):=(Z28.F k a0).bind λr1=>bif (r1==(-1))then(some a0)else((Z32.l0 k a0 r1 (IntKind.wrap .i64 (r1+1))).bind λy3=>bif decide (0<=y3.2)then(bif decide (y3.2<=(y3.1.length:Int))then(bif decide (0<=y3.2)then(bif decide (y3.2<=((y3.1.take ((y3.2:Int).toNat)++List.replicate (y3.1.length-((y3.2:Int).toNat)) (⟨#[]⟩:ByteArray)).length:Int))then(some ((y3.1.take ((y3.2:Int).toNat)++List.replicate (y3.1.length-((y3.2:Int).toNat)) (⟨#[]⟩:ByteArray)).take (y3.2:Int).toNat))else none)else none)else none)else none)
def Z32.C (k:Nat):Cal->Option CArm:=λc=>match c with
 |.f 59=>some (.q [.t (.sl .str),.clo 82 []] _ (λx=>Z28.F k x.1) (λr=>(.t (.int .i64) r)))
 |.f 82=>some (.p [.str] _ (λx=>Z47.F x.1) (λr=>(.t .bool r)))
 |_=>none
def Z32.sp0:List Sp:=[.own 0 1099511627777 9 .str false true,.con 1 (.clo 82),.t 5 (.int .i64),.t 6 (.int .i64)]
def Z32.sp0_0:List Sp:=[.own 0 1099511627777 9 .str false true,.t 5 (.int .i64)]
def Z32.A0:LArm:=.one Z32.sp0 Z32.sp0_0 ((List ByteArray)×Int) (λk x=>Z32.l0 k x.1 x.2.2.1 x.2.2.2.1) (.exit 0) (λy=>(y.1,y.2,())) (λx=>(x.1,x.2.1))
def Z32.L:Nat->Option LArm:=λb=>match b with
 |0=>some Z32.A0
 |_=>none
theorem Z32.run (k:Nat)(a0:List ByteArray):Kr Q0 (Qf (Z32.C k)) (Qd 42 k Z32.L) Tryz.f35 XH (.fr 9 .str a0) [.clo 82 []] (KV 9 .str)=Z32.F k a0:=by kernel_rfl
theorem Z32.step0 (k:Nat)(x0:List ByteArray)(x5:Int)(x6:Int):QO Q0 (Qf (Z32.C k)) (Qd 42 k Z32.L) 0 (Qr Tryz.f35 0) (Jf 42 Z32.sp0 (x0,(),x5,x6,())) (Z32.A0.cont 42 k)=Z32.l0 (k+1) x0 x5 x6:=by kernel_rfl
theorem Z32.G (hE:EnvOk Tryz.prog Q0)(pv:Nat->Value)(k:Nat):∀cal A,Z32.C k cal=some A->Qe Tryz.prog Q0 pv cal A:=by
 intro cal A h
 unfold Z32.C at h
 split at h
 ·cases h;exact λx y hy=>Z28.good hE pv k x.1 hy
 ·cases h;exact λx y hy=>Z47.good hE pv x.1 hy
 ·cases h
theorem Z32.good (hE:EnvOk Tryz.prog Q0)(pv:Nat->Value)(k:Nat)(a0:List ByteArray){y:_}(h:Z32.F k a0=some y):J0 Tryz.prog Q0 pv 35 (.fr 9 .str a0) (Ys [.clo 82 []] ((()),())) (.mov 9 .str y):=
 YQ hE (t:=Z32.C) k (λk _=>Z32.G hE pv k) (f:=35) (fn:=Tryz.f35) (by kernel_rfl) rfl (by kernel_rfl) (.inr rfl) (by kernel_rfl) (lt:=Z32.L) (by kernel_rfl) (λb A h=>by
  unfold Z32.L at h;split at h
  ·cases h;exact⟨by kernel_rfl,by kernel_rfl,λ_=>rfl,λ_=>rfl⟩
  ·cases h) (λb A h=>by
  unfold Z32.L at h;split at h
  ·cases h;exact λk x=>Z32.step0 k x.1 x.2.2.1 x.2.2.2.1
  ·cases h) ((Z32.run k a0).trans h) (λr hr=>XY hr)
def Z67.F (k:Nat)(a0:ByteArray):Option (List ByteArray):=(Z82.F a0 (⟨#[32]⟩:ByteArray)).bind λr1=>(Z32.F k r1).bind λr2=>some r2
def Z67.C (k:Nat):Cal->Option CArm:=λc=>match c with
 |.f 81=>some (.p [.str,.str] _ (λx=>Z82.F x.1 x.2.1) (λr=>(.fr 9 .str r)))
 |.f 35=>some (.mq (.fr 9 .str) [.clo 82 []] _ (λx0 x=>Z32.F k x0) (λr=>.mov 9 .str r))
 |_=>none
theorem Z67.run (k:Nat)(a0:ByteArray):QB Q0 (Qf (Z67.C k)) (Qd 6 0 (λ_=>none)) Tryz.f56 [.t .str a0] (Qh (.fr 9 .str))=Z67.F k a0:=by kernel_rfl
theorem Z67.G (hE:EnvOk Tryz.prog Q0)(pv:Nat->Value)(k:Nat):∀cal A,Z67.C k cal=some A->Qe Tryz.prog Q0 pv cal A:=by
 intro cal A h
 unfold Z67.C at h
 split at h
 ·cases h;exact λx y hy=>Z82.good hE pv x.1 x.2.1 hy
 ·cases h;exact⟨_,rfl,λx0 x y hy=>Z32.good hE pv k x0 hy⟩
 ·cases h
theorem Z67.good (hE:EnvOk Tryz.prog Q0)(pv:Nat->Value)(k:Nat)(a0:ByteArray){y:_}(h:Z67.F k a0=some y):Qa Tryz.prog Q0 pv (.f 56) (Qb [.str] (a0,())) (.fr 9 .str y):=
 Qc hE (Z67.G hE pv k) (f:=56) (fn:=Tryz.f56) (by kernel_rfl) rfl (by kernel_rfl) (by kernel_rfl) ((Z67.run k a0).trans h) (λr hr=>Q6 hr)
def Z83.F (a0:List ByteArray):Option (List ByteArray):=Q29 a0
theorem Z83.good (hE:EnvOk Tryz.prog Q0)(pv:Nat->Value)(a0:List ByteArray){y:_}(h:Z83.F a0=some y):Qa Tryz.prog Q0 pv (.f 57) (Qb [(.sl .str)] (a0,())) (.fr 9 .str y):=
 Q5K (fn:=Tryz.f57) (by kernel_rfl) rfl (by kernel_rfl) Tryz.slices_Clone_string Tryz.slices_Clone_string_nil Tryz.slices_Clone_string_zero h
def Z45.F (k:Nat)(a0:ByteArray):Option (Bool):=(Z13.F k a0).bind λr1=>bif (Qi r1 (⟨#[97]⟩:ByteArray))then(bif (Qi r1 (⟨#[97]⟩:ByteArray))then(some true)else(some false))else(bif (Qi r1 (⟨#[97,110]⟩:ByteArray))then(bif (Qi r1 (⟨#[97,110]⟩:ByteArray))then(some true)else(some false))else(bif (Qi r1 (⟨#[97,110,100]⟩:ByteArray))then(bif (Qi r1 (⟨#[97,110,100]⟩:ByteArray))then(some true)else(some false))else(bif (Qi r1 (⟨#[102,111,114]⟩:ByteArray))then(bif (Qi r1 (⟨#[102,111,114]⟩:ByteArray))then(some true)else(some false))else(bif (Qi r1 (⟨#[105,110]⟩:ByteArray))then(bif (Qi r1 (⟨#[105,110]⟩:ByteArray))then(some true)else(some false))else(bif (Qi r1 (⟨#[111,102]⟩:ByteArray))then(bif (Qi r1 (⟨#[111,102]⟩:ByteArray))then(some true)else(some false))else(bif (Qi r1 (⟨#[111,110]⟩:ByteArray))then(bif (Qi r1 (⟨#[111,110]⟩:ByteArray))then(some true)else(some false))else(bif (Qi r1 (⟨#[116,104,101]⟩:ByteArray))then(some true)else(some false))))))))
def Z45.C (k:Nat):Cal->Option CArm:=λc=>match c with
 |.f 71=>some (.p [.str] _ (λx=>Z13.F k x.1) (λr=>(.t .str r)))
 |_=>none
theorem Z45.run (k:Nat)(a0:ByteArray):QB Q0 (Qf (Z45.C k)) (Qd 14 0 (λ_=>none)) Tryz.f58 [.t .str a0] (Qh (.t .bool))=Z45.F k a0:=by kernel_rfl
theorem Z45.G (hE:EnvOk Tryz.prog Q0)(pv:Nat->Value)(k:Nat):∀cal A,Z45.C k cal=some A->Qe Tryz.prog Q0 pv cal A:=by
 intro cal A h
 unfold Z45.C at h
 split at h
 ·cases h;exact λx y hy=>Z13.good hE pv k x.1 hy
 ·cases h
theorem Z45.good (hE:EnvOk Tryz.prog Q0)(pv:Nat->Value)(k:Nat)(a0:ByteArray){y:_}(h:Z45.F k a0=some y):Qa Tryz.prog Q0 pv (.f 58) (Qb [.str] (a0,())) (.t .bool y):=
 Qc hE (Z45.G hE pv k) (f:=58) (fn:=Tryz.f58) (by kernel_rfl) rfl (by kernel_rfl) (by kernel_rfl) ((Z45.run k a0).trans h) (λr hr=>Q6 hr)
def Z29.l0:Nat->(List ByteArray)->Int->Int->Option (Sum Int Unit)
 |0,_,_,_=>none
 |k+1,x0,x7,x8=>bif (decide (x8<x7))then(bif decide (0<=x8)then(bif decide (x8<(x0.length:Int))then((Z45.F k (x0.getD (x8:Int).toNat (⟨#[]⟩:ByteArray))).bind λr1=>bif r1 then(some (.inl x8))else(Z29.l0 k x0 x7 (IntKind.wrap .i64 (x8+1))))else none)else none)else(some (.inr ()))
def Z29.F (k:Nat)(a0:List ByteArray):Option (Int):=(Z29.l0 k a0 (a0.length:Int) 0).bind λy2=>match y2 with|.inl z3=>some z3|.inr z3=>some (-1)
def Z29.C (k:Nat):Cal->Option CArm:=λc=>match c with
 |.f 58=>some (.p [.str] _ (λx=>Z45.F k x.1) (λr=>(.t .bool r)))
 |_=>none
def Z29.sp0:List Sp:=[.t 0 (.sl .str),.con 1 (.clo 58),.t 7 (.int .i64),.t 8 (.int .i64)]
def Z29.sp0_0:List Sp:=[.t 4 (.int .i64)]
def Z29.sp0_1:List Sp:=[]
def Z29.A0:LArm:=.two Z29.sp0 Z29.sp0_0 Z29.sp0_1 (Int) (Unit) (λk x=>Z29.l0 k x.1 x.2.2.1 x.2.2.2.1) .ret (.exit 0) (λy=>(y,())) (λx=>x.1) (λy=>()) (λx=>())
def Z29.L:Nat->Option LArm:=λb=>match b with
 |0=>some Z29.A0
 |_=>none
theorem Z29.run (k:Nat)(a0:List ByteArray):QB Q0 (Qf (Z29.C k)) (Qd 19 k Z29.L) Tryz.f59 [.t (.sl .str) a0,.clo 58 []] (Qh (.t (.int .i64)))=Z29.F k a0:=by kernel_rfl
theorem Z29.step0 (k:Nat)(x0:List ByteArray)(x7:Int)(x8:Int):QO Q0 (Qf (Z29.C k)) (Qd 19 k Z29.L) 0 (Qr Tryz.f59 0) (Jf 19 Z29.sp0 (x0,(),x7,x8,())) (Z29.A0.cont 19 k)=Z29.l0 (k+1) x0 x7 x8:=by kernel_rfl
theorem Z29.G (hE:EnvOk Tryz.prog Q0)(pv:Nat->Value)(k:Nat):∀cal A,Z29.C k cal=some A->Qe Tryz.prog Q0 pv cal A:=by
 intro cal A h
 unfold Z29.C at h
 split at h
 ·cases h;exact λx y hy=>Z45.good hE pv k x.1 hy
 ·cases h
theorem Z29.good (hE:EnvOk Tryz.prog Q0)(pv:Nat->Value)(k:Nat)(a0:List ByteArray){y:_}(h:Z29.F k a0=some y):Qa Tryz.prog Q0 pv (.f 59) (Ys [.t (.sl .str),.clo 58 []] (a0,(()),())) (.t (.int .i64) y):=
 Qm hE (t:=Z29.C) k (λk _=>Z29.G hE pv k) (f:=59) (fn:=Tryz.f59) (by kernel_rfl) rfl (by kernel_rfl) (by kernel_rfl) (lt:=Z29.L) (by kernel_rfl) (λb A h=>by
  unfold Z29.L at h;split at h
  ·cases h;exact⟨by kernel_rfl,by kernel_rfl,by kernel_rfl,λ_=>rfl,λ_=>rfl,λ_=>rfl⟩
  ·cases h) (λb A h=>by
  unfold Z29.L at h;split at h
  ·cases h;exact λk x=>Z29.step0 k x.1 x.2.2.1 x.2.2.2.1
  ·cases h) ((Z29.run k a0).trans h) (λr hr=>Q6 hr)
def Z33.l0:Nat->(List ByteArray)->Int->Int->Option ((List ByteArray)×Int)
 |0,_,_,_=>none
 |k+1,x0,x5,x6=>bif (decide (x6<(x0.length:Int)))then(bif decide (0<=x6)then(bif decide (x6<(x0.length:Int))then((Z45.F k (x0.getD ((x6:Int).toNat) (⟨#[]⟩:ByteArray))).bind λr2=>bif (!r2)then(bif decide (0<=x5)then(bif decide (x5<(x0.length:Int))then(Z33.l0 k (x0.set ((x5:Int).toNat) (x0.getD ((x6:Int).toNat) (⟨#[]⟩:ByteArray))) (IntKind.wrap .i64 (x5+1)) (IntKind.wrap .i64 (x6+1)))else none)else none)else(Z33.l0 k x0 x5 (IntKind.wrap .i64 (x6+1))))else none)else none)else(some (x0,x5))
def Z33.F (k:Nat)(a0:List ByteArray):Option (List ByteArray):=(Z29.F k a0).bind λr1=>bif (r1==(-1))then(some a0)else((Z33.l0 k a0 r1 (IntKind.wrap .i64 (r1+1))).bind λy3=>bif decide (0<=y3.2)then(bif decide (y3.2<=(y3.1.length:Int))then(bif decide (0<=y3.2)then(bif decide (y3.2<=((y3.1.take ((y3.2:Int).toNat)++List.replicate (y3.1.length-((y3.2:Int).toNat)) (⟨#[]⟩:ByteArray)).length:Int))then(some ((y3.1.take ((y3.2:Int).toNat)++List.replicate (y3.1.length-((y3.2:Int).toNat)) (⟨#[]⟩:ByteArray)).take (y3.2:Int).toNat))else none)else none)else none)else none)
def Z33.C (k:Nat):Cal->Option CArm:=λc=>match c with
 |.f 59=>some (.q [.t (.sl .str),.clo 58 []] _ (λx=>Z29.F k x.1) (λr=>(.t (.int .i64) r)))
 |.f 58=>some (.p [.str] _ (λx=>Z45.F k x.1) (λr=>(.t .bool r)))
 |_=>none
def Z33.sp0:List Sp:=[.own 0 1099511627777 9 .str false true,.con 1 (.clo 58),.t 5 (.int .i64),.t 6 (.int .i64)]
def Z33.sp0_0:List Sp:=[.own 0 1099511627777 9 .str false true,.t 5 (.int .i64)]
def Z33.A0:LArm:=.one Z33.sp0 Z33.sp0_0 ((List ByteArray)×Int) (λk x=>Z33.l0 k x.1 x.2.2.1 x.2.2.2.1) (.exit 0) (λy=>(y.1,y.2,())) (λx=>(x.1,x.2.1))
def Z33.L:Nat->Option LArm:=λb=>match b with
 |0=>some Z33.A0
 |_=>none
theorem Z33.run (k:Nat)(a0:List ByteArray):Kr Q0 (Qf (Z33.C k)) (Qd 42 k Z33.L) Tryz.f35 XH (.fr 9 .str a0) [.clo 58 []] (KV 9 .str)=Z33.F k a0:=by kernel_rfl
theorem Z33.step0 (k:Nat)(x0:List ByteArray)(x5:Int)(x6:Int):QO Q0 (Qf (Z33.C k)) (Qd 42 k Z33.L) 0 (Qr Tryz.f35 0) (Jf 42 Z33.sp0 (x0,(),x5,x6,())) (Z33.A0.cont 42 k)=Z33.l0 (k+1) x0 x5 x6:=by kernel_rfl
theorem Z33.G (hE:EnvOk Tryz.prog Q0)(pv:Nat->Value)(k:Nat):∀cal A,Z33.C k cal=some A->Qe Tryz.prog Q0 pv cal A:=by
 intro cal A h
 unfold Z33.C at h
 split at h
 ·cases h;exact λx y hy=>Z29.good hE pv k x.1 hy
 ·cases h;exact λx y hy=>Z45.good hE pv k x.1 hy
 ·cases h
theorem Z33.good (hE:EnvOk Tryz.prog Q0)(pv:Nat->Value)(k:Nat)(a0:List ByteArray){y:_}(h:Z33.F k a0=some y):J0 Tryz.prog Q0 pv 35 (.fr 9 .str a0) (Ys [.clo 58 []] ((()),())) (.mov 9 .str y):=
 YQ hE (t:=Z33.C) k (λk _=>Z33.G hE pv k) (f:=35) (fn:=Tryz.f35) (by kernel_rfl) rfl (by kernel_rfl) (.inr rfl) (by kernel_rfl) (lt:=Z33.L) (by kernel_rfl) (λb A h=>by
  unfold Z33.L at h;split at h
  ·cases h;exact⟨by kernel_rfl,by kernel_rfl,λ_=>rfl,λ_=>rfl⟩
  ·cases h) (λb A h=>by
  unfold Z33.L at h;split at h
  ·cases h;exact λk x=>Z33.step0 k x.1 x.2.2.1 x.2.2.2.1
  ·cases h) ((Z33.run k a0).trans h) (λr hr=>XY hr)
def Z54.F (k:Nat)(a0:ByteArray):Option ((List ByteArray)×Bool):=(Z67.F k a0).bind λr1=>bif (decide ((r1.length:Int)<=1))then(some (r1,false))else((Z83.F r1).bind λr2=>(Z33.F k r2).bind λr3=>bif ((r3.length:Int)==0)then(some (r1,true))else(some (r3,true)))
def Z54.C (k:Nat):Cal->Option CArm:=λc=>match c with
 |.f 56=>some (.p [.str] _ (λx=>Z67.F k x.1) (λr=>(.fr 9 .str r)))
 |.f 57=>some (.p [(.sl .str)] _ (λx=>Z83.F x.1) (λr=>(.fr 9 .str r)))
 |.f 35=>some (.mq (.fr 9 .str) [.clo 58 []] _ (λx0 x=>Z33.F k x0) (λr=>.mov 9 .str r))
 |_=>none
theorem Z54.run (k:Nat)(a0:ByteArray):QB Q0 (Qf (Z54.C k)) (Qd 20 0 (λ_=>none)) Tryz.f34 [.t .str a0] (JE (.fr 9 .str) (.t .bool))=Z54.F k a0:=by kernel_rfl
theorem Z54.G (hE:EnvOk Tryz.prog Q0)(pv:Nat->Value)(k:Nat):∀cal A,Z54.C k cal=some A->Qe Tryz.prog Q0 pv cal A:=by
 intro cal A h
 unfold Z54.C at h
 split at h
 ·cases h;exact λx y hy=>Z67.good hE pv k x.1 hy
 ·cases h;exact λx y hy=>Z83.good hE pv x.1 hy
 ·cases h;exact⟨_,rfl,λx0 x y hy=>Z33.good hE pv k x0 hy⟩
 ·cases h
theorem Z54.good (hE:EnvOk Tryz.prog Q0)(pv:Nat->Value)(k:Nat)(a0:ByteArray){y:_}(h:Z54.F k a0=some y):Qa Tryz.prog Q0 pv (.f 34) (Qb [.str] (a0,())) (.tup [.fr 9 .str y.1,.t .bool y.2]):=
 Qc hE (Z54.G hE pv k) (f:=34) (fn:=Tryz.f34) (by kernel_rfl) rfl (by kernel_rfl) (by kernel_rfl) ((Z54.run k a0).trans h) (λr hr=>J5 hr)
def Z79.F (a0:List ByteArray)(a1:ByteArray):Option (ByteArray):=Q4P a0 a1
theorem Z79.good (hE:EnvOk Tryz.prog Q0)(pv:Nat->Value)(a0:List ByteArray)(a1:ByteArray){y:_}(h:Z79.F a0 a1=some y):Qa Tryz.prog Q0 pv (.f 54) (Qb [(.sl .str),.str] (a0,a1,())) (.t .str y):=
 Q7g (fn:=Tryz.f54) (by kernel_rfl) rfl (by kernel_rfl) Tryz.strings_Join_none Tryz.strings_Join h
def Z9.l0:Nat->(List Abbr)->(List ByteArray)->Int->Int->Option ((List ByteArray))
 |0,_,_,_,_=>none
 |k+1,x0,x5,x15,x16=>bif (decide (x16<x15))then(bif decide (0<=x16)then(bif decide (x16<(x5.length:Int))then((Z40.F k x0 (x5.getD ((x16:Int).toNat) (⟨#[]⟩:ByteArray))).bind λr2=>bif decide (0<=x16)then(bif decide (x16<(x5.length:Int))then(Z9.l0 k x0 (x5.set ((x16:Int).toNat) r2) x15 (IntKind.wrap .i64 (x16+1)))else none)else none)else none)else none)else(some x5)
def Z9.F (k:Nat)(a0:List Abbr)(a1:ByteArray):Option (ByteArray):=(Z54.F k a1).bind λr1=>bif r1.2 then((Z9.l0 k a0 r1.1 (r1.1.length:Int) 0).bind λy3=>(Z79.F y3 (⟨#[32]⟩:ByteArray)).bind λr4=>some r4)else((Z79.F r1.1 (⟨#[32]⟩:ByteArray)).bind λr5=>some r5)
def Z9.C (k:Nat):Cal->Option CArm:=λc=>match c with
 |.f 34=>some (.p [.str] _ (λx=>Z54.F k x.1) (λr=>(.tup [.fr 9 .str r.1,.t .bool r.2])))
 |.f 27=>some (.p [(.sl .abbr),.str] _ (λx=>Z40.F k x.1 x.2.1) (λr=>(.t .str r)))
 |.f 54=>some (.p [(.sl .str),.str] _ (λx=>Z79.F x.1 x.2.1) (λr=>(.t .str r)))
 |_=>none
def Z9.sp0:List Sp:=[.t 0 (.sl .abbr),.own 5 1028 9 .str false true,.t 15 (.int .i64),.t 16 (.int .i64)]
def Z9.sp0_0:List Sp:=[.own 5 1028 9 .str false true]
def Z9.A0:LArm:=.one Z9.sp0 Z9.sp0_0 ((List ByteArray)) (λk x=>Z9.l0 k x.1 x.2.1 x.2.2.1 x.2.2.2.1) (.exit 0) (λy=>(y,())) (λx=>x.1)
def Z9.L:Nat->Option LArm:=λb=>match b with
 |0=>some Z9.A0
 |_=>none
theorem Z9.run (k:Nat)(a0:List Abbr)(a1:ByteArray):QB Q0 (Qf (Z9.C k)) (Qd 31 k Z9.L) Tryz.f31 [.t (.sl .abbr) a0,.t .str a1] (Qh (.t .str))=Z9.F k a0 a1:=by kernel_rfl
theorem Z9.step0 (k:Nat)(x0:List Abbr)(x5:List ByteArray)(x15:Int)(x16:Int):QO Q0 (Qf (Z9.C k)) (Qd 31 k Z9.L) 0 (Qr Tryz.f31 0) (Jf 31 Z9.sp0 (x0,x5,x15,x16,())) (Z9.A0.cont 31 k)=Z9.l0 (k+1) x0 x5 x15 x16:=by kernel_rfl
theorem Z9.G (hE:EnvOk Tryz.prog Q0)(pv:Nat->Value)(k:Nat):∀cal A,Z9.C k cal=some A->Qe Tryz.prog Q0 pv cal A:=by
 intro cal A h
 unfold Z9.C at h
 split at h
 ·cases h;exact λx y hy=>Z54.good hE pv k x.1 hy
 ·cases h;exact λx y hy=>Z40.good hE pv k x.1 x.2.1 hy
 ·cases h;exact λx y hy=>Z79.good hE pv x.1 x.2.1 hy
 ·cases h
theorem Z9.good (hE:EnvOk Tryz.prog Q0)(pv:Nat->Value)(k:Nat)(a0:List Abbr)(a1:ByteArray){y:_}(h:Z9.F k a0 a1=some y):Qa Tryz.prog Q0 pv (.f 31) (Qb [(.sl .abbr),.str] (a0,a1,())) (.t .str y):=
 Qm hE (t:=Z9.C) k (λk _=>Z9.G hE pv k) (f:=31) (fn:=Tryz.f31) (by kernel_rfl) rfl (by kernel_rfl) (by kernel_rfl) (lt:=Z9.L) (by kernel_rfl) (λb A h=>by
  unfold Z9.L at h;split at h
  ·cases h;exact⟨by kernel_rfl,by kernel_rfl,λ_=>rfl,λ_=>rfl⟩
  ·cases h) (λb A h=>by
  unfold Z9.L at h;split at h
  ·cases h;exact λk x=>Z9.step0 k x.1 x.2.1 x.2.2.1 x.2.2.2.1
  ·cases h) ((Z9.run k a0 a1).trans h) (λr hr=>Q6 hr)
def Z55.F (k:Nat)(a0:List Abbr)(a1:ByteArray):Option (ByteArray×Bool):=(Z1.F k a0).bind λr1=>bif (!r1)then(some ((⟨#[]⟩:ByteArray),false))else((Z44.F k a1).bind λr2=>bif (!r2)then(some ((⟨#[]⟩:ByteArray),false))else((Z9.F k a0 a1).bind λr3=>some (r3,true)))
def Z55.C (k:Nat):Cal->Option CArm:=λc=>match c with
 |.f 9=>some (.p [(.sl .abbr)] _ (λx=>Z1.F k x.1) (λr=>(.t .bool r)))
 |.f 30=>some (.p [.str] _ (λx=>Z44.F k x.1) (λr=>(.t .bool r)))
 |.f 31=>some (.p [(.sl .abbr),.str] _ (λx=>Z9.F k x.1 x.2.1) (λr=>(.t .str r)))
 |_=>none
theorem Z55.run (k:Nat)(a0:List Abbr)(a1:ByteArray):QB Q0 (Qf (Z55.C k)) (Qd 17 0 (λ_=>none)) Tryz.f11 [.t (.sl .abbr) a0,.t .str a1] (JE (.t .str) (.t .bool))=Z55.F k a0 a1:=by kernel_rfl
theorem Z55.G (hE:EnvOk Tryz.prog Q0)(pv:Nat->Value)(k:Nat):∀cal A,Z55.C k cal=some A->Qe Tryz.prog Q0 pv cal A:=by
 intro cal A h
 unfold Z55.C at h
 split at h
 ·cases h;exact λx y hy=>Z1.good hE pv k x.1 hy
 ·cases h;exact λx y hy=>Z44.good hE pv k x.1 hy
 ·cases h;exact λx y hy=>Z9.good hE pv k x.1 x.2.1 hy
 ·cases h
theorem Z55.good (hE:EnvOk Tryz.prog Q0)(pv:Nat->Value)(k:Nat)(a0:List Abbr)(a1:ByteArray){y:_}(h:Z55.F k a0 a1=some y):Qa Tryz.prog Q0 pv (.f 11) (Qb [(.sl .abbr),.str] (a0,a1,())) (.tup [.t .str y.1,.t .bool y.2]):=
 Qc hE (Z55.G hE pv k) (f:=11) (fn:=Tryz.f11) (by kernel_rfl) rfl (by kernel_rfl) (by kernel_rfl) ((Z55.run k a0 a1).trans h) (λr hr=>J5 hr)
def Z10.l0:Nat->ByteArray->Int->Option (Sum Bool ByteArray)
 |0,_,_=>none
 |k+1,x0,x3=>bif (decide (x3<(x0.size:Int)))then(bif decide (0<=x3)then(bif decide (x3<(x0.size:Int))then(bif (decide ((bt x0 (x3:Int).toNat)<32))then(some (.inl false))else(bif decide (0<=x3)then(bif decide (x3<(x0.size:Int))then(bif (decide ((bt x0 (x3:Int).toNat) > 126))then(some (.inl false))else(Z10.l0 k x0 (IntKind.wrap .i64 (x3+1))))else none)else none))else none)else none)else(some (.inr x0))
def Z10.F (k:Nat)(a0:ByteArray):Option (Bool):=bif (decide ((a0.size:Int) > 40))then(some false)else((Z10.l0 k a0 0).bind λy1=>match y1 with|.inl z2=>some z2|.inr z2=>bif (Qi z2 (⟨#[]⟩:ByteArray))then(some true)else(bif decide (0<=0)then(bif decide (0<(z2.size:Int))then(bif ((bt z2 (0:Int).toNat) != 32)then(bif decide (0<=(IntKind.wrap .i64 ((z2.size:Int)-1)))then(bif decide ((IntKind.wrap .i64 ((z2.size:Int)-1))<(z2.size:Int))then(some ((bt z2 ((IntKind.wrap .i64 ((z2.size:Int)-1)):Int).toNat) != 32))else none)else none)else(some false))else none)else none))
def Z10.C (k:Nat):Cal->Option CArm:=λc=>match c with
 |_=>none
def Z10.sp0:List Sp:=[.t 0 .str,.t 3 (.int .i64)]
def Z10.sp0_0:List Sp:=[.t 2 .bool]
def Z10.sp0_1:List Sp:=[.t 0 .str]
def Z10.A0:LArm:=.two Z10.sp0 Z10.sp0_0 Z10.sp0_1 (Bool) (ByteArray) (λk x=>Z10.l0 k x.1 x.2.1) .ret (.exit 0) (λy=>(y,())) (λx=>x.1) (λy=>(y,())) (λx=>x.1)
def Z10.L:Nat->Option LArm:=λb=>match b with
 |0=>some Z10.A0
 |_=>none
theorem Z10.run (k:Nat)(a0:ByteArray):QB Q0 (Qf (Z10.C k)) (Qd 38 k Z10.L) Tryz.f32 [.t .str a0] (Qh (.t .bool))=Z10.F k a0:=by kernel_rfl
theorem Z10.step0 (k:Nat)(x0:ByteArray)(x3:Int):QO Q0 (Qf (Z10.C k)) (Qd 38 k Z10.L) 0 (Qr Tryz.f32 0) (Jf 38 Z10.sp0 (x0,x3,())) (Z10.A0.cont 38 k)=Z10.l0 (k+1) x0 x3:=by kernel_rfl
theorem Z10.G (hE:EnvOk Tryz.prog Q0)(pv:Nat->Value)(k:Nat):∀cal A,Z10.C k cal=some A->Qe Tryz.prog Q0 pv cal A:=by
 intro cal A h
 unfold Z10.C at h
 cases h
theorem Z10.good (hE:EnvOk Tryz.prog Q0)(pv:Nat->Value)(k:Nat)(a0:ByteArray){y:_}(h:Z10.F k a0=some y):Qa Tryz.prog Q0 pv (.f 32) (Qb [.str] (a0,())) (.t .bool y):=
 Qm hE (t:=Z10.C) k (λk _=>Z10.G hE pv k) (f:=32) (fn:=Tryz.f32) (by kernel_rfl) rfl (by kernel_rfl) (by kernel_rfl) (lt:=Z10.L) (by kernel_rfl) (λb A h=>by
  unfold Z10.L at h;split at h
  ·cases h;exact⟨by kernel_rfl,by kernel_rfl,by kernel_rfl,λ_=>rfl,λ_=>rfl,λ_=>rfl⟩
  ·cases h) (λb A h=>by
  unfold Z10.L at h;split at h
  ·cases h;exact λk x=>Z10.step0 k x.1 x.2.1
  ·cases h) ((Z10.run k a0).trans h) (λr hr=>Q6 hr)
def Z5.l0:Nat->ByteArray->(List ByteArray)->Int->Int->Option ((List ByteArray))
 |0,_,_,_,_=>none
 |k+1,x0,x3,x4,x5=>bif (decide (x5<=(x0.size:Int)))then(bif (x5==(x0.size:Int))then(bif (decide (x5 > x4))then(bif decide (0<=x5)then(bif decide (x5<=(x0.size:Int))then(bif decide (0<=x4)then(bif decide (x4<=x5)then(bif room (x3.length+([(x0.extract (x4:Int).toNat (x5:Int).toNat)]:List ByteArray).length) .str then(Z5.l0 k x0 (x3++([(x0.extract (x4:Int).toNat (x5:Int).toNat)]:List ByteArray)) (IntKind.wrap .i64 (x5+1)) (IntKind.wrap .i64 (x5+1)))else none)else none)else none)else none)else none)else(Z5.l0 k x0 x3 (IntKind.wrap .i64 (x5+1)) (IntKind.wrap .i64 (x5+1))))else(bif decide (0<=x5)then(bif decide (x5<(x0.size:Int))then(bif ((bt x0 (x5:Int).toNat)==32)then(bif (decide (x5 > x4))then(bif decide (0<=x5)then(bif decide (x5<=(x0.size:Int))then(bif decide (0<=x4)then(bif decide (x4<=x5)then(bif room (x3.length+([(x0.extract (x4:Int).toNat (x5:Int).toNat)]:List ByteArray).length) .str then(Z5.l0 k x0 (x3++([(x0.extract (x4:Int).toNat (x5:Int).toNat)]:List ByteArray)) (IntKind.wrap .i64 (x5+1)) (IntKind.wrap .i64 (x5+1)))else none)else none)else none)else none)else none)else(Z5.l0 k x0 x3 (IntKind.wrap .i64 (x5+1)) (IntKind.wrap .i64 (x5+1))))else(Z5.l0 k x0 x3 x4 (IntKind.wrap .i64 (x5+1))))else none)else none))else(some x3)
def Z5.F (k:Nat)(a0:ByteArray):Option (List ByteArray):=(Z5.l0 k a0 ([]:List ByteArray) 0 0).bind λy1=>some y1
def Z5.C (k:Nat):Cal->Option CArm:=λc=>match c with
 |_=>none
def Z5.sp0:List Sp:=[.t 0 .str,.own 3 1024 9 .str false true,.t 4 (.int .i64),.t 5 (.int .i64)]
def Z5.sp0_0:List Sp:=[.own 3 1024 9 .str false true]
def Z5.A0:LArm:=.one Z5.sp0 Z5.sp0_0 ((List ByteArray)) (λk x=>Z5.l0 k x.1 x.2.1 x.2.2.1 x.2.2.2.1) (.exit 0) (λy=>(y,())) (λx=>x.1)
def Z5.L:Nat->Option LArm:=λb=>match b with
 |0=>some Z5.A0
 |_=>none
theorem Z5.run (k:Nat)(a0:ByteArray):QB Q0 (Qf (Z5.C k)) (Qd 36 k Z5.L) Tryz.f60 [.t .str a0] (Qh (.fr 9 .str))=Z5.F k a0:=by kernel_rfl
theorem Z5.step0 (k:Nat)(x0:ByteArray)(x3:List ByteArray)(x4:Int)(x5:Int):QO Q0 (Qf (Z5.C k)) (Qd 36 k Z5.L) 0 (Qr Tryz.f60 0) (Jf 36 Z5.sp0 (x0,x3,x4,x5,())) (Z5.A0.cont 36 k)=Z5.l0 (k+1) x0 x3 x4 x5:=by kernel_rfl
theorem Z5.G (hE:EnvOk Tryz.prog Q0)(pv:Nat->Value)(k:Nat):∀cal A,Z5.C k cal=some A->Qe Tryz.prog Q0 pv cal A:=by
 intro cal A h
 unfold Z5.C at h
 cases h
theorem Z5.good (hE:EnvOk Tryz.prog Q0)(pv:Nat->Value)(k:Nat)(a0:ByteArray){y:_}(h:Z5.F k a0=some y):Qa Tryz.prog Q0 pv (.f 60) (Qb [.str] (a0,())) (.fr 9 .str y):=
 Qm hE (t:=Z5.C) k (λk _=>Z5.G hE pv k) (f:=60) (fn:=Tryz.f60) (by kernel_rfl) rfl (by kernel_rfl) (by kernel_rfl) (lt:=Z5.L) (by kernel_rfl) (λb A h=>by
  unfold Z5.L at h;split at h
  ·cases h;exact⟨by kernel_rfl,by kernel_rfl,λ_=>rfl,λ_=>rfl⟩
  ·cases h) (λb A h=>by
  unfold Z5.L at h;split at h
  ·cases h;exact λk x=>Z5.step0 k x.1 x.2.1 x.2.2.1 x.2.2.2.1
  ·cases h) ((Z5.run k a0).trans h) (λr hr=>Q6 hr)
def Z68.F (a0:Int):Option (Int):=bif (decide (a0 ≥ 65))then(bif (decide (a0<=90))then(some (IntKind.wrap .u8 (a0+32)))else(some a0))else(some a0)
def Z68.C:Cal->Option CArm:=λc=>match c with
 |_=>none
theorem Z68.run (a0:Int):QB Q0 (Qf Z68.C) (Qd 12 0 (λ_=>none)) Tryz.f104 [.t (.int .u8) a0] (Qh (.t (.int .u8)))=Z68.F a0:=by kernel_rfl
theorem Z68.G (hE:EnvOk Tryz.prog Q0)(pv:Nat->Value):∀cal A,Z68.C cal=some A->Qe Tryz.prog Q0 pv cal A:=by
 intro cal A h
 unfold Z68.C at h
 cases h
theorem Z68.good (hE:EnvOk Tryz.prog Q0)(pv:Nat->Value)(a0:Int){y:_}(h:Z68.F a0=some y):Qa Tryz.prog Q0 pv (.f 104) (Qb [(.int .u8)] (a0,())) (.t (.int .u8) y):=
 Qc hE (Z68.G hE pv) (f:=104) (fn:=Tryz.f104) (by kernel_rfl) rfl (by kernel_rfl) (by kernel_rfl) ((Z68.run a0).trans h) (λr hr=>Q6 hr)
def Z18.l0:Nat->ByteArray->(List Int)->Int->Option ((List Int))
 |0,_,_,_=>none
 |k+1,x0,x3,x4=>bif (decide (x4<(x0.size:Int)))then(bif decide (0<=x4)then(bif decide (x4<(x0.size:Int))then((Z68.F (bt x0 (x4:Int).toNat)).bind λr1=>bif room (x3.length+([r1]:List Int).length) (.int .u8)then(Z18.l0 k x0 (x3++([r1]:List Int)) (IntKind.wrap .i64 (x4+1)))else none)else none)else none)else(some x3)
def Z18.F (k:Nat)(a0:ByteArray):Option (ByteArray):=(Z18.l0 k a0 ([]:List Int) 0).bind λy2=>some (YW y2)
def Z18.C (k:Nat):Cal->Option CArm:=λc=>match c with
 |.f 104=>some (.p [(.int .u8)] _ (λx=>Z68.F x.1) (λr=>(.t (.int .u8) r)))
 |_=>none
def Z18.sp0:List Sp:=[.t 0 .str,.own 3 1024 5 (.int .u8) false true,.t 4 (.int .i64)]
def Z18.sp0_0:List Sp:=[.own 3 1024 5 (.int .u8) false true]
def Z18.A0:LArm:=.one Z18.sp0 Z18.sp0_0 ((List Int)) (λk x=>Z18.l0 k x.1 x.2.1 x.2.2.1) (.exit 0) (λy=>(y,())) (λx=>x.1)
def Z18.L:Nat->Option LArm:=λb=>match b with
 |0=>some Z18.A0
 |_=>none
theorem Z18.run (k:Nat)(a0:ByteArray):QB Q0 (Qf (Z18.C k)) (Qd 21 k Z18.L) Tryz.f83 [.t .str a0] (Qh (.t .str))=Z18.F k a0:=by kernel_rfl
theorem Z18.step0 (k:Nat)(x0:ByteArray)(x3:List Int)(x4:Int):QO Q0 (Qf (Z18.C k)) (Qd 21 k Z18.L) 0 (Qr Tryz.f83 0) (Jf 21 Z18.sp0 (x0,x3,x4,())) (Z18.A0.cont 21 k)=Z18.l0 (k+1) x0 x3 x4:=by kernel_rfl
theorem Z18.G (hE:EnvOk Tryz.prog Q0)(pv:Nat->Value)(k:Nat):∀cal A,Z18.C k cal=some A->Qe Tryz.prog Q0 pv cal A:=by
 intro cal A h
 unfold Z18.C at h
 split at h
 ·cases h;exact λx y hy=>Z68.good hE pv x.1 hy
 ·cases h
theorem Z18.good (hE:EnvOk Tryz.prog Q0)(pv:Nat->Value)(k:Nat)(a0:ByteArray){y:_}(h:Z18.F k a0=some y):Qa Tryz.prog Q0 pv (.f 83) (Qb [.str] (a0,())) (.t .str y):=
 Qm hE (t:=Z18.C) k (λk _=>Z18.G hE pv k) (f:=83) (fn:=Tryz.f83) (by kernel_rfl) rfl (by kernel_rfl) (by kernel_rfl) (lt:=Z18.L) (by kernel_rfl) (λb A h=>by
  unfold Z18.L at h;split at h
  ·cases h;exact⟨by kernel_rfl,by kernel_rfl,λ_=>rfl,λ_=>rfl⟩
  ·cases h) (λb A h=>by
  unfold Z18.L at h;split at h
  ·cases h;exact λk x=>Z18.step0 k x.1 x.2.1 x.2.2.1
  ·cases h) ((Z18.run k a0).trans h) (λr hr=>Q6 hr)
def Z69.F (k:Nat)(a0:ByteArray):Option (Bool):=(Z18.F k a0).bind λr1=>bif (Qi r1 (⟨#[97]⟩:ByteArray))then(bif (Qi r1 (⟨#[97]⟩:ByteArray))then(some true)else(some false))else(bif (Qi r1 (⟨#[97,110]⟩:ByteArray))then(bif (Qi r1 (⟨#[97,110]⟩:ByteArray))then(some true)else(some false))else(bif (Qi r1 (⟨#[97,110,100]⟩:ByteArray))then(bif (Qi r1 (⟨#[97,110,100]⟩:ByteArray))then(some true)else(some false))else(bif (Qi r1 (⟨#[102,111,114]⟩:ByteArray))then(bif (Qi r1 (⟨#[102,111,114]⟩:ByteArray))then(some true)else(some false))else(bif (Qi r1 (⟨#[105,110]⟩:ByteArray))then(bif (Qi r1 (⟨#[105,110]⟩:ByteArray))then(some true)else(some false))else(bif (Qi r1 (⟨#[111,102]⟩:ByteArray))then(bif (Qi r1 (⟨#[111,102]⟩:ByteArray))then(some true)else(some false))else(bif (Qi r1 (⟨#[111,110]⟩:ByteArray))then(bif (Qi r1 (⟨#[111,110]⟩:ByteArray))then(some true)else(some false))else(bif (Qi r1 (⟨#[116,104,101]⟩:ByteArray))then(some true)else(some false))))))))
def Z69.C (k:Nat):Cal->Option CArm:=λc=>match c with
 |.f 83=>some (.p [.str] _ (λx=>Z18.F k x.1) (λr=>(.t .str r)))
 |_=>none
theorem Z69.run (k:Nat)(a0:ByteArray):QB Q0 (Qf (Z69.C k)) (Qd 14 0 (λ_=>none)) Tryz.f61 [.t .str a0] (Qh (.t .bool))=Z69.F k a0:=by kernel_rfl
theorem Z69.G (hE:EnvOk Tryz.prog Q0)(pv:Nat->Value)(k:Nat):∀cal A,Z69.C k cal=some A->Qe Tryz.prog Q0 pv cal A:=by
 intro cal A h
 unfold Z69.C at h
 split at h
 ·cases h;exact λx y hy=>Z18.good hE pv k x.1 hy
 ·cases h
theorem Z69.good (hE:EnvOk Tryz.prog Q0)(pv:Nat->Value)(k:Nat)(a0:ByteArray){y:_}(h:Z69.F k a0=some y):Qa Tryz.prog Q0 pv (.f 61) (Qb [.str] (a0,())) (.t .bool y):=
 Qc hE (Z69.G hE pv k) (f:=61) (fn:=Tryz.f61) (by kernel_rfl) rfl (by kernel_rfl) (by kernel_rfl) ((Z69.run k a0).trans h) (λr hr=>Q6 hr)
def Z14.l0:Nat->(List ByteArray)->(List ByteArray)->Int->Option ((List ByteArray)× (List ByteArray))
 |0,_,_,_=>none
 |k+1,x4,x5,x6=>bif (decide (x6<(x4.length:Int)))then(bif decide (0<=x6)then(bif decide (x6<(x4.length:Int))then((Z69.F k (x4.getD ((x6:Int).toNat) (⟨#[]⟩:ByteArray))).bind λr2=>bif (!r2)then(bif decide (0<=x6)then(bif decide (x6<(x4.length:Int))then(bif room (x5.length+([(x4.getD ((x6:Int).toNat) (⟨#[]⟩:ByteArray))]:List ByteArray).length) .str then(Z14.l0 k x4 (x5++([(x4.getD ((x6:Int).toNat) (⟨#[]⟩:ByteArray))]:List ByteArray)) (IntKind.wrap .i64 (x6+1)))else none)else none)else none)else(Z14.l0 k x4 x5 (IntKind.wrap .i64 (x6+1))))else none)else none)else(some (x4,x5))
def Z14.F (k:Nat)(a0:ByteArray):Option ((List ByteArray)×Bool):=(Z5.F k a0).bind λr1=>(Z14.l0 k r1 ([]:List ByteArray) 0).bind λy3=>bif ((y3.2.length:Int)==0)then(bif (decide ((y3.1.length:Int)<2))then(some (y3.1,false))else(some (y3.1,true)))else(bif (decide ((y3.1.length:Int)<2))then(some (y3.1,false))else(some (y3.2,true)))
def Z14.C (k:Nat):Cal->Option CArm:=λc=>match c with
 |.f 60=>some (.p [.str] _ (λx=>Z5.F k x.1) (λr=>(.fr 9 .str r)))
 |.f 61=>some (.p [.str] _ (λx=>Z69.F k x.1) (λr=>(.t .bool r)))
 |_=>none
def Z14.sp0:List Sp:=[.own 4 1028 9 .str false true,.own 5 2048 9 .str false true,.t 6 (.int .i64)]
def Z14.sp0_0:List Sp:=[.own 4 1028 9 .str false true,.own 5 2048 9 .str false true]
def Z14.A0:LArm:=.one Z14.sp0 Z14.sp0_0 ((List ByteArray)× (List ByteArray)) (λk x=>Z14.l0 k x.1 x.2.1 x.2.2.1) (.exit 0) (λy=>(y.1,y.2,())) (λx=>(x.1,x.2.1))
def Z14.L:Nat->Option LArm:=λb=>match b with
 |0=>some Z14.A0
 |_=>none
theorem Z14.run (k:Nat)(a0:ByteArray):QB Q0 (Qf (Z14.C k)) (Qd 38 k Z14.L) Tryz.f37 [.t .str a0] (JE (.fr 9 .str) (.t .bool))=Z14.F k a0:=by kernel_rfl
theorem Z14.step0 (k:Nat)(x4:List ByteArray)(x5:List ByteArray)(x6:Int):QO Q0 (Qf (Z14.C k)) (Qd 38 k Z14.L) 0 (Qr Tryz.f37 0) (Jf 38 Z14.sp0 (x4,x5,x6,())) (Z14.A0.cont 38 k)=Z14.l0 (k+1) x4 x5 x6:=by kernel_rfl
theorem Z14.G (hE:EnvOk Tryz.prog Q0)(pv:Nat->Value)(k:Nat):∀cal A,Z14.C k cal=some A->Qe Tryz.prog Q0 pv cal A:=by
 intro cal A h
 unfold Z14.C at h
 split at h
 ·cases h;exact λx y hy=>Z5.good hE pv k x.1 hy
 ·cases h;exact λx y hy=>Z69.good hE pv k x.1 hy
 ·cases h
theorem Z14.good (hE:EnvOk Tryz.prog Q0)(pv:Nat->Value)(k:Nat)(a0:ByteArray){y:_}(h:Z14.F k a0=some y):Qa Tryz.prog Q0 pv (.f 37) (Qb [.str] (a0,())) (.tup [.fr 9 .str y.1,.t .bool y.2]):=
 Qm hE (t:=Z14.C) k (λk _=>Z14.G hE pv k) (f:=37) (fn:=Tryz.f37) (by kernel_rfl) rfl (by kernel_rfl) (by kernel_rfl) (lt:=Z14.L) (by kernel_rfl) (λb A h=>by
  unfold Z14.L at h;split at h
  ·cases h;exact⟨by kernel_rfl,by kernel_rfl,λ_=>rfl,λ_=>rfl⟩
  ·cases h) (λb A h=>by
  unfold Z14.L at h;split at h
  ·cases h;exact λk x=>Z14.step0 k x.1 x.2.1 x.2.2.1
  ·cases h) ((Z14.run k a0).trans h) (λr hr=>J5 hr)
def Z56.F (a0:Int):Option (Bool):=bif (decide (a0 ≥ 65))then(bif (decide (a0<=90))then(some true)else(bif (decide (a0 ≥ 97))then(some (decide (a0<=122)))else(some false)))else(bif (decide (a0 ≥ 97))then(some (decide (a0<=122)))else(some false))
def Z56.C:Cal->Option CArm:=λc=>match c with
 |_=>none
theorem Z56.run (a0:Int):QB Q0 (Qf Z56.C) (Qd 17 0 (λ_=>none)) Tryz.f84 [.t (.int .u8) a0] (Qh (.t .bool))=Z56.F a0:=by kernel_rfl
theorem Z56.G (hE:EnvOk Tryz.prog Q0)(pv:Nat->Value):∀cal A,Z56.C cal=some A->Qe Tryz.prog Q0 pv cal A:=by
 intro cal A h
 unfold Z56.C at h
 cases h
theorem Z56.good (hE:EnvOk Tryz.prog Q0)(pv:Nat->Value)(a0:Int){y:_}(h:Z56.F a0=some y):Qa Tryz.prog Q0 pv (.f 84) (Qb [(.int .u8)] (a0,())) (.t .bool y):=
 Qc hE (Z56.G hE pv) (f:=84) (fn:=Tryz.f84) (by kernel_rfl) rfl (by kernel_rfl) (by kernel_rfl) ((Z56.run a0).trans h) (λr hr=>Q6 hr)
def Z0.l0:Nat->(List Abbr)->ByteArray->Int->Option (Sum Int ((List Abbr)×ByteArray))
 |0,_,_,_=>none
 |k+1,x0,x1,x5=>bif (decide (x5<(x1.size:Int)))then(bif decide (0<=x5)then(bif decide (x5<(x1.size:Int))then((Z56.F (bt x1 (x5:Int).toNat)).bind λr1=>bif (!r1)then(some (.inl (-1)))else(Z0.l0 k x0 x1 (IntKind.wrap .i64 (x5+1))))else none)else none)else(some (.inr (x0,x1)))
def Z0.l2:Nat->(List Abbr)->ByteArray->Int->Int->Option (Sum Int Int)
 |0,_,_,_,_=>none
 |k+1,x0,x6,x7,x8=>bif (decide (x8<(x0.length:Int)))then(bif decide (0<=x8)then(bif decide (x8<(x0.length:Int))then(bif (Qi ((x0.getD (x8:Int).toNat (Q9 .abbr)).word) x6)then(some (.inl x8))else((Z43.F ((x0.getD (x8:Int).toNat (Q9 .abbr)).word) 45).bind λr5=>bif (!Qi r5 ((x0.getD (x8:Int).toNat (Q9 .abbr)).word))then(bif (decide ((r5.size:Int)<=(x6.size:Int)))then(bif decide (0<=(r5.size:Int))then(bif decide ((r5.size:Int)<=(x6.size:Int))then(bif (Qi (x6.extract 0 ((r5.size:Int):Int).toNat) r5)then(bif (decide (x7<0))then(Z0.l2 k x0 x6 x8 (IntKind.wrap .i64 (x8+1)))else(bif decide (0<=x7)then(bif decide (x7<(x0.length:Int))then(bif (decide ((((x0.getD (x8:Int).toNat (Q9 .abbr)).word).size:Int) > (((x0.getD (x7:Int).toNat (Q9 .abbr)).word).size:Int)))then(Z0.l2 k x0 x6 x8 (IntKind.wrap .i64 (x8+1)))else(Z0.l2 k x0 x6 x7 (IntKind.wrap .i64 (x8+1))))else none)else none))else(Z0.l2 k x0 x6 x7 (IntKind.wrap .i64 (x8+1))))else none)else none)else(Z0.l2 k x0 x6 x7 (IntKind.wrap .i64 (x8+1))))else(Z0.l2 k x0 x6 x7 (IntKind.wrap .i64 (x8+1)))))else none)else none)else(some (.inr x7))
def Z0.F (k:Nat)(a0:List Abbr)(a1:ByteArray):Option (Int):=(Z0.l0 k a0 a1 0).bind λy2=>match y2 with|.inl z3=>some z3|.inr z3=>(Z18.F k z3.2).bind λr4=>(Z0.l2 k z3.1 r4 (-1) 0).bind λy6=>match y6 with|.inl z7=>some z7|.inr z7=>some z7
def Z0.C (k:Nat):Cal->Option CArm:=λc=>match c with
 |.f 84=>some (.p [(.int .u8)] _ (λx=>Z56.F x.1) (λr=>(.t .bool r)))
 |.f 83=>some (.p [.str] _ (λx=>Z18.F k x.1) (λr=>(.t .str r)))
 |.f 46=>some (.p [.str,(.int .u8)] _ (λx=>Z43.F x.1 x.2.1) (λr=>(.t .str r)))
 |_=>none
def Z0.sp0:List Sp:=[.t 0 (.sl .abbr),.t 1 .str,.t 5 (.int .i64)]
def Z0.sp0_0:List Sp:=[.t 4 (.int .i64)]
def Z0.sp0_1:List Sp:=[.t 0 (.sl .abbr),.t 1 .str]
def Z0.A0:LArm:=.two Z0.sp0 Z0.sp0_0 Z0.sp0_1 (Int) ((List Abbr)×ByteArray) (λk x=>Z0.l0 k x.1 x.2.1 x.2.2.1) .ret (.exit 0) (λy=>(y,())) (λx=>x.1) (λy=>(y.1,y.2,())) (λx=>(x.1,x.2.1))
def Z0.sp2:List Sp:=[.t 0 (.sl .abbr),.t 6 .str,.t 7 (.int .i64),.t 8 (.int .i64)]
def Z0.sp2_0:List Sp:=[.t 4 (.int .i64)]
def Z0.sp2_1:List Sp:=[.t 7 (.int .i64)]
def Z0.A2:LArm:=.two Z0.sp2 Z0.sp2_0 Z0.sp2_1 (Int) (Int) (λk x=>Z0.l2 k x.1 x.2.1 x.2.2.1 x.2.2.2.1) .ret (.exit 2) (λy=>(y,())) (λx=>x.1) (λy=>(y,())) (λx=>x.1)
def Z0.L:Nat->Option LArm:=λb=>match b with
 |0=>some Z0.A0
 |2=>some Z0.A2
 |_=>none
theorem Z0.run (k:Nat)(a0:List Abbr)(a1:ByteArray):QB Q0 (Qf (Z0.C k)) (Qd 76 k Z0.L) Tryz.f62 [.t (.sl .abbr) a0,.t .str a1] (Qh (.t (.int .i64)))=Z0.F k a0 a1:=by kernel_rfl
theorem Z0.step0 (k:Nat)(x0:List Abbr)(x1:ByteArray)(x5:Int):QO Q0 (Qf (Z0.C k)) (Qd 76 k Z0.L) 0 (Qr Tryz.f62 0) (Jf 76 Z0.sp0 (x0,x1,x5,())) (Z0.A0.cont 76 k)=Z0.l0 (k+1) x0 x1 x5:=by kernel_rfl
theorem Z0.step2 (k:Nat)(x0:List Abbr)(x6:ByteArray)(x7:Int)(x8:Int):QO Q0 (Qf (Z0.C k)) (Qd 76 k Z0.L) 2 (Qr Tryz.f62 2) (Jf 76 Z0.sp2 (x0,x6,x7,x8,())) (Z0.A2.cont 76 k)=Z0.l2 (k+1) x0 x6 x7 x8:=by kernel_rfl
theorem Z0.G (hE:EnvOk Tryz.prog Q0)(pv:Nat->Value)(k:Nat):∀cal A,Z0.C k cal=some A->Qe Tryz.prog Q0 pv cal A:=by
 intro cal A h
 unfold Z0.C at h
 split at h
 ·cases h;exact λx y hy=>Z56.good hE pv x.1 hy
 ·cases h;exact λx y hy=>Z18.good hE pv k x.1 hy
 ·cases h;exact λx y hy=>Z43.good hE pv x.1 x.2.1 hy
 ·cases h
theorem Z0.good (hE:EnvOk Tryz.prog Q0)(pv:Nat->Value)(k:Nat)(a0:List Abbr)(a1:ByteArray){y:_}(h:Z0.F k a0 a1=some y):Qa Tryz.prog Q0 pv (.f 62) (Qb [(.sl .abbr),.str] (a0,a1,())) (.t (.int .i64) y):=
 Qm hE (t:=Z0.C) k (λk _=>Z0.G hE pv k) (f:=62) (fn:=Tryz.f62) (by kernel_rfl) rfl (by kernel_rfl) (by kernel_rfl) (lt:=Z0.L) (by kernel_rfl) (λb A h=>by
  unfold Z0.L at h;split at h
  ·cases h;exact⟨by kernel_rfl,by kernel_rfl,by kernel_rfl,λ_=>rfl,λ_=>rfl,λ_=>rfl⟩
  ·cases h;exact⟨by kernel_rfl,by kernel_rfl,by kernel_rfl,λ_=>rfl,λ_=>rfl,λ_=>rfl⟩
  ·cases h) (λb A h=>by
  unfold Z0.L at h;split at h
  ·cases h;exact λk x=>Z0.step0 k x.1 x.2.1 x.2.2.1
  ·cases h;exact λk x=>Z0.step2 k x.1 x.2.1 x.2.2.1 x.2.2.2.1
  ·cases h) ((Z0.run k a0 a1).trans h) (λr hr=>Q6 hr)
def Z70.F (a0:Int):Option (Int):=bif (decide (a0 ≥ 97))then(bif (decide (a0<=122))then(some (IntKind.wrap .u8 (a0-32)))else(some a0))else(some a0)
def Z70.C:Cal->Option CArm:=λc=>match c with
 |_=>none
theorem Z70.run (a0:Int):QB Q0 (Qf Z70.C) (Qd 12 0 (λ_=>none)) Tryz.f85 [.t (.int .u8) a0] (Qh (.t (.int .u8)))=Z70.F a0:=by kernel_rfl
theorem Z70.G (hE:EnvOk Tryz.prog Q0)(pv:Nat->Value):∀cal A,Z70.C cal=some A->Qe Tryz.prog Q0 pv cal A:=by
 intro cal A h
 unfold Z70.C at h
 cases h
theorem Z70.good (hE:EnvOk Tryz.prog Q0)(pv:Nat->Value)(a0:Int){y:_}(h:Z70.F a0=some y):Qa Tryz.prog Q0 pv (.f 85) (Qb [(.int .u8)] (a0,())) (.t (.int .u8) y):=
 Qc hE (Z70.G hE pv) (f:=85) (fn:=Tryz.f85) (by kernel_rfl) rfl (by kernel_rfl) (by kernel_rfl) ((Z70.run a0).trans h) (λr hr=>Q6 hr)
def Z19.l0:Nat->ByteArray->Int->Option (Sum ByteArray ByteArray)
 |0,_,_=>none
 |k+1,x0,x3=>bif (decide (x3<(x0.size:Int)))then(bif decide (0<=x3)then(bif decide (x3<(x0.size:Int))then((Z56.F (bt x0 (x3:Int).toNat)).bind λr1=>bif r1 then(bif decide (0<=x3)then(bif decide (x3<=(x0.size:Int))then(bif decide (0<=x3)then(bif decide (x3<(x0.size:Int))then((Z70.F (bt x0 (x3:Int).toNat)).bind λr2=>bif Nat.ble ((x0.extract 0 (x3:Int).toNat).size+(YW ([r2]:List Int)).size) 9223372036854775807 then(bif decide (0<=(IntKind.wrap .i64 (x3+1)))then(bif decide ((IntKind.wrap .i64 (x3+1))<=(x0.size:Int))then(bif Nat.ble (((x0.extract 0 (x3:Int).toNat)++(YW ([r2]:List Int))).size+(x0.extract ((IntKind.wrap .i64 (x3+1)):Int).toNat x0.size).size) 9223372036854775807 then(some (.inl (((x0.extract 0 (x3:Int).toNat)++(YW ([r2]:List Int)))++(x0.extract ((IntKind.wrap .i64 (x3+1)):Int).toNat x0.size))))else none)else none)else none)else none)else none)else none)else none)else none)else(Z19.l0 k x0 (IntKind.wrap .i64 (x3+1))))else none)else none)else(some (.inr x0))
def Z19.F (k:Nat)(a0:ByteArray):Option (ByteArray):=(Z19.l0 k a0 0).bind λy3=>match y3 with|.inl z4=>some z4|.inr z4=>some z4
def Z19.C (k:Nat):Cal->Option CArm:=λc=>match c with
 |.f 84=>some (.p [(.int .u8)] _ (λx=>Z56.F x.1) (λr=>(.t .bool r)))
 |.f 85=>some (.p [(.int .u8)] _ (λx=>Z70.F x.1) (λr=>(.t (.int .u8) r)))
 |_=>none
def Z19.sp0:List Sp:=[.t 0 .str,.t 3 (.int .i64)]
def Z19.sp0_0:List Sp:=[.t 2 .str]
def Z19.sp0_1:List Sp:=[.t 0 .str]
def Z19.A0:LArm:=.two Z19.sp0 Z19.sp0_0 Z19.sp0_1 (ByteArray) (ByteArray) (λk x=>Z19.l0 k x.1 x.2.1) .ret (.exit 0) (λy=>(y,())) (λx=>x.1) (λy=>(y,())) (λx=>x.1)
def Z19.L:Nat->Option LArm:=λb=>match b with
 |0=>some Z19.A0
 |_=>none
theorem Z19.run (k:Nat)(a0:ByteArray):QB Q0 (Qf (Z19.C k)) (Qd 30 k Z19.L) Tryz.f63 [.t .str a0] (Qh (.t .str))=Z19.F k a0:=by kernel_rfl
theorem Z19.step0 (k:Nat)(x0:ByteArray)(x3:Int):QO Q0 (Qf (Z19.C k)) (Qd 30 k Z19.L) 0 (Qr Tryz.f63 0) (Jf 30 Z19.sp0 (x0,x3,())) (Z19.A0.cont 30 k)=Z19.l0 (k+1) x0 x3:=by kernel_rfl
theorem Z19.G (hE:EnvOk Tryz.prog Q0)(pv:Nat->Value)(k:Nat):∀cal A,Z19.C k cal=some A->Qe Tryz.prog Q0 pv cal A:=by
 intro cal A h
 unfold Z19.C at h
 split at h
 ·cases h;exact λx y hy=>Z56.good hE pv x.1 hy
 ·cases h;exact λx y hy=>Z70.good hE pv x.1 hy
 ·cases h
theorem Z19.good (hE:EnvOk Tryz.prog Q0)(pv:Nat->Value)(k:Nat)(a0:ByteArray){y:_}(h:Z19.F k a0=some y):Qa Tryz.prog Q0 pv (.f 63) (Qb [.str] (a0,())) (.t .str y):=
 Qm hE (t:=Z19.C) k (λk _=>Z19.G hE pv k) (f:=63) (fn:=Tryz.f63) (by kernel_rfl) rfl (by kernel_rfl) (by kernel_rfl) (lt:=Z19.L) (by kernel_rfl) (λb A h=>by
  unfold Z19.L at h;split at h
  ·cases h;exact⟨by kernel_rfl,by kernel_rfl,by kernel_rfl,λ_=>rfl,λ_=>rfl,λ_=>rfl⟩
  ·cases h) (λb A h=>by
  unfold Z19.L at h;split at h
  ·cases h;exact λk x=>Z19.step0 k x.1 x.2.1
  ·cases h) ((Z19.run k a0).trans h) (λr hr=>Q6 hr)
def Z37.F (k:Nat)(a0:List Abbr)(a1:ByteArray):Option (ByteArray):=(Z0.F k a0 a1).bind λr1=>bif (decide (r1<0))then(some a1)else(bif decide (0<=0)then(bif decide (0<(a1.size:Int))then(bif (decide ((bt a1 (0:Int).toNat) ≥ 65))then(bif decide (0<=0)then(bif decide (0<(a1.size:Int))then(bif (decide ((bt a1 (0:Int).toNat)<=90))then(bif decide (0<=r1)then(bif decide (r1<(a0.length:Int))then((Z19.F k ((a0.getD (r1:Int).toNat (Q9 .abbr)).short)).bind λr2=>some r2)else none)else none)else(bif decide (0<=r1)then(bif decide (r1<(a0.length:Int))then(some ((a0.getD (r1:Int).toNat (Q9 .abbr)).short))else none)else none))else none)else none)else(bif decide (0<=r1)then(bif decide (r1<(a0.length:Int))then(some ((a0.getD (r1:Int).toNat (Q9 .abbr)).short))else none)else none))else none)else none)
def Z37.C (k:Nat):Cal->Option CArm:=λc=>match c with
 |.f 62=>some (.p [(.sl .abbr),.str] _ (λx=>Z0.F k x.1 x.2.1) (λr=>(.t (.int .i64) r)))
 |.f 63=>some (.p [.str] _ (λx=>Z19.F k x.1) (λr=>(.t .str r)))
 |_=>none
theorem Z37.run (k:Nat)(a0:List Abbr)(a1:ByteArray):QB Q0 (Qf (Z37.C k)) (Qd 31 0 (λ_=>none)) Tryz.f38 [.t (.sl .abbr) a0,.t .str a1] (Qh (.t .str))=Z37.F k a0 a1:=by kernel_rfl
theorem Z37.G (hE:EnvOk Tryz.prog Q0)(pv:Nat->Value)(k:Nat):∀cal A,Z37.C k cal=some A->Qe Tryz.prog Q0 pv cal A:=by
 intro cal A h
 unfold Z37.C at h
 split at h
 ·cases h;exact λx y hy=>Z0.good hE pv k x.1 x.2.1 hy
 ·cases h;exact λx y hy=>Z19.good hE pv k x.1 hy
 ·cases h
theorem Z37.good (hE:EnvOk Tryz.prog Q0)(pv:Nat->Value)(k:Nat)(a0:List Abbr)(a1:ByteArray){y:_}(h:Z37.F k a0 a1=some y):Qa Tryz.prog Q0 pv (.f 38) (Qb [(.sl .abbr),.str] (a0,a1,())) (.t .str y):=
 Qc hE (Z37.G hE pv k) (f:=38) (fn:=Tryz.f38) (by kernel_rfl) rfl (by kernel_rfl) (by kernel_rfl) ((Z37.run k a0 a1).trans h) (λr hr=>Q6 hr)
def Z11.l0:Nat->(List ByteArray)->ByteArray->Int->Option (ByteArray)
 |0,_,_,_=>none
 |k+1,x0,x3,x4=>bif (decide (x4<(x0.length:Int)))then(bif (decide (x4 > 0))then(bif Nat.ble (x3.size+(⟨#[32]⟩:ByteArray).size) 9223372036854775807 then(bif decide (0<=x4)then(bif decide (x4<(x0.length:Int))then(bif Nat.ble ((x3++(⟨#[32]⟩:ByteArray)).size+(x0.getD (x4:Int).toNat (⟨#[]⟩:ByteArray)).size) 9223372036854775807 then(Z11.l0 k x0 ((x3++(⟨#[32]⟩:ByteArray))++(x0.getD (x4:Int).toNat (⟨#[]⟩:ByteArray))) (IntKind.wrap .i64 (x4+1)))else none)else none)else none)else none)else(bif decide (0<=x4)then(bif decide (x4<(x0.length:Int))then(bif Nat.ble (x3.size+(x0.getD (x4:Int).toNat (⟨#[]⟩:ByteArray)).size) 9223372036854775807 then(Z11.l0 k x0 (x3++(x0.getD (x4:Int).toNat (⟨#[]⟩:ByteArray))) (IntKind.wrap .i64 (x4+1)))else none)else none)else none))else(some x3)
def Z11.F (k:Nat)(a0:List ByteArray):Option (ByteArray):=(Z11.l0 k a0 (⟨#[]⟩:ByteArray) 0).bind λy1=>some y1
def Z11.C (k:Nat):Cal->Option CArm:=λc=>match c with
 |_=>none
def Z11.sp0:List Sp:=[.t 0 (.sl .str),.t 3 .str,.t 4 (.int .i64)]
def Z11.sp0_0:List Sp:=[.t 3 .str]
def Z11.A0:LArm:=.one Z11.sp0 Z11.sp0_0 (ByteArray) (λk x=>Z11.l0 k x.1 x.2.1 x.2.2.1) (.exit 0) (λy=>(y,())) (λx=>x.1)
def Z11.L:Nat->Option LArm:=λb=>match b with
 |0=>some Z11.A0
 |_=>none
theorem Z11.run (k:Nat)(a0:List ByteArray):QB Q0 (Qf (Z11.C k)) (Qd 22 k Z11.L) Tryz.f55 [.t (.sl .str) a0] (Qh (.t .str))=Z11.F k a0:=by kernel_rfl
theorem Z11.step0 (k:Nat)(x0:List ByteArray)(x3:ByteArray)(x4:Int):QO Q0 (Qf (Z11.C k)) (Qd 22 k Z11.L) 0 (Qr Tryz.f55 0) (Jf 22 Z11.sp0 (x0,x3,x4,())) (Z11.A0.cont 22 k)=Z11.l0 (k+1) x0 x3 x4:=by kernel_rfl
theorem Z11.G (hE:EnvOk Tryz.prog Q0)(pv:Nat->Value)(k:Nat):∀cal A,Z11.C k cal=some A->Qe Tryz.prog Q0 pv cal A:=by
 intro cal A h
 unfold Z11.C at h
 cases h
theorem Z11.good (hE:EnvOk Tryz.prog Q0)(pv:Nat->Value)(k:Nat)(a0:List ByteArray){y:_}(h:Z11.F k a0=some y):Qa Tryz.prog Q0 pv (.f 55) (Qb [(.sl .str)] (a0,())) (.t .str y):=
 Qm hE (t:=Z11.C) k (λk _=>Z11.G hE pv k) (f:=55) (fn:=Tryz.f55) (by kernel_rfl) rfl (by kernel_rfl) (by kernel_rfl) (lt:=Z11.L) (by kernel_rfl) (λb A h=>by
  unfold Z11.L at h;split at h
  ·cases h;exact⟨by kernel_rfl,by kernel_rfl,λ_=>rfl,λ_=>rfl⟩
  ·cases h) (λb A h=>by
  unfold Z11.L at h;split at h
  ·cases h;exact λk x=>Z11.step0 k x.1 x.2.1 x.2.2.1
  ·cases h) ((Z11.run k a0).trans h) (λr hr=>Q6 hr)
def Z22.l0:Nat->(List Abbr)->(List ByteArray)->(List ByteArray)->Int->Option ((List ByteArray))
 |0,_,_,_,_=>none
 |k+1,x0,x5,x7,x8=>bif (decide (x8<(x5.length:Int)))then(bif decide (0<=x8)then(bif decide (x8<(x5.length:Int))then((Z37.F k x0 (x5.getD ((x8:Int).toNat) (⟨#[]⟩:ByteArray))).bind λr2=>bif room (x7.length+([r2]:List ByteArray).length) .str then(Z22.l0 k x0 x5 (x7++([r2]:List ByteArray)) (IntKind.wrap .i64 (x8+1)))else none)else none)else none)else(some x7)
def Z22.F (k:Nat)(a0:List Abbr)(a1:ByteArray):Option (ByteArray):=(Z14.F k a1).bind λr1=>bif (!r1.2)then(some a1)else((Z22.l0 k a0 r1.1 ([]:List ByteArray) 0).bind λy3=>(Z11.F k y3).bind λr4=>some r4)
def Z22.C (k:Nat):Cal->Option CArm:=λc=>match c with
 |.f 37=>some (.p [.str] _ (λx=>Z14.F k x.1) (λr=>(.tup [.fr 9 .str r.1,.t .bool r.2])))
 |.f 38=>some (.p [(.sl .abbr),.str] _ (λx=>Z37.F k x.1 x.2.1) (λr=>(.t .str r)))
 |.f 55=>some (.p [(.sl .str)] _ (λx=>Z11.F k x.1) (λr=>(.t .str r)))
 |_=>none
def Z22.sp0:List Sp:=[.t 0 (.sl .abbr),.own 5 1028 9 .str false true,.own 7 4096 9 .str false true,.t 8 (.int .i64)]
def Z22.sp0_0:List Sp:=[.own 7 4096 9 .str false true]
def Z22.A0:LArm:=.one Z22.sp0 Z22.sp0_0 ((List ByteArray)) (λk x=>Z22.l0 k x.1 x.2.1 x.2.2.1 x.2.2.2.1) (.exit 0) (λy=>(y,())) (λx=>x.1)
def Z22.L:Nat->Option LArm:=λb=>match b with
 |0=>some Z22.A0
 |_=>none
theorem Z22.run (k:Nat)(a0:List Abbr)(a1:ByteArray):QB Q0 (Qf (Z22.C k)) (Qd 35 k Z22.L) Tryz.f33 [.t (.sl .abbr) a0,.t .str a1] (Qh (.t .str))=Z22.F k a0 a1:=by kernel_rfl
theorem Z22.step0 (k:Nat)(x0:List Abbr)(x5:List ByteArray)(x7:List ByteArray)(x8:Int):QO Q0 (Qf (Z22.C k)) (Qd 35 k Z22.L) 0 (Qr Tryz.f33 0) (Jf 35 Z22.sp0 (x0,x5,x7,x8,())) (Z22.A0.cont 35 k)=Z22.l0 (k+1) x0 x5 x7 x8:=by kernel_rfl
theorem Z22.G (hE:EnvOk Tryz.prog Q0)(pv:Nat->Value)(k:Nat):∀cal A,Z22.C k cal=some A->Qe Tryz.prog Q0 pv cal A:=by
 intro cal A h
 unfold Z22.C at h
 split at h
 ·cases h;exact λx y hy=>Z14.good hE pv k x.1 hy
 ·cases h;exact λx y hy=>Z37.good hE pv k x.1 x.2.1 hy
 ·cases h;exact λx y hy=>Z11.good hE pv k x.1 hy
 ·cases h
theorem Z22.good (hE:EnvOk Tryz.prog Q0)(pv:Nat->Value)(k:Nat)(a0:List Abbr)(a1:ByteArray){y:_}(h:Z22.F k a0 a1=some y):Qa Tryz.prog Q0 pv (.f 33) (Qb [(.sl .abbr),.str] (a0,a1,())) (.t .str y):=
 Qm hE (t:=Z22.C) k (λk _=>Z22.G hE pv k) (f:=33) (fn:=Tryz.f33) (by kernel_rfl) rfl (by kernel_rfl) (by kernel_rfl) (lt:=Z22.L) (by kernel_rfl) (λb A h=>by
  unfold Z22.L at h;split at h
  ·cases h;exact⟨by kernel_rfl,by kernel_rfl,λ_=>rfl,λ_=>rfl⟩
  ·cases h) (λb A h=>by
  unfold Z22.L at h;split at h
  ·cases h;exact λk x=>Z22.step0 k x.1 x.2.1 x.2.2.1 x.2.2.2.1
  ·cases h) ((Z22.run k a0 a1).trans h) (λr hr=>Q6 hr)
def Z57.F (k:Nat)(a0:List Abbr)(a1:ByteArray):Option (ByteArray×Bool):=(Z2.F k a0).bind λr1=>bif (!r1)then(some ((⟨#[]⟩:ByteArray),false))else((Z10.F k a1).bind λr2=>bif (!r2)then(some ((⟨#[]⟩:ByteArray),false))else((Z22.F k a0 a1).bind λr3=>some (r3,true)))
def Z57.C (k:Nat):Cal->Option CArm:=λc=>match c with
 |.f 22=>some (.p [(.sl .abbr)] _ (λx=>Z2.F k x.1) (λr=>(.t .bool r)))
 |.f 32=>some (.p [.str] _ (λx=>Z10.F k x.1) (λr=>(.t .bool r)))
 |.f 33=>some (.p [(.sl .abbr),.str] _ (λx=>Z22.F k x.1 x.2.1) (λr=>(.t .str r)))
 |_=>none
theorem Z57.run (k:Nat)(a0:List Abbr)(a1:ByteArray):QB Q0 (Qf (Z57.C k)) (Qd 17 0 (λ_=>none)) Tryz.f12 [.t (.sl .abbr) a0,.t .str a1] (JE (.t .str) (.t .bool))=Z57.F k a0 a1:=by kernel_rfl
theorem Z57.G (hE:EnvOk Tryz.prog Q0)(pv:Nat->Value)(k:Nat):∀cal A,Z57.C k cal=some A->Qe Tryz.prog Q0 pv cal A:=by
 intro cal A h
 unfold Z57.C at h
 split at h
 ·cases h;exact λx y hy=>Z2.good hE pv k x.1 hy
 ·cases h;exact λx y hy=>Z10.good hE pv k x.1 hy
 ·cases h;exact λx y hy=>Z22.good hE pv k x.1 x.2.1 hy
 ·cases h
theorem Z57.good (hE:EnvOk Tryz.prog Q0)(pv:Nat->Value)(k:Nat)(a0:List Abbr)(a1:ByteArray){y:_}(h:Z57.F k a0 a1=some y):Qa Tryz.prog Q0 pv (.f 12) (Qb [(.sl .abbr),.str] (a0,a1,())) (.tup [.t .str y.1,.t .bool y.2]):=
 Qc hE (Z57.G hE pv k) (f:=12) (fn:=Tryz.f12) (by kernel_rfl) rfl (by kernel_rfl) (by kernel_rfl) ((Z57.run k a0 a1).trans h) (λr hr=>J5 hr)
def Z46.F (k:Nat)(a0:ByteArray)(a1:Bool)(a2:List Abbr):Option (Bool):=bif a1 then((Z40.F k a2 a0).bind λr1=>some (!Qi r1 a0))else(some false)
def Z46.C (k:Nat):Cal->Option CArm:=λc=>match c with
 |.f 27=>some (.p [(.sl .abbr),.str] _ (λx=>Z40.F k x.1 x.2.1) (λr=>(.t .str r)))
 |_=>none
theorem Z46.run (k:Nat)(a0:ByteArray)(a1:Bool)(a2:List Abbr):QB Q0 (Qf (Z46.C k)) (Qd 13 0 (λ_=>none)) Tryz.f36 [.t .str a0,.tp (.t .bool a1),.tp (.t (.sl .abbr) a2)] (Qh (.t .bool))=Z46.F k a0 a1 a2:=by kernel_rfl
theorem Z46.G (hE:EnvOk Tryz.prog Q0)(pv:Nat->Value)(k:Nat):∀cal A,Z46.C k cal=some A->Qe Tryz.prog Q0 pv cal A:=by
 intro cal A h
 unfold Z46.C at h
 split at h
 ·cases h;exact λx y hy=>Z40.good hE pv k x.1 x.2.1 hy
 ·cases h
theorem Z46.good (hE:EnvOk Tryz.prog Q0)(pv:Nat->Value)(k:Nat)(a0:ByteArray)(a1:Bool)(a2:List Abbr){y:_}(h:Z46.F k a0 a1 a2=some y):Qa Tryz.prog Q0 pv (.f 36) (Ys [.t .str,.tp .bool,.tp (.sl .abbr)] (a0,a1,a2,())) (.t .bool y):=
 Qc hE (Z46.G hE pv k) (f:=36) (fn:=Tryz.f36) (by kernel_rfl) rfl (by kernel_rfl) (by kernel_rfl) ((Z46.run k a0 a1 a2).trans h) (λr hr=>Q6 hr)
def Z27.l0:Nat->(List ByteArray)->Bool->(List Abbr)->Int->Int->Option (Sum Int Unit)
 |0,_,_,_,_,_=>none
 |k+1,x0,x1_0,x1_1,x7,x8=>bif (decide (x8<x7))then(bif decide (0<=x8)then(bif decide (x8<(x0.length:Int))then((Z46.F k (x0.getD (x8:Int).toNat (⟨#[]⟩:ByteArray)) x1_0 x1_1).bind λr1=>bif r1 then(some (.inl x8))else(Z27.l0 k x0 x1_0 x1_1 x7 (IntKind.wrap .i64 (x8+1))))else none)else none)else(some (.inr ()))
def Z27.F (k:Nat)(a0:List ByteArray)(a1c0:Bool)(a1c1:List Abbr):Option (Int):=(Z27.l0 k a0 a1c0 a1c1 (a0.length:Int) 0).bind λy2=>match y2 with|.inl z3=>some z3|.inr z3=>some (-1)
def Z27.C (k:Nat):Cal->Option CArm:=λc=>match c with
 |.f 36=>some (.q [.t .str,.tp .bool,.tp (.sl .abbr)] _ (λx=>Z46.F k x.1 x.2.1 x.2.2.1) (λr=>(.t .bool r)))
 |_=>none
def Z27.sp0:List Sp:=[.t 0 (.sl .str),.cl 1 36 [.tp .bool,.tp (.sl .abbr)],.t 7 (.int .i64),.t 8 (.int .i64)]
def Z27.sp0_0:List Sp:=[.t 4 (.int .i64)]
def Z27.sp0_1:List Sp:=[]
def Z27.A0:LArm:=.two Z27.sp0 Z27.sp0_0 Z27.sp0_1 (Int) (Unit) (λk x=>Z27.l0 k x.1 x.2.1.1 x.2.1.2.1 x.2.2.1 x.2.2.2.1) .ret (.exit 0) (λy=>(y,())) (λx=>x.1) (λy=>()) (λx=>())
def Z27.L:Nat->Option LArm:=λb=>match b with
 |0=>some Z27.A0
 |_=>none
theorem Z27.run (k:Nat)(a0:List ByteArray)(a1c0:Bool)(a1c1:List Abbr):QB Q0 (Qf (Z27.C k)) (Qd 19 k Z27.L) Tryz.f59 [.t (.sl .str) a0,.clo 36 [.tp (.t .bool a1c0),.tp (.t (.sl .abbr) a1c1)]] (Qh (.t (.int .i64)))=Z27.F k a0 a1c0 a1c1:=by kernel_rfl
theorem Z27.step0 (k:Nat)(x0:List ByteArray)(x1_0:Bool)(x1_1:List Abbr)(x7:Int)(x8:Int):QO Q0 (Qf (Z27.C k)) (Qd 19 k Z27.L) 0 (Qr Tryz.f59 0) (Jf 19 Z27.sp0 (x0,(x1_0,x1_1,()),x7,x8,())) (Z27.A0.cont 19 k)=Z27.l0 (k+1) x0 x1_0 x1_1 x7 x8:=by kernel_rfl
theorem Z27.G (hE:EnvOk Tryz.prog Q0)(pv:Nat->Value)(k:Nat):∀cal A,Z27.C k cal=some A->Qe Tryz.prog Q0 pv cal A:=by
 intro cal A h
 unfold Z27.C at h
 split at h
 ·cases h;exact λx y hy=>Z46.good hE pv k x.1 x.2.1 x.2.2.1 hy
 ·cases h
theorem Z27.good (hE:EnvOk Tryz.prog Q0)(pv:Nat->Value)(k:Nat)(a0:List ByteArray)(a1c0:Bool)(a1c1:List Abbr){y:_}(h:Z27.F k a0 a1c0 a1c1=some y):Qa Tryz.prog Q0 pv (.f 59) (Ys [.t (.sl .str),.clo 36 [.tp .bool,.tp (.sl .abbr)]] (a0,(a1c0,a1c1,()),())) (.t (.int .i64) y):=
 Qm hE (t:=Z27.C) k (λk _=>Z27.G hE pv k) (f:=59) (fn:=Tryz.f59) (by kernel_rfl) rfl (by kernel_rfl) (by kernel_rfl) (lt:=Z27.L) (by kernel_rfl) (λb A h=>by
  unfold Z27.L at h;split at h
  ·cases h;exact⟨by kernel_rfl,by kernel_rfl,by kernel_rfl,λ_=>rfl,λ_=>rfl,λ_=>rfl⟩
  ·cases h) (λb A h=>by
  unfold Z27.L at h;split at h
  ·cases h;exact λk x=>Z27.step0 k x.1 x.2.1.1 x.2.1.2.1 x.2.2.1 x.2.2.2.1
  ·cases h) ((Z27.run k a0 a1c0 a1c1).trans h) (λr hr=>Q6 hr)
def Z30.l0:Nat->(List ByteArray)->Bool->(List Abbr)->Int->Int->Option ((List ByteArray)×Int)
 |0,_,_,_,_,_=>none
 |k+1,x0,x1_0,x1_1,x5,x6=>bif (decide (x6<(x0.length:Int)))then(bif decide (0<=x6)then(bif decide (x6<(x0.length:Int))then((Z46.F k (x0.getD ((x6:Int).toNat) (⟨#[]⟩:ByteArray)) x1_0 x1_1).bind λr2=>bif (!r2)then(bif decide (0<=x5)then(bif decide (x5<(x0.length:Int))then(Z30.l0 k (x0.set ((x5:Int).toNat) (x0.getD ((x6:Int).toNat) (⟨#[]⟩:ByteArray))) x1_0 x1_1 (IntKind.wrap .i64 (x5+1)) (IntKind.wrap .i64 (x6+1)))else none)else none)else(Z30.l0 k x0 x1_0 x1_1 x5 (IntKind.wrap .i64 (x6+1))))else none)else none)else(some (x0,x5))
def Z30.F (k:Nat)(a0:List ByteArray)(a1c0:Bool)(a1c1:List Abbr):Option (List ByteArray):=(Z27.F k a0 a1c0 a1c1).bind λr1=>bif (r1==(-1))then(some a0)else((Z30.l0 k a0 a1c0 a1c1 r1 (IntKind.wrap .i64 (r1+1))).bind λy3=>bif decide (0<=y3.2)then(bif decide (y3.2<=(y3.1.length:Int))then(bif decide (0<=y3.2)then(bif decide (y3.2<=((y3.1.take ((y3.2:Int).toNat)++List.replicate (y3.1.length-((y3.2:Int).toNat)) (⟨#[]⟩:ByteArray)).length:Int))then(some ((y3.1.take ((y3.2:Int).toNat)++List.replicate (y3.1.length-((y3.2:Int).toNat)) (⟨#[]⟩:ByteArray)).take (y3.2:Int).toNat))else none)else none)else none)else none)
def Z30.C (k:Nat):Cal->Option CArm:=λc=>match c with
 |.f 59=>some (.q [.t (.sl .str),.clo 36 [.tp .bool,.tp (.sl .abbr)]] _ (λx=>Z27.F k x.1 x.2.1.1 x.2.1.2.1) (λr=>(.t (.int .i64) r)))
 |.f 36=>some (.q [.t .str,.tp .bool,.tp (.sl .abbr)] _ (λx=>Z46.F k x.1 x.2.1 x.2.2.1) (λr=>(.t .bool r)))
 |_=>none
def Z30.sp0:List Sp:=[.own 0 1099511627777 9 .str false true,.cl 1 36 [.tp .bool,.tp (.sl .abbr)],.t 5 (.int .i64),.t 6 (.int .i64)]
def Z30.sp0_0:List Sp:=[.own 0 1099511627777 9 .str false true,.t 5 (.int .i64)]
def Z30.A0:LArm:=.one Z30.sp0 Z30.sp0_0 ((List ByteArray)×Int) (λk x=>Z30.l0 k x.1 x.2.1.1 x.2.1.2.1 x.2.2.1 x.2.2.2.1) (.exit 0) (λy=>(y.1,y.2,())) (λx=>(x.1,x.2.1))
def Z30.L:Nat->Option LArm:=λb=>match b with
 |0=>some Z30.A0
 |_=>none
theorem Z30.run (k:Nat)(a0:List ByteArray)(a1c0:Bool)(a1c1:List Abbr):Kr Q0 (Qf (Z30.C k)) (Qd 42 k Z30.L) Tryz.f35 XH (.fr 9 .str a0) [.clo 36 [.tp (.t .bool a1c0),.tp (.t (.sl .abbr) a1c1)]] (KV 9 .str)=Z30.F k a0 a1c0 a1c1:=by kernel_rfl
theorem Z30.step0 (k:Nat)(x0:List ByteArray)(x1_0:Bool)(x1_1:List Abbr)(x5:Int)(x6:Int):QO Q0 (Qf (Z30.C k)) (Qd 42 k Z30.L) 0 (Qr Tryz.f35 0) (Jf 42 Z30.sp0 (x0,(x1_0,x1_1,()),x5,x6,())) (Z30.A0.cont 42 k)=Z30.l0 (k+1) x0 x1_0 x1_1 x5 x6:=by kernel_rfl
theorem Z30.G (hE:EnvOk Tryz.prog Q0)(pv:Nat->Value)(k:Nat):∀cal A,Z30.C k cal=some A->Qe Tryz.prog Q0 pv cal A:=by
 intro cal A h
 unfold Z30.C at h
 split at h
 ·cases h;exact λx y hy=>Z27.good hE pv k x.1 x.2.1.1 x.2.1.2.1 hy
 ·cases h;exact λx y hy=>Z46.good hE pv k x.1 x.2.1 x.2.2.1 hy
 ·cases h
theorem Z30.good (hE:EnvOk Tryz.prog Q0)(pv:Nat->Value)(k:Nat)(a0:List ByteArray)(a1c0:Bool)(a1c1:List Abbr){y:_}(h:Z30.F k a0 a1c0 a1c1=some y):J0 Tryz.prog Q0 pv 35 (.fr 9 .str a0) (Ys [.clo 36 [.tp .bool,.tp (.sl .abbr)]] ((a1c0,a1c1,()),())) (.mov 9 .str y):=
 YQ hE (t:=Z30.C) k (λk _=>Z30.G hE pv k) (f:=35) (fn:=Tryz.f35) (by kernel_rfl) rfl (by kernel_rfl) (.inr rfl) (by kernel_rfl) (lt:=Z30.L) (by kernel_rfl) (λb A h=>by
  unfold Z30.L at h;split at h
  ·cases h;exact⟨by kernel_rfl,by kernel_rfl,λ_=>rfl,λ_=>rfl⟩
  ·cases h) (λb A h=>by
  unfold Z30.L at h;split at h
  ·cases h;exact λk x=>Z30.step0 k x.1 x.2.1.1 x.2.1.2.1 x.2.2.1 x.2.2.2.1
  ·cases h) ((Z30.run k a0 a1c0 a1c1).trans h) (λr hr=>XY hr)
def Z58.F (k:Nat)(a0:List Abbr)(a1:ByteArray):Option ((List ByteArray)×Bool):=(Z1.F k a0).bind λr1=>bif (!r1)then(some ([],false))else((Z44.F k a1).bind λr2=>bif (!r2)then(some ([],false))else((Z54.F k a1).bind λr3=>(Z30.F k r3.1 r3.2 a0).bind λr4=>some (r4,true)))
def Z58.C (k:Nat):Cal->Option CArm:=λc=>match c with
 |.f 9=>some (.p [(.sl .abbr)] _ (λx=>Z1.F k x.1) (λr=>(.t .bool r)))
 |.f 30=>some (.p [.str] _ (λx=>Z44.F k x.1) (λr=>(.t .bool r)))
 |.f 34=>some (.p [.str] _ (λx=>Z54.F k x.1) (λr=>(.tup [.fr 9 .str r.1,.t .bool r.2])))
 |.f 35=>some (.mq (.fr 9 .str) [.clo 36 [.tp .bool,.tp (.sl .abbr)]] _ (λx0 x=>Z30.F k x0 x.1.1 x.1.2.1) (λr=>.mov 9 .str r))
 |_=>none
theorem Z58.run (k:Nat)(a0:List Abbr)(a1:ByteArray):QB Q0 (Qf (Z58.C k)) (Qd 24 0 (λ_=>none)) Tryz.f13 [.t (.sl .abbr) a0,.t .str a1] (JE (.fr 9 .str) (.t .bool))=Z58.F k a0 a1:=by kernel_rfl
theorem Z58.G (hE:EnvOk Tryz.prog Q0)(pv:Nat->Value)(k:Nat):∀cal A,Z58.C k cal=some A->Qe Tryz.prog Q0 pv cal A:=by
 intro cal A h
 unfold Z58.C at h
 split at h
 ·cases h;exact λx y hy=>Z1.good hE pv k x.1 hy
 ·cases h;exact λx y hy=>Z44.good hE pv k x.1 hy
 ·cases h;exact λx y hy=>Z54.good hE pv k x.1 hy
 ·cases h;exact⟨_,rfl,λx0 x y hy=>Z30.good hE pv k x0 x.1.1 x.1.2.1 hy⟩
 ·cases h
theorem Z58.good (hE:EnvOk Tryz.prog Q0)(pv:Nat->Value)(k:Nat)(a0:List Abbr)(a1:ByteArray){y:_}(h:Z58.F k a0 a1=some y):Qa Tryz.prog Q0 pv (.f 13) (Qb [(.sl .abbr),.str] (a0,a1,())) (.tup [.fr 9 .str y.1,.t .bool y.2]):=
 Qc hE (Z58.G hE pv k) (f:=13) (fn:=Tryz.f13) (by kernel_rfl) rfl (by kernel_rfl) (by kernel_rfl) ((Z58.run k a0 a1).trans h) (λr hr=>J5 hr)
def Z6.l0:Nat->(List Abbr)->(List ByteArray)->(List ByteArray)->Bool->Int->Option ((List ByteArray))
 |0,_,_,_,_,_=>none
 |k+1,x0,x6,x7,x8,x9=>bif (decide (x9<(x7.length:Int)))then(bif (!x8)then(bif decide (0<=x9)then(bif decide (x9<(x7.length:Int))then(bif room (x6.length+([(x7.getD ((x9:Int).toNat) (⟨#[]⟩:ByteArray))]:List ByteArray).length) .str then(Z6.l0 k x0 (x6++([(x7.getD ((x9:Int).toNat) (⟨#[]⟩:ByteArray))]:List ByteArray)) x7 x8 (IntKind.wrap .i64 (x9+1)))else none)else none)else none)else(bif decide (0<=x9)then(bif decide (x9<(x7.length:Int))then((Z37.F k x0 (x7.getD ((x9:Int).toNat) (⟨#[]⟩:ByteArray))).bind λr4=>bif decide (0<=x9)then(bif decide (x9<(x7.length:Int))then(bif (Qi r4 (x7.getD ((x9:Int).toNat) (⟨#[]⟩:ByteArray)))then(bif decide (0<=x9)then(bif decide (x9<(x7.length:Int))then(bif room (x6.length+([(x7.getD ((x9:Int).toNat) (⟨#[]⟩:ByteArray))]:List ByteArray).length) .str then(Z6.l0 k x0 (x6++([(x7.getD ((x9:Int).toNat) (⟨#[]⟩:ByteArray))]:List ByteArray)) x7 x8 (IntKind.wrap .i64 (x9+1)))else none)else none)else none)else(Z6.l0 k x0 x6 x7 x8 (IntKind.wrap .i64 (x9+1))))else none)else none)else none)else none))else(some x6)
def Z6.F (k:Nat)(a0:List Abbr)(a1:ByteArray):Option ((List ByteArray)×Bool):=(Z2.F k a0).bind λr1=>bif (!r1)then(some (([]:List ByteArray),false))else((Z10.F k a1).bind λr2=>bif (!r2)then(some (([]:List ByteArray),false))else((Z14.F k a1).bind λr3=>(Z6.l0 k a0 ([]:List ByteArray) r3.1 r3.2 0).bind λy5=>some (y5,true)))
def Z6.C (k:Nat):Cal->Option CArm:=λc=>match c with
 |.f 22=>some (.p [(.sl .abbr)] _ (λx=>Z2.F k x.1) (λr=>(.t .bool r)))
 |.f 32=>some (.p [.str] _ (λx=>Z10.F k x.1) (λr=>(.t .bool r)))
 |.f 37=>some (.p [.str] _ (λx=>Z14.F k x.1) (λr=>(.tup [.fr 9 .str r.1,.t .bool r.2])))
 |.f 38=>some (.p [(.sl .abbr),.str] _ (λx=>Z37.F k x.1 x.2.1) (λr=>(.t .str r)))
 |_=>none
def Z6.sp0:List Sp:=[.t 0 (.sl .abbr),.own 6 1024 9 .str false true,.own 7 4100 9 .str false true,.t 8 .bool,.t 9 (.int .i64)]
def Z6.sp0_0:List Sp:=[.own 6 1024 9 .str false true]
def Z6.A0:LArm:=.one Z6.sp0 Z6.sp0_0 ((List ByteArray)) (λk x=>Z6.l0 k x.1 x.2.1 x.2.2.1 x.2.2.2.1 x.2.2.2.2.1) (.exit 0) (λy=>(y,())) (λx=>x.1)
def Z6.L:Nat->Option LArm:=λb=>match b with
 |0=>some Z6.A0
 |_=>none
theorem Z6.run (k:Nat)(a0:List Abbr)(a1:ByteArray):QB Q0 (Qf (Z6.C k)) (Qd 54 k Z6.L) Tryz.f14 [.t (.sl .abbr) a0,.t .str a1] (JE (.fr 9 .str) (.t .bool))=Z6.F k a0 a1:=by kernel_rfl
theorem Z6.step0 (k:Nat)(x0:List Abbr)(x6:List ByteArray)(x7:List ByteArray)(x8:Bool)(x9:Int):QO Q0 (Qf (Z6.C k)) (Qd 54 k Z6.L) 0 (Qr Tryz.f14 0) (Jf 54 Z6.sp0 (x0,x6,x7,x8,x9,())) (Z6.A0.cont 54 k)=Z6.l0 (k+1) x0 x6 x7 x8 x9:=by kernel_rfl
theorem Z6.G (hE:EnvOk Tryz.prog Q0)(pv:Nat->Value)(k:Nat):∀cal A,Z6.C k cal=some A->Qe Tryz.prog Q0 pv cal A:=by
 intro cal A h
 unfold Z6.C at h
 split at h
 ·cases h;exact λx y hy=>Z2.good hE pv k x.1 hy
 ·cases h;exact λx y hy=>Z10.good hE pv k x.1 hy
 ·cases h;exact λx y hy=>Z14.good hE pv k x.1 hy
 ·cases h;exact λx y hy=>Z37.good hE pv k x.1 x.2.1 hy
 ·cases h
theorem Z6.good (hE:EnvOk Tryz.prog Q0)(pv:Nat->Value)(k:Nat)(a0:List Abbr)(a1:ByteArray){y:_}(h:Z6.F k a0 a1=some y):Qa Tryz.prog Q0 pv (.f 14) (Qb [(.sl .abbr),.str] (a0,a1,())) (.tup [.fr 9 .str y.1,.t .bool y.2]):=
 Qm hE (t:=Z6.C) k (λk _=>Z6.G hE pv k) (f:=14) (fn:=Tryz.f14) (by kernel_rfl) rfl (by kernel_rfl) (by kernel_rfl) (lt:=Z6.L) (by kernel_rfl) (λb A h=>by
  unfold Z6.L at h;split at h
  ·cases h;exact⟨by kernel_rfl,by kernel_rfl,λ_=>rfl,λ_=>rfl⟩
  ·cases h) (λb A h=>by
  unfold Z6.L at h;split at h
  ·cases h;exact λk x=>Z6.step0 k x.1 x.2.1 x.2.2.1 x.2.2.2.1 x.2.2.2.2.1
  ·cases h) ((Z6.run k a0 a1).trans h) (λr hr=>J5 hr)
def Z12.l0:Nat->(List ByteArray)->(List ByteArray)->Int->Option (Sum Bool Unit)
 |0,_,_,_=>none
 |k+1,x0,x1,x5=>bif (decide (x5<(x0.length:Int)))then(bif decide (0<=x5)then(bif decide (x5<(x0.length:Int))then(bif decide (0<=x5)then(bif decide (x5<(x1.length:Int))then(bif (!Qi (x0.getD (x5:Int).toNat (⟨#[]⟩:ByteArray)) (x1.getD (x5:Int).toNat (⟨#[]⟩:ByteArray)))then(some (.inl false))else(Z12.l0 k x0 x1 (IntKind.wrap .i64 (x5+1))))else none)else none)else none)else none)else(some (.inr ()))
def Z12.F (k:Nat)(a0:List ByteArray)(a1:List ByteArray):Option (Bool):=bif ((a0.length:Int) != (a1.length:Int))then(some false)else((Z12.l0 k a0 a1 0).bind λy1=>match y1 with|.inl z2=>some z2|.inr z2=>some true)
def Z12.C (k:Nat):Cal->Option CArm:=λc=>match c with
 |_=>none
def Z12.sp0:List Sp:=[.t 0 (.sl .str),.t 1 (.sl .str),.t 5 (.int .i64)]
def Z12.sp0_0:List Sp:=[.t 4 .bool]
def Z12.sp0_1:List Sp:=[]
def Z12.A0:LArm:=.two Z12.sp0 Z12.sp0_0 Z12.sp0_1 (Bool) (Unit) (λk x=>Z12.l0 k x.1 x.2.1 x.2.2.1) .ret (.exit 0) (λy=>(y,())) (λx=>x.1) (λy=>()) (λx=>())
def Z12.L:Nat->Option LArm:=λb=>match b with
 |0=>some Z12.A0
 |_=>none
theorem Z12.run (k:Nat)(a0:List ByteArray)(a1:List ByteArray):QB Q0 (Qf (Z12.C k)) (Qd 26 k Z12.L) Tryz.f15 [.t (.sl .str) a0,.t (.sl .str) a1] (Qh (.t .bool))=Z12.F k a0 a1:=by kernel_rfl
theorem Z12.step0 (k:Nat)(x0:List ByteArray)(x1:List ByteArray)(x5:Int):QO Q0 (Qf (Z12.C k)) (Qd 26 k Z12.L) 0 (Qr Tryz.f15 0) (Jf 26 Z12.sp0 (x0,x1,x5,())) (Z12.A0.cont 26 k)=Z12.l0 (k+1) x0 x1 x5:=by kernel_rfl
theorem Z12.G (hE:EnvOk Tryz.prog Q0)(pv:Nat->Value)(k:Nat):∀cal A,Z12.C k cal=some A->Qe Tryz.prog Q0 pv cal A:=by
 intro cal A h
 unfold Z12.C at h
 cases h
theorem Z12.good (hE:EnvOk Tryz.prog Q0)(pv:Nat->Value)(k:Nat)(a0:List ByteArray)(a1:List ByteArray){y:_}(h:Z12.F k a0 a1=some y):Qa Tryz.prog Q0 pv (.f 15) (Qb [(.sl .str),(.sl .str)] (a0,a1,())) (.t .bool y):=
 Qm hE (t:=Z12.C) k (λk _=>Z12.G hE pv k) (f:=15) (fn:=Tryz.f15) (by kernel_rfl) rfl (by kernel_rfl) (by kernel_rfl) (lt:=Z12.L) (by kernel_rfl) (λb A h=>by
  unfold Z12.L at h;split at h
  ·cases h;exact⟨by kernel_rfl,by kernel_rfl,by kernel_rfl,λ_=>rfl,λ_=>rfl,λ_=>rfl⟩
  ·cases h) (λb A h=>by
  unfold Z12.L at h;split at h
  ·cases h;exact λk x=>Z12.step0 k x.1 x.2.1 x.2.2.1
  ·cases h) ((Z12.run k a0 a1).trans h) (λr hr=>Q6 hr)
def Z60.F (k:Nat)(a0:ByteArray):Option (Bool):=(Z44.F k a0).bind λr1=>some (!r1)
def Z60.C (k:Nat):Cal->Option CArm:=λc=>match c with
 |.f 30=>some (.p [.str] _ (λx=>Z44.F k x.1) (λr=>(.t .bool r)))
 |_=>none
theorem Z60.run (k:Nat)(a0:ByteArray):QB Q0 (Qf (Z60.C k)) (Qd 6 0 (λ_=>none)) Tryz.f65 [.t .str a0] (Qh (.t .bool))=Z60.F k a0:=by kernel_rfl
theorem Z60.G (hE:EnvOk Tryz.prog Q0)(pv:Nat->Value)(k:Nat):∀cal A,Z60.C k cal=some A->Qe Tryz.prog Q0 pv cal A:=by
 intro cal A h
 unfold Z60.C at h
 split at h
 ·cases h;exact λx y hy=>Z44.good hE pv k x.1 hy
 ·cases h
theorem Z60.good (hE:EnvOk Tryz.prog Q0)(pv:Nat->Value)(k:Nat)(a0:ByteArray){y:_}(h:Z60.F k a0=some y):Qa Tryz.prog Q0 pv (.f 65) (Qb [.str] (a0,())) (.t .bool y):=
 Qc hE (Z60.G hE pv k) (f:=65) (fn:=Tryz.f65) (by kernel_rfl) rfl (by kernel_rfl) (by kernel_rfl) ((Z60.run k a0).trans h) (λr hr=>Q6 hr)
def Z31.l0:Nat->(List ByteArray)->Int->Int->Option (Sum Int Unit)
 |0,_,_,_=>none
 |k+1,x0,x7,x8=>bif (decide (x8<x7))then(bif decide (0<=x8)then(bif decide (x8<(x0.length:Int))then((Z60.F k (x0.getD (x8:Int).toNat (⟨#[]⟩:ByteArray))).bind λr1=>bif r1 then(some (.inl x8))else(Z31.l0 k x0 x7 (IntKind.wrap .i64 (x8+1))))else none)else none)else(some (.inr ()))
def Z31.F (k:Nat)(a0:List ByteArray):Option (Int):=(Z31.l0 k a0 (a0.length:Int) 0).bind λy2=>match y2 with|.inl z3=>some z3|.inr z3=>some (-1)
def Z31.C (k:Nat):Cal->Option CArm:=λc=>match c with
 |.f 65=>some (.p [.str] _ (λx=>Z60.F k x.1) (λr=>(.t .bool r)))
 |_=>none
def Z31.sp0:List Sp:=[.t 0 (.sl .str),.con 1 (.clo 65),.t 7 (.int .i64),.t 8 (.int .i64)]
def Z31.sp0_0:List Sp:=[.t 4 (.int .i64)]
def Z31.sp0_1:List Sp:=[]
def Z31.A0:LArm:=.two Z31.sp0 Z31.sp0_0 Z31.sp0_1 (Int) (Unit) (λk x=>Z31.l0 k x.1 x.2.2.1 x.2.2.2.1) .ret (.exit 0) (λy=>(y,())) (λx=>x.1) (λy=>()) (λx=>())
def Z31.L:Nat->Option LArm:=λb=>match b with
 |0=>some Z31.A0
 |_=>none
theorem Z31.run (k:Nat)(a0:List ByteArray):QB Q0 (Qf (Z31.C k)) (Qd 19 k Z31.L) Tryz.f59 [.t (.sl .str) a0,.clo 65 []] (Qh (.t (.int .i64)))=Z31.F k a0:=by kernel_rfl
theorem Z31.step0 (k:Nat)(x0:List ByteArray)(x7:Int)(x8:Int):QO Q0 (Qf (Z31.C k)) (Qd 19 k Z31.L) 0 (Qr Tryz.f59 0) (Jf 19 Z31.sp0 (x0,(),x7,x8,())) (Z31.A0.cont 19 k)=Z31.l0 (k+1) x0 x7 x8:=by kernel_rfl
theorem Z31.G (hE:EnvOk Tryz.prog Q0)(pv:Nat->Value)(k:Nat):∀cal A,Z31.C k cal=some A->Qe Tryz.prog Q0 pv cal A:=by
 intro cal A h
 unfold Z31.C at h
 split at h
 ·cases h;exact λx y hy=>Z60.good hE pv k x.1 hy
 ·cases h
theorem Z31.good (hE:EnvOk Tryz.prog Q0)(pv:Nat->Value)(k:Nat)(a0:List ByteArray){y:_}(h:Z31.F k a0=some y):Qa Tryz.prog Q0 pv (.f 59) (Ys [.t (.sl .str),.clo 65 []] (a0,(()),())) (.t (.int .i64) y):=
 Qm hE (t:=Z31.C) k (λk _=>Z31.G hE pv k) (f:=59) (fn:=Tryz.f59) (by kernel_rfl) rfl (by kernel_rfl) (by kernel_rfl) (lt:=Z31.L) (by kernel_rfl) (λb A h=>by
  unfold Z31.L at h;split at h
  ·cases h;exact⟨by kernel_rfl,by kernel_rfl,by kernel_rfl,λ_=>rfl,λ_=>rfl,λ_=>rfl⟩
  ·cases h) (λb A h=>by
  unfold Z31.L at h;split at h
  ·cases h;exact λk x=>Z31.step0 k x.1 x.2.2.1 x.2.2.2.1
  ·cases h) ((Z31.run k a0).trans h) (λr hr=>Q6 hr)
def Z76.F (k:Nat)(a0:List ByteArray):Option (Bool):=(Z31.F k a0).bind λr1=>some (decide (r1 ≥ 0))
def Z76.C (k:Nat):Cal->Option CArm:=λc=>match c with
 |.f 59=>some (.q [.t (.sl .str),.clo 65 []] _ (λx=>Z31.F k x.1) (λr=>(.t (.int .i64) r)))
 |_=>none
theorem Z76.run (k:Nat)(a0:List ByteArray):QB Q0 (Qf (Z76.C k)) (Qd 9 0 (λ_=>none)) Tryz.f64 [.t (.sl .str) a0,.clo 65 []] (Qh (.t .bool))=Z76.F k a0:=by kernel_rfl
theorem Z76.G (hE:EnvOk Tryz.prog Q0)(pv:Nat->Value)(k:Nat):∀cal A,Z76.C k cal=some A->Qe Tryz.prog Q0 pv cal A:=by
 intro cal A h
 unfold Z76.C at h
 split at h
 ·cases h;exact λx y hy=>Z31.good hE pv k x.1 hy
 ·cases h
theorem Z76.good (hE:EnvOk Tryz.prog Q0)(pv:Nat->Value)(k:Nat)(a0:List ByteArray){y:_}(h:Z76.F k a0=some y):Qa Tryz.prog Q0 pv (.f 64) (Ys [.t (.sl .str),.clo 65 []] (a0,(()),())) (.t .bool y):=
 Qc hE (Z76.G hE pv k) (f:=64) (fn:=Tryz.f64) (by kernel_rfl) rfl (by kernel_rfl) (by kernel_rfl) ((Z76.run k a0).trans h) (λr hr=>Q6 hr)
def Z71.F (k:Nat)(a0:List Abbr)(a1:List ByteArray):Option (Bool):=(Z1.F k a0).bind λr1=>bif r1 then(bif (decide ((a1.length:Int)<=20))then((Z76.F k a1).bind λr2=>some (!r2))else(some false))else(some false)
def Z71.C (k:Nat):Cal->Option CArm:=λc=>match c with
 |.f 9=>some (.p [(.sl .abbr)] _ (λx=>Z1.F k x.1) (λr=>(.t .bool r)))
 |.f 64=>some (.q [.t (.sl .str),.clo 65 []] _ (λx=>Z76.F k x.1) (λr=>(.t .bool r)))
 |_=>none
theorem Z71.run (k:Nat)(a0:List Abbr)(a1:List ByteArray):QB Q0 (Qf (Z71.C k)) (Qd 17 0 (λ_=>none)) Tryz.f39 [.t (.sl .abbr) a0,.t (.sl .str) a1] (Qh (.t .bool))=Z71.F k a0 a1:=by kernel_rfl
theorem Z71.G (hE:EnvOk Tryz.prog Q0)(pv:Nat->Value)(k:Nat):∀cal A,Z71.C k cal=some A->Qe Tryz.prog Q0 pv cal A:=by
 intro cal A h
 unfold Z71.C at h
 split at h
 ·cases h;exact λx y hy=>Z1.good hE pv k x.1 hy
 ·cases h;exact λx y hy=>Z76.good hE pv k x.1 hy
 ·cases h
theorem Z71.good (hE:EnvOk Tryz.prog Q0)(pv:Nat->Value)(k:Nat)(a0:List Abbr)(a1:List ByteArray){y:_}(h:Z71.F k a0 a1=some y):Qa Tryz.prog Q0 pv (.f 39) (Qb [(.sl .abbr),(.sl .str)] (a0,a1,())) (.t .bool y):=
 Qc hE (Z71.G hE pv k) (f:=39) (fn:=Tryz.f39) (by kernel_rfl) rfl (by kernel_rfl) (by kernel_rfl) ((Z71.run k a0 a1).trans h) (λr hr=>Q6 hr)
def Z15.l0:Nat->(List Abbr)->ByteArray->(List Int)->(List ByteArray)->Int->Int->Option ((List Int))
 |0,_,_,_,_,_,_=>none
 |k+1,x0,x2,x8,x16,x17,x18=>bif (decide (x18<x17))then(bif decide (0<=x18)then(bif decide (x18<(x16.length:Int))then((Z9.F k x0 (x16.getD (x18:Int).toNat (⟨#[]⟩:ByteArray))).bind λr2=>bif (Qi r2 x2)then(bif room (x8.length+([x18]:List Int).length) (.int .i64)then(Z15.l0 k x0 x2 (x8++([x18]:List Int)) x16 x17 (IntKind.wrap .i64 (x18+1)))else none)else(Z15.l0 k x0 x2 x8 x16 x17 (IntKind.wrap .i64 (x18+1))))else none)else none)else(some x8)
def Z15.F (k:Nat)(a0:List Abbr)(a1:List ByteArray)(a2:ByteArray):Option ((List Int)×Bool):=(Z71.F k a0 a1).bind λr1=>bif (!r1)then(some ([],false))else((Z15.l0 k a0 a2 ([]:List Int) a1 (a1.length:Int) 0).bind λy3=>some (y3,true))
def Z15.C (k:Nat):Cal->Option CArm:=λc=>match c with
 |.f 39=>some (.p [(.sl .abbr),(.sl .str)] _ (λx=>Z71.F k x.1 x.2.1) (λr=>(.t .bool r)))
 |.f 31=>some (.p [(.sl .abbr),.str] _ (λx=>Z9.F k x.1 x.2.1) (λr=>(.t .str r)))
 |_=>none
def Z15.sp0:List Sp:=[.t 0 (.sl .abbr),.t 2 .str,.own 8 3072 3 (.int .i64) false true,.t 16 (.sl .str),.t 17 (.int .i64),.t 18 (.int .i64)]
def Z15.sp0_0:List Sp:=[.own 8 3072 3 (.int .i64) false true]
def Z15.A0:LArm:=.one Z15.sp0 Z15.sp0_0 ((List Int)) (λk x=>Z15.l0 k x.1 x.2.1 x.2.2.1 x.2.2.2.1 x.2.2.2.2.1 x.2.2.2.2.2.1) (.exit 0) (λy=>(y,())) (λx=>x.1)
def Z15.L:Nat->Option LArm:=λb=>match b with
 |0=>some Z15.A0
 |_=>none
theorem Z15.run (k:Nat)(a0:List Abbr)(a1:List ByteArray)(a2:ByteArray):QB Q0 (Qf (Z15.C k)) (Qd 34 k Z15.L) Tryz.f16 [.t (.sl .abbr) a0,.t (.sl .str) a1,.t .str a2] (JE (.fr 3 (.int .i64)) (.t .bool))=Z15.F k a0 a1 a2:=by kernel_rfl
theorem Z15.step0 (k:Nat)(x0:List Abbr)(x2:ByteArray)(x8:List Int)(x16:List ByteArray)(x17:Int)(x18:Int):QO Q0 (Qf (Z15.C k)) (Qd 34 k Z15.L) 0 (Qr Tryz.f16 0) (Jf 34 Z15.sp0 (x0,x2,x8,x16,x17,x18,())) (Z15.A0.cont 34 k)=Z15.l0 (k+1) x0 x2 x8 x16 x17 x18:=by kernel_rfl
theorem Z15.G (hE:EnvOk Tryz.prog Q0)(pv:Nat->Value)(k:Nat):∀cal A,Z15.C k cal=some A->Qe Tryz.prog Q0 pv cal A:=by
 intro cal A h
 unfold Z15.C at h
 split at h
 ·cases h;exact λx y hy=>Z71.good hE pv k x.1 x.2.1 hy
 ·cases h;exact λx y hy=>Z9.good hE pv k x.1 x.2.1 hy
 ·cases h
theorem Z15.good (hE:EnvOk Tryz.prog Q0)(pv:Nat->Value)(k:Nat)(a0:List Abbr)(a1:List ByteArray)(a2:ByteArray){y:_}(h:Z15.F k a0 a1 a2=some y):Qa Tryz.prog Q0 pv (.f 16) (Qb [(.sl .abbr),(.sl .str),.str] (a0,a1,a2,())) (.tup [.fr 3 (.int .i64) y.1,.t .bool y.2]):=
 Qm hE (t:=Z15.C) k (λk _=>Z15.G hE pv k) (f:=16) (fn:=Tryz.f16) (by kernel_rfl) rfl (by kernel_rfl) (by kernel_rfl) (lt:=Z15.L) (by kernel_rfl) (λb A h=>by
  unfold Z15.L at h;split at h
  ·cases h;exact⟨by kernel_rfl,by kernel_rfl,λ_=>rfl,λ_=>rfl⟩
  ·cases h) (λb A h=>by
  unfold Z15.L at h;split at h
  ·cases h;exact λk x=>Z15.step0 k x.1 x.2.1 x.2.2.1 x.2.2.2.1 x.2.2.2.2.1 x.2.2.2.2.2.1
  ·cases h) ((Z15.run k a0 a1 a2).trans h) (λr hr=>J5 hr)
def Z41.F (k:Nat)(a0:List Int):Option ((List Abbr)×ByteArray):=(Z4.F k (⟨a0,0,0⟩:Cur)).bind λr1=>(Z34.F r1.1 ([(⟨#[74,111,117,114,110,97,108]⟩:ByteArray),(⟨#[106,111,117,114,110,101,121]⟩:ByteArray),(⟨#[73,78,84,69,82,78,65,84,73,79,78,65,76]⟩:ByteArray),(⟨#[73,110,116]⟩:ByteArray),(⟨#[105,110]⟩:ByteArray),(⟨#[72,105,115,116,111,114,121,44]⟩:ByteArray),(⟨#[114,101,118,105,101,119]⟩:ByteArray),(⟨#[]⟩:ByteArray),(⟨#[97,32,98]⟩:ByteArray)]:List ByteArray)).bind λr2=>some (r1.2,r2.2)
def Z41.C (k:Nat):Cal->Option CArm:=λc=>match c with
 |.f 19=>some (.m (.bx .cur) [] _ (λx0 x=>Z4.F k x0) (λr=>.kep (.bx .cur r.1) (.fr 26 .abbr r.2)))
 |.f 20=>some (.m (.bx .cur) [(.sl .str)] _ (λx0 x=>Z34.F x0 x.1) (λr=>.kep (.bx .cur r.1) (.t .str r.2)))
 |_=>none
theorem Z41.run (k:Nat)(a0:List Int):QB Q0 (Qf (Z41.C k)) (Qd 15 0 (λ_=>none)) Tryz.f17 [.t (.sl (.int .u8)) a0] (JE (.fr 26 .abbr) (.t .str))=Z41.F k a0:=by kernel_rfl
theorem Z41.G (hE:EnvOk Tryz.prog Q0)(pv:Nat->Value)(k:Nat):∀cal A,Z41.C k cal=some A->Qe Tryz.prog Q0 pv cal A:=by
 intro cal A h
 unfold Z41.C at h
 split at h
 ·cases h;exact⟨_,rfl,λx0 x y hy=>Z4.good hE pv k x0 hy⟩
 ·cases h;exact⟨_,rfl,λx0 x y hy=>Z34.good hE pv x0 x.1 hy⟩
 ·cases h
theorem Z41.good (hE:EnvOk Tryz.prog Q0)(pv:Nat->Value)(k:Nat)(a0:List Int){y:_}(h:Z41.F k a0=some y):Qa Tryz.prog Q0 pv (.f 17) (Qb [(.sl (.int .u8))] (a0,())) (.tup [.fr 26 .abbr y.1,.t .str y.2]):=
 Qc hE (Z41.G hE pv k) (f:=17) (fn:=Tryz.f17) (by kernel_rfl) rfl (by kernel_rfl) (by kernel_rfl) ((Z41.run k a0).trans h) (λr hr=>J5 hr)
def Z23.l0:Nat->ByteArray->Int->Int->Int->Int->Option (Sum Bool (ByteArray×Int×Int))
 |0,_,_,_,_,_=>none
 |k+1,x0,x1,x2,x3,x9=>bif (decide (x9<(x0.size:Int)))then(bif decide (0<=x9)then(bif decide (x9<(x0.size:Int))then(bif (decide ((bt x0 (x9:Int).toNat)<x3))then(some (.inl false))else(bif decide (0<=x9)then(bif decide (x9<(x0.size:Int))then(bif (decide ((bt x0 (x9:Int).toNat) > 126))then(some (.inl false))else(Z23.l0 k x0 x1 x2 x3 (IntKind.wrap .i64 (x9+1))))else none)else none))else none)else none)else(some (.inr (x0,x1,x2)))
def Z23.F (k:Nat)(a0:ByteArray)(a1:Int)(a2:Int)(a3:Int):Option (Bool):=(Z23.l0 k a0 a1 a2 a3 0).bind λy1=>match y1 with|.inl z2=>some z2|.inr z2=>(Z50.F (z2.1.size:Int) z2.2.1 z2.2.2).bind λr3=>some r3
def Z23.C (k:Nat):Cal->Option CArm:=λc=>match c with
 |.f 66=>some (.p [(.int .i64),(.int .i64),(.int .i64)] _ (λx=>Z50.F x.1 x.2.1 x.2.2.1) (λr=>(.t .bool r)))
 |_=>none
def Z23.sp0:List Sp:=[.t 0 .str,.t 1 (.int .i64),.t 2 (.int .i64),.t 3 (.int .u8),.t 9 (.int .i64)]
def Z23.sp0_0:List Sp:=[.t 8 .bool]
def Z23.sp0_1:List Sp:=[.t 0 .str,.t 1 (.int .i64),.t 2 (.int .i64)]
def Z23.A0:LArm:=.two Z23.sp0 Z23.sp0_0 Z23.sp0_1 (Bool) (ByteArray×Int×Int) (λk x=>Z23.l0 k x.1 x.2.1 x.2.2.1 x.2.2.2.1 x.2.2.2.2.1) .ret (.exit 0) (λy=>(y,())) (λx=>x.1) (λy=>(y.1,y.2.1,y.2.2,())) (λx=>(x.1,x.2.1,x.2.2.1))
def Z23.L:Nat->Option LArm:=λb=>match b with
 |0=>some Z23.A0
 |_=>none
theorem Z23.run (k:Nat)(a0:ByteArray)(a1:Int)(a2:Int)(a3:Int):QB Q0 (Qf (Z23.C k)) (Qd 32 k Z23.L) Tryz.f40 [.t .str a0,.t (.int .i64) a1,.t (.int .i64) a2,.t (.int .u8) a3] (Qh (.t .bool))=Z23.F k a0 a1 a2 a3:=by kernel_rfl
theorem Z23.step0 (k:Nat)(x0:ByteArray)(x1:Int)(x2:Int)(x3:Int)(x9:Int):QO Q0 (Qf (Z23.C k)) (Qd 32 k Z23.L) 0 (Qr Tryz.f40 0) (Jf 32 Z23.sp0 (x0,x1,x2,x3,x9,())) (Z23.A0.cont 32 k)=Z23.l0 (k+1) x0 x1 x2 x3 x9:=by kernel_rfl
theorem Z23.G (hE:EnvOk Tryz.prog Q0)(pv:Nat->Value)(k:Nat):∀cal A,Z23.C k cal=some A->Qe Tryz.prog Q0 pv cal A:=by
 intro cal A h
 unfold Z23.C at h
 split at h
 ·cases h;exact λx y hy=>Z50.good hE pv x.1 x.2.1 x.2.2.1 hy
 ·cases h
theorem Z23.good (hE:EnvOk Tryz.prog Q0)(pv:Nat->Value)(k:Nat)(a0:ByteArray)(a1:Int)(a2:Int)(a3:Int){y:_}(h:Z23.F k a0 a1 a2 a3=some y):Qa Tryz.prog Q0 pv (.f 40) (Qb [.str,(.int .i64),(.int .i64),(.int .u8)] (a0,a1,a2,a3,())) (.t .bool y):=
 Qm hE (t:=Z23.C) k (λk _=>Z23.G hE pv k) (f:=40) (fn:=Tryz.f40) (by kernel_rfl) rfl (by kernel_rfl) (by kernel_rfl) (lt:=Z23.L) (by kernel_rfl) (λb A h=>by
  unfold Z23.L at h;split at h
  ·cases h;exact⟨by kernel_rfl,by kernel_rfl,by kernel_rfl,λ_=>rfl,λ_=>rfl,λ_=>rfl⟩
  ·cases h) (λb A h=>by
  unfold Z23.L at h;split at h
  ·cases h;exact λk x=>Z23.step0 k x.1 x.2.1 x.2.2.1 x.2.2.2.1 x.2.2.2.2.1
  ·cases h) ((Z23.run k a0 a1 a2 a3).trans h) (λr hr=>Q6 hr)
def Z38.F (k:Nat)(a0:List Abbr)(a1:ByteArray):Option (ByteArray×Bool):=(Z2.F k a0).bind λr1=>bif (!r1)then(some ((⟨#[]⟩:ByteArray),false))else((Z23.F k a1 1 40 33).bind λr2=>bif (!r2)then(some ((⟨#[]⟩:ByteArray),false))else((Z37.F k a0 a1).bind λr3=>some (r3,true)))
def Z38.C (k:Nat):Cal->Option CArm:=λc=>match c with
 |.f 22=>some (.p [(.sl .abbr)] _ (λx=>Z2.F k x.1) (λr=>(.t .bool r)))
 |.f 40=>some (.p [.str,(.int .i64),(.int .i64),(.int .u8)] _ (λx=>Z23.F k x.1 x.2.1 x.2.2.1 x.2.2.2.1) (λr=>(.t .bool r)))
 |.f 38=>some (.p [(.sl .abbr),.str] _ (λx=>Z37.F k x.1 x.2.1) (λr=>(.t .str r)))
 |_=>none
theorem Z38.run (k:Nat)(a0:List Abbr)(a1:ByteArray):QB Q0 (Qf (Z38.C k)) (Qd 17 0 (λ_=>none)) Tryz.f18 [.t (.sl .abbr) a0,.t .str a1] (JE (.t .str) (.t .bool))=Z38.F k a0 a1:=by kernel_rfl
theorem Z38.G (hE:EnvOk Tryz.prog Q0)(pv:Nat->Value)(k:Nat):∀cal A,Z38.C k cal=some A->Qe Tryz.prog Q0 pv cal A:=by
 intro cal A h
 unfold Z38.C at h
 split at h
 ·cases h;exact λx y hy=>Z2.good hE pv k x.1 hy
 ·cases h;exact λx y hy=>Z23.good hE pv k x.1 x.2.1 x.2.2.1 x.2.2.2.1 hy
 ·cases h;exact λx y hy=>Z37.good hE pv k x.1 x.2.1 hy
 ·cases h
theorem Z38.good (hE:EnvOk Tryz.prog Q0)(pv:Nat->Value)(k:Nat)(a0:List Abbr)(a1:ByteArray){y:_}(h:Z38.F k a0 a1=some y):Qa Tryz.prog Q0 pv (.f 18) (Qb [(.sl .abbr),.str] (a0,a1,())) (.tup [.t .str y.1,.t .bool y.2]):=
 Qc hE (Z38.G hE pv k) (f:=18) (fn:=Tryz.f18) (by kernel_rfl) rfl (by kernel_rfl) (by kernel_rfl) ((Z38.run k a0 a1).trans h) (λr hr=>J5 hr)
def Z77.F (k:Nat)(a0:List Int):Option (Bool):=(Z72.F a0).bind λr1=>bif r1 then(some true)else((Z62.F k a0).bind λr2=>(Z7.F k r2.1 r2.2).bind λr3=>(Z8.F k r2.1 r2.2).bind λr4=>bif (!(r3.2==r4.2))then(some false)else(bif r3.2 then(bif decide (0<=(IntKind.wrap .i64 ((r2.2.word.size:Int)-1)))then(bif decide ((IntKind.wrap .i64 ((r2.2.word.size:Int)-1))<(r2.2.word.size:Int))then(bif ((bt r2.2.word ((IntKind.wrap .i64 ((r2.2.word.size:Int)-1)):Int).toNat) != 45)then((Z36.F k r3.1 r2.2.word).bind λr5=>bif (!r5.2)then(some false)else(bif (!Qi r5.1 r2.2.short)then(some false)else((Z1.F k r3.1).bind λr6=>bif (!r6)then(some false)else(bif (decide ((r3.1.length:Int)<(r2.1.length:Int)))then(some false)else(bif (decide ((r3.1.length:Int) > (IntKind.wrap .i64 ((r2.1.length:Int)+1))))then(some false)else((Z53.F k a0).bind λr7=>(Z55.F k r7.1 r7.2).bind λr8=>(Z57.F k r7.1 r7.2).bind λr9=>bif (!Qi r8.1 r9.1)then(some false)else(bif (!(r8.2==r9.2))then(some false)else((Z58.F k r7.1 r7.2).bind λr10=>(Z6.F k r7.1 r7.2).bind λr11=>bif (!(r10.2==r11.2))then(some false)else((Z12.F k r10.1 r11.1).bind λr12=>bif (!r12)then(some false)else(bif r8.2 then((Z15.F k r7.1 ([r7.2]:List ByteArray) r8.1).bind λr13=>bif (!r13.2)then(some false)else(bif ((r13.1.length:Int) != 1)then(some false)else((Z41.F k a0).bind λr14=>(Z36.F k r14.1 r14.2).bind λr15=>(Z38.F k r14.1 r14.2).bind λr16=>bif (Qi r15.1 r16.1)then(some (r15.2==r16.2))else(some false))))else((Z41.F k a0).bind λr17=>(Z36.F k r17.1 r17.2).bind λr18=>(Z38.F k r17.1 r17.2).bind λr19=>bif (Qi r18.1 r19.1)then(some (r18.2==r19.2))else(some false))))))))))))else((Z1.F k r3.1).bind λr20=>bif (!r20)then(some false)else(bif (decide ((r3.1.length:Int)<(r2.1.length:Int)))then(some false)else(bif (decide ((r3.1.length:Int) > (IntKind.wrap .i64 ((r2.1.length:Int)+1))))then(some false)else((Z53.F k a0).bind λr21=>(Z55.F k r21.1 r21.2).bind λr22=>(Z57.F k r21.1 r21.2).bind λr23=>bif (!Qi r22.1 r23.1)then(some false)else(bif (!(r22.2==r23.2))then(some false)else((Z58.F k r21.1 r21.2).bind λr24=>(Z6.F k r21.1 r21.2).bind λr25=>bif (!(r24.2==r25.2))then(some false)else((Z12.F k r24.1 r25.1).bind λr26=>bif (!r26)then(some false)else(bif r22.2 then((Z15.F k r21.1 ([r21.2]:List ByteArray) r22.1).bind λr27=>bif (!r27.2)then(some false)else(bif ((r27.1.length:Int) != 1)then(some false)else((Z41.F k a0).bind λr28=>(Z36.F k r28.1 r28.2).bind λr29=>(Z38.F k r28.1 r28.2).bind λr30=>bif (Qi r29.1 r30.1)then(some (r29.2==r30.2))else(some false))))else((Z41.F k a0).bind λr31=>(Z36.F k r31.1 r31.2).bind λr32=>(Z38.F k r31.1 r31.2).bind λr33=>bif (Qi r32.1 r33.1)then(some (r32.2==r33.2))else(some false)))))))))))else none)else none)else((Z53.F k a0).bind λr34=>(Z55.F k r34.1 r34.2).bind λr35=>(Z57.F k r34.1 r34.2).bind λr36=>bif (!Qi r35.1 r36.1)then(some false)else(bif (!(r35.2==r36.2))then(some false)else((Z58.F k r34.1 r34.2).bind λr37=>(Z6.F k r34.1 r34.2).bind λr38=>bif (!(r37.2==r38.2))then(some false)else((Z12.F k r37.1 r38.1).bind λr39=>bif (!r39)then(some false)else(bif r35.2 then((Z15.F k r34.1 ([r34.2]:List ByteArray) r35.1).bind λr40=>bif (!r40.2)then(some false)else(bif ((r40.1.length:Int) != 1)then(some false)else((Z41.F k a0).bind λr41=>(Z36.F k r41.1 r41.2).bind λr42=>(Z38.F k r41.1 r41.2).bind λr43=>bif (Qi r42.1 r43.1)then(some (r42.2==r43.2))else(some false))))else((Z41.F k a0).bind λr44=>(Z36.F k r44.1 r44.2).bind λr45=>(Z38.F k r44.1 r44.2).bind λr46=>bif (Qi r45.1 r46.1)then(some (r45.2==r46.2))else(some false)))))))))
def Z77.C (k:Nat):Cal->Option CArm:=λc=>match c with
 |.f 4=>some (.p [(.sl (.int .u8))] _ (λx=>Z72.F x.1) (λr=>(.t .bool r)))
 |.f 5=>some (.p [(.sl (.int .u8))] _ (λx=>Z62.F k x.1) (λr=>(.tup [.fr 26 .abbr r.1,.t .abbr r.2])))
 |.f 6=>some (.p [(.sl .abbr),.abbr] _ (λx=>Z7.F k x.1 x.2.1) (λr=>(.tup [.fr 26 .abbr r.1,.t .bool r.2])))
 |.f 7=>some (.p [(.sl .abbr),.abbr] _ (λx=>Z8.F k x.1 x.2.1) (λr=>(.tup [.fr 26 .abbr r.1,.t .bool r.2])))
 |.f 8=>some (.p [(.sl .abbr),.str] _ (λx=>Z36.F k x.1 x.2.1) (λr=>(.tup [.t .str r.1,.t .bool r.2])))
 |.f 9=>some (.p [(.sl .abbr)] _ (λx=>Z1.F k x.1) (λr=>(.t .bool r)))
 |.f 10=>some (.p [(.sl (.int .u8))] _ (λx=>Z53.F k x.1) (λr=>(.tup [.fr 26 .abbr r.1,.t .str r.2])))
 |.f 11=>some (.p [(.sl .abbr),.str] _ (λx=>Z55.F k x.1 x.2.1) (λr=>(.tup [.t .str r.1,.t .bool r.2])))
 |.f 12=>some (.p [(.sl .abbr),.str] _ (λx=>Z57.F k x.1 x.2.1) (λr=>(.tup [.t .str r.1,.t .bool r.2])))
 |.f 13=>some (.p [(.sl .abbr),.str] _ (λx=>Z58.F k x.1 x.2.1) (λr=>(.tup [.fr 9 .str r.1,.t .bool r.2])))
 |.f 14=>some (.p [(.sl .abbr),.str] _ (λx=>Z6.F k x.1 x.2.1) (λr=>(.tup [.fr 9 .str r.1,.t .bool r.2])))
 |.f 15=>some (.p [(.sl .str),(.sl .str)] _ (λx=>Z12.F k x.1 x.2.1) (λr=>(.t .bool r)))
 |.f 16=>some (.p [(.sl .abbr),(.sl .str),.str] _ (λx=>Z15.F k x.1 x.2.1 x.2.2.1) (λr=>(.tup [.fr 3 (.int .i64) r.1,.t .bool r.2])))
 |.f 17=>some (.p [(.sl (.int .u8))] _ (λx=>Z41.F k x.1) (λr=>(.tup [.fr 26 .abbr r.1,.t .str r.2])))
 |.f 18=>some (.p [(.sl .abbr),.str] _ (λx=>Z38.F k x.1 x.2.1) (λr=>(.tup [.t .str r.1,.t .bool r.2])))
 |_=>none
theorem Z77.run (k:Nat)(a0:List Int):QB Q0 (Qf (Z77.C k)) (Qd 180 0 (λ_=>none)) Tryz.f3 [.t (.sl (.int .u8)) a0] (Qh (.t .bool))=Z77.F k a0:=by kernel_rfl
theorem Z77.G (hE:EnvOk Tryz.prog Q0)(pv:Nat->Value)(k:Nat):∀cal A,Z77.C k cal=some A->Qe Tryz.prog Q0 pv cal A:=by
 intro cal A h
 unfold Z77.C at h
 split at h
 ·cases h;exact λx y hy=>Z72.good hE pv x.1 hy
 ·cases h;exact λx y hy=>Z62.good hE pv k x.1 hy
 ·cases h;exact λx y hy=>Z7.good hE pv k x.1 x.2.1 hy
 ·cases h;exact λx y hy=>Z8.good hE pv k x.1 x.2.1 hy
 ·cases h;exact λx y hy=>Z36.good hE pv k x.1 x.2.1 hy
 ·cases h;exact λx y hy=>Z1.good hE pv k x.1 hy
 ·cases h;exact λx y hy=>Z53.good hE pv k x.1 hy
 ·cases h;exact λx y hy=>Z55.good hE pv k x.1 x.2.1 hy
 ·cases h;exact λx y hy=>Z57.good hE pv k x.1 x.2.1 hy
 ·cases h;exact λx y hy=>Z58.good hE pv k x.1 x.2.1 hy
 ·cases h;exact λx y hy=>Z6.good hE pv k x.1 x.2.1 hy
 ·cases h;exact λx y hy=>Z12.good hE pv k x.1 x.2.1 hy
 ·cases h;exact λx y hy=>Z15.good hE pv k x.1 x.2.1 x.2.2.1 hy
 ·cases h;exact λx y hy=>Z41.good hE pv k x.1 hy
 ·cases h;exact λx y hy=>Z38.good hE pv k x.1 x.2.1 hy
 ·cases h
theorem Z77.good (hE:EnvOk Tryz.prog Q0)(pv:Nat->Value)(k:Nat)(a0:List Int){y:_}(h:Z77.F k a0=some y):Qa Tryz.prog Q0 pv (.f 3) (Qb [(.sl (.int .u8))] (a0,())) (.t .bool y):=
 Qc hE (Z77.G hE pv k) (f:=3) (fn:=Tryz.f3) (by kernel_rfl) rfl (by kernel_rfl) (by kernel_rfl) ((Z77.run k a0).trans h) (λr hr=>Q6 hr)
end Go.Proofs.YtfindpalabmmmaaGreatDoor
end
section
/- Plain laws: abbreviations,their check. -/
namespace Go.Proofs.YtfindpalabmmmaaGreatDoor
open Go.Gx
theorem getD_at {α:Type}{xs:List α}{i:Nat}(h:i<xs.length)(d:α):xs.getD i d=xs[i]:=by simp[List.getD,List.getElem?_eq_getElem h]
def low (b:UInt8):Bool:=decide (97<=b.toNat)&&decide (b.toNat<=122)
def Yx (s:ByteArray)(b:Nat):ByteArray:=if 0<s.size/\bt s (s.size-1)=b then s.extract 0 (s.size-1)else s
theorem Us (s:ByteArray)(b:Nat):(Yx s b).size<=s.size:=by
 unfold Yx;split
 ·simp[ByteArray.size_extract]
 ·exact Nat.le_refl _
theorem D2 {s:ByteArray}:(!Qi s ⟨#[]⟩)=decide (0<s.size):=by
 rw[Q4O]
 have:L ⟨#[]⟩=[]:=rfl
 rw[this,<-J9]
 cases L s<;>rfl
theorem UK (s:ByteArray)(b:Nat)(h:s.size<=9223372036854775807):Z43.F s b=some (Yx s b):=by
 unfold Z43.F Yx
 rw[D2]
 by_cases c:0<s.size
 ·simp(disch:=omega) only[Qg,wrap_in]
  rw[show((s.size:Int)-1).toNat=s.size-1 by omega]
  by_cases c2:bt s (s.size-1)=b
  ·simp(disch:=first|omega|exact c2) only[ceq]
   rw[if_pos ⟨c,c2⟩]
  ·simp(disch:=first|omega|exact c2) only[cne]
   rw[if_neg (λh=>c2 h.2)]
 ·simp(disch:=omega) only[Qz]
  rw[if_neg (λh=>c h.1)]
theorem Q1t (s:ByteArray)(c:UInt8)(h:s.size<=9223372036854775807):Z49.F s ⟨#[c]⟩=some (decide (0<s.size)&&(bt s (s.size-1)==(c.toNat:Int))):=by
 unfold Z49.F
 have h1:(⟨#[c]⟩:ByteArray).size=1:=rfl
 rw[h1]
 by_cases hs:0<s.size
 ·simp(disch:=omega) only[Qg,wrap_in]
  rw[Q4O,Jc,show((s.size:Int)-((1:Nat):Int)).toNat=s.size-1 by omega,List.take_of_length_le (by rw[J9];omega),Q7c]
  congr 1
  have hl:s.size-1<(L s).length:=by rw[J9];omega
  rw[List.drop_eq_getElem_cons hl,List.drop_eq_nil_of_le (by rw[J9];omega),getD_at hl,decide_eq_true hs]
  show([(L s)[s.size-1]]==[c])=_
  rw[Bool.true_and]
  by_cases e:(L s)[s.size-1]=c
  ·rw[e];simp
  ·have:((L s)[s.size-1].toNat:Int)≠(c.toNat:Int):=λh=>e (UInt8.toNat_inj.1 (by omega))
   rw[show((((L s)[s.size-1]).toNat:Int)==(c.toNat:Int))=false by simpa using this]
   simpa using e
 ·simp(disch:=omega) only[Qz]
  rw[decide_eq_false hs];rfl
theorem Q81 (s:ByteArray)(c:UInt8)(h:s.size<=9223372036854775807):Z63.F s ⟨#[c]⟩=some (Yx s c.toNat):=by
 unfold Z63.F Z73.F
 rw[Q1t s c h]
 have h1:(⟨#[c]⟩:ByteArray).size=1:=rfl
 rw[h1]
 unfold Yx
 simp only[Option.bind_some]
 by_cases hs:0<s.size
 ·simp(disch:=omega) only[Qg,wrap_in,decide_eq_true hs,Bool.true_and]
  rw[show((s.size:Int)-((1:Nat):Int)).toNat=s.size-1 by omega]
  by_cases c2:bt s (s.size-1)=c.toNat
  ·simp(disch:=first|omega|exact c2) only[ceq]
   rw[if_pos ⟨hs,c2⟩];rfl
  ·simp(disch:=first|omega|exact c2) only[cne]
   rw[if_neg (λh=>c2 h.2)];rfl
 ·rw[decide_eq_false hs,if_neg (λh=>hs h.1)];rfl
theorem Q4Q (b:UInt8):low b=(decide ((b.toNat:Int) ≥ 97)&&decide ((b.toNat:Int)<=122)):=by
 unfold low
 congr 1<;>exact decide_eq_decide.2 (by omega)
theorem Q4c (b:UInt8):Z39.F (b.toNat:Int)=some (low b):=by
 unfold Z39.F
 rw[Q4Q]
 cases decide ((b.toNat:Int) ≥ 97)<;>rfl
theorem Q8f (a b c:Int):Z50.F a b c=some (decide (a ≥ b)&&decide (a<=c)):=by
 unfold Z50.F
 cases decide (a ≥ b)<;>rfl
theorem Q1u (a b c:Int):Z48.F a b c=some (decide (a ≥ b)&&decide (a<=c)):=by
 unfold Z48.F
 cases decide (a ≥ b)<;>rfl
theorem Q3e {s:ByteArray}{i:Nat}(hi:i<s.size)(p:UInt8->Bool):((L s).drop i).all p=(p ((L s).getD i 0)&&((L s).drop (i+1)).all p):=by
 have hl:i<(L s).length:=by rw[J9];exact hi
 rw[List.drop_eq_getElem_cons hl,getD_at hl];rfl
theorem Q3f (s:ByteArray)(hs:s.size<=9223372036854775806)(lo hi:Int):∀n i:Nat,i+n=s.size->Ev (λk=>Z16.l0 k s lo hi i) (if((L s).drop i).all low=true then .inr (s,lo,hi)else .inl false)
 |0,i,h=>by
  refine Ev.step (λk=>by rw[Z16.l0]) ?_
  simp(disch:=omega) only[Qz]
  rw[List.drop_eq_nil_of_le (by rw[J9];omega)]
  exact Ev.pure _
 |n+1,i,h=>by
  refine Ev.step (λk=>by rw[Z16.l0]) ?_
  simp(disch:=omega) only[Qg,Int.toNat_natCast,Q7c]
  refine Ev.bind0 (Q4c _) ?_
  rw[Q3e (by omega)]
  cases hlow:low ((L s).getD i 0)with
  |false=>simp only[Bool.not_false,cond_true,Bool.false_and];exact Ev.pure _
  |true=>
   simp(disch:=omega) only[Bool.not_true,cond_false,Bool.true_and,wrap_in]
   exact Q3f s hs lo hi n (i+1) (by omega)
theorem Q0n (s:ByteArray)(hs:s.size<=9223372036854775806)(lo hi:Int):∀n i:Nat,i+n=s.size->Ev (λk=>Z17.l0 k s lo hi i) (if((L s).drop i).all low=true then .inr (s,lo,hi)else .inl false)
 |0,i,h=>by
  refine Ev.step (λk=>by rw[Z17.l0]) ?_
  simp(disch:=omega) only[Qz]
  rw[List.drop_eq_nil_of_le (by rw[J9];omega)]
  exact Ev.pure _
 |n+1,i,h=>by
  refine Ev.step (λk=>by rw[Z17.l0]) ?_
  simp(disch:=omega) only[Qg,Int.toNat_natCast,Q7c]
  rw[Q3e (by omega),Q4Q]
  generalize (((L s).getD i 0).toNat:Int)=b
  by_cases c:b<97
  ·simp(disch:=omega) only[Qg,Xh,Bool.false_and];exact Ev.pure _
  ·by_cases c2:b > 122
   ·simp(disch:=omega) only[Qz,Qg,KW,Xh,Bool.true_and,Bool.false_and];exact Ev.pure _
   ·simp(disch:=omega) only[Qz,KW,Bool.true_and,wrap_in]
    exact Q0n s hs lo hi n (i+1) (by omega)
def Y4 (s:ByteArray)(lo hi:Int)(b:Nat):Bool:=(L (Yx s b)).all low&&(decide ((((Yx s b).size:Nat):Int) ≥ lo)&&decide ((((Yx s b).size:Nat):Int)<=hi))
theorem Q0o (s:ByteArray)(lo hi:Int)(c:UInt8)(h:s.size<=9223372036854775806):Ev (λk=>Z16.F k s lo hi ⟨#[c]⟩) (Y4 s lo hi c.toNat):=by
 unfold Z16.F Y4
 refine Ev.bind0 (Q81 s c (by omega)) ?_
 have hc:=Us s c.toNat
 have:=Q3f (Yx s c.toNat) (by omega) lo hi (Yx s c.toNat).size 0 (by omega)
 rw[List.drop_zero]at this
 cases hall:(L (Yx s c.toNat)).all low with
 |true=>rw[hall]at this;exact Ev.bind this (Ev.bind0 (Q1u _ _ _) (Ev.pure _))
 |false=>rw[hall]at this;exact Ev.bind this (Ev.pure _)
theorem Q0p (s:ByteArray)(lo hi:Int)(h:s.size<=9223372036854775806):Ev (λk=>Z17.F k s lo hi) ((L s).all low&&(decide ((s.size:Int) ≥ lo)&&decide ((s.size:Int)<=hi))):=by
 unfold Z17.F
 have:=Q0n s h lo hi s.size 0 (by omega)
 rw[List.drop_zero]at this
 cases hall:(L s).all low with
 |true=>rw[hall]at this;exact Ev.bind this (Ev.bind0 (Q8f _ _ _) (Ev.pure _))
 |false=>rw[hall]at this;exact Ev.bind this (Ev.pure _)
def D3 (a:Abbr):Bool:=Y4 a.word 2 15 45&&Y4 a.short 1 12 46
theorem Q0q (a:Abbr)(h1:a.word.size<=9223372036854775806)(h2:a.short.size<=9223372036854775806):Ev (λk=>Z51.F k a) (D3 a):=by
 unfold Z51.F D3
 refine Ev.bind0 (UK a.word 45 (by omega)) ?_
 have hc:=Us a.word 45
 refine Ev.bind (Q0p _ 2 15 (by omega)) ?_
 refine Ev.cond (λh=>?_) (λh=>?_)
 ·refine Ev.bind0 (UK a.short 46 (by omega)) ?_
  have hc:=Us a.short 46
  refine(Ev.bind (Q0p _ 1 12 (by omega)) (Ev.pure _)).eq ?_
  show _=(Y4 a.word 2 15 45&&_)
  rw[show Y4 a.word 2 15 45=true from h,Bool.true_and];rfl
 ·rw[show Y4 a.word 2 15 45=false from h];exact Ev.pure _
def okA (xs:List Abbr)(i:Nat):Bool:=D3 (xs.getD i (Q9 .abbr))&&(decide (i=0)||ltS (xs.getD (i-1) (Q9 .abbr)).word (xs.getD i (Q9 .abbr)).word)
def smalls (xs:List Abbr):Prop:=xs.length<=1048576/\∀a∈xs,a.word.size<=1048576/\a.short.size<=1048576
theorem D4 (xs:List Abbr)(hs:smalls xs):∀n i:Nat,i+n=xs.length->Ev (λk=>Z1.l0 k xs xs xs.length i) (if(List.range' i n).all (okA xs)=true then .inr xs else .inl false)
 |0,i,h=>by
  refine Ev.step (λk=>by rw[Z1.l0]) ?_
  simp(disch:=omega) only[Qz]
  exact Ev.pure _
 |n+1,i,h=>by
  have hi:i<xs.length:=by omega
  obtain⟨hl,hx⟩:=hs
  obtain⟨h1,h2⟩:=hx _ (List.getElem_mem hi)
  rw[<-getD_at hi (Q9 .abbr)]at h1 h2
  rw[List.range'_succ,List.all_cons]
  refine Ev.step (λk=>by rw[Z1.l0]) ?_
  simp(disch:=omega) only[Qg,Int.toNat_natCast]
  refine Ev.bind (Q0o _ 2 15 45 (by omega)) ?_
  unfold okA D3
  cases hw:Y4 (xs.getD i (Q9 .abbr)).word 2 15 (45:UInt8).toNat with
  |false=>
   rw[show Y4 (xs.getD i (Q9 .abbr)).word 2 15 45=false from hw]
   exact Ev.pure _
  |true=>
   rw[show Y4 (xs.getD i (Q9 .abbr)).word 2 15 45=true from hw]
   simp only[Bool.not_true,cond_false,Bool.true_and]
   refine Ev.bind (Q0o _ 1 12 46 (by omega)) ?_
   cases hw2:Y4 (xs.getD i (Q9 .abbr)).short 1 12 (46:UInt8).toNat with
   |false=>
    rw[show Y4 (xs.getD i (Q9 .abbr)).short 1 12 46=false from hw2]
    exact Ev.pure _
   |true=>
    rw[show Y4 (xs.getD i (Q9 .abbr)).short 1 12 46=true from hw2]
    simp only[Bool.not_true,cond_false,Bool.true_and]
    have ih:=D4 xs ⟨hl,hx⟩ n (i+1) (by omega)
    by_cases c:i=0
    ·simp(disch:=omega) only[Qz,wrap_in,KW,Bool.true_or,Bool.true_and]
     exact ih
    ·simp(disch:=omega) only[Qg,wrap_in,Xh,Bool.false_or]
     rw[show((i:Int)-1).toNat=i-1 by omega]
     cases ltS (xs.getD (i-1) (Q9 .abbr)).word (xs.getD i (Q9 .abbr)).word with
     |false=>exact Ev.pure _
     |true=>exact ih
theorem D5 (xs:List Abbr)(hs:smalls xs):∀n i:Nat,i+n=xs.length->∃r,Ev (λk=>Z2.l0 k xs i) r/\(r= .inl false\/r= .inr xs)/\(xs.length<=15->r=if(List.range' i n).all (okA xs)=true then .inr xs else .inl false)
 |0,i,h=>by
  refine⟨.inr xs,Ev.step (λk=>by rw[Z2.l0]) ?_,.inr rfl,λ_=>rfl⟩
  simp(disch:=omega) only[Qz]
  exact Ev.pure _
 |n+1,i,h=>by
  have hi:i<xs.length:=by omega
  obtain⟨hl,hx⟩:=hs
  obtain⟨h1,h2⟩:=hx _ (List.getElem_mem hi)
  rw[<-getD_at hi (Q9 .abbr)]at h1 h2
  obtain⟨r,ih1,ih2,ih3⟩:=D5 xs ⟨hl,hx⟩ n (i+1) (by omega)
  rw[List.range'_succ,List.all_cons]
  by_cases c15:(i:Int)<=15
  ·have st:∀r,Ev (λk=>Z2.l0 k xs i) r ↔ Ev (λk=>Z2.l0 k xs i) r:=λ_=>Iff.rfl
   cases ho:D3 (xs.getD i (Q9 .abbr))with
   |false=>
    refine⟨.inl false,Ev.step (λk=>by rw[Z2.l0]) ?_,.inl rfl,λ_=>by unfold okA;rw[ho];rfl⟩
    simp(disch:=omega) only[Qg,Int.toNat_natCast]
    exact Ev.bind (Q0q _ (by omega) (by omega)) (by rw[ho];exact Ev.pure _)
   |true=>
    by_cases c:i=0
    ·refine⟨r,Ev.step (λk=>by rw[Z2.l0]) ?_,ih2,λh15=>by rw[ih3 h15];unfold okA;rw[ho,decide_eq_true c];rfl⟩
     simp(disch:=omega) only[Qg,Int.toNat_natCast]
     refine Ev.bind (Q0q _ (by omega) (by omega)) ?_
     rw[ho]
     simp(disch:=omega) only[Bool.not_true,cond_false,Qz,wrap_in]
     exact ih1
    ·cases hlt:ltS (xs.getD (i-1) (Q9 .abbr)).word (xs.getD i (Q9 .abbr)).word with
     |false=>
      refine⟨.inl false,Ev.step (λk=>by rw[Z2.l0]) ?_,.inl rfl,λ_=>by unfold okA;rw[ho,hlt,decide_eq_false c];rfl⟩
      simp(disch:=omega) only[Qg,Int.toNat_natCast]
      refine Ev.bind (Q0q _ (by omega) (by omega)) ?_
      rw[ho]
      simp(disch:=omega) only[Bool.not_true,cond_false,Qg,wrap_in]
      rw[show((i:Int)-1).toNat=i-1 by omega,hlt]
      exact Ev.pure _
     |true=>
      refine⟨r,Ev.step (λk=>by rw[Z2.l0]) ?_,ih2,λh15=>by rw[ih3 h15];unfold okA;rw[ho,hlt,decide_eq_false c];rfl⟩
      simp(disch:=omega) only[Qg,Int.toNat_natCast]
      refine Ev.bind (Q0q _ (by omega) (by omega)) ?_
      rw[ho]
      simp(disch:=omega) only[Bool.not_true,cond_false,Qg,wrap_in]
      rw[show((i:Int)-1).toNat=i-1 by omega,hlt]
      exact ih1
  ·refine⟨.inr xs,Ev.step (λk=>by rw[Z2.l0]) ?_,.inr rfl,λh15=>by omega⟩
   simp(disch:=omega) only[Qg,Qz]
   exact Ev.pure _
def J2 (xs:List Abbr):Bool:=(List.range' 0 xs.length).all (okA xs)&&decide ((xs.length:Int)<=15)
theorem Ji (xs:List Abbr)(hs:smalls xs):Ev (λk=>Z1.F k xs) (J2 xs):=by
 unfold Z1.F J2
 have:=D4 xs hs xs.length 0 (by omega)
 cases hall:(List.range' 0 xs.length).all (okA xs)with
 |true=>rw[hall]at this;exact Ev.bind this (Ev.pure _)
 |false=>rw[hall]at this;exact Ev.bind this (Ev.pure _)
theorem Ju (xs:List Abbr)(hs:smalls xs):Ev (λk=>Z2.F k xs) (J2 xs):=by
 unfold Z2.F J2
 obtain⟨r,h1,h2,h3⟩:=D5 xs hs xs.length 0 (by omega)
 by_cases c:xs.length<=15
 ·have:=h3 c
  cases hall:(List.range' 0 xs.length).all (okA xs)with
  |true=>rw[this,hall]at h1;exact Ev.bind h1 (Ev.pure _)
  |false=>rw[this,hall]at h1;exact Ev.bind h1 (Ev.pure _)
 ·rw[decide_eq_false (show¬(xs.length:Int)<=15 by omega),Bool.and_false]
  rcases h2 with rfl|rfl
  ·exact Ev.bind h1 (Ev.pure _)
  ·exact Ev.bind h1 ((Ev.pure _).eq (decide_eq_false (by omega)))
end Go.Proofs.YtfindpalabmmmaaGreatDoor
end
section
/- The addition of an abbreviation,both ways. -/
namespace Go.Proofs.YtfindpalabmmmaaGreatDoor
open Go.Gx
theorem Q0r {n:Nat}(h:n<=2097152):room n .abbr=true:=by
 show Nat.ble (n*32) 140737488355328=true
 exact Nat.ble_eq_true_of_le (by omega)
theorem neS {a b:ByteArray}(c:¬a=b):Qi a b=false:=by
 rw[<-Bool.not_eq_true]
 exact λh=>c (KY.1 h)
theorem Q3g (xs:List Abbr)(a:Abbr)(hl:xs.length<=1048576):∀n i:Nat,i+n=xs.length->∃p:Nat,(p<=xs.length/\∀j (h:j<xs.length),i<=j->j<p->ltS xs[j].word a.word=true)/\Ev (λk=>Z8.l0 k xs a i) (xs,a,(p:Int))/\Ev (λk=>Z7.l0 k a xs i) (a,xs,(p:Int))
 |0,i,h=>by
  refine⟨i,⟨by omega,λj _ h1 h2=>by omega⟩,Ev.step (λk=>by rw[Z8.l0]) ?_,Ev.step (λk=>by rw[Z7.l0]) ?_⟩<;>
   (simp(disch:=omega) only[Qz];exact Ev.pure _)
 |n+1,i,h=>by
  have hi:i<xs.length:=by omega
  cases hb:ltS xs[i].word a.word with
  |true=>
   obtain⟨p,p1,p2,p3⟩:=Q3g xs a hl n (i+1) (by omega)
   refine⟨p,⟨p1.1,λj h h1 h2=>by
    by_cases e:j=i
    ·subst e;exact hb
    ·exact p1.2 j h (by omega) h2⟩,Ev.step (λk=>by rw[Z8.l0]) ?_,Ev.step (λk=>by rw[Z7.l0]) ?_⟩
   ·simp(disch:=omega) only[Qg,Int.toNat_natCast,getD_at hi,hb,cond_true,wrap_in];exact p2
   ·simp(disch:=omega) only[Qg,Int.toNat_natCast,getD_at hi,hb,cond_true,wrap_in];exact p3
  |false=>
   refine⟨i,⟨by omega,λj _ h1 h2=>by omega⟩,Ev.step (λk=>by rw[Z8.l0]) ?_,Ev.step (λk=>by rw[Z7.l0]) ?_⟩<;>
    (simp(disch:=omega) only[Qg,Int.toNat_natCast,getD_at hi,hb,cond_false];exact Ev.pure _)
theorem Q1v {xs:List Abbr}{p:Nat}{a:Abbr}(hp:xs[p]? =some a)(hv:J2 xs=true):D3 a=true:=by
 have hlt:=(List.getElem?_eq_some_iff.1 hp).1
 unfold J2 at hv
 rw[Bool.and_eq_true,List.all_eq_true]at hv
 have h:=hv.1 p (by rw[List.mem_range'_1];omega)
 unfold okA at h
 rw[Bool.and_eq_true]at h
 have e:xs.getD p (Q9 .abbr)=a:=by rw[getD_at hlt];rw[List.getElem?_eq_getElem hlt]at hp;exact Option.some.inj hp
 rw[e]at h
 exact h.1
theorem Q8C (xs:List Abbr)(hs:smalls xs)(a:Abbr)(h1:a.word.size<=1048576)(h2:a.short.size<=1048576):∃r b,Ev (λk=>Z8.F k xs a) (r,b)/\Ev (λk=>Z7.F k xs a) (r,b)/\r.length<=1048576/\(b=true->smalls r/\J2 r=true/\D3 a=true/\xs.length<=r.length/\r.length<=xs.length+1/\∃p:Nat,r[p]? =some a/\∀j:Nat,j<p->∃x,r[j]? =some x/\ltS x.word a.word=true):=by
 have v1:=Ju xs hs
 have v2:=Ji xs hs
 unfold Z8.F Z7.F
 cases hv:J2 xs with
 |false=>
  rw[hv]at v1 v2
  exact⟨[],false,Ev.bind v1 (Ev.pure _),Ev.bind v2 (Ev.pure _),by simp,λh=>by cases h⟩
 |true=>
  rw[hv]at v1 v2
  have hl:xs.length<=15:=by
   unfold J2 at hv
   rw[Bool.and_eq_true,decide_eq_true_eq]at hv
   omega
  obtain⟨p,⟨p1,p0⟩,p2,p3⟩:=Q3g xs a (by omega) xs.length 0 (by omega)
  have o1:=Q0q a (by omega) (by omega)
  have r0:room (([]:List Abbr).length+xs.length) .abbr=true:=Q0r (by simp;omega)
  have key:∀q:Nat,p<=q->q<=xs.length->smalls (xs.take p++[a]++xs.drop q)/\(xs.take p++[a]++xs.drop q)[p]? =some a:=λq q0 q1=>by
   refine⟨⟨by simp;omega,λx hx=>?_⟩,?_⟩
   ·rcases List.mem_append.1 hx with hx|hx
    ·rcases List.mem_append.1 hx with hx|hx
     ·exact hs.2 x (List.mem_of_mem_take hx)
     ·rw[List.mem_singleton.1 hx];exact⟨h1,h2⟩
    ·exact hs.2 x (List.mem_of_mem_drop hx)
   ·rw[List.append_assoc,List.getElem?_append_right (by rw[List.length_take];omega),List.length_take,Nat.min_eq_left p1,Nat.sub_self]
    rfl
  have rooms:∀q:Nat,q<=xs.length->room (([]:List Abbr).length+(xs.take p).length) .abbr=true/\room ((([]:List Abbr)++xs.take p).length+([a]:List Abbr).length) .abbr=true/\room (((([]:List Abbr)++xs.take p)++([a]:List Abbr)).length+(xs.drop q).length) .abbr=true:=λq hq=>
   ⟨Q0r (by simp;omega),Q0r (by simp;omega),Q0r (by simp;omega)⟩
  have below:∀q:Nat,∀j:Nat,j<p->∃x,(xs.take p++[a]++xs.drop q)[j]? =some x/\ltS x.word a.word=true:=λq j hj=>by
   refine⟨xs[j],?_,p0 j (by omega) (by omega) hj⟩
   rw[List.append_assoc,List.getElem?_append_left (by rw[List.length_take];omega),List.getElem?_take,if_pos hj]
   exact List.getElem?_eq_getElem (by omega)
  by_cases hb:∃h:p<xs.length,xs[p].word=a.word
  ·obtain⟨hp,hw⟩:=hb
   obtain⟨k1,k2⟩:=key (p+1) (by omega) hp
   obtain⟨m1,m2,m3⟩:=rooms (p+1) hp
   have n1:=Ju _ k1
   have n2:=Ji _ k1
   have e:xs.set p a=xs.take p++[a]++xs.drop (p+1):=by
    rw[List.set_eq_take_append_cons_drop,if_pos hp,List.append_assoc];rfl
   have ew:((p:Int)+1)=((p+1:Nat):Int):=by omega
   have spec:∀b,D3 a=true->J2 (xs.take p++[a]++xs.drop (p+1))=b->Ev (λk=>Z8.F k xs a) (if b=true then(xs.take p++[a]++xs.drop (p+1),true)else([],false)):=λb ho hb=>by
    rw[ho]at o1
    rw[hb]at n1
    unfold Z8.F
    refine Ev.bind v1 (Ev.bind o1 (Ev.bind p2 ?_))
    simp(disch:=omega) only[Bool.not_true,cond_false,Qg,Int.toNat_natCast,getD_at hp,hw,JS,cond_true,m1,m2,m3,wrap_in,ew]
    refine Ev.bind n1 ?_
    cases b<;>exact Ev.pure _
   have impl:∀b,J2 (xs.take p++[a]++xs.drop (p+1))=b->Ev (λk=>Z7.F k xs a) (if b=true then(xs.take p++[a]++xs.drop (p+1),true)else([],false)):=λb hb=>by
    rw[hb]at n2
    unfold Z7.F
    refine Ev.bind v2 ?_
    simp only[Bool.not_true,cond_false,r0,cond_true,List.nil_append]
    refine Ev.bind p3 ?_
    simp(disch:=omega) only[Qg,Int.toNat_natCast,getD_at hp,hw,JS,cond_true,e]
    refine Ev.bind n2 ?_
    cases b<;>exact Ev.pure _
   cases ho:D3 a with
   |false=>
    rw[ho]at o1
    have hf:J2 (xs.take p++[a]++xs.drop (p+1))=false:=by
     rw[<-Bool.not_eq_true]
     intro h
     rw[Q1v k2 h]at ho
     cases ho
    exact⟨[],false,Ev.bind v1 (Ev.bind o1 (Ev.pure _)),impl false hf,by simp,λh=>by cases h⟩
   |true=>
    cases hn:J2 (xs.take p++[a]++xs.drop (p+1))with
    |false=>exact⟨[],false,spec false ho hn,impl false hn,by simp,λh=>by cases h⟩
    |true=>exact⟨_,true,spec true ho hn,impl true hn,by simp;omega,λ_=>⟨k1,hn,rfl,by simp;omega,by simp;omega,p,k2,below (p+1)⟩⟩
  ·obtain⟨k1,k2⟩:=key p (Nat.le_refl _) p1
   obtain⟨m1,m2,m3⟩:=rooms p p1
   have n1:=Ju _ k1
   have n2:=Ji _ k1
   have ei:Z78.F xs p [a]=some (xs.take p++[a]++xs.drop p):=by
    unfold Z78.F Q80
    have hr:room (xs.length+1) .abbr=true:=Q0r (by omega)
    have h1:decide (0<=(p:Int))=true:=decide_eq_true (by omega)
    have h2:decide ((p:Int)<=(xs.length:Int))=true:=decide_eq_true (by omega)
    rw[hr,h1,h2]
    rfl
   have spec:∀b,D3 a=true->J2 (xs.take p++[a]++xs.drop p)=b->Ev (λk=>Z8.F k xs a) (if b=true then(xs.take p++[a]++xs.drop p,true)else([],false)):=λb ho hb2=>by
    rw[ho]at o1
    rw[hb2]at n1
    unfold Z8.F
    refine Ev.bind v1 (Ev.bind o1 (Ev.bind p2 ?_))
    by_cases hp:p<xs.length
    ·have hw:Qi xs[p].word a.word=false:=neS λh=>hb ⟨hp,h⟩
     simp(disch:=omega) only[Bool.not_true,cond_false,Qg,Int.toNat_natCast,getD_at hp,hw,cond_true,m1,m2,m3]
     refine Ev.bind n1 ?_
     cases b<;>exact Ev.pure _
    ·simp(disch:=omega) only[Bool.not_true,cond_false,Qz,Qg,Int.toNat_natCast,cond_true,m1,m2,m3]
     refine Ev.bind n1 ?_
     cases b<;>exact Ev.pure _
   have impl:∀b,J2 (xs.take p++[a]++xs.drop p)=b->Ev (λk=>Z7.F k xs a) (if b=true then(xs.take p++[a]++xs.drop p,true)else([],false)):=λb hb2=>by
    rw[hb2]at n2
    unfold Z7.F
    refine Ev.bind v2 ?_
    simp only[Bool.not_true,cond_false,r0,cond_true,List.nil_append]
    refine Ev.bind p3 ?_
    by_cases hp:p<xs.length
    ·have hw:Qi xs[p].word a.word=false:=neS λh=>hb ⟨hp,h⟩
     simp(disch:=omega) only[Qg,Int.toNat_natCast,getD_at hp,hw,cond_false,ei,Option.bind_some]
     refine Ev.bind n2 ?_
     cases b<;>exact Ev.pure _
    ·simp(disch:=omega) only[Qz,ei,Option.bind_some]
     refine Ev.bind n2 ?_
     cases b<;>exact Ev.pure _
   cases ho:D3 a with
   |false=>
    rw[ho]at o1
    have hf:J2 (xs.take p++[a]++xs.drop p)=false:=by
     rw[<-Bool.not_eq_true]
     intro h
     rw[Q1v k2 h]at ho
     cases ho
    exact⟨[],false,Ev.bind v1 (Ev.bind o1 (Ev.pure _)),impl false hf,by simp,λh=>by cases h⟩
   |true=>
    cases hn:J2 (xs.take p++[a]++xs.drop p)with
    |false=>exact⟨[],false,spec false ho hn,impl false hn,by simp,λh=>by cases h⟩
    |true=>exact⟨_,true,spec true ho hn,impl true hn,by simp;omega,λ_=>⟨k1,hn,rfl,by simp;omega,by simp;omega,p,k2,below p⟩⟩
end Go.Proofs.YtfindpalabmmmaaGreatDoor
end
section
/- Plain laws: the short form of a word. -/
namespace Go.Proofs.YtfindpalabmmmaaGreatDoor
open Go.Gx
theorem Qj (s:ByteArray):(Q2 s).length=s.size:=by
 simp only[Q2,List.length_map,Array.length_toList];rfl
theorem YT (s:ByteArray):Q2 s=(L s).map λb=>(b.toNat:Int):=rfl
theorem JO (s:ByteArray)(i:Nat)(h:i<(Q2 s).length):bt s i=(Q2 s)[i]:=by
 rw[Q7c]
 have h':i<(L s).length:=by simpa[YT]using h
 simp[YT,List.getD,h']
theorem Q3h (s:ByteArray)(i:Nat)(h:i<(Q2 s).length):0<=(Q2 s)[i]/\(Q2 s)[i]<=255:=by
 rw[<-JO s i h];exact Q7d s i
theorem Q0s (ys:List Int):L (YW ys)=ys.map λn=>UInt8.ofNat n.toNat:=Q8B _
theorem XZ (s:ByteArray):YW (Q2 s)=s:=by
 apply KX
 rw[Q0s,YT,List.map_map]
 conv=>rhs;rw[<-List.map_id (L s)]
 refine List.map_congr_left λb _=>?_
 simp
theorem Q1w (ys:List Int):(YW ys).size=ys.length:=by
 rw[<-J9,Q0s,List.length_map]
def D6 (b:Int):Bool:=(decide (65<=b)&&decide (b<=90))||(decide (97<=b)&&decide (b<=122))
theorem U6 (b:Int):Z56.F b=some (D6 b):=by
 unfold Z56.F D6
 simp only[ge_iff_le]
 cases decide (65<=b)<;>cases decide (b<=90)<;>cases decide (97<=b)<;>cases decide (b<=122)<;>rfl
theorem Xi (b:Int):Z52.F b=some (D6 b):=by
 unfold Z52.F Z42.F Z39.F D6
 simp only[ge_iff_le]
 cases decide (65<=b)<;>cases decide (b<=90)<;>cases decide (97<=b)<;>cases decide (b<=122)<;>rfl
theorem UL (b:Int):Z42.F b=some (decide (65<=b)&&decide (b<=90)):=by
 unfold Z42.F
 simp only[ge_iff_le]
 cases decide (65<=b)<;>rfl
def Ut (b:Int):Int:=bif decide (65<=b)&&decide (b<=90)then b+32 else b
theorem Dy (b:Int):Z68.F b=some (Ut b):=by
 unfold Z68.F Ut
 simp only[ge_iff_le]
 by_cases h1:65<=b
 ·by_cases h2:b<=90
  ·have:IntKind.wrap .u8 (b+32)=b+32:=by rw[IntKind.wrap_u8];omega
   simp only[KW h1,KW h2,cond_true,Bool.and_self,this]
  ·simp only[KW h1,Xh h2,cond_true,cond_false,Bool.and_false]
 ·simp only[Xh h1,cond_false,Bool.false_and]
def upI (b:Int):Int:=bif decide (97<=b)&&decide (b<=122)then IntKind.wrap .u8 (b-32)else b
theorem Dz (b:Int):Z70.F b=some (upI b):=by
 unfold Z70.F upI
 simp only[ge_iff_le]
 cases decide (97<=b)<;>cases decide (b<=122)<;>rfl
theorem Q2c (b:Int):Z66.F b=some (upI b):=by
 unfold Z66.F Z39.F upI
 simp only[ge_iff_le]
 cases decide (97<=b)<;>cases decide (b<=122)<;>rfl
def mix (s:ByteArray)(i:Nat):List Int:=((Q2 s).take i).map Ut++(Q2 s).drop i
theorem Q2d (s:ByteArray)(i:Nat):(mix s i).length=(Q2 s).length:=by
 unfold mix;simp;omega
theorem Q7j (s:ByteArray)(i:Nat)(h:i<(Q2 s).length):(mix s i).getD i 0=(Q2 s)[i]:=by
 unfold mix
 rw[List.getD_eq_getElem?_getD,List.getElem?_append_right (by simp;omega)]
 simp[Nat.min_eq_left (Nat.le_of_lt h),h]
theorem Q4R (s:ByteArray)(i:Nat)(h:i<(Q2 s).length):(mix s i).set i (Ut (Q2 s)[i])=mix s (i+1):=by
 unfold mix
 rw[List.set_append_right _ _ (by simp;omega)]
 simp only[List.length_map,List.length_take,Nat.min_eq_left (Nat.le_of_lt h),Nat.sub_self]
 rw[List.drop_eq_getElem_cons h,List.set_cons_zero,List.take_add_one,List.getElem?_eq_getElem h]
 simp only[Option.toList_some,List.map_append,List.map_cons,List.map_nil,List.append_assoc,List.cons_append,List.nil_append]
theorem Q7k (s:ByteArray)(i:Nat)(h:i<(Q2 s).length)(e:Ut (Q2 s)[i]=(Q2 s)[i]):mix s (i+1)=mix s i:=by
 rw[<-Q4R s i h,e]
 apply List.ext_getElem?
 intro j
 by_cases hj:i=j
 ·subst hj
  have:=Q7j s i h
  rw[List.getD_eq_getElem?_getD]at this
  rw[List.getElem?_set_self (by rw[Q2d];exact h)]
  rw[List.getElem?_eq_getElem (by rw[Q2d];exact h)]at this ⊢
  rw[<-this];rfl
 ·rw[List.getElem?_set_ne hj]
theorem D7 (s:ByteArray)(hs:s.size<=1048576):∀n i:Nat,i+n=s.size->Ev (λk=>Z18.l0 k s (((Q2 s).take i).map Ut) i) ((Q2 s).map Ut)
 |0,i,h=>by
  refine Ev.step (λk=>by rw[Z18.l0]) ?_
  simp(disch:=omega) only[Qz]
  rw[List.take_of_length_le (by rw[Qj];omega)]
  exact Ev.pure _
 |n+1,i,h=>by
  have hl:=Qj s
  have hi:i<(Q2 s).length:=by omega
  refine Ev.step (λk=>by rw[Z18.l0]) ?_
  simp(disch:=omega) only[Qg,Int.toNat_natCast,JO s i hi]
  refine Ev.bind0 (Dy _) ?_
  have hr:room ((((Q2 s).take i).map Ut).length+([Ut (Q2 s)[i]]:List Int).length) (.int .u8)=true:=by
   unfold room
   rw[Nat.ble_eq]
   have:nb (.int .u8)=1:=rfl
   rw[this]
   simp;omega
  simp(disch:=omega) only[hr,cond_true,wrap_in]
  have e:((Q2 s).take i).map Ut++[Ut (Q2 s)[i]]=((Q2 s).take (i+1)).map Ut:=by
   rw[List.take_add_one,List.getElem?_eq_getElem hi]
   simp only[Option.toList_some,List.map_append,List.map_cons,List.map_nil]
  rw[e]
  exact D7 s hs n (i+1) (by omega)
theorem Q3i (s:ByteArray)(hs:s.size<=1048576):∀n i:Nat,i+n=s.size->Ev (λk=>Z13.l0 k (mix s i) s.size i) ((Q2 s).map Ut)
 |0,i,h=>by
  refine Ev.step (λk=>by rw[Z13.l0]) ?_
  simp(disch:=omega) only[Qz]
  unfold mix
  rw[List.take_of_length_le (by rw[Qj];omega),List.drop_eq_nil_of_le (by rw[Qj];omega),List.append_nil]
  exact Ev.pure _
 |n+1,i,h=>by
  have hl:=Qj s
  have hi:i<(Q2 s).length:=by omega
  have hm:=Q2d s i
  have ih:=Q3i s hs n (i+1) (by omega)
  have hb:=Q3h s i hi
  refine Ev.step (λk=>by rw[Z13.l0]) ?_
  simp(disch:=omega) only[Qg,Int.toNat_natCast,Q7j s i hi]
  refine Ev.bind0 (UL _) ?_
  cases hu:decide (65<=(Q2 s)[i])&&decide ((Q2 s)[i]<=90)with
  |true=>
   have hu':=hu
   simp only[Bool.and_eq_true,decide_eq_true_eq]at hu'
   have e:IntKind.wrap .u8 (IntKind.wrap .u8 ((Q2 s)[i]+97)-65)=Ut (Q2 s)[i]:=by
    unfold Ut
    rw[hu,cond_true,IntKind.wrap_u8,IntKind.wrap_u8];omega
   simp(disch:=omega) only[cond_true,Qg,e,Q4R s i hi,wrap_in]
   exact ih
  |false=>
   have e:Ut (Q2 s)[i]=(Q2 s)[i]:=by unfold Ut;rw[hu,cond_false]
   rw[Q7k s i hi e]at ih
   simp(disch:=omega) only[cond_false,wrap_in]
   exact ih
def DC (s:ByteArray):ByteArray:=YW ((Q2 s).map Ut)
theorem YD (s:ByteArray)(hs:s.size<=1048576):Ev (λk=>Z18.F k s) (DC s):=by
 unfold Z18.F
 exact Ev.bind (D7 s hs s.size 0 (by omega)) (Ev.pure _)
theorem Q0t (s:ByteArray)(hs:s.size<=1048576):Ev (λk=>Z13.F k s) (DC s):=by
 unfold Z13.F
 rw[Qj]
 simp(disch:=omega) only[Q0L]
 have:=Q3i s hs s.size 0 (by omega)
 unfold mix at this
 rw[List.take_zero,List.map_nil,List.nil_append,List.drop_zero]at this
 exact Ev.bind this (Ev.pure _)
end Go.Proofs.YtfindpalabmmmaaGreatDoor
end
section
/- Plain laws: the abbreviation of a word. -/
namespace Go.Proofs.YtfindpalabmmmaaGreatDoor
open Go.Gx
theorem YG {s:ByteArray}{i:Nat}(h:i<(Q2 s).length)(p:Int->Bool):((Q2 s).drop i).all p=(p (Q2 s)[i]&&((Q2 s).drop (i+1)).all p):=by
 rw[List.drop_eq_getElem_cons h];rfl
theorem Q0u (xs:List Abbr)(s:ByteArray)(hs:s.size<=1048576):∀n i:Nat,i+n=s.size->Ev (λk=>Z0.l0 k xs s i) (if((Q2 s).drop i).all D6=true then .inr (xs,s)else .inl (-1))
 |0,i,h=>by
  refine Ev.step (λk=>by rw[Z0.l0]) ?_
  simp(disch:=omega) only[Qz]
  rw[List.drop_eq_nil_of_le (by rw[Qj];omega)]
  exact Ev.pure _
 |n+1,i,h=>by
  have hl:=Qj s
  have hi:i<(Q2 s).length:=by omega
  refine Ev.step (λk=>by rw[Z0.l0]) ?_
  simp(disch:=omega) only[Qg,Int.toNat_natCast,JO s i hi]
  refine Ev.bind0 (U6 _) ?_
  rw[YG hi]
  cases D6 (Q2 s)[i]with
  |false=>exact Ev.pure _
  |true=>
   simp(disch:=omega) only[Bool.not_true,cond_false,Bool.true_and,wrap_in]
   exact Q0u xs s hs n (i+1) (by omega)
theorem Q4S (s:ByteArray)(hs:s.size<=1048576):∀n i:Nat,i+n=s.size->Ev (λk=>Z21.l0 k s i) (if((Q2 s).drop i).all D6=true then .inr s else .inl false)
 |0,i,h=>by
  refine Ev.step (λk=>by rw[Z21.l0]) ?_
  simp(disch:=omega) only[Qz]
  rw[List.drop_eq_nil_of_le (by rw[Qj];omega)]
  exact Ev.pure _
 |n+1,i,h=>by
  have hl:=Qj s
  have hi:i<(Q2 s).length:=by omega
  refine Ev.step (λk=>by rw[Z21.l0]) ?_
  simp(disch:=omega) only[Qg,Int.toNat_natCast,JO s i hi]
  refine Ev.bind0 (Xi _) ?_
  rw[YG hi]
  cases D6 (Q2 s)[i]with
  |false=>exact Ev.pure _
  |true=>
   simp(disch:=omega) only[Bool.not_true,cond_false,Bool.true_and,wrap_in]
   exact Q4S s hs n (i+1) (by omega)
theorem Q0M (s:ByteArray)(hs:s.size<=1048576):Ev (λk=>Z21.F k s) ((Q2 s).all D6&&decide (0<s.size)):=by
 unfold Z21.F
 have:=Q4S s hs s.size 0 (by omega)
 rw[List.drop_zero]at this
 cases h:(Q2 s).all D6 with
 |true=>
  rw[h]at this
  refine Ev.bind this ?_
  simp only[D2,Bool.true_and]
  exact Ev.pure _
 |false=>rw[h]at this;exact Ev.bind this (Ev.pure _)
def dash (s:ByteArray):Bool:=decide (0<s.size)&&(bt s (s.size-1)==((45:UInt8).toNat:Int))
theorem Q2e (s:ByteArray)(h:s.size<=9223372036854775807):Z64.F s ⟨#[45]⟩=some (Yx s 45,dash s):=by
 unfold Z64.F Z74.F
 rw[Q1t s 45 h]
 have h1:(⟨#[45]⟩:ByteArray).size=1:=rfl
 have h2:((45:UInt8).toNat:Int)=((45:Nat):Int):=rfl
 rw[h1]
 unfold Yx dash
 rw[h2]
 simp only[Option.bind_some]
 by_cases hs:0<s.size
 ·simp(disch:=omega) only[decide_eq_true hs,Bool.true_and]
  by_cases c2:bt s (s.size-1)=((45:Nat):Int)
  ·rw[show(bt s (s.size-1)==((45:Nat):Int))=true by simpa using c2,if_pos ⟨hs,c2⟩]
   simp(disch:=omega) only[Bool.not_true,cond_false,wrap_in,Qg]
   rw[show((s.size:Int)-((1:Nat):Int)).toNat=s.size-1 by omega];rfl
  ·rw[show(bt s (s.size-1)==((45:Nat):Int))=false by simpa using c2,if_neg (λh=>c2 h.2)]
   rfl
 ·rw[decide_eq_false hs,if_neg (λh=>hs h.1)];rfl
theorem DD (s:ByteArray):(!Qi (Yx s 45) s)=dash s:=by
 have h2:((45:UInt8).toNat:Int)=((45:Nat):Int):=rfl
 unfold Yx dash
 rw[h2]
 by_cases hs:0<s.size/\bt s (s.size-1)=((45:Nat):Int)
 ·rw[if_pos hs,decide_eq_true hs.1,show(bt s (s.size-1)==((45:Nat):Int))=true by simpa using hs.2]
  cases e:Qi (s.extract 0 (s.size-1)) s with
  |false=>rfl
  |true=>
   have:=congrArg ByteArray.size (KY.1 e)
   rw[ByteArray.size_extract]at this
   omega
 ·rw[if_neg hs,JS]
  by_cases h3:0<s.size
  ·rw[show(bt s (s.size-1)==((45:Nat):Int))=false by simpa using λh=>hs ⟨h3,h⟩,Bool.and_false];rfl
  ·rw[decide_eq_false h3];rfl
theorem Q2f (s p:ByteArray):Z65.F s p=some (decide ((p.size:Int)<=(s.size:Int))&&Qi (s.extract 0 p.size) p):=by
 unfold Z65.F Z75.F
 by_cases c:(p.size:Int)<=(s.size:Int)
 ·simp(disch:=omega) only[KW,cond_true,Int.toNat_natCast,Option.bind_some,Bool.true_and]
 ·simp(disch:=omega) only[Xh,cond_false,Option.bind_some,Bool.false_and]
theorem Q7l (xs:List Abbr)(hs:smalls xs)(lw:ByteArray):∀n i:Nat,i+n=xs.length->∀best:Int,-1<=best->best<xs.length->
  ∃r,Ev (λk=>Z0.l2 k xs lw best i) r/\Ev (λk=>Z3.l0 k xs lw best xs xs.length i) r/\∀z,(r= .inl z\/r= .inr z)-> -1<=z/\z<xs.length
 |0,i,h,best,h1,h2=>by
  refine⟨.inr best,Ev.step (λk=>by rw[Z0.l2]) ?_,Ev.step (λk=>by rw[Z3.l0]) ?_,?_⟩
  ·simp(disch:=omega) only[Qz];exact Ev.pure _
  ·simp(disch:=omega) only[Qz];exact Ev.pure _
  ·rintro z (hz|hz)<;>cases hz;exact⟨h1,h2⟩
 |n+1,i,h,best,h1,h2=>by
  have hi:i<xs.length:=by omega
  have hlen:=hs.1
  have hw:=(hs.2 _ (List.getElem_mem hi)).1
  have ih:=Q7l xs hs lw n (i+1) (by omega)
  have cut:Z43.F xs[i].word 45=some (Yx xs[i].word 45):=UK xs[i].word 45 (by omega)
  have cuts:=Q2e xs[i].word (by omega)
  have hp:=Q2f lw (Yx xs[i].word 45)
  cases e:Qi xs[i].word lw with
  |true=>
   refine⟨.inl i,Ev.step (λk=>by rw[Z0.l2]) ?_,Ev.step (λk=>by rw[Z3.l0]) ?_,?_⟩
   ·simp(disch:=omega) only[Qg,Int.toNat_natCast,getD_at hi,e,cond_true];exact Ev.pure _
   ·simp(disch:=omega) only[Qg,Int.toNat_natCast,getD_at hi,e,cond_true];exact Ev.pure _
   ·rintro z (hz|hz)<;>cases hz;omega
  |false=>
   cases hd:dash xs[i].word with
   |false=>
    obtain⟨r,r1,r2,r3⟩:=ih best h1 h2
    refine⟨r,Ev.step (λk=>by rw[Z0.l2]) ?_,Ev.step (λk=>by rw[Z3.l0]) ?_,r3⟩
    ·simp(disch:=omega) only[Qg,Int.toNat_natCast,getD_at hi,e,cond_false]
     refine Ev.bind0 cut ?_
     simp(disch:=omega) only[DD,hd,cond_false,wrap_in]
     exact r1
    ·simp(disch:=omega) only[Qg,Int.toNat_natCast,getD_at hi,e,cond_false]
     refine Ev.bind0 cuts ?_
     simp(disch:=omega) only[hd,cond_false,wrap_in]
     exact r2
   |true=>
    by_cases c:((Yx xs[i].word 45).size:Int)<=(lw.size:Int)
    ·cases hq:Qi (lw.extract 0 (Yx xs[i].word 45).size) (Yx xs[i].word 45)with
     |false=>
      obtain⟨r,r1,r2,r3⟩:=ih best h1 h2
      refine⟨r,Ev.step (λk=>by rw[Z0.l2]) ?_,Ev.step (λk=>by rw[Z3.l0]) ?_,r3⟩
      ·simp(disch:=omega) only[Qg,Int.toNat_natCast,getD_at hi,e,cond_false]
       refine Ev.bind0 cut ?_
       simp(disch:=omega) only[DD,hd,cond_true,cond_false,Qg,Int.toNat_natCast,hq,wrap_in]
       exact r1
      ·simp(disch:=omega) only[Qg,Int.toNat_natCast,getD_at hi,e,cond_false]
       refine Ev.bind0 cuts ?_
       simp(disch:=omega) only[hd,cond_true]
       refine Ev.bind0 hp ?_
       simp(disch:=omega) only[hq,Bool.and_false,cond_false,wrap_in]
       exact r2
     |true=>
      by_cases hb:best<0
      ·obtain⟨r,r1,r2,r3⟩:=ih i (by omega) (by omega)
       refine⟨r,Ev.step (λk=>by rw[Z0.l2]) ?_,Ev.step (λk=>by rw[Z3.l0]) ?_,r3⟩
       ·simp(disch:=omega) only[Qg,Int.toNat_natCast,getD_at hi,e,cond_false]
        refine Ev.bind0 cut ?_
        simp(disch:=omega) only[DD,hd,cond_true,cond_false,Qg,Int.toNat_natCast,hq,wrap_in]
        exact r1
       ·simp(disch:=omega) only[Qg,Int.toNat_natCast,getD_at hi,e,cond_false]
        refine Ev.bind0 cuts ?_
        simp(disch:=omega) only[hd,cond_true]
        refine Ev.bind0 hp ?_
        rw[hq,decide_eq_true c]
        simp(disch:=omega) only[Bool.and_self,cond_true,Qg,wrap_in]
        exact r2
      ·have hb':best.toNat<xs.length:=by omega
       by_cases hz:(xs[i].word.size:Int) > (xs[best.toNat].word.size:Int)
       ·obtain⟨r,r1,r2,r3⟩:=ih i (by omega) (by omega)
        refine⟨r,Ev.step (λk=>by rw[Z0.l2]) ?_,Ev.step (λk=>by rw[Z3.l0]) ?_,r3⟩
        ·simp(disch:=omega) only[Qg,Int.toNat_natCast,getD_at hi,e,cond_false]
         refine Ev.bind0 cut ?_
         simp(disch:=omega) only[DD,hd,cond_true,cond_false,Qg,Qz,Int.toNat_natCast,hq,wrap_in,getD_at hb']
         exact r1
        ·simp(disch:=omega) only[Qg,Int.toNat_natCast,getD_at hi,e,cond_false]
         refine Ev.bind0 cuts ?_
         simp(disch:=omega) only[hd,cond_true]
         refine Ev.bind0 hp ?_
         rw[hq,decide_eq_true c]
         simp(disch:=omega) only[Bool.and_self,cond_true,Qg,Qz,wrap_in,getD_at hb']
         exact r2
       ·obtain⟨r,r1,r2,r3⟩:=ih best h1 h2
        refine⟨r,Ev.step (λk=>by rw[Z0.l2]) ?_,Ev.step (λk=>by rw[Z3.l0]) ?_,r3⟩
        ·simp(disch:=omega) only[Qg,Int.toNat_natCast,getD_at hi,e,cond_false]
         refine Ev.bind0 cut ?_
         simp(disch:=omega) only[DD,hd,cond_true,cond_false,Qg,Qz,Int.toNat_natCast,hq,wrap_in,getD_at hb']
         exact r1
        ·simp(disch:=omega) only[Qg,Int.toNat_natCast,getD_at hi,e,cond_false]
         refine Ev.bind0 cuts ?_
         simp(disch:=omega) only[hd,cond_true]
         refine Ev.bind0 hp ?_
         rw[hq,decide_eq_true c]
         simp(disch:=omega) only[Bool.and_self,cond_true,Qg,Qz,wrap_in,getD_at hb']
         exact r2
    ·obtain⟨r,r1,r2,r3⟩:=ih best h1 h2
     refine⟨r,Ev.step (λk=>by rw[Z0.l2]) ?_,Ev.step (λk=>by rw[Z3.l0]) ?_,r3⟩
     ·simp(disch:=omega) only[Qg,Int.toNat_natCast,getD_at hi,e,cond_false]
      refine Ev.bind0 cut ?_
      simp(disch:=omega) only[DD,hd,cond_true,Qz,wrap_in]
      exact r1
     ·simp(disch:=omega) only[Qg,Int.toNat_natCast,getD_at hi,e,cond_false]
      refine Ev.bind0 cuts ?_
      simp(disch:=omega) only[hd,cond_true]
      refine Ev.bind0 hp ?_
      rw[decide_eq_false c]
      simp(disch:=omega) only[Bool.false_and,cond_false,wrap_in]
      exact r2
theorem found (xs:List Abbr)(hs:smalls xs)(s:ByteArray)(h0:0<s.size)(h1:s.size<=1048576):∃z:Int,Ev (λk=>Z0.F k xs s) z/\Ev (λk=>Z3.F k xs s) z/\ -1<=z/\z<xs.length:=by
 unfold Z0.F Z3.F
 have e1:=Q0u xs s h1 s.size 0 (by omega)
 have e2:=Q0M s h1
 rw[List.drop_zero]at e1
 cases ha:(Q2 s).all D6 with
 |false=>
  rw[ha]at e1 e2
  refine⟨-1,Ev.bind e1 (Ev.pure _),Ev.bind e2 (Ev.pure _),by omega,by omega⟩
 |true=>
  rw[ha,decide_eq_true h0]at e2
  rw[ha]at e1
  obtain⟨r,r1,r2,r3⟩:=Q7l xs hs (DC s) xs.length 0 (by omega) (-1) (by omega) (by omega)
  cases r with
  |inl z=>exact⟨z,Ev.bind e1 (Ev.bind (YD s h1) (Ev.bind r1 (Ev.pure _))),Ev.bind e2 (Ev.bind (Q0t s h1) (Ev.bind r2 (Ev.pure _))),r3 z (.inl rfl)⟩
  |inr z=>exact⟨z,Ev.bind e1 (Ev.bind (YD s h1) (Ev.bind r1 (Ev.pure _))),Ev.bind e2 (Ev.bind (Q0t s h1) (Ev.bind r2 (Ev.pure _))),r3 z (.inr rfl)⟩
theorem Q7m (s:ByteArray)(i:Nat)(v:Int)(h:i<(Q2 s).length):YW ((Q2 s).set i v)=s.extract 0 i++YW [v]++s.extract (i+1) s.size:=by
 apply KX
 have hl:=Qj s
 have e:=congrArg L (XZ s)
 rw[Q0s]at e
 rw[Yt,Yt,Jc,Jc,Q0s,Q0s,List.map_set,e,List.drop_zero,List.take_of_length_le (show(L s).length<=s.size from Nat.le_refl _)]
 rw[List.set_eq_take_append_cons_drop,if_pos (by rw[J9];omega)]
 simp
theorem Q3j (s:ByteArray)(hs:s.size<=1048576):∀n i:Nat,i+n=s.size->∃ys r,Ev (λk=>Z24.l0 k (Q2 s) s.size i) ys/\Ev (λk=>Z19.l0 k s i) r/\(r= .inl (YW ys)\/r= .inr (YW ys))/\ys.length=s.size
 |0,i,h=>by
  refine⟨Q2 s,.inr s,Ev.step (λk=>by rw[Z24.l0]) ?_,Ev.step (λk=>by rw[Z19.l0]) ?_,.inr (by rw[XZ]),Qj s⟩
  ·simp(disch:=omega) only[Qz];exact Ev.pure _
  ·simp(disch:=omega) only[Qz];exact Ev.pure _
 |n+1,i,h=>by
  have hl:=Qj s
  have hi:i<(Q2 s).length:=by omega
  cases hlt:D6 (Q2 s)[i]with
  |false=>
   obtain⟨ys,r,r1,r2,r3,r4⟩:=Q3j s hs n (i+1) (by omega)
   refine⟨ys,r,Ev.step (λk=>by rw[Z24.l0]) ?_,Ev.step (λk=>by rw[Z19.l0]) ?_,r3,r4⟩
   ·simp(disch:=omega) only[Qg,Int.toNat_natCast,getD_at hi]
    refine Ev.bind0 (Xi _) ?_
    simp(disch:=omega) only[hlt,cond_false,wrap_in]
    exact r1
   ·simp(disch:=omega) only[Qg,Int.toNat_natCast,JO s i hi]
    refine Ev.bind0 (U6 _) ?_
    simp(disch:=omega) only[hlt,cond_false,wrap_in]
    exact r2
  |true=>
   refine⟨(Q2 s).set i (upI (Q2 s)[i]),.inl (s.extract 0 i++YW [upI (Q2 s)[i]]++s.extract (i+1) s.size),Ev.step (λk=>by rw[Z24.l0]) ?_,Ev.step (λk=>by rw[Z19.l0]) ?_,.inl (by rw[Q7m s i _ hi]),by rw[List.length_set];exact Qj s⟩
   ·simp(disch:=omega) only[Qg,Int.toNat_natCast,getD_at hi]
    refine Ev.bind0 (Xi _) ?_
    simp(disch:=omega) only[hlt,cond_true]
    refine Ev.bind0 (Q2c _) ?_
    try simp(disch:=omega) only[Qg]
    exact Ev.pure _
   ·simp(disch:=omega) only[Qg,Int.toNat_natCast,JO s i hi]
    refine Ev.bind0 (U6 _) ?_
    simp(disch:=omega) only[hlt,cond_true,Qg]
    refine Ev.bind0 (Dz _) ?_
    have e1:(s.extract 0 i).size<=s.size:=by rw[ByteArray.size_extract];omega
    have e2:(YW ([upI (Q2 s)[i]]:List Int)).size=1:=Q1w _
    have e3:(s.extract 0 i++YW ([upI (Q2 s)[i]]:List Int)).size=(s.extract 0 i).size+1:=by rw[<-J9,Yt,List.length_append,J9,J9,e2]
    have e4:(s.extract (i+1) s.size).size<=s.size:=by rw[ByteArray.size_extract];omega
    have e5:((i:Int)+1).toNat=i+1:=by omega
    simp(disch:=omega) only[Q0L,wrap_in,Qg,e5]
    exact Ev.pure _
theorem Q5M (s:ByteArray)(hs:s.size<=1048576):∃r,Ev (λk=>Z19.F k s) r/\Ev (λk=>Z24.F k s) r/\r.size=s.size:=by
 obtain⟨ys,r,r1,r2,r3,r4⟩:=Q3j s hs s.size 0 (by omega)
 refine⟨YW ys,?_,?_,by rw[Q1w];exact r4⟩
 ·unfold Z19.F
  rcases r3 with rfl|rfl
  ·exact Ev.bind r2 (Ev.pure _)
  ·exact Ev.bind r2 (Ev.pure _)
 ·unfold Z24.F
  rw[Qj]
  simp(disch:=omega) only[Q0L]
  exact Ev.bind r1 (Ev.pure _)
theorem Q3k (xs:List Abbr)(hs:smalls xs)(s:ByteArray)(h0:0<s.size)(h1:s.size<=1048576):∃r,Ev (λk=>Z37.F k xs s) r/\Ev (λk=>Z40.F k xs s) r/\r.size<=1048576:=by
 obtain⟨z,z1,z2,z3,z4⟩:=found xs hs s h0 h1
 unfold Z37.F Z40.F
 have hl:=Qj s
 by_cases hz:z<0
 ·refine⟨s,Ev.bind z1 ?_,Ev.bind z2 ?_,h1⟩
  ·simp(disch:=omega) only[Qg];exact Ev.pure _
  ·simp(disch:=omega) only[Qg];exact Ev.pure _
 ·have hz':z.toNat<xs.length:=by omega
  have hsh:=(hs.2 _ (List.getElem_mem hz')).2
  obtain⟨r,r1,r2,r3⟩:=Q5M xs[z.toNat].short hsh
  by_cases c1:65<=bt s (0:Int).toNat
  ·by_cases c2:bt s (0:Int).toNat<=90
   ·refine⟨r,Ev.bind z1 ?_,Ev.bind z2 ?_,by omega⟩
    ·simp(disch:=omega) only[Qg,Qz,getD_at hz'];exact Ev.bind r1 (Ev.pure _)
    ·simp(disch:=omega) only[Qg,Qz]
     refine Ev.bind0 (UL _) ?_
     rw[decide_eq_true c1,decide_eq_true c2]
     simp(disch:=omega) only[Bool.and_self,cond_true,Qg,getD_at hz']
     exact Ev.bind r2 (Ev.pure _)
   ·refine⟨xs[z.toNat].short,Ev.bind z1 ?_,Ev.bind z2 ?_,hsh⟩
    ·simp(disch:=omega) only[Qg,Qz,getD_at hz'];exact Ev.pure _
    ·simp(disch:=omega) only[Qg,Qz]
     refine Ev.bind0 (UL _) ?_
     rw[decide_eq_false c2]
     simp(disch:=omega) only[Bool.and_false,cond_false,Qg,getD_at hz']
     exact Ev.pure _
  ·refine⟨xs[z.toNat].short,Ev.bind z1 ?_,Ev.bind z2 ?_,hsh⟩
   ·simp(disch:=omega) only[Qg,Qz,getD_at hz'];exact Ev.pure _
   ·simp(disch:=omega) only[Qg,Qz]
    refine Ev.bind0 (UL _) ?_
    rw[decide_eq_false c1]
    simp(disch:=omega) only[Bool.false_and,cond_false,Qg,getD_at hz']
    exact Ev.pure _
end Go.Proofs.YtfindpalabmmmaaGreatDoor
end
section
/- ShortWord (cut out of LawShortWord). -/
namespace Go.Proofs.YtfindpalabmmmaaGreatDoor
open Go.Gx
def Xj (lo b:Int):Bool:=decide (lo<=b)&&decide (b<=126)
theorem D8 (s:ByteArray)(hs:s.size<=1048576)(a b c:Int):∀n i:Nat,i+n=s.size->Ev (λk=>Z23.l0 k s a b c i) (if((Q2 s).drop i).all (Xj c)=true then .inr (s,a,b)else .inl false)
 |0,i,h=>by
  refine Ev.step (λk=>by rw[Z23.l0]) ?_
  simp(disch:=omega) only[Qz]
  rw[List.drop_eq_nil_of_le (by rw[Qj];omega)]
  exact Ev.pure _
 |n+1,i,h=>by
  have hl:=Qj s
  have hi:i<(Q2 s).length:=by omega
  refine Ev.step (λk=>by rw[Z23.l0]) ?_
  simp(disch:=omega) only[Qg,Int.toNat_natCast,JO s i hi]
  rw[YG hi]
  unfold Xj
  by_cases c1:(Q2 s)[i]<c
  ·simp(disch:=omega) only[Qg,Xh,Bool.false_and];exact Ev.pure _
  ·by_cases c2:(Q2 s)[i] > 126
   ·simp(disch:=omega) only[Qg,Qz,Xh,Bool.and_false,Bool.false_and];exact Ev.pure _
   ·simp(disch:=omega) only[Qg,Qz,KW,Bool.and_self,Bool.true_and,wrap_in]
    exact D8 s hs a b c n (i+1) (by omega)
theorem G5 (s:ByteArray)(hs:s.size<=1048576):∀n i:Nat,i+n=s.size->Ev (λk=>Z20.l0 k s i) (if((Q2 s).drop i).all (Xj 32)=true then .inr ()else .inl false)
 |0,i,h=>by
  refine Ev.step (λk=>by rw[Z20.l0]) ?_
  simp(disch:=omega) only[Qz]
  rw[List.drop_eq_nil_of_le (by rw[Qj];omega)]
  exact Ev.pure _
 |n+1,i,h=>by
  have hl:=Qj s
  have hi:i<(Q2 s).length:=by omega
  refine Ev.step (λk=>by rw[Z20.l0]) ?_
  simp(disch:=omega) only[Qg,Int.toNat_natCast,JO s i hi]
  rw[YG hi]
  unfold Xj
  by_cases c1:(Q2 s)[i]<32
  ·simp(disch:=omega) only[Qg,Xh,Bool.false_and];exact Ev.pure _
  ·by_cases c2:(Q2 s)[i] > 126
   ·simp(disch:=omega) only[Qg,Qz,Xh,Bool.and_false,Bool.false_and];exact Ev.pure _
   ·simp(disch:=omega) only[Qg,Qz,KW,Bool.and_self,Bool.true_and,wrap_in]
    exact G5 s hs n (i+1) (by omega)
theorem D9 (s:ByteArray)(hs:s.size<=1048576)(a b c:Int):Ev (λk=>Z23.F k s a b c) ((Q2 s).all (Xj c)&&(decide ((s.size:Int) ≥ a)&&decide ((s.size:Int)<=b))):=by
 unfold Z23.F
 have:=D8 s hs a b c s.size 0 (by omega)
 rw[List.drop_zero]at this
 cases h:(Q2 s).all (Xj c)with
 |true=>rw[h]at this;exact Ev.bind this (Ev.bind0 (Q8f _ _ _) (Ev.pure _))
 |false=>rw[h]at this;exact Ev.bind this (Ev.pure _)
theorem Q3l (s:ByteArray)(hs:s.size<=1048576):Ev (λk=>Z20.F k s) ((Q2 s).all (Xj 32)):=by
 unfold Z20.F
 have:=G5 s hs s.size 0 (by omega)
 rw[List.drop_zero]at this
 cases h:(Q2 s).all (Xj 32)with
 |true=>rw[h]at this;exact Ev.bind this (Ev.pure _)
 |false=>rw[h]at this;exact Ev.bind this (Ev.pure _)
theorem Q3m (s:ByteArray)(hs:s.size<=1048576)(c:UInt8):Z80.F s ⟨#[c]⟩=some ((L s).contains c):=by
 unfold Z80.F XC
 rw[Nat.ble_eq_true_of_le (by omega),cond_true,Lib.contains_iff_indexByte,<-Lib.index_one]
 rfl
theorem Q4d (s:ByteArray):(Q2 s).all (Xj 33)=((Q2 s).all (Xj 32)&& !(L s).contains 32):=by
 rw[YT]
 induction L s with
 |nil=>rfl
 |cons b l ih=>
  simp only[List.map_cons,List.all_cons,List.contains_cons,ih]
  have hb:(32:UInt8)==b ↔ (b.toNat:Int)=32:=by
   rw[beq_iff_eq,<-UInt8.toNat_inj]
   have:(32:UInt8).toNat=32:=rfl
   omega
  have e:Xj 33 (b.toNat:Int)=(Xj 32 (b.toNat:Int)&& !((32:UInt8)==b)):=by
   unfold Xj
   cases h:(32:UInt8)==b with
   |true=>
    have:=hb.1 h
    rw[this];rfl
   |false=>
    have:(b.toNat:Int)≠32:=λe=>by rw[hb.2 e]at h;cases h
    rw[show decide (33<=(b.toNat:Int))=decide (32<=(b.toNat:Int))from decide_eq_decide.2 (by omega)]
    simp
  rw[e]
  cases Xj 32 (b.toNat:Int)<;>cases ((32:UInt8)==b)<;>simp
theorem Q4T (xs:List Abbr)(hs:smalls xs)(s:ByteArray)(h1:s.size<=1048576):∃r,Ev (λk=>Z38.F k xs s) r/\Ev (λk=>Z36.F k xs s) r:=by
 have v1:=Ju xs hs
 have v2:=Ji xs hs
 have b1:=D9 s h1 1 40 33
 have b2:=Q1u (s.size:Int) 1 40
 have b3:=Q3l s h1
 have b4:=Q3m s h1 32
 unfold Z38.F Z36.F
 cases hv:J2 xs with
 |false=>
  rw[hv]at v1 v2
  exact⟨_,Ev.bind v1 (Ev.pure _),Ev.bind v2 (Ev.pure _)⟩
 |true=>
  rw[hv]at v1 v2
  rw[Q4d]at b1
  cases hc:decide ((s.size:Int) ≥ 1)&&decide ((s.size:Int)<=40)with
  |false=>
   rw[hc,Bool.and_false]at b1
   rw[hc]at b2
   exact⟨_,Ev.bind v1 (Ev.bind b1 (Ev.pure _)),Ev.bind v2 (Ev.bind0 b2 (Ev.pure _))⟩
  |true=>
   rw[hc,Bool.and_true]at b1
   rw[hc]at b2
   cases hp:(Q2 s).all (Xj 32)with
   |false=>
    rw[hp,Bool.false_and]at b1
    rw[hp]at b3
    exact⟨_,Ev.bind v1 (Ev.bind b1 (Ev.pure _)),Ev.bind v2 (Ev.bind0 b2 (Ev.bind b3 (Ev.pure _)))⟩
   |true=>
    rw[hp,Bool.true_and]at b1
    rw[hp]at b3
    cases hx:(L s).contains 32 with
    |true=>
     rw[hx]at b1 b4
     exact⟨_,Ev.bind v1 (Ev.bind b1 (Ev.pure _)),Ev.bind v2 (Ev.bind0 b2 (Ev.bind b3 (Ev.bind0 b4 (Ev.pure _))))⟩
    |false=>
     rw[hx]at b1 b4
     have h0:0<s.size:=by
      have:=(Bool.and_eq_true_iff.1 hc).1
      rw[decide_eq_true_eq]at this
      omega
     obtain⟨r,r1,r2,_⟩:=Q3k xs hs s h0 h1
     exact⟨_,Ev.bind v1 (Ev.bind b1 (Ev.bind r1 (Ev.pure _))),Ev.bind v2 (Ev.bind0 b2 (Ev.bind b3 (Ev.bind0 b4 (Ev.bind r2 (Ev.pure _)))))⟩
end Go.Proofs.YtfindpalabmmmaaGreatDoor
end
section
/- Plain laws: the pieces of a text between spaces. -/
namespace Go.Proofs.YtfindpalabmmmaaGreatDoor
open Go.Gx
theorem Q0v (s t:ByteArray):(s++t).size=s.size+t.size:=by
 rw[<-J9,Yt,List.length_append,J9,J9]
theorem Q7n (s:ByteArray)(st a:Nat):(s.extract st s.size).extract a (s.extract st s.size).size=s.extract (st+a) s.size:=by
 apply KX
 have e:(L s).take s.size=L s:=List.take_of_length_le (Nat.le_refl _)
 rw[Jc,Jc s (st+a),<-J9 (s.extract st s.size),Jc,List.take_length,List.drop_drop,e]
theorem Q7o (s:ByteArray)(st i:Nat)(h:st<=i)(hi:i<=s.size):(s.extract st s.size).extract 0 (i-st)=s.extract st i:=by
 apply KX
 rw[Jc,Jc,Jc,List.drop_zero,List.take_of_length_le (show(L s).length<=s.size from Nat.le_refl _),List.drop_take]
def sp:ByteArray:=⟨#[32]⟩
theorem Q8D {l:List UInt8}{c:UInt8}{i:Nat}(h:l[i]? =some c)(hn:∀j,j<i->l[j]? ≠some c):Lib.indexByte l c=i:=by
 have hg:=Lib.indexByte_ge l c
 by_cases e:Lib.indexByte l c= -1
 ·exact absurd h (Lib.indexByte_none e i)
 ·obtain⟨o,ho⟩:∃o:Nat,Lib.indexByte l c=o:=⟨(Lib.indexByte l c).toNat,by omega⟩
  obtain⟨h1,h2⟩:=Lib.indexByte_some ho
  rcases Nat.lt_trichotomy o i with h3|h3|h3
  ·exact absurd h1 (hn o h3)
  ·rw[ho,h3]
  ·exact absurd h (h2 i h3)
theorem Q82 {l:List UInt8}{c:UInt8}(hn:∀j:Nat,l[j]? ≠some c):Lib.indexByte l c= -1:=by
 have hg:=Lib.indexByte_ge l c
 by_cases e:Lib.indexByte l c= -1
 ·exact e
 ·obtain⟨o,ho⟩:∃o:Nat,Lib.indexByte l c=o:=⟨(Lib.indexByte l c).toNat,by omega⟩
  exact absurd (Lib.indexByte_some ho).1 (hn o)
theorem Q1x (s:ByteArray):Lib.indexB s sp=Lib.indexByte (L s) 32:=Lib.one s sp rfl
theorem Q4e (s:ByteArray)(st j:Nat):(L (s.extract st s.size))[j]? =(L s)[st+j]?:=by
 rw[Jc,List.take_of_length_le (show(L s).length<=s.size from Nat.le_refl _),List.getElem?_drop]
def Jd (s:ByteArray)(st:Nat):List ByteArray:=Lib.splitB sp 0 (Lib.countB (s.extract st s.size) sp) (s.extract st s.size)
theorem XE (s:ByteArray)(st:Nat)(h:∀j,st<=j->(L s)[j]? ≠some 32):Jd s st=[s.extract st s.size]:=by
 unfold Jd
 rw[Lib.countB_miss _ _ ((Q1x _).trans (Q82 λj=>by rw[Q4e];exact h _ (by omega)))]
 rfl
theorem DF (s:ByteArray)(st i:Nat)(h1:st<=i)(hi:i<s.size)(hb:(L s)[i]? =some 32)(h:∀j,st<=j->j<i->(L s)[j]? ≠some 32):Jd s st=s.extract st i::Jd s (i+1):=by
 have e:Lib.indexB (s.extract st s.size) sp=((i-st:Nat):Int):=(Q1x _).trans (Q8D (by rw[Q4e,show st+(i-st)=i by omega];exact hb) λj hj=>by rw[Q4e];exact h _ (by omega) (by omega))
 have e1:sp.size=1:=rfl
 unfold Jd
 rw[Lib.countB_hit _ _ _ (by rw[e1];exact Nat.le_refl _) e,Nat.add_comm 1,Lib.splitB_hit _ _ _ _ _ e,Nat.add_zero,Q7o s st i h1 (by omega),e1,Q7n,show st+(i-st+1)=i+1 by omega]
theorem sub_self (s:ByteArray):s.extract 0 s.size=s:=by
 apply KX
 rw[Jc,List.take_of_length_le (show(L s).length<=s.size from Nat.le_refl _),List.drop_zero]
def words (s:ByteArray):List ByteArray:=Lib.splitB sp 0 (Lib.countB s sp) s
theorem Q0w (s:ByteArray):Jd s 0=words s:=by unfold Jd words;rw[sub_self]
theorem Q7p (s:ByteArray)(hs:s.size<=4000):Z82.F s ⟨#[32]⟩=some (words s):=by
 unfold Z82.F Q27
 rw[Nat.ble_eq_true_of_le (by omega)]
 rfl
theorem G6:∀(k:Nat) (s:ByteArray),∀x∈Lib.splitB sp 0 k s,x.size<=s.size
 |0,s,x,hx=>by
  rw[Lib.splitB_zero]at hx
  simp only[List.mem_singleton]at hx
  rw[hx];exact Nat.le_refl _
 |k+1,s,x,hx=>by
  unfold Lib.splitB at hx
  split at hx
  ·simp only[List.mem_singleton]at hx
   rw[hx];exact Nat.le_refl _
  ·rcases List.mem_cons.1 hx with rfl|hx
   ·rw[ByteArray.size_extract];omega
   ·have:=G6 k _ x hx
    rw[ByteArray.size_extract]at this
    omega
theorem Q1y (s:ByteArray):1<=(words s).length/\(words s).length<=s.size+1:=by
 unfold words
 have h1:1<=sp.size:=Nat.le_refl 1
 rw[Lib.splitB_all sp h1 0 _ s rfl]
 have:=Lib.countB_le sp h1 s.size s (Nat.le_refl _)
 omega
end Go.Proofs.YtfindpalabmmmaaGreatDoor
end
section
/- Plain laws: slices.IndexFunc,slices.DeleteFunc,as they are printed for a function value. -/
namespace Go.Gx
section
variable {α:Type} {d:α} {p:α->Bool} {q:Nat->α->Option Bool} {xs:List α}
theorem DG {α:Type}{xs:List α}{i:Nat}(h:i<xs.length)(d:α):xs.getD i d=xs[i]:=by simp[List.getD,List.getElem?_eq_getElem h]
theorem Q7q {l0:Nat->List α->Int->Int->Option (Sum Int Unit)}(H:∀k x0 x7 x8,l0 (k+1) x0 x7 x8=bif (decide (x8<x7))then(bif decide (0<=x8)then(bif decide (x8<(x0.length:Int))then((q k (x0.getD (x8:Int).toNat d)).bind λr1=>bif r1 then(some (.inl x8))else(l0 k x0 x7 (IntKind.wrap .i64 (x8+1))))else none)else none)else(some (.inr ())))
  (hq:∀x,x∈xs->Ev (λk=>q k x) (p x)) (hl:xs.length<=4611686018427387904):∀n i:Nat,i+n=xs.length->(∀x∈xs.take i,p x=false)->
  ∃r,Ev (λk=>l0 k xs xs.length i) r/\((r= .inr ()/\∀x∈xs,p x=false)\/∃j:Nat,r= .inl j/\j<xs.length/\p (xs.getD j d)=true/\∀x∈xs.take j,p x=false)
 |0,i,h,ht=>by
  refine⟨.inr (),Ev.step (λk=>by rw[H]) ?_,.inl ⟨rfl,by rw[List.take_of_length_le (by omega)]at ht;exact ht⟩⟩
  simp(disch:=omega) only[Qz]
  exact Ev.pure _
 |n+1,i,h,ht=>by
  have hi:i<xs.length:=by omega
  cases hp:p xs[i]with
  |true=>
   refine⟨.inl i,Ev.step (λk=>by rw[H]) ?_,.inr ⟨i,rfl,hi,by rw[DG hi,hp],ht⟩⟩
   simp(disch:=omega) only[Qg,Int.toNat_natCast,DG hi]
   refine Ev.bind (hq _ (List.getElem_mem hi)) ?_
   rw[hp]
   exact Ev.pure _
  |false=>
   obtain⟨r,h1,h2⟩:=Q7q H hq hl n (i+1) (by omega) (by
    intro x hx
    rw[List.take_add_one,List.getElem?_eq_getElem hi]at hx
    rcases List.mem_append.1 hx with hx|hx
    ·exact ht x hx
    ·simp only[Option.toList_some,List.mem_singleton]at hx
     rw[hx,hp])
   refine⟨r,Ev.step (λk=>by rw[H]) ?_,h2⟩
   simp(disch:=omega) only[Qg,Int.toNat_natCast,DG hi]
   refine Ev.bind (hq _ (List.getElem_mem hi)) ?_
   rw[hp]
   simp(disch:=omega) only[cond_false,wrap_in]
   exact h1
theorem Q2g {l0:Nat->List α->Int->Int->Option (Sum Int Unit)}(H:∀k x0 x7 x8,l0 (k+1) x0 x7 x8=bif (decide (x8<x7))then(bif decide (0<=x8)then(bif decide (x8<(x0.length:Int))then((q k (x0.getD (x8:Int).toNat d)).bind λr1=>bif r1 then(some (.inl x8))else(l0 k x0 x7 (IntKind.wrap .i64 (x8+1))))else none)else none)else(some (.inr ())))
  (hq:∀x,x∈xs->Ev (λk=>q k x) (p x)) (hl:xs.length<=4611686018427387904) {F:Nat->List α->Option Int} (HF:∀k a0,F k a0=(l0 k a0 (a0.length:Int) 0).bind λy2=>match y2 with|.inl z3=>some z3|.inr z3=>some (-1)) :
  ∃r,Ev (λk=>F k xs) r/\((r= -1/\∀x∈xs,p x=false)\/∃j:Nat,r=j/\j<xs.length/\p (xs.getD j d)=true/\∀x∈xs.take j,p x=false):=by
 obtain⟨r,h1,h2⟩:=Q7q H hq hl xs.length 0 (by omega) (λx hx=>by simp at hx)
 rcases h2 with⟨rfl,h2⟩|⟨j,rfl,h2⟩
 ·exact⟨-1,Ev.congr (Ev.bind h1 (Ev.pure _)) (λk=>HF k xs),.inl ⟨rfl,h2⟩⟩
 ·exact⟨j,Ev.congr (Ev.bind h1 (Ev.pure _)) (λk=>HF k xs),.inr ⟨j,rfl,h2⟩⟩
theorem Q4f {l0:Nat->List α->Int->Int->Option (List α×Int)}(H:∀k x0 x5 x6,l0 (k+1) x0 x5 x6=bif (decide (x6<(x0.length:Int)))then(bif decide (0<=x6)then(bif decide (x6<(x0.length:Int))then((q k (x0.getD ((x6:Int).toNat) d)).bind λr2=>bif (!r2)then(bif decide (0<=x5)then(bif decide (x5<(x0.length:Int))then(l0 k (x0.set ((x5:Int).toNat) (x0.getD ((x6:Int).toNat) d)) (IntKind.wrap .i64 (x5+1)) (IntKind.wrap .i64 (x6+1)))else none)else none)else(l0 k x0 x5 (IntKind.wrap .i64 (x6+1))))else none)else none)else(some (x0,x5)))
  (hq:∀x,x∈xs->Ev (λk=>q k x) (p x)) (hl:xs.length<=4611686018427387904):∀n j:Nat,j+n=xs.length->∀(ys:List α) (i:Nat),ys.length=xs.length->i<=j->ys.drop j=xs.drop j->
  ∃zs,∃i':Nat,Ev (λk=>l0 k ys i j) (zs,(i':Int))/\i'<=xs.length/\zs.length=xs.length/\zs.take i'=ys.take i++(xs.drop j).filter λx=> !p x
 |0,j,h,ys,i,hy,hij,hd=>by
  refine⟨ys,i,Ev.step (λk=>by rw[H]) ?_,by omega,hy,?_⟩
  ·simp(disch:=omega) only[Qz]
   exact Ev.pure _
  ·rw[List.drop_eq_nil_of_le (by omega),List.filter_nil,List.append_nil]
 |n+1,j,h,ys,i,hy,hij,hd=>by
  have hj:j<xs.length:=by omega
  have hj':j<ys.length:=by omega
  have hx:ys[j]=xs[j]:=by
   have h0:=congrArg (·[0]?) hd
   simpa[hj,hj']using h0
  have hd1:ys.drop (j+1)=xs.drop (j+1):=by
   have:=congrArg (List.drop 1) hd
   simpa[List.drop_drop]using this
  cases hp:p xs[j]with
  |true=>
   obtain⟨zs,i',h1,h2,h3,h4⟩:=Q4f H hq hl n (j+1) (by omega) ys i hy (by omega) hd1
   refine⟨zs,i',Ev.step (λk=>by rw[H]) ?_,h2,h3,?_⟩
   ·simp(disch:=omega) only[Qg,Int.toNat_natCast,DG hj',hx]
    refine Ev.bind (hq _ (List.getElem_mem hj)) ?_
    rw[hp]
    simp(disch:=omega) only[Bool.not_true,cond_false,wrap_in]
    exact h1
   ·rw[h4,List.drop_eq_getElem_cons hj,List.filter_cons_of_neg (by rw[hp];decide)]
  |false=>
   obtain⟨zs,i',h1,h2,h3,h4⟩:=Q4f H hq hl n (j+1) (by omega) (ys.set i xs[j]) (i+1) (by simpa using hy) (by omega) (by rw[List.drop_set_of_lt (by omega)];exact hd1)
   refine⟨zs,i',Ev.step (λk=>by rw[H]) ?_,h2,h3,?_⟩
   ·simp(disch:=omega) only[Qg,Int.toNat_natCast,DG hj',hx]
    refine Ev.bind (hq _ (List.getElem_mem hj)) ?_
    rw[hp]
    simp(disch:=omega) only[Bool.not_false,cond_true,Qg,Int.toNat_natCast,wrap_in]
    exact h1
   ·rw[h4,List.drop_eq_getElem_cons hj,List.filter_cons_of_pos (by rw[hp];decide),List.take_add_one,List.take_set_of_le (Nat.le_refl i)]
    have:(ys.set i xs[j])[i]? =some xs[j]:=by rw[List.getElem?_set_self (by omega)]
    rw[this]
    simp
theorem DI {l0:Nat->List α->Int->Int->Option (List α×Int)}(H:∀k x0 x5 x6,l0 (k+1) x0 x5 x6=bif (decide (x6<(x0.length:Int)))then(bif decide (0<=x6)then(bif decide (x6<(x0.length:Int))then((q k (x0.getD ((x6:Int).toNat) d)).bind λr2=>bif (!r2)then(bif decide (0<=x5)then(bif decide (x5<(x0.length:Int))then(l0 k (x0.set ((x5:Int).toNat) (x0.getD ((x6:Int).toNat) d)) (IntKind.wrap .i64 (x5+1)) (IntKind.wrap .i64 (x6+1)))else none)else none)else(l0 k x0 x5 (IntKind.wrap .i64 (x6+1))))else none)else none)else(some (x0,x5)))
  (hq:∀x,x∈xs->Ev (λk=>q k x) (p x)) (hl:xs.length<=4611686018427387904) {I F:Nat->List α->Option _} {e:α}
  (hI:∃r:Int,Ev (λk=>I k xs) r/\((r= -1/\∀x∈xs,p x=false)\/∃j:Nat,r=j/\j<xs.length/\p (xs.getD j d)=true/\∀x∈xs.take j,p x=false))
  (HF:∀k a0,F k a0=(I k a0).bind λr1=>bif (r1==(-1))then(some a0)else((l0 k a0 r1 (IntKind.wrap .i64 (r1+1))).bind λy3=>bif decide (0<=y3.2)then(bif decide (y3.2<=(y3.1.length:Int))then(bif decide (0<=y3.2)then(bif decide (y3.2<=((y3.1.take ((y3.2:Int).toNat)++List.replicate (y3.1.length-((y3.2:Int).toNat)) e).length:Int))then(some ((y3.1.take ((y3.2:Int).toNat)++List.replicate (y3.1.length-((y3.2:Int).toNat)) e).take (y3.2:Int).toNat))else none)else none)else none)else none)) :
  Ev (λk=>F k xs) (xs.filter λx=> !p x):=by
 obtain⟨r,h1,h2⟩:=hI
 refine Ev.congr (?_:Ev _ _) (λk=>HF k xs)
 refine Ev.bind h1 ?_
 rcases h2 with⟨rfl,h2⟩|⟨j,rfl,hj,hp,h2⟩
 ·have:(xs.filter λx=> !p x)=xs:=List.filter_eq_self.2 λx hx=>by rw[h2 x hx];rfl
  rw[this]
  exact Ev.pure _
 ·obtain⟨zs,i',h3,h4,h5,h6⟩:=Q4f H hq hl (xs.length-(j+1)) (j+1) (by omega) xs j rfl (by omega) rfl
  rw[DG hj]at hp
  have hz:zs.take i'=xs.filter λx=> !p x:=by
   rw[h6]
   conv=>rhs;rw[<-List.take_append_drop j xs,List.filter_append,List.drop_eq_getElem_cons hj,List.filter_cons_of_neg (by rw[hp];decide)]
   congr 1
   exact(List.filter_eq_self.2 λx hx=>by rw[h2 x hx];rfl).symm
  simp(disch:=omega) only[cne,wrap_in]
  refine Ev.bind h3 ?_
  have e1:((zs.take i'++List.replicate (zs.length-i') e)).length=zs.length:=by simp;omega
  simp(disch:=(try simp only[Int.toNat_natCast,e1]);omega) only[Qg,Int.toNat_natCast,e1]
  rw[List.take_append_of_le_length (by simp;omega),List.take_take,Nat.min_self,hz]
  exact Ev.pure _
end
end Go.Gx
end
