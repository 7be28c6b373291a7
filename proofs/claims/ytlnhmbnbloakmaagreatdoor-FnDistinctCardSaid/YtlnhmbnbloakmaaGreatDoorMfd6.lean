/- Library functions: their contracts,proved once for any program,as what a callee keeps to. By an AI agent's session. -/
import Derived.Test.YtlnhmbnbloakmaaGreatDoorMfd4
import Derived.Shelf.Vars
import Derived.Below
import Derived.Lib.IndexMore
import Derived.Lib.Split
import Derived.Lib.SplitLaws
import Derived.Lib.Repeat
import Derived.Deep.Draws
import Derived.Lib.Join
import Derived.Lib.SlTrimSet
import Derived.Lib.IndexAny
import Derived.Lib.TrimByte
import Derived.Laws.AppendOwn
import Derived.Maps.OwnOps
import Derived.Maps.Views
import Derived.Test.YtlnhmbnbloakmaaGreatDoorProg
import Derived.WalkKit
import Derived.Deep.LoopGhost
import Derived.Laws.OwnMore
import Derived.Handy
import Derived.Maps.AppendAt
import Derived.Test.YtlnhmbnbloakmaaGreatDoorMfd5
import Derived.KernelRfl
import Derived.Lib.IndexBytes
import Derived.Lib.IndexLaws
import Derived.Lib.CountLaws
set_option linter.unusedVariables false
set_option linter.unusedSimpArgs false
set_option maxRecDepth 100000
section
namespace Go.Gx
open Go.RowKit Go.Lib
theorem Uo {P:Program}{f:FuncId}{fn:Func}{c:Code}(hf:P.funcs[f]? =some fn)(hb:fn.body=some c)(hname:(fn.name== "runtime.NumGoroutine")=false){args:Array Value}{w:World}{R:Value->World->Prop}
  (h:Calls P f args w λe w'=>∃v,e= .returned v/\R v w'):Goes P f args w R:=by
 have hcall:(callFunc f args).run P w= .ok (.enter f args) w:=by
  have hn':fn.name≠ "runtime.NumGoroutine":=by simpa using hname
  simp[callFunc,hf,hn',hb]
 unfold Goes
 rw[hcall]
 exact h
theorem Xi {S:Nat->Prop}{w:World}{pv:Nat->Value}{vs:List Value}(h:QY S w pv [] vs):vs=[]:=List.eq_nil_of_length_eq_zero h.1
theorem Up {S:Nat->Prop}{w:World}{pv:Nat->Value}{a:AV}{al:List AV}{vs:List Value}(h:QY S w pv (a::al) vs):∃cs vs',AR S w (λ_=>none) (λ_=>none) pv a cs/\vs=valOf a cs::vs'/\QY S w pv al vs':=by
 match vs,h with
 |[],h=>cases h.1
 |v::vs',⟨h1,h2⟩=>
  obtain⟨cs,hc,rfl⟩:=h2 0 a v rfl rfl
  exact⟨cs,vs',hc,rfl,by simpa using h1,λi b u hb hu=>h2 (i+1) b u (by simpa using hb) (by simpa using hu)⟩
theorem Xj {S:Nat->Prop}{w:World}{pv:Nat->Value}{s:ByteArray}{al:List AV}{vs:List Value}(h:QY S w pv (.t .str s::al) vs):∃vs',vs= .string s::vs'/\QY S w pv al vs':=by
 obtain⟨cs,vs',hc,rfl,h'⟩:=Up h
 cases hc with|t _ _ _ hc=>cases hc;exact⟨vs',rfl,h'⟩
section
variable {P:Program} {E:Env} {pv:Nat->Value} {f:FuncId} {fn:Func} {c:Code}
theorem Q3g (hf:P.funcs[f]? =some fn)(hb:fn.body=some c)(hname:(fn.name== "runtime.NumGoroutine")=false){args:List AV}{τ:Ty}{y:den τ}{v:Value}(hy:∀S w,∃cs,CR S w τ y cs/\v=valOf (.t τ y) cs)
  (h:∀S w vs,(∀b,S b->b<w.heap.size)->Qr E pv S w->QY S w pv args vs->Calls P f vs.toArray w λe w'=>e= .returned v/\Below w.heap.size w w'):Qa P E pv (.f f) args (.t τ y):=by
 intro S w vs hS hgl hargs
 refine Uo hf hb hname ((h S w vs hS hgl hargs).mono λe w' ⟨he,hbl⟩=>⟨v,he,hbl,S,λb hb=>hb,λb hb=>.inl hb,?_⟩)
 obtain⟨cs,hc,rfl⟩:=hy S w'
 exact⟨none,.plain _ _ (.t _ _ _ hc)⟩
theorem Q7o (hf:P.funcs[f]? =some fn)(hb:fn.body=some c)(hname:(fn.name== "runtime.NumGoroutine")=false){args:List AV}{te:Nat}{xs:List ByteArray}(hx:xs.length<=maxLen)
  (h:∀S w vs,(∀b,S b->b<w.heap.size)->Qr E pv S w->QY S w pv args vs->Calls P f vs.toArray w λe w'=>e= .returned (.slice (some ⟨w.heap.size,0,none⟩) xs.length xs.length)/\w'=w.alloc (.cells (xs.map Value.string).toArray te)):Qa P E pv (.f f) args (.fr te .str xs):=by
 intro S w vs hS hgl hargs
 refine Uo hf hb hname ((h S w vs hS hgl hargs).mono λe w' ⟨he,hw⟩=>⟨_,he,?_⟩)
 subst hw
 refine⟨(Below.refl _ w).alloc (Nat.le_refl _) _,S,λb hb=>hb,λb hb=>.inl hb,some w.heap.size,.fr te .str xs w.heap.size xs.length (Nat.le_refl _) (λhs=>absurd (hS _ hs) (Nat.lt_irrefl _)) ⟨(xs.map Value.string).toArray,(0,0),?_,?_,Nat.le_refl _,hx,λ_=>rfl,.inl (Nat.le_refl _),by decide,λi hi=>⟨[.string xs[i]],.str _,λj v hj=>?_⟩⟩⟩
 ·show(w.heap.push _)[w.heap.size]? =_
  simp
 ·simp[nc]
 ·cases j with
  |zero=>
   simp only[List.getElem?_cons_zero,Option.some.injEq]at hj
   subst hj
   simp[nc,hi]
  |succ j=>simp at hj
end
def Q25 (s sep:ByteArray):Option (List ByteArray):=bif Nat.ble s.size 4294967280&&Nat.ble 1 sep.size then some (Lib.splitB sep 0 (Lib.countB s sep) s)else none
theorem Q5T {P:Program}{E:Env}{pv:Nat->Value}{f:FuncId}{fn:Func}{c:Code}(hf:P.funcs[f]? =some fn)(hb:fn.body=some c)(hname:(fn.name== "runtime.NumGoroutine")=false){mx:Nat}(hmx:E.gi mx=true){te:Nat}
  (hc:∀(s sep:ByteArray) (m:Int) (w:World),s.size<4294967281->w.cell? ⟨mx,0,none⟩=some (.int .i64 m)->1<=sep.size->Calls P f #[.string s,.string sep] w λe w'=>
   e= .returned (.slice (some ⟨w.heap.size,0,none⟩) (Lib.countB s sep+1) (Lib.countB s sep+1))/\w'=w.alloc (.cells ((Lib.splitB sep 0 (Lib.countB s sep) s).map Value.string).toArray te))
  {s sep:ByteArray} {y:List ByteArray} (h:Q25 s sep=some y):Qa P E pv (.f f) (Qb [.str,.str] (s,sep,())) (.fr te .str y):=by
 unfold Q25 at h
 cases hs:Nat.ble s.size 4294967280&&Nat.ble 1 sep.size with
 |false=>rw[hs]at h;cases h
 |true=>
  rw[hs]at h
  cases h
  rw[Bool.and_eq_true]at hs
  have h1:=Nat.le_of_ble_eq_true hs.1
  have h2:=Nat.le_of_ble_eq_true hs.2
  have hl:=Lib.splitB_all sep h2 0 _ s rfl
  have hle:=Lib.countB_le sep h2 s.size s (Nat.le_refl _)
  have hm:maxLen=9223372036854775807:=by decide
  refine Q7o hf hb hname (by rw[hl,hm];omega) λS w vs hS hgl ha=>?_
  obtain⟨_,rfl,ha1⟩:=Xj ha
  obtain⟨_,rfl,ha2⟩:=Xj ha1
  obtain rfl:=Xi ha2
  obtain⟨_,m,hm⟩:=hgl.2.1 mx hmx
  rw[hl]
  exact hc s sep m w (by omega) hm h2
def Q4Z (xs:List ByteArray)(sep:ByteArray):Option ByteArray:=bif Nat.ble xs.length 140737488355328&&Nat.ble (Lib.join (xs.map (·.data.toList)) sep.data.toList).length 140737488355328 then some ⟨(Lib.join (xs.map (·.data.toList)) sep.data.toList).toArray⟩else none
theorem Q7p {P:Program}{E:Env}{pv:Nat->Value}{f:FuncId}{fn:Func}{c:Code}(hf:P.funcs[f]? =some fn)(hb:fn.body=some c)(hname:(fn.name== "runtime.NumGoroutine")=false)
  (hc0:∀(a:Option Addr) (c:Nat) (sep:ByteArray) (w:World),Calls P f #[.slice a 0 c,.string sep] w λe w'=>e= .returned (.string ⟨#[]⟩)/\w'=w)
  (hc:∀(bk o c:Nat) (xs:List ByteArray) (sep:ByteArray) (w:World),(∀(j:Nat) x,xs[j]? =some x->w.cell? ⟨bk,o+j,none⟩=some (.string x))->bk<w.heap.size->xs.length<=140737488355328->xs.length<=c->
   (Lib.join (xs.map (·.data.toList)) sep.data.toList).length<=140737488355328->Calls P f #[.slice (some ⟨bk,o,none⟩) xs.length c,.string sep] w λe w'=>e= .returned (.string ⟨(Lib.join (xs.map (·.data.toList)) sep.data.toList).toArray⟩)/\Below w.heap.size w w')
  {xs:List ByteArray} {sep:ByteArray} {y:ByteArray} (h:Q4Z xs sep=some y):Qa P E pv (.f f) (Qb [.sl .str,.str] (xs,sep,())) (.t .str y):=by
 unfold Q4Z at h
 cases hs:Nat.ble xs.length 140737488355328&&Nat.ble (Lib.join (xs.map (·.data.toList)) sep.data.toList).length 140737488355328 with
 |false=>rw[hs]at h;cases h
 |true=>
  rw[hs]at h
  cases h
  rw[Bool.and_eq_true]at hs
  refine Q3g hf hb hname (v:=.string _) (λS w=>⟨_,.str _,rfl⟩) λS w vs hS hgl ha=>?_
  obtain⟨cs,_,hcr,rfl,ha1⟩:=Up ha
  obtain⟨_,rfl,ha2⟩:=Xj ha1
  obtain rfl:=Xi ha2
  cases hcr with
  |t _ _ _ hcr=>
   cases hcr with
   |sl e xs A c cv hle hm h1 h2=>
    match xs,A,hle,h1,h2,hs with
    |[],A,_,_,_,_=>exact(hc0 A c sep w).mono λe w' ⟨he,hw⟩=>⟨he,hw▸Below.refl _ _⟩
    |x::l,A,hle,h1,h2,hs=>
     obtain⟨g,o,rfl,hg,_⟩:=h2 0 (Nat.succ_pos _)
     refine hc g o c (x::l) sep w (λj z hj=>?_) (hS g hg) (Nat.le_of_ble_eq_true hs.1) hle (Nat.le_of_ble_eq_true hs.2)
     obtain⟨hj',hz⟩:=List.getElem?_eq_some_iff.1 hj
     obtain⟨g',o',e',_,hcell⟩:=h2 j hj'
     cases e'
     have hcv:=h1 j hj'
     rw[hz]at hcv
     have hq:∀q,CR S w .str z q->q[0]? =some (.string z):=λq hq=>by cases hq;rfl
     have:=hcell 0 (.string z) (hq _ hcv)
     simpa[nc]using this
def Q26 (s cs:ByteArray):Option ByteArray:=match cs with
 |⟨⟨[c]⟩⟩=>bif Nat.ble s.size 9223372036854775807&&Nat.blt c.toNat 128 then some ⟨(Lib.trimB s.data.toList c).toArray⟩else none
 |_=>none
theorem Q5U {P:Program}{E:Env}{pv:Nat->Value}{f:FuncId}{fn:Func}{c:Code}(hf:P.funcs[f]? =some fn)(hb:fn.body=some c)(hname:(fn.name== "runtime.NumGoroutine")=false)
  (hc:∀(s:ByteArray) (c:UInt8),c.toNat<128->∀(w:World),s.size<=9223372036854775807->Calls P f #[.string s,.string ⟨#[c]⟩] w λe w'=>e= .returned (.string ⟨(Lib.trimB s.data.toList c).toArray⟩)/\(w'=w\/w'=w.drew))
  {s cs:ByteArray} {y:ByteArray} (h:Q26 s cs=some y):Qa P E pv (.f f) (Qb [.str,.str] (s,cs,())) (.t .str y):=by
 unfold Q26 at h
 split at h
 ·rename_i c0
  cases hs:Nat.ble s.size 9223372036854775807&&Nat.blt c0.toNat 128 with
  |false=>rw[hs]at h;cases h
  |true=>
   rw[hs]at h
   cases h
   rw[Bool.and_eq_true]at hs
   refine Q3g hf hb hname (v:=.string _) (λS w=>⟨_,.str _,rfl⟩) λS w vs hS hgl ha=>?_
   obtain⟨_,rfl,ha1⟩:=Xj ha
   obtain⟨_,rfl,ha2⟩:=Xj ha1
   obtain rfl:=Xi ha2
   refine(hc s c0 (Nat.le_of_ble_eq_true hs.2) w (Nat.le_of_ble_eq_true hs.1)).mono λe w' ⟨he,hw⟩=>⟨he,?_⟩
   rcases hw with rfl|rfl
   ·exact Below.refl _ _
   ·exact(Below.refl _ _).drew
 ·cases h
def Q27 (xs:List ByteArray):Option (List ByteArray):=bif Nat.ble (xs.length*16) 140737488355328 then some xs else none
theorem Q5V {P:Program}{E:Env}{pv:Nat->Value}{f:FuncId}{fn:Func}{c:Code}(hf:P.funcs[f]? =some fn)(hb:fn.body=some c)(hname:(fn.name== "runtime.NumGoroutine")=false){te:Nat}
  (hc:∀(b off n c:Nat) (zs:List ByteArray) (w:World),n<=zs.length->n*16<=140737488355328->(∀j,j<zs.length->w.cell? ⟨b,off+j,none⟩=some (.string (zs.getD j ByteArray.empty)))->
   Calls P f #[.slice (some ⟨b,off,none⟩) n c] w λe w'=>∃v',e= .returned v'/\w'.ownsRow w.heap.size te 1 v' n ((zs.take n).map Value.string)/\v'≠ .slice none 0 0/\Below w.heap.size w w')
  (hcn:∀(n c:Nat) (w:World),Calls P f #[.slice none n c] w λe w'=>e= .returned (.slice none 0 0)/\w'=w)
  (hcz:∀(a:Addr) (c:Nat) (w:World),Calls P f #[.slice (some a) 0 c] w λe w'=>∃v',e= .returned v'/\w'.ownsRow w.heap.size te 1 v' 0 []/\v'≠ .slice none 0 0/\Below w.heap.size w w')
  {xs:List ByteArray} {y:List ByteArray} (h:Q27 xs=some y):Qa P E pv (.f f) (Qb [.sl .str] (xs,())) (.fr te .str y):=by
 have hc0:∀(A:Option Addr) (c:Nat) (w:World),Calls P f #[.slice A 0 c] w λe w'=>∃v',e= .returned v'/\w'.ownsRow w.heap.size te 1 v' 0 []/\Below w.heap.size w w':=λA c w=>by
  cases A with
  |none=>exact(hcn 0 c w).mono λe w' ⟨he,hw⟩=>⟨_,he,⟨rfl,.inl ⟨rfl,rfl⟩⟩,hw▸Below.refl _ _⟩
  |some a=>exact(hcz a c w).mono λe w' ⟨v,he,ho,_,hb⟩=>⟨v,he,ho,hb⟩
 unfold Q27 at h
 cases hs:Nat.ble (xs.length*16) 140737488355328 with
 |false=>rw[hs]at h;cases h
 |true=>
  rw[hs]at h
  cases h
  have hs:=Nat.le_of_ble_eq_true hs
  intro S w vs hS hgl ha
  have fin:∀(v':Value) (w':World),w'.ownsRow w.heap.size te 1 v' xs.length (xs.map Value.string)->Below w.heap.size w w'->Below w.heap.size w w'/\∃S':Nat->Prop,(∀b,S b->S' b)/\(∀b,S' b->S b\/(w.heap.size<=b/\b<w'.heap.size))/\RR S' w' w.heap.size pv (.fr te .str xs) v':=λv' w' ho hbl=>by
   refine⟨hbl,S,λb hb=>hb,λb hb=>.inl hb,?_⟩
   obtain⟨h1,⟨rfl,h2⟩|⟨g,cap,cur,rfl,h3,h4,h5,h6,h7,h8⟩⟩:=ho
   ·obtain rfl:xs=[]:=List.eq_nil_of_length_eq_zero h2
    exact⟨none,.frNil te .str (by decide)⟩
   ·refine⟨some g,.fr te .str xs g cap h3 (λhs=>absurd (hS _ hs) (by omega)) ⟨cur,(0,0),h4,h7,h5,h6,λ_=>rfl,.inl (Nat.le_refl _),by decide,λi hi=>⟨[.string xs[i]],.str _,λj v hj=>?_⟩⟩⟩
    cases j with
    |zero=>
     simp only[List.getElem?_cons_zero,Option.some.injEq]at hj
     subst hj
     have h9:=congrArg (·[i]?) h8
     simp only[Nat.mul_one,List.getElem?_take,if_pos hi,List.getElem?_map,List.getElem?_eq_getElem hi,Option.map_some]at h9
     simpa[nc]using h9
    |succ j=>simp at hj
  obtain⟨cs,_,hcr,rfl,ha1⟩:=Up ha
  obtain rfl:=Xi ha1
  cases hcr with
  |t _ _ _ hcr=>
   cases hcr with
   |sl e xs A c cv hle hm h1 h2=>
    match xs,A,hle,h1,h2,hs,fin with
    |[],A,_,_,_,_,fin=>exact Uo hf hb hname ((hc0 A c w).mono λe w' ⟨v',he,ho,hbl⟩=>⟨v',he,fin _ _ ho hbl⟩)
    |x::l,A,hle,h1,h2,hs,fin=>
     obtain⟨g,o,rfl,hg,_⟩:=h2 0 (Nat.succ_pos _)
     refine Uo hf hb hname ((hc g o (x::l).length c (x::l) w (Nat.le_refl _) hs λj hj=>?_).mono λe w' ⟨v',he,ho,_,hbl⟩=>⟨v',he,fin _ _ (by rw[List.take_length]at ho;exact ho) hbl⟩)
     obtain⟨g',o',e',_,hcell⟩:=h2 j hj
     cases e'
     have hcv:=h1 j hj
     have hq:∀z q,CR S w .str z q->q[0]? =some (.string z):=λz q hq=>by cases hq;rfl
     have:=hcell 0 _ (hq _ _ hcv)
     rw[List.getD_eq_getElem?_getD,List.getElem?_eq_getElem hj,Option.getD_some]
     simpa[nc]using this
end Go.Gx
end
section
/- A set of numbers in a map of the call's own (map[int]bool),for a walk;what a callee's summary says to the walk. -/
namespace Go.Gx
open Go.RowKit Go.Proofs Go.Maps
theorem U4 {P:Program}{f:FuncId}{fn:Func}{c:Code}(hf:P.funcs[f]? =some fn)(hb:fn.body=some c)(hname:(fn.name== "runtime.NumGoroutine")=false){args:Array Value}{w:World}{R:Value->World->Prop}
  (h:Goes P f args w R):Calls P f args w λe w'=>∃v,e= .returned v/\R v w':=by
 have hcall:(callFunc f args).run P w= .ok (.enter f args) w:=by
  have hn':fn.name≠ "runtime.NumGoroutine":=by simpa using hname
  simp[callFunc,hf,hn',hb]
 unfold Goes at h
 rw[hcall]at h
 exact h
def YR (P:Program)(k e:TypeId)(w:World)(b n:Nat)(L:List Int):Prop:=
 ∃D:DataW Unit,w.ownsMap P k (plainElem P e) b n D/\∀j:Int,D.atKey (.int .i64 j) (.lit (.bool false))= .lit (.bool (L.contains j))
theorem YR.made (P:Program)(k e:TypeId)(w:World):YR P k e (w.alloc (.map #[] 0)) w.heap.size 0 []:=
 ⟨.map [],World.ownsMap_made _ _ _ _,λj=>rfl⟩
theorem YR.keep {P:Program}{k e:TypeId}{w w':World}{b n:Nat}{L:List Int}(h:YR P k e w b n L)(hb:w'.heap[b]? =w.heap[b]?):YR P k e w' b n L:=by
 obtain⟨D,⟨es,clock,h1,h2,h3,h4⟩,hL⟩:=h
 exact⟨D,⟨es,clock,hb.trans h1,h2,h3,h4⟩,hL⟩
theorem YR.lt {P:Program}{k e:TypeId}{w:World}{b n:Nat}{L:List Int}(h:YR P k e w b n L):b<w.heap.size:=by
 obtain⟨D,h,_⟩:=h
 exact h.lt
theorem Q4g {P:Program}(w:World){ops:Array Oper}{rest:List Oper}{o:Oper}{a:Act}{Q:Exit->Act->World->Prop}
  (hg:o.guard=none) (m x v:Operand) (t:TypeId) (hop:o.op=Op.mapUpdate t m x v) (k e:TypeId) (hk:P.underlying k=some (.int .i64)) (he:P.underlying e=some .bool) (ht:P.underlying t=some (.map k e)) (b n:Nat) (L:List Int)
  (hm:a.eval m= .map (some b)) (hown:YR P k e w b n L) (hn:n<maxLen) (i:Int) (hi:(Lit.int .i64 i).wf=true) (hx:a.eval x= .int .i64 i) (hv:a.eval v= .bool true)
  (hK:∀w',YR P k e w' b (n+1) (i::L)->w.grownBy w' (some b)->wpList P ops Q rest (a.put o.dst undef) w'):wpList P ops Q (o::rest) a w:=by
 obtain⟨D,h1,h2⟩:=hown
 refine wpList_mapUpdate_own w hg m x v t hop k e (int_keyed hk) ht _ b n D hm h1 hn _ _ (.int .i64 i) hx hv (keyOf_int_mk hk hi) _ [] (plainElem_bool he true) λw' r1 r2=>hK w' ⟨_,r1,λj=>?_⟩ r2
 by_cases hj:j=i
 ·subst hj
  rw[atKey_put_same (by obtain⟨_,_,_,_,_,h⟩:=h1;exact⟨_,h⟩) (by trivial)]
  simp
 ·rw[atKey_put_other (by intro h;cases h;exact hj rfl),h2]
  simp[hj]
theorem Q0k {P:Program}(w:World){ops:Array Oper}{rest:List Oper}{o:Oper}{a:Act}{Q:Exit->Act->World->Prop}
  (hg:o.guard=none) (m x:Operand) (t:TypeId) (hop:o.op=Op.lookup t m x false) (k e:TypeId) (hk:P.underlying k=some (.int .i64)) (he:P.underlying e=some .bool) (ht:P.underlying t=some (.map k e)) (hz:(zeroValue e).run P w= .ok (.bool false) w) (b n:Nat) (L:List Int)
  (hm:a.eval m= .map (some b)) (hown:YR P k e w b n L) (i:Int) (hi:(Lit.int .i64 i).wf=true) (hx:a.eval x= .int .i64 i) (c:Bool) (hc:L.contains i=c)
  (hK:wpList P ops Q rest (a.put o.dst (.bool c)) w):wpList P ops Q (o::rest) a w:=by
 obtain⟨D,h1,h2⟩:=hown
 refine wpList_plain hg λK' hK'=>?_
 obtain⟨v,ps,hrun,hat⟩:=h1.lookup (int_keyed hk) ht hz (plainElem_bool he false) (keyOf_int_mk hk hi)
 have hv:v= .bool c:=by
  rw[h2,hc]at hat
  unfold plainElem at hat
  rw[he]at hat
  cases v<;>simp at hat
  rw[hat.1]
 subst hv
 unfold Oper.wp
 simp[execOp,hop,hm,hx,hrun,Result.andThen]
 exact hK' _ _ hK
def uW (g:ByteArray->Option Int):List ByteArray->List Int->Option (List Int)
 |[],l=>some l
 |s::ss,l=>bif Nat.ble l.length 1000000 then(g s).bind λi=>bif (Lit.int .i64 i).wf then uW g ss (i::l)else none else none
def uT (t:ByteArray->Option (List ByteArray×Bool))(g:ByteArray->Option Int):List ByteArray->List Int->Option (List Int)
 |[],l=>some l
 |s::ss,l=>(t s).bind λp=>(bif p.2 then uW g p.1 l else some l).bind λl'=>uT t g ss l'
def uO (i:Int):List Abbr->List Int->List ByteArray
 |[],_=>[]
 |a::q,l=>bif l.contains i then uO (i+1) q l else a.word::uO (i+1) q l
theorem Q50 {g:ByteArray->Option Int}{s:ByteArray}{ss:List ByteArray}{l m:List Int}(h:uW g (s::ss) l=some m):l.length<=1000000/\∃i,g s=some i/\(Lit.int .i64 i).wf=true/\uW g ss (i::l)=some m:=by
 unfold uW at h
 cases h1:Nat.ble l.length 1000000 with
 |false=>rw[h1]at h;cases h
 |true=>
  rw[h1]at h
  cases h2:g s with
  |none=>rw[h2]at h;cases h
  |some i=>
   rw[h2]at h
   cases h3:(Lit.int .i64 i).wf with
   |false=>simp[h3]at h
   |true=>exact⟨Nat.le_of_ble_eq_true h1,i,rfl,h3,by simpa[h3]using h⟩
theorem Q51 {t:ByteArray->Option (List ByteArray×Bool)}{g:ByteArray->Option Int}{s:ByteArray}{ss:List ByteArray}{l m:List Int}(h:uT t g (s::ss) l=some m) :
  ∃ws b l',t s=some (ws,b)/\(bif b then uW g ws l else some l)=some l'/\uT t g ss l'=some m:=by
 unfold uT at h
 cases h2:t s with
 |none=>rw[h2]at h;cases h
 |some p=>
  rw[h2]at h
  obtain⟨ws,b⟩:=p
  cases h3:(bif b then uW g ws l else some l)with
  |none=>simp[h3]at h
  |some l'=>exact⟨ws,b,l',rfl,h3,by simpa[h3]using h⟩
def But (b:Nat)(w w':World):Prop:=w.heap.size<=w'.heap.size/\∀q,q<w.heap.size->q≠b->w'.heap[q]? =w.heap[q]?
theorem But.refl (b:Nat)(w:World):But b w w:=⟨Nat.le_refl _,λ_ _ _=>rfl⟩
theorem But.below {b:Nat}{w w1 w2:World}(h:But b w w1)(k:Below w1.heap.size w1 w2):But b w w2:=⟨Nat.le_trans h.1 k.size,λq hq hb=>(k.block q (Nat.lt_of_lt_of_le hq h.1)).trans (h.2 q hq hb)⟩
theorem But.grown {b:Nat}{w w1 w2:World}(h:But b w w1)(k:w1.grownBy w2 (some b)):But b w w2:=⟨Nat.le_trans h.1 k.size,λq hq hb=>(k.block q (Nat.lt_of_lt_of_le hq h.1) (by intro e;cases e;exact hb rfl)).trans (h.2 q hq hb)⟩
theorem But.cell {b:Nat}{w w1:World}(h:But b w w1){q:Nat}(hq:q<w.heap.size)(hb:q≠b)(o:Nat):w1.cell? ⟨q,o,none⟩=w.cell? ⟨q,o,none⟩:=World.cell?_of_block (w:=w) (h.2 q hq hb)
end Go.Gx
end
section
namespace Go.Proofs.YtlnhmbnbloakmaaGreatDoor
open Go.Gx Go.RowKit Go.Maps
set_option maxHeartbeats 4000000
theorem JK (w:World)(o:Obj):(w.alloc o).heap.size=w.heap.size+1:=by
 show(w.heap.push o).size=_
 exact Array.size_push _
theorem cell_two_new (w:World)(o:Obj)(x:Value)(t:TypeId):∀j u,[x][j]? =some u->((w.alloc o).alloc (.cells #[x] t)).cell? ((⟨w.heap.size+1,0,none⟩:Addr).add j)=some u:=by
 have h:=cell_one_new (w.alloc o) x t
 rwa [JK]at h
theorem Q9o (w:World)(vL vT:Value)(h23:Hid (Calls Tryz.prog 15 #[vL,vT] w λe w'=>e= .returned (.bool false)/\Below w.heap.size w w')) :
  Calls Tryz.prog 9 #[vL,vT] w λe w'=>e= .returned (.tuple #[.slice none 0 0,.bool false])/\Below w.heap.size w w':=by
 go_enter Tryz.func9,Tryz.ntmps9
 go_wp2_with (go_at_call 15;refine h23.out.mono ?_;rintro e w1 ⟨rfl,hb1⟩)
 go_returns
 exact⟨rfl,hb1⟩
theorem Q90 (w:World)(xs:List Abbr)(ts:List ByteArray)(A B:Option Addr)(cA cB:Nat)(t:ByteArray->Option (List ByteArray×Bool))(g:ByteArray->Option Int)(Lf:List Int)
  (hL:Hid (∀i (h:i<xs.length),∃b o,A=some ⟨b,o,none⟩/\b<w.heap.size/\w.cell? ⟨b,o+i*2,none⟩=some (.string xs[i].word)/\w.cell? ⟨b,o+i*2+1,none⟩=some (.string xs[i].short)))
  (hT:Hid (∀i (h:i<ts.length),∃b o,B=some ⟨b,o,none⟩/\b<w.heap.size/\w.cell? ⟨b,o+i,none⟩=some (.string ts[i])))
  (hxs:xs.length<=1000000) (hts:ts.length<=9223372036854775807)
  (h23:Hid (Calls Tryz.prog 15 #[.slice A xs.length cA,.slice B ts.length cB] w λe w'=>e= .returned (.bool true)/\Below w.heap.size w w'))
  (h24:Hid (∀s ws b,t s=some (ws,b)->∀wr,Below w.heap.size w wr->Calls Tryz.prog 22 #[.string s] wr λe w'=>∃C c,e= .returned (.tuple #[.slice C ws.length c,.bool b])/\Below wr.heap.size wr w'/\ws.length<=9223372036854775807/\
   Hid (∀i (h:i<ws.length),∃q,C=some ⟨q,0,none⟩/\wr.heap.size<=q/\q<w'.heap.size/\w'.cell? ⟨q,i,none⟩=some (.string ws[i]))))
  (h25:Hid (∀s i,g s=some i->∀wr,Below w.heap.size w wr->Calls Tryz.prog 23 #[.slice A xs.length cA,.string s] wr λe w'=>e= .returned (.int .i64 i)/\Below wr.heap.size wr w'))
  (hu:Hid (uT t g ts []=some Lf)) :
  Calls Tryz.prog 9 #[.slice A xs.length cA,.slice B ts.length cB] w λe w'=>∃v,e= .returned (.tuple #[v,.bool true])/\Below w.heap.size w w'/\w'.ownsRow w.heap.size 9 1 v (uO 0 xs Lf).length ((uO 0 xs Lf).map Value.string):=by
 have hmm:=@run_makeMap Tryz.prog
 go_enter Tryz.func9,Tryz.ntmps9
 go_wp2_with (first|(go_at_call 15;refine h23.out.mono ?_;rintro e w1 ⟨rfl,hb1⟩)|go_in)
 have hw1:w.heap.size<=w1.heap.size:=hb1.size
 go_loopg [23] ts.length (λn s23 wr=>∃j L,n=ts.length-j/\j<=ts.length/\s23= .int .i64 (j:Nat)/\YR Tryz.prog 3 4 wr w1.heap.size L.length L/\Hid (uT t g (ts.drop j) L=some Lf)/\Below w.heap.size w wr)
 case atStart=>exact⟨0,[],rfl,Nat.zero_le _,rfl,YR.made _ _ _ _,hu,hb1.alloc hw1 _⟩
 case round=>
  obtain⟨j,L,rfl,hj,rfl,hm,hrest,hbr⟩:=hrel
  by_cases hjl:j<ts.length
  ·obtain⟨bB,oB,rfl,hbB,hcB⟩:=hT.out j hjl
   have hcBr:wr.cell? ⟨bB,oB+j,none⟩=some (.string ts[j]):=(hbr.cell (by exact hbB)).trans hcB
   have hr0:=hrest.out
   rw[List.drop_eq_getElem_cons hjl]at hr0
   obtain⟨ws,bb,L2,ht1,hw2,hr2⟩:=Q51 hr0
   replace hr2:Hid _:=hr2
   replace hw2:Hid _:=hw2
   have hmlt:=hm.lt
   clear hr0 hcB hrest
   go_wp2_with (first|(go_at_call 22;refine(h24.out _ _ _ ht1 _ hbr).mono ?_;rintro e w2 ⟨C,c,rfl,hb2,hwl,hcw⟩)|go_in)
   have hkeep:YR Tryz.prog 3 4 w2 w1.heap.size L.length L:=hm.keep (hb2.block _ hmlt)
   have hbw2:Below w.heap.size w w2:=hbr.trans (hb2.mono hbr.size)
   have hmb:Hid (wr.heap.size<=w2.heap.size):=hb2.size
   go_loopg [34] ws.length (λn s34 wy=>∃k L',n=ws.length-k/\k<=ws.length/\s34= .int .i64 (k:Nat)/\YR Tryz.prog 3 4 wy w1.heap.size L'.length L'/\Hid ((bif bb then uW g (ws.drop k) L' else some L')=some L2)/\Below w.heap.size w wy/\Hid (But w1.heap.size w2 wy))
   case atStart=>exact⟨0,L,rfl,Nat.zero_le _,rfl,hkeep,hw2,hbw2,But.refl _ _⟩
   case round=>
    obtain⟨k,L',rfl,hk,rfl,hmy,hwy,hby,hbut⟩:=hrel
    by_cases hkl:k<ws.length
    ·obtain⟨q,rfl,hq1,hq2,hq3⟩:=hcw.out k hkl
     have hqy:‹World›.cell? ⟨q,k,none⟩=some (.string ws[k]):=(hbut.out.cell hq2 (by omega) k).trans hq3
     cases bb with
     |false=>
      go_wp2
      go_roundg (ws.length-(k+1))
      case measure=>omega
      case rel=>exact⟨k+1,L',rfl,by omega,by go_num,hmy,hwy,hby,hbut⟩
     |true=>
      have hwz:uW g (ws.drop k) L'=some L2:=hwy.out
      rw[List.drop_eq_getElem_cons hkl]at hwz
      obtain⟨hll,i,hgi,hiw,hwn⟩:=Q50 hwz
      replace hwn:Hid _:=hwn
      have hmylt:=hmy.lt
      clear hwz hwy hq3
      go_wp2_with (first
       |(go_at_call 23;refine(h25.out _ _ hgi _ hby).mono ?_;rintro e w3 ⟨rfl,hb3⟩)
       |(at_mapUpdate;refine Q4g _ rfl _ _ _ 48 rfl 3 4 Tryz.underlying3 Tryz.underlying4 Tryz.underlying48 w1.heap.size L'.length L' rfl (hmy.keep (hb3.block _ hmylt)) (by unfold maxLen;omega) i hiw rfl rfl ?_;intro w4 hm4 hg4)
       |go_in)
      go_roundg (ws.length-(k+1))
      case measure=>omega
      case rel=>exact⟨k+1,i::L',rfl,by omega,by go_num,hm4,hwn,(hby.trans (hb3.mono hby.size)).grown hg4 (Nat.le_trans hby.size hb3.size) (λq hq=>by cases hq;exact hw1),(hbut.out.below hb3).grown hg4⟩
    ·have:k=ws.length:=by omega
     subst this
     have hL2:L'=L2:=by
      have:=hwy.out
      rw[List.drop_length]at this
      cases bb<;>simpa[uW]using this
     subst hL2
     clear hwy
     go_wp2
     go_roundg (ts.length-(j+1))
     case measure=>omega
     case rel=>exact⟨j+1,L',rfl,by omega,by go_num,hmy,hr2,hby⟩
  ·have:j=ts.length:=by omega
   subst this
   have hLf:L=Lf:=by
    have:=hrest.out
    rw[List.drop_length]at this
    simpa[uT]using this
   subst hLf
   have hmlt:=hm.lt
   clear hrest hu
   go_wp2_with (first|go_in)
   have hwr:w.heap.size<=wr.heap.size:=hbr.size
   have h31:Tryz.prog.info? 9=some Tryz.t9:=by kernel_rfl
   have hz0:Tryz.t9.zero=some (.string ByteArray.empty):=by kernel_rfl
   have hz1:Tryz.t9.size=1:=by kernel_rfl
   have hz2:Tryz.t9.bytes=16:=by kernel_rfl
   go_loopg [13,48] xs.length (λn s13 s48 wy=>∃(k:Nat) (out:List ByteArray),n=xs.length-k/\k<=xs.length/\s48= .int .i64 (k:Nat)/\YR Tryz.prog 3 4 wy w1.heap.size L.length L/\wy.ownsRow (w1.heap.size+1) 9 1 s13 out.length (out.map Value.string)/\out.length<=k/\Hid (out++uO k (xs.drop k) L=uO 0 xs L)/\Below w.heap.size w wy)
   case atStart=>exact⟨0,[],rfl,Nat.zero_le _,rfl,hm.keep (Below.heap_alloc _ _ _ hmlt),World.ownsRow_made wr #[] 0 (by omega) (by decide) rfl,Nat.le_refl _,rfl,hbr.alloc hwr _⟩
   case round=>
    obtain⟨k,out,rfl,hk,rfl,hmy,hown,hol,hout,hby⟩:=hrel
    by_cases hkl:k<xs.length
    ·obtain⟨b,o,rfl,hbl,hc1,hc2⟩:=hL.out k hkl
     have hd1:=(hby.cell (p:=⟨b,o+k*2,none⟩) hbl).trans hc1
     have hd2:=(hby.cell (p:=⟨b,o+k*2+1,none⟩) hbl).trans hc2
     have hkw:(Lit.int .i64 (k:Int)).wf=true:=by
      have e1:IntKind.i64.min= -9223372036854775808:=by decide
      have e2:IntKind.i64.max=9223372036854775807:=by decide
      simp only[Lit.wf,e1,e2,Bool.and_eq_true,decide_eq_true_eq]
      omega
     obtain⟨wd,hwd⟩:∃wd,wd=xs[k].word:=⟨_,rfl⟩
     obtain⟨sh,hsh⟩:∃sh,sh=xs[k].short:=⟨_,rfl⟩
     rw[<-hwd]at hd1
     rw[<-hsh]at hd2
     have hzb:∀w,(zeroValue 4).run Tryz.prog w= .ok (.bool false) w:=λw=>by kernel_rfl
     have hmylt:=hmy.lt
     clear hc1 hc2
     cases hcon:L.contains (k:Int)with
     |true=>
      go_wp2_with (first|(at_lookup;refine Q0k _ rfl _ _ 48 rfl 3 4 Tryz.underlying3 Tryz.underlying4 Tryz.underlying48 (hzb _) w1.heap.size L.length L rfl (hmy.keep (Below.heap_alloc _ _ _ hmylt)) (k:Int) hkw rfl _ hcon ?_)|go_in)
      go_roundg (xs.length-(k+1))
      case measure=>omega
      case rel=>exact⟨k+1,out,rfl,by omega,by go_num,hmy.keep (Below.heap_alloc _ _ _ hmylt),hown.alloc _,by omega,(by
       have hd:out++uO k (xs[k]::xs.drop (k+1)) L=uO 0 xs L:=by rw[<-List.drop_eq_getElem_cons hkl];exact hout
       have he:uO k (xs[k]::xs.drop (k+1)) L=uO (k+1) (xs.drop (k+1)) L:=by
        show(bif L.contains (k:Int)then _ else _)=_
        rw[hcon]
        rfl
       rw[he]at hd
       exact hd),hby.alloc hby.size _⟩
     |false=>
      have hwy0:w.heap.size<= ‹World›.heap.size:=hby.size
      go_wp2_with (first
       |(at_lookup;refine Q0k _ rfl _ _ 48 rfl 3 4 Tryz.underlying3 Tryz.underlying4 Tryz.underlying48 (hzb _) w1.heap.size L.length L rfl (hmy.keep (Below.heap_alloc _ _ _ hmylt)) (k:Int) hkw rfl _ hcon ?_)
       |(at_builtin;refine wpList_append_own _ rfl _ _ 25 rfl (w1.heap.size+1) 9 Tryz.t9 (.string ByteArray.empty) 1 16 Tryz.underlying25 h31 hz0 hz1 hz2 rfl (by decide) _ _ _ rfl ((hown.alloc _).alloc _) ⟨_,0,none⟩ 1 1 [.string xs[k].word] rfl rfl (cell_two_new _ _ _ _) (λx hx=>by simp at hx;subst hx;rfl) (by unfold maxLen;omega) (by omega) (by simp;omega) ?_;intro v' w3 hown' hgrow3 hnil3)
       |go_in)
      go_roundg (xs.length-(k+1))
      case measure=>omega
      case rel=>
       refine⟨k+1,out++[xs[k].word],rfl,by omega,by go_num,?_,?_,by simp;omega,?_,?_⟩
       ·refine((hmy.keep (w':=World.alloc _ _) (Below.heap_alloc _ _ _ hmylt)).keep (w':=World.alloc _ _) (Below.heap_alloc _ _ _ (by rw[JK];omega))).keep (hgrow3.block _ ?_ ?_)
        ·show w1.heap.size<(World.alloc (World.alloc _ _) _).heap.size
         rw[JK,JK]
         omega
        ·intro e
         obtain⟨h1,_⟩:=hown.lt _ e.symm
         omega
       ·simpa using hown'
       ·have hd:out++uO k (xs[k]::xs.drop (k+1)) L=uO 0 xs L:=by rw[<-List.drop_eq_getElem_cons hkl];exact hout
        have he:uO k (xs[k]::xs.drop (k+1)) L=xs[k].word::uO (k+1) (xs.drop (k+1)) L:=by
         show(bif L.contains (k:Int)then _ else _)=_
         rw[hcon]
         rfl
        rw[he]at hd
        show out++[xs[k].word]++_=_
        rw[List.append_assoc]
        exact hd
       ·exact((hby.alloc hwy0 _).alloc (by rw[JK];omega) _).grown hgrow3 (by rw[JK,JK];omega) (λq hq=>by obtain⟨h1,_⟩:=hown.lt _ hq;omega)
    ·have:k=xs.length:=by omega
     subst this
     have hl:=hout.out
     rw[List.drop_length]at hl
     have hl2:out=uO 0 xs L:=by simpa[uO]using hl
     go_wp2
     go_returns
     rw[<-hl2]
     refine⟨_,rfl,hby,hown.1,hown.2.imp_right ?_⟩
     rintro⟨g',cap,cur,e1,e2,e3⟩
     exact⟨g',cap,cur,e1,by omega,e3⟩
theorem Q8m {S:Nat->Prop}{w:World}{n0:Nat}{pv:Nat->Value}{te:Nat}{ws:List ByteArray}{b:Bool}{v:Value}(h:RR S w n0 pv (.tup [.fr te .str ws,.t .bool b]) v) :
  ∃C c,v= .tuple #[.slice C ws.length c,.bool b]/\ws.length<=9223372036854775807/\Hid (∀i (h:i<ws.length),∃q,C=some ⟨q,0,none⟩/\n0<=q/\q<w.heap.size/\w.cell? ⟨q,i,none⟩=some (.string ws[i])):=by
 obtain⟨vs,gs,rfl,hl1,hl2,h1,_⟩:=h
 match vs,gs,hl1,hl2,h1 with
 |[v0,v1],[g0,g1],_,_,h1=>
  have r1:=h1 1 _ _ _ rfl rfl rfl
  have e1:v1= .bool b:=by
   cases r1 with
   |plain a cs ha=>
    cases ha with
    |t _ _ _ hc=>cases hc;rfl
  subst e1
  have r0:=h1 0 _ _ _ rfl rfl rfl
  cases r0 with
  |plain a cs ha=>cases ha
  |fr e τ xs g cap hg hS hrow=>
   obtain⟨cur,fr,q1,q2,q3,q4,q5,q6,q7,q8⟩:=hrow
   refine⟨_,_,rfl,Nat.le_trans q3 q4,λi hi=>⟨g,rfl,hg,(Array.getElem?_eq_some_iff.1 q1).1,?_⟩⟩
   obtain⟨cs,c1,c2⟩:=q8 i hi
   cases c1
   have:=c2 0 _ rfl
   simpa[World.cell?,q1,nc]using this
  |frNil=>exact⟨none,0,rfl,Nat.zero_le _,λi hi=>absurd hi (Nat.not_lt_zero _)⟩
theorem Q52 {S:Nat->Prop}{w:World}{pv:Nat->Value}{τ σ:Ty}{x:den τ}{y:den σ}{cs ds:List Value}(h1:CR S w τ x cs)(h2:CR S w σ y ds):QY S w pv [.t τ x,.t σ y] [Go.Gx.valOf (.t τ x) cs,Go.Gx.valOf (.t σ y) ds]:=by
 refine⟨rfl,λi a v ha hv=>?_⟩
 match i,ha,hv with
 |0,ha,hv=>cases ha;cases hv;exact⟨cs,.t _ _ _ h1,rfl⟩
 |1,ha,hv=>cases ha;cases hv;exact⟨ds,.t _ _ _ h2,rfl⟩
 |(n+2),ha,hv=>simp at ha
theorem Q8n {S:Nat->Prop}{w:World}{pv:Nat->Value}{τ:Ty}{x:den τ}{cs:List Value}(h1:CR S w τ x cs):QY S w pv [.t τ x] [Go.Gx.valOf (.t τ x) cs]:=by
 refine⟨rfl,λi a v ha hv=>?_⟩
 match i,ha,hv with
 |0,ha,hv=>cases ha;cases hv;exact⟨cs,.t _ _ _ h1,rfl⟩
 |(n+1),ha,hv=>simp at ha
def Q8o (r:Bool)(a0:List Abbr)(a1:List ByteArray)(t:ByteArray->Option (List ByteArray×Bool))(g:ByteArray->Option Int):Option (List ByteArray×Bool):=
 bif r then(bif Nat.ble a0.length 1000000 then((uT t g a1 []).bind λl=>some (uO 0 a0 l,true))else none)else some ([],false)
theorem Q7q {E:Env}{pv:Nat->Value}{a0:List Abbr}{a1:List ByteArray}{r:Bool}{t:ByteArray->Option (List ByteArray×Bool)}{g:ByteArray->Option Int}{y:List ByteArray×Bool}
  (h1:Qa Tryz.prog E pv (.f 15) (Qb [(.sl .abbr),(.sl .str)] (a0,a1,())) (.t .bool r))
  (h2:∀s p,t s=some p->Qa Tryz.prog E pv (.f 22) (Qb [.str] (s,())) (.tup [.fr 9 .str p.1,.t .bool p.2]))
  (h3:∀s i,g s=some i->Qa Tryz.prog E pv (.f 23) (Qb [(.sl .abbr),.str] (a0,s,())) (.t (.int .i64) i))
  (h:Q8o r a0 a1 t g=some y):Qa Tryz.prog E pv (.f 9) (Qb [(.sl .abbr),(.sl .str)] (a0,a1,())) (.tup [.fr 9 .str y.1,.t .bool y.2]):=by
 intro S w vs hS hgl ha
 obtain⟨cs,_,hc1,rfl,ha1⟩:=Up ha
 obtain⟨ds,_,hc2,rfl,ha2⟩:=Up ha1
 obtain rfl:=Xi ha2
 have k1:CR S w (.sl .abbr) a0 cs:=by cases hc1;assumption
 have k2:CR S w (.sl .str) a1 ds:=by cases hc2;assumption
 clear ha ha1 ha2 hc1 hc2
 have hgw:∀{wr:World},Below w.heap.size w wr->Qr E pv S wr:=λhb=>hgl.mono (λb h=>h) λb hb'=>hb.block b (hS b hb')
 have hSw:∀{wr:World},Below w.heap.size w wr->∀b,S b->b<wr.heap.size:=λhb b hb'=>Nat.lt_of_lt_of_le (hS b hb') hb.size
 have c1:∀{wr:World},Below w.heap.size w wr->CR S wr (.sl .abbr) a0 cs:=λhb=>k1.mono (λb h=>h) λb hb'=>hb.block b (hS b hb')
 have h23:Calls Tryz.prog 15 #[Go.Gx.valOf (.t (.sl .abbr) a0) cs,Go.Gx.valOf (.t (.sl .str) a1) ds] w λe w'=>e= .returned (.bool r)/\Below w.heap.size w w':=by
  refine(U4 Tryz.func15 rfl (by kernel_rfl) (h1 S w _ hS hgl (Q52 k1 k2))).mono ?_
  rintro e w' ⟨v,rfl,hb,S',_,_,q,hr⟩
  cases hr with
  |plain a cs ha=>
   cases ha with
   |t _ _ _ hc=>cases hc;exact⟨rfl,hb⟩
 have fin:∀(v':Value) (w':World),w'.ownsRow w.heap.size 9 1 v' y.1.length (y.1.map Value.string)->Below w.heap.size w w'->Below w.heap.size w w'/\∃S':Nat->Prop,(∀b,S b->S' b)/\(∀b,S' b->S b\/(w.heap.size<=b/\b<w'.heap.size))/\RR S' w' w.heap.size pv (.tup [.fr 9 .str y.1,.t .bool y.2]) (.tuple #[v',.bool y.2]):=λv' w' ho hbl=>by
  refine⟨hbl,S,λb hb=>hb,λb hb=>.inl hb,?_⟩
  have:∃q,R1 S w' w.heap.size pv (.fr 9 .str y.1) v' q:=by
   obtain⟨h1,⟨rfl,h2⟩|⟨g,cap,cur,rfl,h3,h4,h5,h6,h7,h8⟩⟩:=ho
   ·obtain h0:y.1=[]:=List.eq_nil_of_length_eq_zero h2
    rw[h0]
    exact⟨none,.frNil 9 .str (by decide)⟩
   ·refine⟨some g,.fr 9 .str y.1 g cap h3 (λhs=>absurd (hS _ hs) (by omega)) ⟨cur,(0,0),h4,h7,h5,h6,λ_=>rfl,.inl (Nat.le_refl _),by decide,λi hi=>⟨[.string y.1[i]],.str _,λj v hj=>?_⟩⟩⟩
    cases j with
    |zero=>
     simp only[List.getElem?_cons_zero,Option.some.injEq]at hj
     subst hj
     have h9:=congrArg (·[i]?) h8
     simp only[Nat.mul_one,List.getElem?_take,if_pos hi,List.getElem?_map,List.getElem?_eq_getElem hi,Option.map_some]at h9
     simpa[nc]using h9
    |succ j=>simp at hj
  obtain⟨q,hq⟩:=this
  refine⟨[v',.bool y.2],[q,none],rfl,rfl,rfl,λi r v g hr hv hg=>?_,λi j g hij hi hj=>?_⟩
  ·match i,hr,hv,hg with
   |0,hr,hv,hg=>cases hr;cases hv;cases hg;exact hq
   |1,hr,hv,hg=>cases hr;cases hv;cases hg;exact .plain (.t .bool y.2) [.bool y.2] (.t _ _ _ (.bool _))
   |(n+2),hr,hv,hg=>simp at hr
  ·match i,j,hi,hj with
   |0,0,hi,hj=>exact hij rfl
   |1,j,hi,hj=>simp at hi
   |0,1,hi,hj=>simp at hj
   |(n+2),j,hi,hj=>simp at hi
   |0,(n+2),hi,hj=>simp at hj
 unfold Q8o at h
 cases r with
 |false=>
  cases h
  exact Uo Tryz.func9 rfl (by kernel_rfl) ((Q9o w _ _ h23).mono λe w' ⟨he,hb⟩=>⟨_,he,fin _ _ ⟨rfl,.inl ⟨rfl,rfl⟩⟩ hb⟩)
 |true=>
  cases hn:Nat.ble a0.length 1000000 with
  |false=>rw[hn]at h;cases h
  |true=>
   rw[hn]at h
   cases hl:uT t g a1 []with
   |none=>rw[hl]at h;cases h
   |some Lf=>
    rw[hl]at h
    cases h
    cases k1 with
    |sl e xs A cA cv hle hm g1 g2=>
     cases k2 with
     |sl e ys B cB dv hle2 hm2 g3 g4=>
      refine Uo Tryz.func9 rfl (by kernel_rfl) ((Q90 w a0 a1 A B cA cB t g Lf (λi hi=>?_) (λi hi=>?_) (Nat.le_of_ble_eq_true hn) (Nat.le_trans hle2 hm2) h23 (λs ws b hs wr hb=>?_) (λs i hs wr hb=>?_) hl).mono λe w' ⟨v,he,hb,ho⟩=>⟨_,he,fin _ _ ho hb⟩)
      ·obtain⟨b,o,rfl,hb,hc⟩:=g2 i hi
       have hcv:cv i=[.string a0[i].word,.string a0[i].short]:=Q4y (g1 i hi)
       rw[hcv]at hc
       exact⟨b,o,rfl,hS b hb,hc 0 _ rfl,hc 1 _ rfl⟩
      ·obtain⟨b,o,rfl,hb,hc⟩:=g4 i hi
       have hcv:dv i=[.string a1[i]]:=JP (g3 i hi)
       rw[hcv]at hc
       have:=hc 0 _ rfl
       exact⟨b,o,rfl,hS b hb,by simpa[nc]using this⟩
      ·refine(U4 Tryz.func22 rfl (by kernel_rfl) (h2 s _ hs S wr _ (hSw hb) (hgw hb) (Q8n (.str s)))).mono ?_
       rintro e w' ⟨v,rfl,hb',S',_,_,hr⟩
       obtain⟨C,c,rfl,hl,hh⟩:=Q8m hr
       exact⟨C,c,rfl,hb',hl,hh⟩
      ·refine(U4 Tryz.func23 rfl (by kernel_rfl) (h3 s _ hs S wr _ (hSw hb) (hgw hb) (Q52 (c1 hb) (.str s)))).mono ?_
       rintro e w' ⟨v,rfl,hb',S',_,_,q,hr⟩
       cases hr with
       |plain a cs ha=>
        cases ha with
        |t _ _ _ hc=>cases hc;exact⟨rfl,hb'⟩
end Go.Proofs.YtlnhmbnbloakmaaGreatDoor
end
section
namespace Go.Proofs.YtlnhmbnbloakmaaGreatDoor
open Go.Gx
def tyT (t:Nat):Option Ty:=match t with
 |2=>some (.int .i64)
 |3=>some (.int .i64)
 |4=>some .bool
 |5=>some (.int .u8)
 |9=>some .str
 |10=>some .str
 |11=>some .str
 |12=>some (.int .u64)
 |21=>some (.int .i32)
 |22=>some (.sl (.int .u8))
 |24=>some (.sl .abbr)
 |25=>some (.sl .str)
 |33=>some .abbr
 |37=>some (.int .u64)
 |39=>some .cur
 |51=>some (.sl (.int .i64))
 |84=>some (.int .u64)
 |88=>some (.arr 256 .bool)
 |104=>some (.arr 256 (.int .u8))
 |109=>some (.int .u32)
 |118=>some (.int .u8)
 |_=>none
def elT (t:Nat):Nat:=match t with
 |22=>5
 |24=>33
 |25=>9
 |51=>3
 |_=>0
def mdT (f:Nat):Bool:=match f with
 |13=>true
 |14=>true
 |30=>true
 |31=>true
 |32=>true
 |33=>true
 |43=>true
 |57=>true
 |_=>false
def glT (g:Nat):Option AV:=match g with
 |_=>none
def giT (g:Nat):Bool:=match g with
 |0=>true
 |_=>false
def dmT (f:Nat):Bool:=match f with
 |_=>false
def pmT (f:Nat):Bool:=match f with
 |_=>false
def tmX (f:Nat):Bool:=match f with
 |_=>false
def Q0:Env:={ty:=tyT,el:=elT,gl:=glT,md:=mdT,gi:=giT,dm:=dmT,pm:=pmT,tm:=tmX}
theorem Q4h:∀T τ,Q0.ty T=some τ->TyOk Tryz.prog Q0 T τ:=λT τ h=>by
 dsimp only[Q0,tyT]at h
 split at h<;>first
  |(cases h;done)
  |(cases h;exact Q85 (by kernel_rfl) (by kernel_rfl))
theorem Q8F:EnvOk Tryz.prog Q0:=⟨Q4h,by kernel_rfl,λT h=>by
 dsimp only[Q0,tyT]at h
 split at h<;>first
  |(cases h;done)
  |exact Q8k Q4h rfl (by kernel_rfl) (by kernel_rfl) (by kernel_rfl),λT h=>by
 dsimp only[Q0,tyT]at h
 split at h<;>first
  |(cases h;done)
  |exact Q8l Q4h rfl (by kernel_rfl) (by kernel_rfl) (by kernel_rfl)⟩
def Z69.F (a0:List Int):Option (Bool):=some (decide ((a0.length:Int) > 65536))
def Z69.C:Cal->Option CArm:=λc=>match c with
 |_=>none
theorem Z69.run (a0:List Int):QE Q0 (Qf Z69.C) (Qc 6 0 (λ_=>none)) Tryz.f4 [.t (.sl (.int .u8)) a0] (Qe (.t .bool))=Z69.F a0:=by kernel_rfl
theorem Z69.G (hE:EnvOk Tryz.prog Q0)(pv:Nat->Value):∀cal A,Z69.C cal=some A->Qg Tryz.prog Q0 pv cal A:=by
 intro cal A h
 unfold Z69.C at h
 cases h
theorem Z69.good (hE:EnvOk Tryz.prog Q0)(pv:Nat->Value)(a0:List Int){y:_}(h:Z69.F a0=some y):Qa Tryz.prog Q0 pv (.f 4) (Qb [(.sl (.int .u8))] (a0,())) (.t .bool y):=
 Qh hE (Z69.G hE pv) (f:=4) (fn:=Tryz.f4) (by kernel_rfl) rfl (by kernel_rfl) (by kernel_rfl) ((Z69.run a0).trans h) (λr hr=>Q3 hr)
def Z52.F (a0:Cur):Option (Cur×Int):=bif (decide (a0.at_<(a0.code.length:Int)))then(bif decide (0<=a0.at_)then(bif decide (a0.at_<(a0.code.length:Int))then(bif (decide ((IntKind.wrap .i64 (a0.at_+1))<=(a0.code.length:Int)))then(some ((⟨a0.code,(IntKind.wrap .i64 (a0.at_+1)),(IntKind.wrap .u64 ((IntKind.wrap .u64 ((IntKind.wrap .u64 (a0.seed*6364136223846793005))+(IntKind.wrap .u64 (IntKind.wrap .i64 (a0.code.getD (a0.at_:Int).toNat 0)))))+896896))⟩:Cur),(IntKind.wrap .i64 (a0.code.getD (a0.at_:Int).toNat 0))))else(bif decide (0<=40)then(some ((⟨a0.code,(IntKind.wrap .i64 (a0.at_+1)),(IntKind.wrap .u64 ((IntKind.wrap .u64 ((IntKind.wrap .u64 (a0.seed*6364136223846793005))+(IntKind.wrap .u64 (IntKind.wrap .i64 (a0.code.getD (a0.at_:Int).toNat 0)))))+896896))⟩:Cur),(IntKind.wrap .i64 (IntKind.wrap .u64 ((BitVec.ofInt (IntKind.bits .u64) (Int.fdiv (IntKind.wrap .u64 ((IntKind.wrap .u64 ((IntKind.wrap .u64 (a0.seed*6364136223846793005))+(IntKind.wrap .u64 (IntKind.wrap .i64 (a0.code.getD (a0.at_:Int).toNat 0)))))+896896)) (2 ^ min (40:Int).toNat (IntKind.bits .u64)))&&& BitVec.ofInt (IntKind.bits .u64) 255).toNat:Int)))))else none))else none)else none)else(bif (decide ((IntKind.wrap .i64 (a0.at_+1))<=(a0.code.length:Int)))then(some ((⟨a0.code,(IntKind.wrap .i64 (a0.at_+1)),(IntKind.wrap .u64 ((IntKind.wrap .u64 ((IntKind.wrap .u64 (a0.seed*6364136223846793005))+(IntKind.wrap .u64 0)))+896896))⟩:Cur),0))else(bif decide (0<=40)then(some ((⟨a0.code,(IntKind.wrap .i64 (a0.at_+1)),(IntKind.wrap .u64 ((IntKind.wrap .u64 ((IntKind.wrap .u64 (a0.seed*6364136223846793005))+(IntKind.wrap .u64 0)))+896896))⟩:Cur),(IntKind.wrap .i64 (IntKind.wrap .u64 ((BitVec.ofInt (IntKind.bits .u64) (Int.fdiv (IntKind.wrap .u64 ((IntKind.wrap .u64 ((IntKind.wrap .u64 (a0.seed*6364136223846793005))+(IntKind.wrap .u64 0)))+896896)) (2 ^ min (40:Int).toNat (IntKind.bits .u64)))&&& BitVec.ofInt (IntKind.bits .u64) 255).toNat:Int)))))else none))
def Z52.C:Cal->Option CArm:=λc=>match c with
 |_=>none
theorem Z52.run (a0:Cur):Kx Q0 (Qf Z52.C) (Qc 62 0 (λ_=>none)) Tryz.f57 Q7 (.bx .cur a0) [] (D2 (.bx .cur) (Qe (.t (.int .i64))))=Z52.F a0:=by kernel_rfl
theorem Z52.G (hE:EnvOk Tryz.prog Q0)(pv:Nat->Value):∀cal A,Z52.C cal=some A->Qg Tryz.prog Q0 pv cal A:=by
 intro cal A h
 unfold Z52.C at h
 cases h
theorem Z52.good (hE:EnvOk Tryz.prog Q0)(pv:Nat->Value)(a0:Cur){y:_}(h:Z52.F a0=some y):J6 Tryz.prog Q0 pv 57 (.bx .cur a0) (Qb [] (())) (.kep (.bx .cur y.1) (.t (.int .i64) y.2)):=
 UG hE (Z52.G hE pv) (f:=57) (fn:=Tryz.f57) (by kernel_rfl) rfl (by kernel_rfl) (.inl rfl) (by kernel_rfl) ((Z52.run a0).trans h) (λr hr=>YO (λr y h=>Q3 h) hr)
def Z36.F (a0:Cur)(a1:Int):Option (Cur×Int):=bif (decide (a1<=1))then(some (a0,0))else((Z52.F a0).bind λr1=>bif (decide (a1 > 200))then((Z52.F r1.1).bind λr2=>bif (a1==0)then(none)else(some (r2.1,(Int.tmod (IntKind.wrap .i64 ((IntKind.wrap .i64 (r1.2*256))+r2.2)) a1))))else(bif (a1==0)then(none)else(some (r1.1,(Int.tmod r1.2 a1)))))
def Z36.C:Cal->Option CArm:=λc=>match c with
 |.f 57=>some (.m (.bx .cur) [] _ (λx0 x=>Z52.F x0) (λr=>.kep (.bx .cur r.1) (.t (.int .i64) r.2)))
 |_=>none
theorem Z36.run (a0:Cur)(a1:Int):Kx Q0 (Qf Z36.C) (Qc 20 0 (λ_=>none)) Tryz.f31 Q7 (.bx .cur a0) [.t (.int .i64) a1] (D2 (.bx .cur) (Qe (.t (.int .i64))))=Z36.F a0 a1:=by kernel_rfl
theorem Z36.G (hE:EnvOk Tryz.prog Q0)(pv:Nat->Value):∀cal A,Z36.C cal=some A->Qg Tryz.prog Q0 pv cal A:=by
 intro cal A h
 unfold Z36.C at h
 split at h
 ·cases h;exact⟨_,rfl,λx0 x y hy=>Z52.good hE pv x0 hy⟩
 ·cases h
theorem Z36.good (hE:EnvOk Tryz.prog Q0)(pv:Nat->Value)(a0:Cur)(a1:Int){y:_}(h:Z36.F a0 a1=some y):J6 Tryz.prog Q0 pv 31 (.bx .cur a0) (Qb [(.int .i64)] (a1,())) (.kep (.bx .cur y.1) (.t (.int .i64) y.2)):=
 UG hE (Z36.G hE pv) (f:=31) (fn:=Tryz.f31) (by kernel_rfl) rfl (by kernel_rfl) (.inl rfl) (by kernel_rfl) ((Z36.run a0 a1).trans h) (λr hr=>YO (λr y h=>Q3 h) hr)
def Z39.F (a0:Cur)(a1:Int):Option (Cur×Bool):=(Z36.F a0 a1).bind λr1=>some (r1.1,(r1.2==0))
def Z39.C:Cal->Option CArm:=λc=>match c with
 |.f 31=>some (.m (.bx .cur) [(.int .i64)] _ (λx0 x=>Z36.F x0 x.1) (λr=>.kep (.bx .cur r.1) (.t (.int .i64) r.2)))
 |_=>none
theorem Z39.run (a0:Cur)(a1:Int):Kx Q0 (Qf Z39.C) (Qc 9 0 (λ_=>none)) Tryz.f30 Q7 (.bx .cur a0) [.t (.int .i64) a1] (D2 (.bx .cur) (Qe (.t .bool)))=Z39.F a0 a1:=by kernel_rfl
theorem Z39.G (hE:EnvOk Tryz.prog Q0)(pv:Nat->Value):∀cal A,Z39.C cal=some A->Qg Tryz.prog Q0 pv cal A:=by
 intro cal A h
 unfold Z39.C at h
 split at h
 ·cases h;exact⟨_,rfl,λx0 x y hy=>Z36.good hE pv x0 x.1 hy⟩
 ·cases h
theorem Z39.good (hE:EnvOk Tryz.prog Q0)(pv:Nat->Value)(a0:Cur)(a1:Int){y:_}(h:Z39.F a0 a1=some y):J6 Tryz.prog Q0 pv 30 (.bx .cur a0) (Qb [(.int .i64)] (a1,())) (.kep (.bx .cur y.1) (.t .bool y.2)):=
 UG hE (Z39.G hE pv) (f:=30) (fn:=Tryz.f30) (by kernel_rfl) rfl (by kernel_rfl) (.inl rfl) (by kernel_rfl) ((Z39.run a0 a1).trans h) (λr hr=>YO (λr y h=>Q3 h) hr)
def Z37.F (a0:Cur)(a1:List ByteArray):Option (Cur×ByteArray):=(Z36.F a0 (a1.length:Int)).bind λr1=>bif decide (0<=r1.2)then(bif decide (r1.2<(a1.length:Int))then(some (r1.1,(a1.getD (r1.2:Int).toNat (⟨#[]⟩:ByteArray))))else none)else none
def Z37.C:Cal->Option CArm:=λc=>match c with
 |.f 31=>some (.m (.bx .cur) [(.int .i64)] _ (λx0 x=>Z36.F x0 x.1) (λr=>.kep (.bx .cur r.1) (.t (.int .i64) r.2)))
 |_=>none
theorem Z37.run (a0:Cur)(a1:List ByteArray):Kx Q0 (Qf Z37.C) (Qc 12 0 (λ_=>none)) Tryz.f32 Q7 (.bx .cur a0) [.t (.sl .str) a1] (D2 (.bx .cur) (Qe (.t .str)))=Z37.F a0 a1:=by kernel_rfl
theorem Z37.G (hE:EnvOk Tryz.prog Q0)(pv:Nat->Value):∀cal A,Z37.C cal=some A->Qg Tryz.prog Q0 pv cal A:=by
 intro cal A h
 unfold Z37.C at h
 split at h
 ·cases h;exact⟨_,rfl,λx0 x y hy=>Z36.good hE pv x0 x.1 hy⟩
 ·cases h
theorem Z37.good (hE:EnvOk Tryz.prog Q0)(pv:Nat->Value)(a0:Cur)(a1:List ByteArray){y:_}(h:Z37.F a0 a1=some y):J6 Tryz.prog Q0 pv 32 (.bx .cur a0) (Qb [(.sl .str)] (a1,())) (.kep (.bx .cur y.1) (.t .str y.2)):=
 UG hE (Z37.G hE pv) (f:=32) (fn:=Tryz.f32) (by kernel_rfl) rfl (by kernel_rfl) (.inl rfl) (by kernel_rfl) ((Z37.run a0 a1).trans h) (λr hr=>YO (λr y h=>Q3 h) hr)
def Z25.l0:Nat->Cur->(List Abbr)->(List Abbr)->Int->Option (Cur× (List Abbr))
 |0,_,_,_,_=>none
 |k+1,x0,x3,x4,x5=>bif (decide (x5<(x3.length:Int)))then((Z39.F x0 3).bind λr1=>bif (!r1.2)then(bif decide (0<=x5)then(bif decide (x5<(x3.length:Int))then(bif room (x4.length+([(x3.getD ((x5:Int).toNat) (Q9 .abbr))]:List Abbr).length) .abbr then(Z25.l0 k r1.1 x3 (x4++([(x3.getD ((x5:Int).toNat) (Q9 .abbr))]:List Abbr)) (IntKind.wrap .i64 (x5+1)))else none)else none)else none)else(Z25.l0 k r1.1 x3 x4 (IntKind.wrap .i64 (x5+1))))else(some (x0,x4))
def Z25.F (k:Nat)(a0:Cur):Option (Cur×List Abbr):=(Z25.l0 k a0 ([(⟨(⟨#[104,105,115,116,111,114,121]⟩:ByteArray),(⟨#[104,105,115,116,46]⟩:ByteArray)⟩:Abbr),(⟨(⟨#[105,110,116,45]⟩:ByteArray),(⟨#[105,46]⟩:ByteArray)⟩:Abbr),(⟨(⟨#[105,110,116,101,114,110,97,116,45]⟩:ByteArray),(⟨#[105,110,116,46]⟩:ByteArray)⟩:Abbr),(⟨(⟨#[106,111,117,114,110,45]⟩:ByteArray),(⟨#[106,46]⟩:ByteArray)⟩:Abbr),(⟨(⟨#[106,111,117,114,110,97,108]⟩:ByteArray),(⟨#[106,110,108]⟩:ByteArray)⟩:Abbr),(⟨(⟨#[114,101,118,105,101,119]⟩:ByteArray),(⟨#[114,101,118,46]⟩:ByteArray)⟩:Abbr),(⟨(⟨#[115,99,105,101,110,99,101]⟩:ByteArray),(⟨#[115,99,105,46]⟩:ByteArray)⟩:Abbr)]:List Abbr) ([]:List Abbr) 0).bind λy2=>(Z36.F y2.1 40).bind λr3=>bif (r3.2==0)then((Z37.F r3.1 ([(⟨#[97]⟩:ByteArray),(⟨#[122,111,111]⟩:ByteArray),(⟨#[90,111,111]⟩:ByteArray),(⟨#[122,122,45,120]⟩:ByteArray),(⟨#[97,98,99]⟩:ByteArray)]:List ByteArray)).bind λr4=>bif room (y2.2.length+([(⟨r4.2,(⟨#[122,46]⟩:ByteArray)⟩:Abbr)]:List Abbr).length) .abbr then(some (r4.1,(y2.2++([(⟨r4.2,(⟨#[122,46]⟩:ByteArray)⟩:Abbr)]:List Abbr))))else none)else(bif (r3.2==1)then((Z37.F r3.1 ([(⟨#[]⟩:ByteArray),(⟨#[46]⟩:ByteArray),(⟨#[122,111,111,108]⟩:ByteArray),(⟨#[90,46]⟩:ByteArray)]:List ByteArray)).bind λr5=>bif room (y2.2.length+([(⟨(⟨#[122,111,111,108,111,103,121]⟩:ByteArray),r5.2⟩:Abbr)]:List Abbr).length) .abbr then(some (r5.1,(y2.2++([(⟨(⟨#[122,111,111,108,111,103,121]⟩:ByteArray),r5.2⟩:Abbr)]:List Abbr))))else none)else(some (r3.1,y2.2)))
def Z25.C (k:Nat):Cal->Option CArm:=λc=>match c with
 |.f 30=>some (.m (.bx .cur) [(.int .i64)] _ (λx0 x=>Z39.F x0 x.1) (λr=>.kep (.bx .cur r.1) (.t .bool r.2)))
 |.f 31=>some (.m (.bx .cur) [(.int .i64)] _ (λx0 x=>Z36.F x0 x.1) (λr=>.kep (.bx .cur r.1) (.t (.int .i64) r.2)))
 |.f 32=>some (.m (.bx .cur) [(.sl .str)] _ (λx0 x=>Z37.F x0 x.1) (λr=>.kep (.bx .cur r.1) (.t .str r.2)))
 |_=>none
def Z25.sp0:List Sp:=[.boxT 0 1099511627776 .cur,.own 3 1052 33 .abbr false true,.own 4 2048 33 .abbr false true,.t 5 (.int .i64)]
def Z25.sp0_0:List Sp:=[.boxT 0 1099511627776 .cur,.own 4 2048 33 .abbr false true]
def Z25.A0:LArm:=.one Z25.sp0 Z25.sp0_0 (Cur× (List Abbr)) (λk x=>Z25.l0 k x.1 x.2.1 x.2.2.1 x.2.2.2.1) (.exit 0) (λy=>(y.1,y.2,())) (λx=>(x.1,x.2.1))
def Z25.L:Nat->Option LArm:=λb=>match b with
 |0=>some Z25.A0
 |_=>none
theorem Z25.run (k:Nat)(a0:Cur):Kx Q0 (Qf (Z25.C k)) (Qc 52 k Z25.L) Tryz.f13 Q7 (.bx .cur a0) [] (D2 (.bx .cur) (Qe (.fr 33 .abbr)))=Z25.F k a0:=by kernel_rfl
theorem Z25.step0 (k:Nat)(x0:Cur)(x3:List Abbr)(x4:List Abbr)(x5:Int):QJ Q0 (Qf (Z25.C k)) (Qc 52 k Z25.L) 0 (Qo Tryz.f13 0) (J1 52 Z25.sp0 (x0,x3,x4,x5,())) (Z25.A0.cont 52 k)=Z25.l0 (k+1) x0 x3 x4 x5:=by kernel_rfl
theorem Z25.G (hE:EnvOk Tryz.prog Q0)(pv:Nat->Value)(k:Nat):∀cal A,Z25.C k cal=some A->Qg Tryz.prog Q0 pv cal A:=by
 intro cal A h
 unfold Z25.C at h
 split at h
 ·cases h;exact⟨_,rfl,λx0 x y hy=>Z39.good hE pv x0 x.1 hy⟩
 ·cases h;exact⟨_,rfl,λx0 x y hy=>Z36.good hE pv x0 x.1 hy⟩
 ·cases h;exact⟨_,rfl,λx0 x y hy=>Z37.good hE pv x0 x.1 hy⟩
 ·cases h
theorem Z25.good (hE:EnvOk Tryz.prog Q0)(pv:Nat->Value)(k:Nat)(a0:Cur){y:_}(h:Z25.F k a0=some y):J6 Tryz.prog Q0 pv 13 (.bx .cur a0) (Qb [] (())) (.kep (.bx .cur y.1) (.fr 33 .abbr y.2)):=
 YP hE (t:=Z25.C) k (λk _=>Z25.G hE pv k) (f:=13) (fn:=Tryz.f13) (by kernel_rfl) rfl (by kernel_rfl) (.inl rfl) (by kernel_rfl) (lt:=Z25.L) (by kernel_rfl) (λb A h=>by
  unfold Z25.L at h;split at h
  ·cases h;exact⟨by kernel_rfl,by kernel_rfl,λ_=>rfl,λ_=>rfl⟩
  ·cases h) (λb A h=>by
  unfold Z25.L at h;split at h
  ·cases h;exact λk x=>Z25.step0 k x.1 x.2.1 x.2.2.1 x.2.2.2.1
  ·cases h) ((Z25.run k a0).trans h) (λr hr=>YO (λr y h=>Q3 h) hr)
def Z26.l0:Nat->Cur->ByteArray->Int->Option (Cur×ByteArray)
 |0,_,_,_=>none
 |k+1,x0,x3,x4=>bif (decide (x4 > 0))then(bif (!Ql x3 (⟨#[]⟩:ByteArray))then(bif Nat.ble (x3.size+(⟨#[32]⟩:ByteArray).size) 9223372036854775807 then((Z37.F x0 ([(⟨#[84,104,101]⟩:ByteArray),(⟨#[74,111,117,114,110,97,108]⟩:ByteArray),(⟨#[111,102]⟩:ByteArray),(⟨#[72,105,115,116,111,114,121]⟩:ByteArray),(⟨#[115,99,105,101,110,99,101]⟩:ByteArray),(⟨#[73,110,116,101,114,110,97,116,105,111,110,97,108]⟩:ByteArray),(⟨#[82,101,118,105,101,119]⟩:ByteArray),(⟨#[97,110,100]⟩:ByteArray),(⟨#[76,101,116,116,101,114,115]⟩:ByteArray),(⟨#[65]⟩:ByteArray),(⟨#[101,45,83,99,105,101,110,99,101]⟩:ByteArray),(⟨#[73,78,84]⟩:ByteArray)]:List ByteArray)).bind λr2=>bif Nat.ble ((x3++(⟨#[32]⟩:ByteArray)).size+r2.2.size) 9223372036854775807 then(Z26.l0 k r2.1 ((x3++(⟨#[32]⟩:ByteArray))++r2.2) (IntKind.wrap .i64 (x4-1)))else none)else none)else((Z37.F x0 ([(⟨#[84,104,101]⟩:ByteArray),(⟨#[74,111,117,114,110,97,108]⟩:ByteArray),(⟨#[111,102]⟩:ByteArray),(⟨#[72,105,115,116,111,114,121]⟩:ByteArray),(⟨#[115,99,105,101,110,99,101]⟩:ByteArray),(⟨#[73,110,116,101,114,110,97,116,105,111,110,97,108]⟩:ByteArray),(⟨#[82,101,118,105,101,119]⟩:ByteArray),(⟨#[97,110,100]⟩:ByteArray),(⟨#[76,101,116,116,101,114,115]⟩:ByteArray),(⟨#[65]⟩:ByteArray),(⟨#[101,45,83,99,105,101,110,99,101]⟩:ByteArray),(⟨#[73,78,84]⟩:ByteArray)]:List ByteArray)).bind λr3=>bif Nat.ble (x3.size+r3.2.size) 9223372036854775807 then(Z26.l0 k r3.1 (x3++r3.2) (IntKind.wrap .i64 (x4-1)))else none))else(some (x0,x3))
def Z26.F (k:Nat)(a0:Cur):Option (Cur×ByteArray):=(Z36.F a0 5).bind λr1=>(Z26.l0 k r1.1 (⟨#[]⟩:ByteArray) (IntKind.wrap .i64 (1+r1.2))).bind λy4=>bif (decide ((y4.2.size:Int) > 40))then(bif decide (0<=20)then(bif decide (20<=(y4.2.size:Int))then(bif Nat.ble ((y4.2.extract 0 (20:Int).toNat).size+(⟨#[120]⟩:ByteArray).size) 9223372036854775807 then((Z36.F y4.1 40).bind λr5=>bif (r5.2==0)then(some (r5.1,(⟨#[]⟩:ByteArray)))else(bif (r5.2==1)then((Z37.F r5.1 ([(⟨#[32]⟩:ByteArray),(⟨#[9]⟩:ByteArray)]:List ByteArray)).bind λr6=>bif Nat.ble (((y4.2.extract 0 (20:Int).toNat)++(⟨#[120]⟩:ByteArray)).size+r6.2.size) 9223372036854775807 then(some (r6.1,(((y4.2.extract 0 (20:Int).toNat)++(⟨#[120]⟩:ByteArray))++r6.2)))else none)else(bif (r5.2==2)then(some (r5.1,(⟨#[111,102,32,32,84,104,101]⟩:ByteArray)))else(some (r5.1,((y4.2.extract 0 (20:Int).toNat)++(⟨#[120]⟩:ByteArray)))))))else none)else none)else none)else((Z36.F y4.1 40).bind λr7=>bif (r7.2==0)then(some (r7.1,(⟨#[]⟩:ByteArray)))else(bif (r7.2==1)then((Z37.F r7.1 ([(⟨#[32]⟩:ByteArray),(⟨#[9]⟩:ByteArray)]:List ByteArray)).bind λr8=>bif Nat.ble (y4.2.size+r8.2.size) 9223372036854775807 then(some (r8.1,(y4.2++r8.2)))else none)else(bif (r7.2==2)then(some (r7.1,(⟨#[111,102,32,32,84,104,101]⟩:ByteArray)))else(some (r7.1,y4.2)))))
def Z26.C (k:Nat):Cal->Option CArm:=λc=>match c with
 |.f 31=>some (.m (.bx .cur) [(.int .i64)] _ (λx0 x=>Z36.F x0 x.1) (λr=>.kep (.bx .cur r.1) (.t (.int .i64) r.2)))
 |.f 32=>some (.m (.bx .cur) [(.sl .str)] _ (λx0 x=>Z37.F x0 x.1) (λr=>.kep (.bx .cur r.1) (.t .str r.2)))
 |_=>none
def Z26.sp0:List Sp:=[.boxT 0 1099511627776 .cur,.t 3 .str,.t 4 (.int .i64)]
def Z26.sp0_0:List Sp:=[.boxT 0 1099511627776 .cur,.t 3 .str]
def Z26.A0:LArm:=.one Z26.sp0 Z26.sp0_0 (Cur×ByteArray) (λk x=>Z26.l0 k x.1 x.2.1 x.2.2.1) (.exit 0) (λy=>(y.1,y.2,())) (λx=>(x.1,x.2.1))
def Z26.L:Nat->Option LArm:=λb=>match b with
 |0=>some Z26.A0
 |_=>none
theorem Z26.run (k:Nat)(a0:Cur):Kx Q0 (Qf (Z26.C k)) (Qc 41 k Z26.L) Tryz.f33 Q7 (.bx .cur a0) [] (D2 (.bx .cur) (Qe (.t .str)))=Z26.F k a0:=by kernel_rfl
theorem Z26.step0 (k:Nat)(x0:Cur)(x3:ByteArray)(x4:Int):QJ Q0 (Qf (Z26.C k)) (Qc 41 k Z26.L) 0 (Qo Tryz.f33 0) (J1 41 Z26.sp0 (x0,x3,x4,())) (Z26.A0.cont 41 k)=Z26.l0 (k+1) x0 x3 x4:=by kernel_rfl
theorem Z26.G (hE:EnvOk Tryz.prog Q0)(pv:Nat->Value)(k:Nat):∀cal A,Z26.C k cal=some A->Qg Tryz.prog Q0 pv cal A:=by
 intro cal A h
 unfold Z26.C at h
 split at h
 ·cases h;exact⟨_,rfl,λx0 x y hy=>Z36.good hE pv x0 x.1 hy⟩
 ·cases h;exact⟨_,rfl,λx0 x y hy=>Z37.good hE pv x0 x.1 hy⟩
 ·cases h
theorem Z26.good (hE:EnvOk Tryz.prog Q0)(pv:Nat->Value)(k:Nat)(a0:Cur){y:_}(h:Z26.F k a0=some y):J6 Tryz.prog Q0 pv 33 (.bx .cur a0) (Qb [] (())) (.kep (.bx .cur y.1) (.t .str y.2)):=
 YP hE (t:=Z26.C) k (λk _=>Z26.G hE pv k) (f:=33) (fn:=Tryz.f33) (by kernel_rfl) rfl (by kernel_rfl) (.inl rfl) (by kernel_rfl) (lt:=Z26.L) (by kernel_rfl) (λb A h=>by
  unfold Z26.L at h;split at h
  ·cases h;exact⟨by kernel_rfl,by kernel_rfl,λ_=>rfl,λ_=>rfl⟩
  ·cases h) (λb A h=>by
  unfold Z26.L at h;split at h
  ·cases h;exact λk x=>Z26.step0 k x.1 x.2.1 x.2.2.1
  ·cases h) ((Z26.run k a0).trans h) (λr hr=>YO (λr y h=>Q3 h) hr)
def Z2.l0:Nat->Cur->(List ByteArray)->Int->Option (Cur× (List ByteArray))
 |0,_,_,_=>none
 |k+1,x0,x3,x4=>bif (decide (x4 > 0))then((Z26.F k x0).bind λr2=>bif room (x3.length+([r2.2]:List ByteArray).length) .str then(Z2.l0 k r2.1 (x3++([r2.2]:List ByteArray)) (IntKind.wrap .i64 (x4-1)))else none)else(some (x0,x3))
def Z2.l2:Nat->Cur->(List ByteArray)->Option (Cur× (List ByteArray))
 |0,_,_=>none
 |k+1,x0,x3=>(Z36.F x0 2).bind λr12=>bif (decide ((x3.length:Int)<(IntKind.wrap .i64 (20+r12.2))))then(bif room (x3.length+([(⟨#[76,101,116,116,101,114,115]⟩:ByteArray)]:List ByteArray).length) .str then(Z2.l2 k r12.1 (x3++([(⟨#[76,101,116,116,101,114,115]⟩:ByteArray)]:List ByteArray)))else none)else(some (r12.1,x3))
def Z2.F (k:Nat)(a0:Cur):Option (Cur×List ByteArray):=(Z36.F a0 5).bind λr1=>(Z2.l0 k r1.1 ([]:List ByteArray) r1.2).bind λy3=>bif (decide ((y3.2.length:Int) > 0))then((Z39.F y3.1 3).bind λr4=>bif r4.2 then(bif decide (0<=0)then(bif decide (0<(y3.2.length:Int))then(bif Nat.ble ((⟨#[84,104,101,32]⟩:ByteArray).size+(y3.2.getD ((0:Int).toNat) (⟨#[]⟩:ByteArray)).size) 9223372036854775807 then(bif room (y3.2.length+([((⟨#[84,104,101,32]⟩:ByteArray)++(y3.2.getD ((0:Int).toNat) (⟨#[]⟩:ByteArray)))]:List ByteArray).length) .str then((Z39.F r4.1 40).bind λr5=>bif r5.2 then((Z2.l2 k r5.1 (y3.2++([((⟨#[84,104,101,32]⟩:ByteArray)++(y3.2.getD ((0:Int).toNat) (⟨#[]⟩:ByteArray)))]:List ByteArray))).bind λy7=>some (y7.1,y7.2))else(some (r5.1,(y3.2++([((⟨#[84,104,101,32]⟩:ByteArray)++(y3.2.getD ((0:Int).toNat) (⟨#[]⟩:ByteArray)))]:List ByteArray)))))else none)else none)else none)else none)else((Z39.F r4.1 40).bind λr8=>bif r8.2 then((Z2.l2 k r8.1 y3.2).bind λy10=>some (y10.1,y10.2))else(some (r8.1,y3.2))))else((Z39.F y3.1 40).bind λr11=>bif r11.2 then((Z2.l2 k r11.1 y3.2).bind λy13=>some (y13.1,y13.2))else(some (r11.1,y3.2)))
def Z2.C (k:Nat):Cal->Option CArm:=λc=>match c with
 |.f 31=>some (.m (.bx .cur) [(.int .i64)] _ (λx0 x=>Z36.F x0 x.1) (λr=>.kep (.bx .cur r.1) (.t (.int .i64) r.2)))
 |.f 33=>some (.m (.bx .cur) [] _ (λx0 x=>Z26.F k x0) (λr=>.kep (.bx .cur r.1) (.t .str r.2)))
 |.f 30=>some (.m (.bx .cur) [(.int .i64)] _ (λx0 x=>Z39.F x0 x.1) (λr=>.kep (.bx .cur r.1) (.t .bool r.2)))
 |_=>none
def Z2.sp0:List Sp:=[.boxT 0 1099511627776 .cur,.own 3 1024 9 .str false true,.t 4 (.int .i64)]
def Z2.sp0_0:List Sp:=[.boxT 0 1099511627776 .cur,.own 3 1024 9 .str false true]
def Z2.A0:LArm:=.one Z2.sp0 Z2.sp0_0 (Cur× (List ByteArray)) (λk x=>Z2.l0 k x.1 x.2.1 x.2.2.1) (.exit 0) (λy=>(y.1,y.2,())) (λx=>(x.1,x.2.1))
def Z2.sp2:List Sp:=[.boxT 0 1099511627776 .cur,.own 3 1024 9 .str false true]
def Z2.sp2_0:List Sp:=[.boxT 0 1099511627776 .cur,.own 3 1024 9 .str false true]
def Z2.A2:LArm:=.one Z2.sp2 Z2.sp2_0 (Cur× (List ByteArray)) (λk x=>Z2.l2 k x.1 x.2.1) (.exit 2) (λy=>(y.1,y.2,())) (λx=>(x.1,x.2.1))
def Z2.L:Nat->Option LArm:=λb=>match b with
 |0=>some Z2.A0
 |2=>some Z2.A2
 |_=>none
theorem Z2.run (k:Nat)(a0:Cur):Kx Q0 (Qf (Z2.C k)) (Qc 43 k Z2.L) Tryz.f14 Q7 (.bx .cur a0) [] (D2 (.bx .cur) (Qe (.fr 9 .str)))=Z2.F k a0:=by kernel_rfl
theorem Z2.step0 (k:Nat)(x0:Cur)(x3:List ByteArray)(x4:Int):QJ Q0 (Qf (Z2.C k)) (Qc 43 k Z2.L) 0 (Qo Tryz.f14 0) (J1 43 Z2.sp0 (x0,x3,x4,())) (Z2.A0.cont 43 k)=Z2.l0 (k+1) x0 x3 x4:=by kernel_rfl
theorem Z2.step2 (k:Nat)(x0:Cur)(x3:List ByteArray):QJ Q0 (Qf (Z2.C k)) (Qc 43 k Z2.L) 2 (Qo Tryz.f14 2) (J1 43 Z2.sp2 (x0,x3,())) (Z2.A2.cont 43 k)=Z2.l2 (k+1) x0 x3:=by kernel_rfl
theorem Z2.G (hE:EnvOk Tryz.prog Q0)(pv:Nat->Value)(k:Nat):∀cal A,Z2.C k cal=some A->Qg Tryz.prog Q0 pv cal A:=by
 intro cal A h
 unfold Z2.C at h
 split at h
 ·cases h;exact⟨_,rfl,λx0 x y hy=>Z36.good hE pv x0 x.1 hy⟩
 ·cases h;exact⟨_,rfl,λx0 x y hy=>Z26.good hE pv k x0 hy⟩
 ·cases h;exact⟨_,rfl,λx0 x y hy=>Z39.good hE pv x0 x.1 hy⟩
 ·cases h
theorem Z2.good (hE:EnvOk Tryz.prog Q0)(pv:Nat->Value)(k:Nat)(a0:Cur){y:_}(h:Z2.F k a0=some y):J6 Tryz.prog Q0 pv 14 (.bx .cur a0) (Qb [] (())) (.kep (.bx .cur y.1) (.fr 9 .str y.2)):=
 YP hE (t:=Z2.C) k (λk _=>Z2.G hE pv k) (f:=14) (fn:=Tryz.f14) (by kernel_rfl) rfl (by kernel_rfl) (.inl rfl) (by kernel_rfl) (lt:=Z2.L) (by kernel_rfl) (λb A h=>by
  unfold Z2.L at h;split at h
  ·cases h;exact⟨by kernel_rfl,by kernel_rfl,λ_=>rfl,λ_=>rfl⟩
  ·cases h;exact⟨by kernel_rfl,by kernel_rfl,λ_=>rfl,λ_=>rfl⟩
  ·cases h) (λb A h=>by
  unfold Z2.L at h;split at h
  ·cases h;exact λk x=>Z2.step0 k x.1 x.2.1 x.2.2.1
  ·cases h;exact λk x=>Z2.step2 k x.1 x.2.1
  ·cases h) ((Z2.run k a0).trans h) (λr hr=>YO (λr y h=>Q3 h) hr)
def Z56.F (k:Nat)(a0:List Int):Option ((List Abbr)× (List ByteArray)):=(Z25.F k (⟨a0,0,0⟩:Cur)).bind λr1=>(Z2.F k r1.1).bind λr2=>some (r1.2,r2.2)
def Z56.C (k:Nat):Cal->Option CArm:=λc=>match c with
 |.f 13=>some (.m (.bx .cur) [] _ (λx0 x=>Z25.F k x0) (λr=>.kep (.bx .cur r.1) (.fr 33 .abbr r.2)))
 |.f 14=>some (.m (.bx .cur) [] _ (λx0 x=>Z2.F k x0) (λr=>.kep (.bx .cur r.1) (.fr 9 .str r.2)))
 |_=>none
theorem Z56.run (k:Nat)(a0:List Int):QE Q0 (Qf (Z56.C k)) (Qc 14 0 (λ_=>none)) Tryz.f5 [.t (.sl (.int .u8)) a0] (YF (.fr 33 .abbr) (.fr 9 .str))=Z56.F k a0:=by kernel_rfl
theorem Z56.G (hE:EnvOk Tryz.prog Q0)(pv:Nat->Value)(k:Nat):∀cal A,Z56.C k cal=some A->Qg Tryz.prog Q0 pv cal A:=by
 intro cal A h
 unfold Z56.C at h
 split at h
 ·cases h;exact⟨_,rfl,λx0 x y hy=>Z25.good hE pv k x0 hy⟩
 ·cases h;exact⟨_,rfl,λx0 x y hy=>Z2.good hE pv k x0 hy⟩
 ·cases h
theorem Z56.good (hE:EnvOk Tryz.prog Q0)(pv:Nat->Value)(k:Nat)(a0:List Int){y:_}(h:Z56.F k a0=some y):Qa Tryz.prog Q0 pv (.f 5) (Qb [(.sl (.int .u8))] (a0,())) (.tup [.fr 33 .abbr y.1,.fr 9 .str y.2]):=
 Qh hE (Z56.G hE pv k) (f:=5) (fn:=Tryz.f5) (by kernel_rfl) rfl (by kernel_rfl) (by kernel_rfl) ((Z56.run k a0).trans h) (λr hr=>Ya hr)
def Z46.F (a0:ByteArray)(a1:ByteArray):Option (Bool):=bif (decide ((a0.size:Int) ≥ (a1.size:Int)))then(bif decide (0<=(IntKind.wrap .i64 ((a0.size:Int)-(a1.size:Int))))then(bif decide ((IntKind.wrap .i64 ((a0.size:Int)-(a1.size:Int)))<=(a0.size:Int))then(some (Ql (a0.extract ((IntKind.wrap .i64 ((a0.size:Int)-(a1.size:Int))):Int).toNat a0.size) a1))else none)else none)else(some false)
def Z46.C:Cal->Option CArm:=λc=>match c with
 |_=>none
theorem Z46.run (a0:ByteArray)(a1:ByteArray):QE Q0 (Qf Z46.C) (Qc 21 0 (λ_=>none)) Tryz.f81 [.t .str a0,.t .str a1] (Qe (.t .bool))=Z46.F a0 a1:=by kernel_rfl
theorem Z46.G (hE:EnvOk Tryz.prog Q0)(pv:Nat->Value):∀cal A,Z46.C cal=some A->Qg Tryz.prog Q0 pv cal A:=by
 intro cal A h
 unfold Z46.C at h
 cases h
theorem Z46.good (hE:EnvOk Tryz.prog Q0)(pv:Nat->Value)(a0:ByteArray)(a1:ByteArray){y:_}(h:Z46.F a0 a1=some y):Qa Tryz.prog Q0 pv (.f 81) (Qb [.str,.str] (a0,a1,())) (.t .bool y):=
 Qh hE (Z46.G hE pv) (f:=81) (fn:=Tryz.f81) (by kernel_rfl) rfl (by kernel_rfl) (by kernel_rfl) ((Z46.run a0 a1).trans h) (λr hr=>Q3 hr)
def Z70.F (a0:ByteArray)(a1:ByteArray):Option (ByteArray):=(Z46.F a0 a1).bind λr1=>bif r1 then(bif decide (0<=(IntKind.wrap .i64 ((a0.size:Int)-(a1.size:Int))))then(bif decide ((IntKind.wrap .i64 ((a0.size:Int)-(a1.size:Int)))<=(a0.size:Int))then(some (a0.extract 0 ((IntKind.wrap .i64 ((a0.size:Int)-(a1.size:Int))):Int).toNat))else none)else none)else(some a0)
def Z70.C:Cal->Option CArm:=λc=>match c with
 |.f 81=>some (.p [.str,.str] _ (λx=>Z46.F x.1 x.2.1) (λr=>(.t .bool r)))
 |_=>none
theorem Z70.run (a0:ByteArray)(a1:ByteArray):QE Q0 (Qf Z70.C) (Qc 16 0 (λ_=>none)) Tryz.f82 [.t .str a0,.t .str a1] (Qe (.t .str))=Z70.F a0 a1:=by kernel_rfl
theorem Z70.G (hE:EnvOk Tryz.prog Q0)(pv:Nat->Value):∀cal A,Z70.C cal=some A->Qg Tryz.prog Q0 pv cal A:=by
 intro cal A h
 unfold Z70.C at h
 split at h
 ·cases h;exact λx y hy=>Z46.good hE pv x.1 x.2.1 hy
 ·cases h
theorem Z70.good (hE:EnvOk Tryz.prog Q0)(pv:Nat->Value)(a0:ByteArray)(a1:ByteArray){y:_}(h:Z70.F a0 a1=some y):Qa Tryz.prog Q0 pv (.f 82) (Qb [.str,.str] (a0,a1,())) (.t .str y):=
 Qh hE (Z70.G hE pv) (f:=82) (fn:=Tryz.f82) (by kernel_rfl) rfl (by kernel_rfl) (by kernel_rfl) ((Z70.run a0 a1).trans h) (λr hr=>Q3 hr)
def Z57.F (a0:ByteArray)(a1:ByteArray):Option (ByteArray):=(Z70.F a0 a1).bind λr1=>some r1
def Z57.C:Cal->Option CArm:=λc=>match c with
 |.f 82=>some (.p [.str,.str] _ (λx=>Z70.F x.1 x.2.1) (λr=>(.t .str r)))
 |_=>none
theorem Z57.run (a0:ByteArray)(a1:ByteArray):QE Q0 (Qf Z57.C) (Qc 8 0 (λ_=>none)) Tryz.f71 [.t .str a0,.t .str a1] (Qe (.t .str))=Z57.F a0 a1:=by kernel_rfl
theorem Z57.G (hE:EnvOk Tryz.prog Q0)(pv:Nat->Value):∀cal A,Z57.C cal=some A->Qg Tryz.prog Q0 pv cal A:=by
 intro cal A h
 unfold Z57.C at h
 split at h
 ·cases h;exact λx y hy=>Z70.good hE pv x.1 x.2.1 hy
 ·cases h
theorem Z57.good (hE:EnvOk Tryz.prog Q0)(pv:Nat->Value)(a0:ByteArray)(a1:ByteArray){y:_}(h:Z57.F a0 a1=some y):Qa Tryz.prog Q0 pv (.f 71) (Qb [.str,.str] (a0,a1,())) (.t .str y):=
 Qh hE (Z57.G hE pv) (f:=71) (fn:=Tryz.f71) (by kernel_rfl) rfl (by kernel_rfl) (by kernel_rfl) ((Z57.run a0 a1).trans h) (λr hr=>Q3 hr)
def Z38.F (a0:Int):Option (Bool):=bif (decide (a0 ≥ 97))then(some (decide (a0<=122)))else(some false)
def Z38.C:Cal->Option CArm:=λc=>match c with
 |_=>none
theorem Z38.run (a0:Int):QE Q0 (Qf Z38.C) (Qc 9 0 (λ_=>none)) Tryz.f72 [.t (.int .u8) a0] (Qe (.t .bool))=Z38.F a0:=by kernel_rfl
theorem Z38.G (hE:EnvOk Tryz.prog Q0)(pv:Nat->Value):∀cal A,Z38.C cal=some A->Qg Tryz.prog Q0 pv cal A:=by
 intro cal A h
 unfold Z38.C at h
 cases h
theorem Z38.good (hE:EnvOk Tryz.prog Q0)(pv:Nat->Value)(a0:Int){y:_}(h:Z38.F a0=some y):Qa Tryz.prog Q0 pv (.f 72) (Qb [(.int .u8)] (a0,())) (.t .bool y):=
 Qh hE (Z38.G hE pv) (f:=72) (fn:=Tryz.f72) (by kernel_rfl) rfl (by kernel_rfl) (by kernel_rfl) ((Z38.run a0).trans h) (λr hr=>Q3 hr)
def Z58.F (a0:Int)(a1:Int)(a2:Int):Option (Bool):=bif (decide (a0 ≥ a1))then(some (decide (a0<=a2)))else(some false)
def Z58.C:Cal->Option CArm:=λc=>match c with
 |_=>none
theorem Z58.run (a0:Int)(a1:Int)(a2:Int):QE Q0 (Qf Z58.C) (Qc 15 0 (λ_=>none)) Tryz.f73 [.t (.int .i64) a0,.t (.int .i64) a1,.t (.int .i64) a2] (Qe (.t .bool))=Z58.F a0 a1 a2:=by kernel_rfl
theorem Z58.G (hE:EnvOk Tryz.prog Q0)(pv:Nat->Value):∀cal A,Z58.C cal=some A->Qg Tryz.prog Q0 pv cal A:=by
 intro cal A h
 unfold Z58.C at h
 cases h
theorem Z58.good (hE:EnvOk Tryz.prog Q0)(pv:Nat->Value)(a0:Int)(a1:Int)(a2:Int){y:_}(h:Z58.F a0 a1 a2=some y):Qa Tryz.prog Q0 pv (.f 73) (Qb [(.int .i64),(.int .i64),(.int .i64)] (a0,a1,a2,())) (.t .bool y):=
 Qh hE (Z58.G hE pv) (f:=73) (fn:=Tryz.f73) (by kernel_rfl) rfl (by kernel_rfl) (by kernel_rfl) ((Z58.run a0 a1 a2).trans h) (λr hr=>Q3 hr)
def Z17.l0:Nat->ByteArray->Int->Int->Int->Option (Sum Bool (ByteArray×Int×Int))
 |0,_,_,_,_=>none
 |k+1,x0,x1,x2,x9=>bif (decide (x9<(x0.size:Int)))then(bif decide (0<=x9)then(bif decide (x9<(x0.size:Int))then((Z38.F (bt x0 (x9:Int).toNat)).bind λr2=>bif (!r2)then(some (.inl false))else(Z17.l0 k x0 x1 x2 (IntKind.wrap .i64 (x9+1))))else none)else none)else(some (.inr (x0,x1,x2)))
def Z17.F (k:Nat)(a0:ByteArray)(a1:Int)(a2:Int)(a3:ByteArray):Option (Bool):=(Z57.F a0 a3).bind λr1=>(Z17.l0 k r1 a1 a2 0).bind λy3=>match y3 with|.inl z4=>some z4|.inr z4=>(Z58.F (z4.1.size:Int) z4.2.1 z4.2.2).bind λr5=>some r5
def Z17.C (k:Nat):Cal->Option CArm:=λc=>match c with
 |.f 71=>some (.p [.str,.str] _ (λx=>Z57.F x.1 x.2.1) (λr=>(.t .str r)))
 |.f 72=>some (.p [(.int .u8)] _ (λx=>Z38.F x.1) (λr=>(.t .bool r)))
 |.f 73=>some (.p [(.int .i64),(.int .i64),(.int .i64)] _ (λx=>Z58.F x.1 x.2.1 x.2.2.1) (λr=>(.t .bool r)))
 |_=>none
def Z17.sp0:List Sp:=[.t 0 .str,.t 1 (.int .i64),.t 2 (.int .i64),.t 9 (.int .i64)]
def Z17.sp0_0:List Sp:=[.t 8 .bool]
def Z17.sp0_1:List Sp:=[.t 0 .str,.t 1 (.int .i64),.t 2 (.int .i64)]
def Z17.A0:LArm:=.two Z17.sp0 Z17.sp0_0 Z17.sp0_1 (Bool) (ByteArray×Int×Int) (λk x=>Z17.l0 k x.1 x.2.1 x.2.2.1 x.2.2.2.1) .ret (.exit 0) (λy=>(y,())) (λx=>x.1) (λy=>(y.1,y.2.1,y.2.2,())) (λx=>(x.1,x.2.1,x.2.2.1))
def Z17.L:Nat->Option LArm:=λb=>match b with
 |0=>some Z17.A0
 |_=>none
theorem Z17.run (k:Nat)(a0:ByteArray)(a1:Int)(a2:Int)(a3:ByteArray):QE Q0 (Qf (Z17.C k)) (Qc 29 k Z17.L) Tryz.f55 [.t .str a0,.t (.int .i64) a1,.t (.int .i64) a2,.t .str a3] (Qe (.t .bool))=Z17.F k a0 a1 a2 a3:=by kernel_rfl
theorem Z17.step0 (k:Nat)(x0:ByteArray)(x1:Int)(x2:Int)(x9:Int):QJ Q0 (Qf (Z17.C k)) (Qc 29 k Z17.L) 0 (Qo Tryz.f55 0) (J1 29 Z17.sp0 (x0,x1,x2,x9,())) (Z17.A0.cont 29 k)=Z17.l0 (k+1) x0 x1 x2 x9:=by kernel_rfl
theorem Z17.G (hE:EnvOk Tryz.prog Q0)(pv:Nat->Value)(k:Nat):∀cal A,Z17.C k cal=some A->Qg Tryz.prog Q0 pv cal A:=by
 intro cal A h
 unfold Z17.C at h
 split at h
 ·cases h;exact λx y hy=>Z57.good hE pv x.1 x.2.1 hy
 ·cases h;exact λx y hy=>Z38.good hE pv x.1 hy
 ·cases h;exact λx y hy=>Z58.good hE pv x.1 x.2.1 x.2.2.1 hy
 ·cases h
theorem Z17.good (hE:EnvOk Tryz.prog Q0)(pv:Nat->Value)(k:Nat)(a0:ByteArray)(a1:Int)(a2:Int)(a3:ByteArray){y:_}(h:Z17.F k a0 a1 a2 a3=some y):Qa Tryz.prog Q0 pv (.f 55) (Qb [.str,(.int .i64),(.int .i64),.str] (a0,a1,a2,a3,())) (.t .bool y):=
 Qi hE (t:=Z17.C) k (λk _=>Z17.G hE pv k) (f:=55) (fn:=Tryz.f55) (by kernel_rfl) rfl (by kernel_rfl) (by kernel_rfl) (lt:=Z17.L) (by kernel_rfl) (λb A h=>by
  unfold Z17.L at h;split at h
  ·cases h;exact⟨by kernel_rfl,by kernel_rfl,by kernel_rfl,λ_=>rfl,λ_=>rfl,λ_=>rfl⟩
  ·cases h) (λb A h=>by
  unfold Z17.L at h;split at h
  ·cases h;exact λk x=>Z17.step0 k x.1 x.2.1 x.2.2.1 x.2.2.2.1
  ·cases h) ((Z17.run k a0 a1 a2 a3).trans h) (λr hr=>Q3 hr)
def Z9.l0:Nat->(List Abbr)->(List Abbr)->Int->Int->Option (Sum Bool (List Abbr))
 |0,_,_,_,_=>none
 |k+1,x0,x5,x6,x7=>bif (decide (x7<x6))then(bif decide (0<=x7)then(bif decide (x7<(x5.length:Int))then((Z17.F k ((x5.getD (x7:Int).toNat (Q9 .abbr)).word) 2 15 (⟨#[45]⟩:ByteArray)).bind λr1=>bif (!r1)then(some (.inl false))else((Z17.F k ((x5.getD (x7:Int).toNat (Q9 .abbr)).short) 1 12 (⟨#[46]⟩:ByteArray)).bind λr2=>bif (!r2)then(some (.inl false))else(bif (decide (x7 > 0))then(bif decide (0<=(IntKind.wrap .i64 (x7-1)))then(bif decide ((IntKind.wrap .i64 (x7-1))<(x0.length:Int))then(bif (!ltS ((x0.getD ((IntKind.wrap .i64 (x7-1)):Int).toNat (Q9 .abbr)).word) ((x5.getD (x7:Int).toNat (Q9 .abbr)).word))then(some (.inl false))else(Z9.l0 k x0 x5 x6 (IntKind.wrap .i64 (x7+1))))else none)else none)else(Z9.l0 k x0 x5 x6 (IntKind.wrap .i64 (x7+1))))))else none)else none)else(some (.inr x0))
def Z9.F (k:Nat)(a0:List Abbr):Option (Bool):=(Z9.l0 k a0 a0 (a0.length:Int) 0).bind λy3=>match y3 with|.inl z4=>some z4|.inr z4=>some (decide ((z4.length:Int)<=15))
def Z9.C (k:Nat):Cal->Option CArm:=λc=>match c with
 |.f 55=>some (.p [.str,(.int .i64),(.int .i64),.str] _ (λx=>Z17.F k x.1 x.2.1 x.2.2.1 x.2.2.2.1) (λr=>(.t .bool r)))
 |_=>none
def Z9.sp0:List Sp:=[.t 0 (.sl .abbr),.t 5 (.sl .abbr),.t 6 (.int .i64),.t 7 (.int .i64)]
def Z9.sp0_0:List Sp:=[.t 2 .bool]
def Z9.sp0_1:List Sp:=[.t 0 (.sl .abbr)]
def Z9.A0:LArm:=.two Z9.sp0 Z9.sp0_0 Z9.sp0_1 (Bool) ((List Abbr)) (λk x=>Z9.l0 k x.1 x.2.1 x.2.2.1 x.2.2.2.1) .ret (.exit 0) (λy=>(y,())) (λx=>x.1) (λy=>(y,())) (λx=>x.1)
def Z9.L:Nat->Option LArm:=λb=>match b with
 |0=>some Z9.A0
 |_=>none
theorem Z9.run (k:Nat)(a0:List Abbr):QE Q0 (Qf (Z9.C k)) (Qc 41 k Z9.L) Tryz.f28 [.t (.sl .abbr) a0] (Qe (.t .bool))=Z9.F k a0:=by kernel_rfl
theorem Z9.step0 (k:Nat)(x0:List Abbr)(x5:List Abbr)(x6:Int)(x7:Int):QJ Q0 (Qf (Z9.C k)) (Qc 41 k Z9.L) 0 (Qo Tryz.f28 0) (J1 41 Z9.sp0 (x0,x5,x6,x7,())) (Z9.A0.cont 41 k)=Z9.l0 (k+1) x0 x5 x6 x7:=by kernel_rfl
theorem Z9.G (hE:EnvOk Tryz.prog Q0)(pv:Nat->Value)(k:Nat):∀cal A,Z9.C k cal=some A->Qg Tryz.prog Q0 pv cal A:=by
 intro cal A h
 unfold Z9.C at h
 split at h
 ·cases h;exact λx y hy=>Z17.good hE pv k x.1 x.2.1 x.2.2.1 x.2.2.2.1 hy
 ·cases h
theorem Z9.good (hE:EnvOk Tryz.prog Q0)(pv:Nat->Value)(k:Nat)(a0:List Abbr){y:_}(h:Z9.F k a0=some y):Qa Tryz.prog Q0 pv (.f 28) (Qb [(.sl .abbr)] (a0,())) (.t .bool y):=
 Qi hE (t:=Z9.C) k (λk _=>Z9.G hE pv k) (f:=28) (fn:=Tryz.f28) (by kernel_rfl) rfl (by kernel_rfl) (by kernel_rfl) (lt:=Z9.L) (by kernel_rfl) (λb A h=>by
  unfold Z9.L at h;split at h
  ·cases h;exact⟨by kernel_rfl,by kernel_rfl,by kernel_rfl,λ_=>rfl,λ_=>rfl,λ_=>rfl⟩
  ·cases h) (λb A h=>by
  unfold Z9.L at h;split at h
  ·cases h;exact λk x=>Z9.step0 k x.1 x.2.1 x.2.2.1 x.2.2.2.1
  ·cases h) ((Z9.run k a0).trans h) (λr hr=>Q3 hr)
def Z76.F (a0:ByteArray)(a1:ByteArray):Option (ByteArray):=Q26 a0 a1
theorem Z76.good (hE:EnvOk Tryz.prog Q0)(pv:Nat->Value)(a0:ByteArray)(a1:ByteArray){y:_}(h:Z76.F a0 a1=some y):Qa Tryz.prog Q0 pv (.f 74) (Qb [.str,.str] (a0,a1,())) (.t .str y):=
 Q5U (fn:=Tryz.f74) (by kernel_rfl) rfl (by kernel_rfl) Tryz.strings_Trim_one h
def Z27.l0:Nat->ByteArray->Int->Option (Sum Bool ByteArray)
 |0,_,_=>none
 |k+1,x0,x3=>bif (decide (x3<(x0.size:Int)))then(bif decide (0<=x3)then(bif decide (x3<(x0.size:Int))then(bif (decide ((bt x0 (x3:Int).toNat)<32))then(some (.inl false))else(bif decide (0<=x3)then(bif decide (x3<(x0.size:Int))then(bif (decide ((bt x0 (x3:Int).toNat) > 126))then(some (.inl false))else(Z27.l0 k x0 (IntKind.wrap .i64 (x3+1))))else none)else none))else none)else none)else(some (.inr x0))
def Z27.F (k:Nat)(a0:ByteArray):Option (Bool):=(Z27.l0 k a0 0).bind λy1=>match y1 with|.inl z2=>some z2|.inr z2=>(Z76.F z2 (⟨#[32]⟩:ByteArray)).bind λr3=>some (Ql r3 z2)
def Z27.C (k:Nat):Cal->Option CArm:=λc=>match c with
 |.f 74=>some (.p [.str,.str] _ (λx=>Z76.F x.1 x.2.1) (λr=>(.t .str r)))
 |_=>none
def Z27.sp0:List Sp:=[.t 0 .str,.t 3 (.int .i64)]
def Z27.sp0_0:List Sp:=[.t 2 .bool]
def Z27.sp0_1:List Sp:=[.t 0 .str]
def Z27.A0:LArm:=.two Z27.sp0 Z27.sp0_0 Z27.sp0_1 (Bool) (ByteArray) (λk x=>Z27.l0 k x.1 x.2.1) .ret (.exit 0) (λy=>(y,())) (λx=>x.1) (λy=>(y,())) (λx=>x.1)
def Z27.L:Nat->Option LArm:=λb=>match b with
 |0=>some Z27.A0
 |_=>none
theorem Z27.run (k:Nat)(a0:ByteArray):QE Q0 (Qf (Z27.C k)) (Qc 24 k Z27.L) Tryz.f56 [.t .str a0] (Qe (.t .bool))=Z27.F k a0:=by kernel_rfl
theorem Z27.step0 (k:Nat)(x0:ByteArray)(x3:Int):QJ Q0 (Qf (Z27.C k)) (Qc 24 k Z27.L) 0 (Qo Tryz.f56 0) (J1 24 Z27.sp0 (x0,x3,())) (Z27.A0.cont 24 k)=Z27.l0 (k+1) x0 x3:=by kernel_rfl
theorem Z27.G (hE:EnvOk Tryz.prog Q0)(pv:Nat->Value)(k:Nat):∀cal A,Z27.C k cal=some A->Qg Tryz.prog Q0 pv cal A:=by
 intro cal A h
 unfold Z27.C at h
 split at h
 ·cases h;exact λx y hy=>Z76.good hE pv x.1 x.2.1 hy
 ·cases h
theorem Z27.good (hE:EnvOk Tryz.prog Q0)(pv:Nat->Value)(k:Nat)(a0:ByteArray){y:_}(h:Z27.F k a0=some y):Qa Tryz.prog Q0 pv (.f 56) (Qb [.str] (a0,())) (.t .bool y):=
 Qi hE (t:=Z27.C) k (λk _=>Z27.G hE pv k) (f:=56) (fn:=Tryz.f56) (by kernel_rfl) rfl (by kernel_rfl) (by kernel_rfl) (lt:=Z27.L) (by kernel_rfl) (λb A h=>by
  unfold Z27.L at h;split at h
  ·cases h;exact⟨by kernel_rfl,by kernel_rfl,by kernel_rfl,λ_=>rfl,λ_=>rfl,λ_=>rfl⟩
  ·cases h) (λb A h=>by
  unfold Z27.L at h;split at h
  ·cases h;exact λk x=>Z27.step0 k x.1 x.2.1
  ·cases h) ((Z27.run k a0).trans h) (λr hr=>Q3 hr)
def Z47.F (k:Nat)(a0:ByteArray):Option (Bool):=bif (decide ((a0.size:Int)<=40))then((Z27.F k a0).bind λr1=>some r1)else(some false)
def Z47.C (k:Nat):Cal->Option CArm:=λc=>match c with
 |.f 56=>some (.p [.str] _ (λx=>Z27.F k x.1) (λr=>(.t .bool r)))
 |_=>none
theorem Z47.run (k:Nat)(a0:ByteArray):QE Q0 (Qf (Z47.C k)) (Qc 10 0 (λ_=>none)) Tryz.f29 [.t .str a0] (Qe (.t .bool))=Z47.F k a0:=by kernel_rfl
theorem Z47.G (hE:EnvOk Tryz.prog Q0)(pv:Nat->Value)(k:Nat):∀cal A,Z47.C k cal=some A->Qg Tryz.prog Q0 pv cal A:=by
 intro cal A h
 unfold Z47.C at h
 split at h
 ·cases h;exact λx y hy=>Z27.good hE pv k x.1 hy
 ·cases h
theorem Z47.good (hE:EnvOk Tryz.prog Q0)(pv:Nat->Value)(k:Nat)(a0:ByteArray){y:_}(h:Z47.F k a0=some y):Qa Tryz.prog Q0 pv (.f 29) (Qb [.str] (a0,())) (.t .bool y):=
 Qh hE (Z47.G hE pv k) (f:=29) (fn:=Tryz.f29) (by kernel_rfl) rfl (by kernel_rfl) (by kernel_rfl) ((Z47.run k a0).trans h) (λr hr=>Q3 hr)
def Z53.F (k:Nat)(a0:ByteArray):Option (Bool):=(Z47.F k a0).bind λr1=>some (!r1)
def Z53.C (k:Nat):Cal->Option CArm:=λc=>match c with
 |.f 29=>some (.p [.str] _ (λx=>Z47.F k x.1) (λr=>(.t .bool r)))
 |_=>none
theorem Z53.run (k:Nat)(a0:ByteArray):QE Q0 (Qf (Z53.C k)) (Qc 6 0 (λ_=>none)) Tryz.f34 [.t .str a0] (Qe (.t .bool))=Z53.F k a0:=by kernel_rfl
theorem Z53.G (hE:EnvOk Tryz.prog Q0)(pv:Nat->Value)(k:Nat):∀cal A,Z53.C k cal=some A->Qg Tryz.prog Q0 pv cal A:=by
 intro cal A h
 unfold Z53.C at h
 split at h
 ·cases h;exact λx y hy=>Z47.good hE pv k x.1 hy
 ·cases h
theorem Z53.good (hE:EnvOk Tryz.prog Q0)(pv:Nat->Value)(k:Nat)(a0:ByteArray){y:_}(h:Z53.F k a0=some y):Qa Tryz.prog Q0 pv (.f 34) (Qb [.str] (a0,())) (.t .bool y):=
 Qh hE (Z53.G hE pv k) (f:=34) (fn:=Tryz.f34) (by kernel_rfl) rfl (by kernel_rfl) (by kernel_rfl) ((Z53.run k a0).trans h) (λr hr=>Q3 hr)
def Z30.l0:Nat->(List ByteArray)->Int->Int->Option (Sum Int Unit)
 |0,_,_,_=>none
 |k+1,x0,x7,x8=>bif (decide (x8<x7))then(bif decide (0<=x8)then(bif decide (x8<(x0.length:Int))then((Z53.F k (x0.getD (x8:Int).toNat (⟨#[]⟩:ByteArray))).bind λr1=>bif r1 then(some (.inl x8))else(Z30.l0 k x0 x7 (IntKind.wrap .i64 (x8+1))))else none)else none)else(some (.inr ()))
def Z30.F (k:Nat)(a0:List ByteArray):Option (Int):=(Z30.l0 k a0 (a0.length:Int) 0).bind λy2=>match y2 with|.inl z3=>some z3|.inr z3=>some (-1)
def Z30.C (k:Nat):Cal->Option CArm:=λc=>match c with
 |.f 34=>some (.p [.str] _ (λx=>Z53.F k x.1) (λr=>(.t .bool r)))
 |_=>none
def Z30.sp0:List Sp:=[.t 0 (.sl .str),.con 1 (.clo 34),.t 7 (.int .i64),.t 8 (.int .i64)]
def Z30.sp0_0:List Sp:=[.t 4 (.int .i64)]
def Z30.sp0_1:List Sp:=[]
def Z30.A0:LArm:=.two Z30.sp0 Z30.sp0_0 Z30.sp0_1 (Int) (Unit) (λk x=>Z30.l0 k x.1 x.2.2.1 x.2.2.2.1) .ret (.exit 0) (λy=>(y,())) (λx=>x.1) (λy=>()) (λx=>())
def Z30.L:Nat->Option LArm:=λb=>match b with
 |0=>some Z30.A0
 |_=>none
theorem Z30.run (k:Nat)(a0:List ByteArray):QE Q0 (Qf (Z30.C k)) (Qc 19 k Z30.L) Tryz.f37 [.t (.sl .str) a0,.clo 34 []] (Qe (.t (.int .i64)))=Z30.F k a0:=by kernel_rfl
theorem Z30.step0 (k:Nat)(x0:List ByteArray)(x7:Int)(x8:Int):QJ Q0 (Qf (Z30.C k)) (Qc 19 k Z30.L) 0 (Qo Tryz.f37 0) (J1 19 Z30.sp0 (x0,(),x7,x8,())) (Z30.A0.cont 19 k)=Z30.l0 (k+1) x0 x7 x8:=by kernel_rfl
theorem Z30.G (hE:EnvOk Tryz.prog Q0)(pv:Nat->Value)(k:Nat):∀cal A,Z30.C k cal=some A->Qg Tryz.prog Q0 pv cal A:=by
 intro cal A h
 unfold Z30.C at h
 split at h
 ·cases h;exact λx y hy=>Z53.good hE pv k x.1 hy
 ·cases h
theorem Z30.good (hE:EnvOk Tryz.prog Q0)(pv:Nat->Value)(k:Nat)(a0:List ByteArray){y:_}(h:Z30.F k a0=some y):Qa Tryz.prog Q0 pv (.f 37) (Yq [.t (.sl .str),.clo 34 []] (a0,(()),())) (.t (.int .i64) y):=
 Qi hE (t:=Z30.C) k (λk _=>Z30.G hE pv k) (f:=37) (fn:=Tryz.f37) (by kernel_rfl) rfl (by kernel_rfl) (by kernel_rfl) (lt:=Z30.L) (by kernel_rfl) (λb A h=>by
  unfold Z30.L at h;split at h
  ·cases h;exact⟨by kernel_rfl,by kernel_rfl,by kernel_rfl,λ_=>rfl,λ_=>rfl,λ_=>rfl⟩
  ·cases h) (λb A h=>by
  unfold Z30.L at h;split at h
  ·cases h;exact λk x=>Z30.step0 k x.1 x.2.2.1 x.2.2.2.1
  ·cases h) ((Z30.run k a0).trans h) (λr hr=>Q3 hr)
def Z71.F (k:Nat)(a0:List ByteArray):Option (Bool):=(Z30.F k a0).bind λr1=>some (decide (r1 ≥ 0))
def Z71.C (k:Nat):Cal->Option CArm:=λc=>match c with
 |.f 37=>some (.q [.t (.sl .str),.clo 34 []] _ (λx=>Z30.F k x.1) (λr=>(.t (.int .i64) r)))
 |_=>none
theorem Z71.run (k:Nat)(a0:List ByteArray):QE Q0 (Qf (Z71.C k)) (Qc 9 0 (λ_=>none)) Tryz.f17 [.t (.sl .str) a0,.clo 34 []] (Qe (.t .bool))=Z71.F k a0:=by kernel_rfl
theorem Z71.G (hE:EnvOk Tryz.prog Q0)(pv:Nat->Value)(k:Nat):∀cal A,Z71.C k cal=some A->Qg Tryz.prog Q0 pv cal A:=by
 intro cal A h
 unfold Z71.C at h
 split at h
 ·cases h;exact λx y hy=>Z30.good hE pv k x.1 hy
 ·cases h
theorem Z71.good (hE:EnvOk Tryz.prog Q0)(pv:Nat->Value)(k:Nat)(a0:List ByteArray){y:_}(h:Z71.F k a0=some y):Qa Tryz.prog Q0 pv (.f 17) (Yq [.t (.sl .str),.clo 34 []] (a0,(()),())) (.t .bool y):=
 Qh hE (Z71.G hE pv k) (f:=17) (fn:=Tryz.f17) (by kernel_rfl) rfl (by kernel_rfl) (by kernel_rfl) ((Z71.run k a0).trans h) (λr hr=>Q3 hr)
def Z48.F (k:Nat)(a0:List Abbr)(a1:List ByteArray):Option (Bool):=(Z9.F k a0).bind λr1=>bif r1 then(bif (decide ((a1.length:Int)<=20))then((Z71.F k a1).bind λr2=>some (!r2))else(some false))else(some false)
def Z48.C (k:Nat):Cal->Option CArm:=λc=>match c with
 |.f 28=>some (.p [(.sl .abbr)] _ (λx=>Z9.F k x.1) (λr=>(.t .bool r)))
 |.f 17=>some (.q [.t (.sl .str),.clo 34 []] _ (λx=>Z71.F k x.1) (λr=>(.t .bool r)))
 |_=>none
theorem Z48.run (k:Nat)(a0:List Abbr)(a1:List ByteArray):QE Q0 (Qf (Z48.C k)) (Qc 17 0 (λ_=>none)) Tryz.f15 [.t (.sl .abbr) a0,.t (.sl .str) a1] (Qe (.t .bool))=Z48.F k a0 a1:=by kernel_rfl
theorem Z48.G (hE:EnvOk Tryz.prog Q0)(pv:Nat->Value)(k:Nat):∀cal A,Z48.C k cal=some A->Qg Tryz.prog Q0 pv cal A:=by
 intro cal A h
 unfold Z48.C at h
 split at h
 ·cases h;exact λx y hy=>Z9.good hE pv k x.1 hy
 ·cases h;exact λx y hy=>Z71.good hE pv k x.1 hy
 ·cases h
theorem Z48.good (hE:EnvOk Tryz.prog Q0)(pv:Nat->Value)(k:Nat)(a0:List Abbr)(a1:List ByteArray){y:_}(h:Z48.F k a0 a1=some y):Qa Tryz.prog Q0 pv (.f 15) (Qb [(.sl .abbr),(.sl .str)] (a0,a1,())) (.t .bool y):=
 Qh hE (Z48.G hE pv k) (f:=15) (fn:=Tryz.f15) (by kernel_rfl) rfl (by kernel_rfl) (by kernel_rfl) ((Z48.run k a0 a1).trans h) (λr hr=>Q3 hr)
def Z77.F (a0:ByteArray)(a1:ByteArray):Option (List ByteArray):=Q25 a0 a1
theorem Z77.good (hE:EnvOk Tryz.prog Q0)(pv:Nat->Value)(a0:ByteArray)(a1:ByteArray){y:_}(h:Z77.F a0 a1=some y):Qa Tryz.prog Q0 pv (.f 65) (Qb [.str,.str] (a0,a1,())) (.fr 9 .str y):=
 Q5T (fn:=Tryz.f65) (by kernel_rfl) rfl (by kernel_rfl) (mx:=0) (by kernel_rfl) Tryz.strings_Split h
def Z45.F (a0:ByteArray):Option (Bool):=some (Ql a0 (⟨#[]⟩:ByteArray))
def Z45.C:Cal->Option CArm:=λc=>match c with
 |_=>none
theorem Z45.run (a0:ByteArray):QE Q0 (Qf Z45.C) (Qc 5 0 (λ_=>none)) Tryz.f66 [.t .str a0] (Qe (.t .bool))=Z45.F a0:=by kernel_rfl
theorem Z45.G (hE:EnvOk Tryz.prog Q0)(pv:Nat->Value):∀cal A,Z45.C cal=some A->Qg Tryz.prog Q0 pv cal A:=by
 intro cal A h
 unfold Z45.C at h
 cases h
theorem Z45.good (hE:EnvOk Tryz.prog Q0)(pv:Nat->Value)(a0:ByteArray){y:_}(h:Z45.F a0=some y):Qa Tryz.prog Q0 pv (.f 66) (Qb [.str] (a0,())) (.t .bool y):=
 Qh hE (Z45.G hE pv) (f:=66) (fn:=Tryz.f66) (by kernel_rfl) rfl (by kernel_rfl) (by kernel_rfl) ((Z45.run a0).trans h) (λr hr=>Q3 hr)
def Z31.l0:Nat->(List ByteArray)->Int->Int->Option (Sum Int Unit)
 |0,_,_,_=>none
 |k+1,x0,x7,x8=>bif (decide (x8<x7))then(bif decide (0<=x8)then(bif decide (x8<(x0.length:Int))then((Z45.F (x0.getD (x8:Int).toNat (⟨#[]⟩:ByteArray))).bind λr1=>bif r1 then(some (.inl x8))else(Z31.l0 k x0 x7 (IntKind.wrap .i64 (x8+1))))else none)else none)else(some (.inr ()))
def Z31.F (k:Nat)(a0:List ByteArray):Option (Int):=(Z31.l0 k a0 (a0.length:Int) 0).bind λy2=>match y2 with|.inl z3=>some z3|.inr z3=>some (-1)
def Z31.C (k:Nat):Cal->Option CArm:=λc=>match c with
 |.f 66=>some (.p [.str] _ (λx=>Z45.F x.1) (λr=>(.t .bool r)))
 |_=>none
def Z31.sp0:List Sp:=[.t 0 (.sl .str),.con 1 (.clo 66),.t 7 (.int .i64),.t 8 (.int .i64)]
def Z31.sp0_0:List Sp:=[.t 4 (.int .i64)]
def Z31.sp0_1:List Sp:=[]
def Z31.A0:LArm:=.two Z31.sp0 Z31.sp0_0 Z31.sp0_1 (Int) (Unit) (λk x=>Z31.l0 k x.1 x.2.2.1 x.2.2.2.1) .ret (.exit 0) (λy=>(y,())) (λx=>x.1) (λy=>()) (λx=>())
def Z31.L:Nat->Option LArm:=λb=>match b with
 |0=>some Z31.A0
 |_=>none
theorem Z31.run (k:Nat)(a0:List ByteArray):QE Q0 (Qf (Z31.C k)) (Qc 19 k Z31.L) Tryz.f37 [.t (.sl .str) a0,.clo 66 []] (Qe (.t (.int .i64)))=Z31.F k a0:=by kernel_rfl
theorem Z31.step0 (k:Nat)(x0:List ByteArray)(x7:Int)(x8:Int):QJ Q0 (Qf (Z31.C k)) (Qc 19 k Z31.L) 0 (Qo Tryz.f37 0) (J1 19 Z31.sp0 (x0,(),x7,x8,())) (Z31.A0.cont 19 k)=Z31.l0 (k+1) x0 x7 x8:=by kernel_rfl
theorem Z31.G (hE:EnvOk Tryz.prog Q0)(pv:Nat->Value)(k:Nat):∀cal A,Z31.C k cal=some A->Qg Tryz.prog Q0 pv cal A:=by
 intro cal A h
 unfold Z31.C at h
 split at h
 ·cases h;exact λx y hy=>Z45.good hE pv x.1 hy
 ·cases h
theorem Z31.good (hE:EnvOk Tryz.prog Q0)(pv:Nat->Value)(k:Nat)(a0:List ByteArray){y:_}(h:Z31.F k a0=some y):Qa Tryz.prog Q0 pv (.f 37) (Yq [.t (.sl .str),.clo 66 []] (a0,(()),())) (.t (.int .i64) y):=
 Qi hE (t:=Z31.C) k (λk _=>Z31.G hE pv k) (f:=37) (fn:=Tryz.f37) (by kernel_rfl) rfl (by kernel_rfl) (by kernel_rfl) (lt:=Z31.L) (by kernel_rfl) (λb A h=>by
  unfold Z31.L at h;split at h
  ·cases h;exact⟨by kernel_rfl,by kernel_rfl,by kernel_rfl,λ_=>rfl,λ_=>rfl,λ_=>rfl⟩
  ·cases h) (λb A h=>by
  unfold Z31.L at h;split at h
  ·cases h;exact λk x=>Z31.step0 k x.1 x.2.2.1 x.2.2.2.1
  ·cases h) ((Z31.run k a0).trans h) (λr hr=>Q3 hr)
def Z34.l0:Nat->(List ByteArray)->Int->Int->Option ((List ByteArray)×Int)
 |0,_,_,_=>none
 |k+1,x0,x5,x6=>bif (decide (x6<(x0.length:Int)))then(bif decide (0<=x6)then(bif decide (x6<(x0.length:Int))then((Z45.F (x0.getD ((x6:Int).toNat) (⟨#[]⟩:ByteArray))).bind λr2=>bif (!r2)then(bif decide (0<=x5)then(bif decide (x5<(x0.length:Int))then(Z34.l0 k (x0.set ((x5:Int).toNat) (x0.getD ((x6:Int).toNat) (⟨#[]⟩:ByteArray))) (IntKind.wrap .i64 (x5+1)) (IntKind.wrap .i64 (x6+1)))else none)else none)else(Z34.l0 k x0 x5 (IntKind.wrap .i64 (x6+1))))else none)else none)else(some (x0,x5))
def Z34.F (k:Nat)(a0:List ByteArray):Option (List ByteArray):=(Z31.F k a0).bind λr1=>bif (r1==(-1))then(some a0)else((Z34.l0 k a0 r1 (IntKind.wrap .i64 (r1+1))).bind λy3=>bif decide (0<=y3.2)then(bif decide (y3.2<=(y3.1.length:Int))then(bif decide (0<=y3.2)then(bif decide (y3.2<=((y3.1.take ((y3.2:Int).toNat)++List.replicate (y3.1.length-((y3.2:Int).toNat)) (⟨#[]⟩:ByteArray)).length:Int))then(some ((y3.1.take ((y3.2:Int).toNat)++List.replicate (y3.1.length-((y3.2:Int).toNat)) (⟨#[]⟩:ByteArray)).take (y3.2:Int).toNat))else none)else none)else none)else none)
def Z34.C (k:Nat):Cal->Option CArm:=λc=>match c with
 |.f 37=>some (.q [.t (.sl .str),.clo 66 []] _ (λx=>Z31.F k x.1) (λr=>(.t (.int .i64) r)))
 |.f 66=>some (.p [.str] _ (λx=>Z45.F x.1) (λr=>(.t .bool r)))
 |_=>none
def Z34.sp0:List Sp:=[.own 0 1099511627777 9 .str false true,.con 1 (.clo 66),.t 5 (.int .i64),.t 6 (.int .i64)]
def Z34.sp0_0:List Sp:=[.own 0 1099511627777 9 .str false true,.t 5 (.int .i64)]
def Z34.A0:LArm:=.one Z34.sp0 Z34.sp0_0 ((List ByteArray)×Int) (λk x=>Z34.l0 k x.1 x.2.2.1 x.2.2.2.1) (.exit 0) (λy=>(y.1,y.2,())) (λx=>(x.1,x.2.1))
def Z34.L:Nat->Option LArm:=λb=>match b with
 |0=>some Z34.A0
 |_=>none
theorem Z34.run (k:Nat)(a0:List ByteArray):Kx Q0 (Qf (Z34.C k)) (Qc 42 k Z34.L) Tryz.f43 Kt (.fr 9 .str a0) [.clo 66 []] (Gp 9 .str)=Z34.F k a0:=by kernel_rfl
theorem Z34.step0 (k:Nat)(x0:List ByteArray)(x5:Int)(x6:Int):QJ Q0 (Qf (Z34.C k)) (Qc 42 k Z34.L) 0 (Qo Tryz.f43 0) (J1 42 Z34.sp0 (x0,(),x5,x6,())) (Z34.A0.cont 42 k)=Z34.l0 (k+1) x0 x5 x6:=by kernel_rfl
theorem Z34.G (hE:EnvOk Tryz.prog Q0)(pv:Nat->Value)(k:Nat):∀cal A,Z34.C k cal=some A->Qg Tryz.prog Q0 pv cal A:=by
 intro cal A h
 unfold Z34.C at h
 split at h
 ·cases h;exact λx y hy=>Z31.good hE pv k x.1 hy
 ·cases h;exact λx y hy=>Z45.good hE pv x.1 hy
 ·cases h
theorem Z34.good (hE:EnvOk Tryz.prog Q0)(pv:Nat->Value)(k:Nat)(a0:List ByteArray){y:_}(h:Z34.F k a0=some y):J6 Tryz.prog Q0 pv 43 (.fr 9 .str a0) (Yq [.clo 66 []] ((()),())) (.mov 9 .str y):=
 YP hE (t:=Z34.C) k (λk _=>Z34.G hE pv k) (f:=43) (fn:=Tryz.f43) (by kernel_rfl) rfl (by kernel_rfl) (.inr rfl) (by kernel_rfl) (lt:=Z34.L) (by kernel_rfl) (λb A h=>by
  unfold Z34.L at h;split at h
  ·cases h;exact⟨by kernel_rfl,by kernel_rfl,λ_=>rfl,λ_=>rfl⟩
  ·cases h) (λb A h=>by
  unfold Z34.L at h;split at h
  ·cases h;exact λk x=>Z34.step0 k x.1 x.2.2.1 x.2.2.2.1
  ·cases h) ((Z34.run k a0).trans h) (λr hr=>Q0i hr)
def Z59.F (k:Nat)(a0:ByteArray):Option (List ByteArray):=(Z77.F a0 (⟨#[32]⟩:ByteArray)).bind λr1=>(Z34.F k r1).bind λr2=>some r2
def Z59.C (k:Nat):Cal->Option CArm:=λc=>match c with
 |.f 65=>some (.p [.str,.str] _ (λx=>Z77.F x.1 x.2.1) (λr=>(.fr 9 .str r)))
 |.f 43=>some (.mq (.fr 9 .str) [.clo 66 []] _ (λx0 x=>Z34.F k x0) (λr=>.mov 9 .str r))
 |_=>none
theorem Z59.run (k:Nat)(a0:ByteArray):QE Q0 (Qf (Z59.C k)) (Qc 6 0 (λ_=>none)) Tryz.f42 [.t .str a0] (Qe (.fr 9 .str))=Z59.F k a0:=by kernel_rfl
theorem Z59.G (hE:EnvOk Tryz.prog Q0)(pv:Nat->Value)(k:Nat):∀cal A,Z59.C k cal=some A->Qg Tryz.prog Q0 pv cal A:=by
 intro cal A h
 unfold Z59.C at h
 split at h
 ·cases h;exact λx y hy=>Z77.good hE pv x.1 x.2.1 hy
 ·cases h;exact⟨_,rfl,λx0 x y hy=>Z34.good hE pv k x0 hy⟩
 ·cases h
theorem Z59.good (hE:EnvOk Tryz.prog Q0)(pv:Nat->Value)(k:Nat)(a0:ByteArray){y:_}(h:Z59.F k a0=some y):Qa Tryz.prog Q0 pv (.f 42) (Qb [.str] (a0,())) (.fr 9 .str y):=
 Qh hE (Z59.G hE pv k) (f:=42) (fn:=Tryz.f42) (by kernel_rfl) rfl (by kernel_rfl) (by kernel_rfl) ((Z59.run k a0).trans h) (λr hr=>Q3 hr)
def Z78.F (a0:List ByteArray):Option (List ByteArray):=Q27 a0
theorem Z78.good (hE:EnvOk Tryz.prog Q0)(pv:Nat->Value)(a0:List ByteArray){y:_}(h:Z78.F a0=some y):Qa Tryz.prog Q0 pv (.f 44) (Qb [(.sl .str)] (a0,())) (.fr 9 .str y):=
 Q5V (fn:=Tryz.f44) (by kernel_rfl) rfl (by kernel_rfl) Tryz.slices_Clone_string Tryz.slices_Clone_string_nil Tryz.slices_Clone_string_zero h
def Z40.F (a0:Int):Option (Bool):=bif (decide (a0 ≥ 65))then(some (decide (a0<=90)))else(some false)
def Z40.C:Cal->Option CArm:=λc=>match c with
 |_=>none
theorem Z40.run (a0:Int):QE Q0 (Qf Z40.C) (Qc 9 0 (λ_=>none)) Tryz.f58 [.t (.int .u8) a0] (Qe (.t .bool))=Z40.F a0:=by kernel_rfl
theorem Z40.G (hE:EnvOk Tryz.prog Q0)(pv:Nat->Value):∀cal A,Z40.C cal=some A->Qg Tryz.prog Q0 pv cal A:=by
 intro cal A h
 unfold Z40.C at h
 cases h
theorem Z40.good (hE:EnvOk Tryz.prog Q0)(pv:Nat->Value)(a0:Int){y:_}(h:Z40.F a0=some y):Qa Tryz.prog Q0 pv (.f 58) (Qb [(.int .u8)] (a0,())) (.t .bool y):=
 Qh hE (Z40.G hE pv) (f:=58) (fn:=Tryz.f58) (by kernel_rfl) rfl (by kernel_rfl) (by kernel_rfl) ((Z40.run a0).trans h) (λr hr=>Q3 hr)
def Z14.l0:Nat->(List Int)->Int->Int->Option ((List Int))
 |0,_,_,_=>none
 |k+1,x3,x9,x10=>bif (decide (x10<x9))then(bif decide (0<=x10)then(bif decide (x10<(x3.length:Int))then((Z40.F (x3.getD ((x10:Int).toNat) 0)).bind λr1=>bif r1 then(bif decide (0<=x10)then(bif decide (x10<(x3.length:Int))then(Z14.l0 k (x3.set ((x10:Int).toNat) (IntKind.wrap .u8 ((IntKind.wrap .u8 ((x3.getD ((x10:Int).toNat) 0)+97))-65))) x9 (IntKind.wrap .i64 (x10+1)))else none)else none)else(Z14.l0 k x3 x9 (IntKind.wrap .i64 (x10+1))))else none)else none)else(some x3)
def Z14.F (k:Nat)(a0:ByteArray):Option (ByteArray):=bif Nat.ble a0.size 9223372036854775807 then((Z14.l0 k (Q6 a0) ((Q6 a0).length:Int) 0).bind λy2=>some (YU y2))else none
def Z14.C (k:Nat):Cal->Option CArm:=λc=>match c with
 |.f 58=>some (.p [(.int .u8)] _ (λx=>Z40.F x.1) (λr=>(.t .bool r)))
 |_=>none
def Z14.sp0:List Sp:=[.own 3 1028 5 (.int .u8) false false,.con 8 (.own 1028),.t 9 (.int .i64),.t 10 (.int .i64)]
def Z14.sp0_0:List Sp:=[.own 3 1028 5 (.int .u8) false false]
def Z14.A0:LArm:=.one Z14.sp0 Z14.sp0_0 ((List Int)) (λk x=>Z14.l0 k x.1 x.2.2.1 x.2.2.2.1) (.exit 0) (λy=>(y,())) (λx=>x.1)
def Z14.L:Nat->Option LArm:=λb=>match b with
 |0=>some Z14.A0
 |_=>none
theorem Z14.run (k:Nat)(a0:ByteArray):QE Q0 (Qf (Z14.C k)) (Qc 26 k Z14.L) Tryz.f47 [.t .str a0] (Qe (.t .str))=Z14.F k a0:=by kernel_rfl
theorem Z14.step0 (k:Nat)(x3:List Int)(x9:Int)(x10:Int):QJ Q0 (Qf (Z14.C k)) (Qc 26 k Z14.L) 0 (Qo Tryz.f47 0) (J1 26 Z14.sp0 (x3,(),x9,x10,())) (Z14.A0.cont 26 k)=Z14.l0 (k+1) x3 x9 x10:=by kernel_rfl
theorem Z14.G (hE:EnvOk Tryz.prog Q0)(pv:Nat->Value)(k:Nat):∀cal A,Z14.C k cal=some A->Qg Tryz.prog Q0 pv cal A:=by
 intro cal A h
 unfold Z14.C at h
 split at h
 ·cases h;exact λx y hy=>Z40.good hE pv x.1 hy
 ·cases h
theorem Z14.good (hE:EnvOk Tryz.prog Q0)(pv:Nat->Value)(k:Nat)(a0:ByteArray){y:_}(h:Z14.F k a0=some y):Qa Tryz.prog Q0 pv (.f 47) (Qb [.str] (a0,())) (.t .str y):=
 Qi hE (t:=Z14.C) k (λk _=>Z14.G hE pv k) (f:=47) (fn:=Tryz.f47) (by kernel_rfl) rfl (by kernel_rfl) (by kernel_rfl) (lt:=Z14.L) (by kernel_rfl) (λb A h=>by
  unfold Z14.L at h;split at h
  ·cases h;exact⟨by kernel_rfl,by kernel_rfl,λ_=>rfl,λ_=>rfl⟩
  ·cases h) (λb A h=>by
  unfold Z14.L at h;split at h
  ·cases h;exact λk x=>Z14.step0 k x.1 x.2.2.1 x.2.2.2.1
  ·cases h) ((Z14.run k a0).trans h) (λr hr=>Q3 hr)
def Z41.F (k:Nat)(a0:ByteArray):Option (Bool):=(Z14.F k a0).bind λr1=>bif (Ql r1 (⟨#[97]⟩:ByteArray))then(bif (Ql r1 (⟨#[97]⟩:ByteArray))then(some true)else(some false))else(bif (Ql r1 (⟨#[97,110]⟩:ByteArray))then(bif (Ql r1 (⟨#[97,110]⟩:ByteArray))then(some true)else(some false))else(bif (Ql r1 (⟨#[97,110,100]⟩:ByteArray))then(bif (Ql r1 (⟨#[97,110,100]⟩:ByteArray))then(some true)else(some false))else(bif (Ql r1 (⟨#[102,111,114]⟩:ByteArray))then(bif (Ql r1 (⟨#[102,111,114]⟩:ByteArray))then(some true)else(some false))else(bif (Ql r1 (⟨#[105,110]⟩:ByteArray))then(bif (Ql r1 (⟨#[105,110]⟩:ByteArray))then(some true)else(some false))else(bif (Ql r1 (⟨#[111,102]⟩:ByteArray))then(bif (Ql r1 (⟨#[111,102]⟩:ByteArray))then(some true)else(some false))else(bif (Ql r1 (⟨#[111,110]⟩:ByteArray))then(bif (Ql r1 (⟨#[111,110]⟩:ByteArray))then(some true)else(some false))else(bif (Ql r1 (⟨#[116,104,101]⟩:ByteArray))then(some true)else(some false))))))))
def Z41.C (k:Nat):Cal->Option CArm:=λc=>match c with
 |.f 47=>some (.p [.str] _ (λx=>Z14.F k x.1) (λr=>(.t .str r)))
 |_=>none
theorem Z41.run (k:Nat)(a0:ByteArray):QE Q0 (Qf (Z41.C k)) (Qc 14 0 (λ_=>none)) Tryz.f45 [.t .str a0] (Qe (.t .bool))=Z41.F k a0:=by kernel_rfl
theorem Z41.G (hE:EnvOk Tryz.prog Q0)(pv:Nat->Value)(k:Nat):∀cal A,Z41.C k cal=some A->Qg Tryz.prog Q0 pv cal A:=by
 intro cal A h
 unfold Z41.C at h
 split at h
 ·cases h;exact λx y hy=>Z14.good hE pv k x.1 hy
 ·cases h
theorem Z41.good (hE:EnvOk Tryz.prog Q0)(pv:Nat->Value)(k:Nat)(a0:ByteArray){y:_}(h:Z41.F k a0=some y):Qa Tryz.prog Q0 pv (.f 45) (Qb [.str] (a0,())) (.t .bool y):=
 Qh hE (Z41.G hE pv k) (f:=45) (fn:=Tryz.f45) (by kernel_rfl) rfl (by kernel_rfl) (by kernel_rfl) ((Z41.run k a0).trans h) (λr hr=>Q3 hr)
def Z32.l0:Nat->(List ByteArray)->Int->Int->Option (Sum Int Unit)
 |0,_,_,_=>none
 |k+1,x0,x7,x8=>bif (decide (x8<x7))then(bif decide (0<=x8)then(bif decide (x8<(x0.length:Int))then((Z41.F k (x0.getD (x8:Int).toNat (⟨#[]⟩:ByteArray))).bind λr1=>bif r1 then(some (.inl x8))else(Z32.l0 k x0 x7 (IntKind.wrap .i64 (x8+1))))else none)else none)else(some (.inr ()))
def Z32.F (k:Nat)(a0:List ByteArray):Option (Int):=(Z32.l0 k a0 (a0.length:Int) 0).bind λy2=>match y2 with|.inl z3=>some z3|.inr z3=>some (-1)
def Z32.C (k:Nat):Cal->Option CArm:=λc=>match c with
 |.f 45=>some (.p [.str] _ (λx=>Z41.F k x.1) (λr=>(.t .bool r)))
 |_=>none
def Z32.sp0:List Sp:=[.t 0 (.sl .str),.con 1 (.clo 45),.t 7 (.int .i64),.t 8 (.int .i64)]
def Z32.sp0_0:List Sp:=[.t 4 (.int .i64)]
def Z32.sp0_1:List Sp:=[]
def Z32.A0:LArm:=.two Z32.sp0 Z32.sp0_0 Z32.sp0_1 (Int) (Unit) (λk x=>Z32.l0 k x.1 x.2.2.1 x.2.2.2.1) .ret (.exit 0) (λy=>(y,())) (λx=>x.1) (λy=>()) (λx=>())
def Z32.L:Nat->Option LArm:=λb=>match b with
 |0=>some Z32.A0
 |_=>none
theorem Z32.run (k:Nat)(a0:List ByteArray):QE Q0 (Qf (Z32.C k)) (Qc 19 k Z32.L) Tryz.f37 [.t (.sl .str) a0,.clo 45 []] (Qe (.t (.int .i64)))=Z32.F k a0:=by kernel_rfl
theorem Z32.step0 (k:Nat)(x0:List ByteArray)(x7:Int)(x8:Int):QJ Q0 (Qf (Z32.C k)) (Qc 19 k Z32.L) 0 (Qo Tryz.f37 0) (J1 19 Z32.sp0 (x0,(),x7,x8,())) (Z32.A0.cont 19 k)=Z32.l0 (k+1) x0 x7 x8:=by kernel_rfl
theorem Z32.G (hE:EnvOk Tryz.prog Q0)(pv:Nat->Value)(k:Nat):∀cal A,Z32.C k cal=some A->Qg Tryz.prog Q0 pv cal A:=by
 intro cal A h
 unfold Z32.C at h
 split at h
 ·cases h;exact λx y hy=>Z41.good hE pv k x.1 hy
 ·cases h
theorem Z32.good (hE:EnvOk Tryz.prog Q0)(pv:Nat->Value)(k:Nat)(a0:List ByteArray){y:_}(h:Z32.F k a0=some y):Qa Tryz.prog Q0 pv (.f 37) (Yq [.t (.sl .str),.clo 45 []] (a0,(()),())) (.t (.int .i64) y):=
 Qi hE (t:=Z32.C) k (λk _=>Z32.G hE pv k) (f:=37) (fn:=Tryz.f37) (by kernel_rfl) rfl (by kernel_rfl) (by kernel_rfl) (lt:=Z32.L) (by kernel_rfl) (λb A h=>by
  unfold Z32.L at h;split at h
  ·cases h;exact⟨by kernel_rfl,by kernel_rfl,by kernel_rfl,λ_=>rfl,λ_=>rfl,λ_=>rfl⟩
  ·cases h) (λb A h=>by
  unfold Z32.L at h;split at h
  ·cases h;exact λk x=>Z32.step0 k x.1 x.2.2.1 x.2.2.2.1
  ·cases h) ((Z32.run k a0).trans h) (λr hr=>Q3 hr)
def Z35.l0:Nat->(List ByteArray)->Int->Int->Option ((List ByteArray)×Int)
 |0,_,_,_=>none
 |k+1,x0,x5,x6=>bif (decide (x6<(x0.length:Int)))then(bif decide (0<=x6)then(bif decide (x6<(x0.length:Int))then((Z41.F k (x0.getD ((x6:Int).toNat) (⟨#[]⟩:ByteArray))).bind λr2=>bif (!r2)then(bif decide (0<=x5)then(bif decide (x5<(x0.length:Int))then(Z35.l0 k (x0.set ((x5:Int).toNat) (x0.getD ((x6:Int).toNat) (⟨#[]⟩:ByteArray))) (IntKind.wrap .i64 (x5+1)) (IntKind.wrap .i64 (x6+1)))else none)else none)else(Z35.l0 k x0 x5 (IntKind.wrap .i64 (x6+1))))else none)else none)else(some (x0,x5))
def Z35.F (k:Nat)(a0:List ByteArray):Option (List ByteArray):=(Z32.F k a0).bind λr1=>bif (r1==(-1))then(some a0)else((Z35.l0 k a0 r1 (IntKind.wrap .i64 (r1+1))).bind λy3=>bif decide (0<=y3.2)then(bif decide (y3.2<=(y3.1.length:Int))then(bif decide (0<=y3.2)then(bif decide (y3.2<=((y3.1.take ((y3.2:Int).toNat)++List.replicate (y3.1.length-((y3.2:Int).toNat)) (⟨#[]⟩:ByteArray)).length:Int))then(some ((y3.1.take ((y3.2:Int).toNat)++List.replicate (y3.1.length-((y3.2:Int).toNat)) (⟨#[]⟩:ByteArray)).take (y3.2:Int).toNat))else none)else none)else none)else none)
def Z35.C (k:Nat):Cal->Option CArm:=λc=>match c with
 |.f 37=>some (.q [.t (.sl .str),.clo 45 []] _ (λx=>Z32.F k x.1) (λr=>(.t (.int .i64) r)))
 |.f 45=>some (.p [.str] _ (λx=>Z41.F k x.1) (λr=>(.t .bool r)))
 |_=>none
def Z35.sp0:List Sp:=[.own 0 1099511627777 9 .str false true,.con 1 (.clo 45),.t 5 (.int .i64),.t 6 (.int .i64)]
def Z35.sp0_0:List Sp:=[.own 0 1099511627777 9 .str false true,.t 5 (.int .i64)]
def Z35.A0:LArm:=.one Z35.sp0 Z35.sp0_0 ((List ByteArray)×Int) (λk x=>Z35.l0 k x.1 x.2.2.1 x.2.2.2.1) (.exit 0) (λy=>(y.1,y.2,())) (λx=>(x.1,x.2.1))
def Z35.L:Nat->Option LArm:=λb=>match b with
 |0=>some Z35.A0
 |_=>none
theorem Z35.run (k:Nat)(a0:List ByteArray):Kx Q0 (Qf (Z35.C k)) (Qc 42 k Z35.L) Tryz.f43 Kt (.fr 9 .str a0) [.clo 45 []] (Gp 9 .str)=Z35.F k a0:=by kernel_rfl
theorem Z35.step0 (k:Nat)(x0:List ByteArray)(x5:Int)(x6:Int):QJ Q0 (Qf (Z35.C k)) (Qc 42 k Z35.L) 0 (Qo Tryz.f43 0) (J1 42 Z35.sp0 (x0,(),x5,x6,())) (Z35.A0.cont 42 k)=Z35.l0 (k+1) x0 x5 x6:=by kernel_rfl
theorem Z35.G (hE:EnvOk Tryz.prog Q0)(pv:Nat->Value)(k:Nat):∀cal A,Z35.C k cal=some A->Qg Tryz.prog Q0 pv cal A:=by
 intro cal A h
 unfold Z35.C at h
 split at h
 ·cases h;exact λx y hy=>Z32.good hE pv k x.1 hy
 ·cases h;exact λx y hy=>Z41.good hE pv k x.1 hy
 ·cases h
theorem Z35.good (hE:EnvOk Tryz.prog Q0)(pv:Nat->Value)(k:Nat)(a0:List ByteArray){y:_}(h:Z35.F k a0=some y):J6 Tryz.prog Q0 pv 43 (.fr 9 .str a0) (Yq [.clo 45 []] ((()),())) (.mov 9 .str y):=
 YP hE (t:=Z35.C) k (λk _=>Z35.G hE pv k) (f:=43) (fn:=Tryz.f43) (by kernel_rfl) rfl (by kernel_rfl) (.inr rfl) (by kernel_rfl) (lt:=Z35.L) (by kernel_rfl) (λb A h=>by
  unfold Z35.L at h;split at h
  ·cases h;exact⟨by kernel_rfl,by kernel_rfl,λ_=>rfl,λ_=>rfl⟩
  ·cases h) (λb A h=>by
  unfold Z35.L at h;split at h
  ·cases h;exact λk x=>Z35.step0 k x.1 x.2.2.1 x.2.2.2.1
  ·cases h) ((Z35.run k a0).trans h) (λr hr=>Q0i hr)
def Z44.F (k:Nat)(a0:ByteArray):Option ((List ByteArray)×Bool):=(Z59.F k a0).bind λr1=>bif (decide ((r1.length:Int)<=1))then(some (r1,false))else((Z78.F r1).bind λr2=>(Z35.F k r2).bind λr3=>bif ((r3.length:Int)==0)then(some (r1,true))else(some (r3,true)))
def Z44.C (k:Nat):Cal->Option CArm:=λc=>match c with
 |.f 42=>some (.p [.str] _ (λx=>Z59.F k x.1) (λr=>(.fr 9 .str r)))
 |.f 44=>some (.p [(.sl .str)] _ (λx=>Z78.F x.1) (λr=>(.fr 9 .str r)))
 |.f 43=>some (.mq (.fr 9 .str) [.clo 45 []] _ (λx0 x=>Z35.F k x0) (λr=>.mov 9 .str r))
 |_=>none
theorem Z44.run (k:Nat)(a0:ByteArray):QE Q0 (Qf (Z44.C k)) (Qc 20 0 (λ_=>none)) Tryz.f22 [.t .str a0] (YF (.fr 9 .str) (.t .bool))=Z44.F k a0:=by kernel_rfl
theorem Z44.G (hE:EnvOk Tryz.prog Q0)(pv:Nat->Value)(k:Nat):∀cal A,Z44.C k cal=some A->Qg Tryz.prog Q0 pv cal A:=by
 intro cal A h
 unfold Z44.C at h
 split at h
 ·cases h;exact λx y hy=>Z59.good hE pv k x.1 hy
 ·cases h;exact λx y hy=>Z78.good hE pv x.1 hy
 ·cases h;exact⟨_,rfl,λx0 x y hy=>Z35.good hE pv k x0 hy⟩
 ·cases h
theorem Z44.good (hE:EnvOk Tryz.prog Q0)(pv:Nat->Value)(k:Nat)(a0:ByteArray){y:_}(h:Z44.F k a0=some y):Qa Tryz.prog Q0 pv (.f 22) (Qb [.str] (a0,())) (.tup [.fr 9 .str y.1,.t .bool y.2]):=
 Qh hE (Z44.G hE pv k) (f:=22) (fn:=Tryz.f22) (by kernel_rfl) rfl (by kernel_rfl) (by kernel_rfl) ((Z44.run k a0).trans h) (λr hr=>Ya hr)
def Z49.F (a0:Int):Option (Bool):=(Z40.F a0).bind λr1=>bif r1 then(some true)else((Z38.F a0).bind λr2=>some r2)
def Z49.C:Cal->Option CArm:=λc=>match c with
 |.f 58=>some (.p [(.int .u8)] _ (λx=>Z40.F x.1) (λr=>(.t .bool r)))
 |.f 72=>some (.p [(.int .u8)] _ (λx=>Z38.F x.1) (λr=>(.t .bool r)))
 |_=>none
theorem Z49.run (a0:Int):QE Q0 (Qf Z49.C) (Qc 9 0 (λ_=>none)) Tryz.f67 [.t (.int .u8) a0] (Qe (.t .bool))=Z49.F a0:=by kernel_rfl
theorem Z49.G (hE:EnvOk Tryz.prog Q0)(pv:Nat->Value):∀cal A,Z49.C cal=some A->Qg Tryz.prog Q0 pv cal A:=by
 intro cal A h
 unfold Z49.C at h
 split at h
 ·cases h;exact λx y hy=>Z40.good hE pv x.1 hy
 ·cases h;exact λx y hy=>Z38.good hE pv x.1 hy
 ·cases h
theorem Z49.good (hE:EnvOk Tryz.prog Q0)(pv:Nat->Value)(a0:Int){y:_}(h:Z49.F a0=some y):Qa Tryz.prog Q0 pv (.f 67) (Qb [(.int .u8)] (a0,())) (.t .bool y):=
 Qh hE (Z49.G hE pv) (f:=67) (fn:=Tryz.f67) (by kernel_rfl) rfl (by kernel_rfl) (by kernel_rfl) ((Z49.run a0).trans h) (λr hr=>Q3 hr)
def Z22.l0:Nat->ByteArray->Int->Option (Sum Bool ByteArray)
 |0,_,_=>none
 |k+1,x0,x3=>bif (decide (x3<(x0.size:Int)))then(bif decide (0<=x3)then(bif decide (x3<(x0.size:Int))then((Z49.F (bt x0 (x3:Int).toNat)).bind λr1=>bif (!r1)then(some (.inl false))else(Z22.l0 k x0 (IntKind.wrap .i64 (x3+1))))else none)else none)else(some (.inr x0))
def Z22.F (k:Nat)(a0:ByteArray):Option (Bool):=(Z22.l0 k a0 0).bind λy2=>match y2 with|.inl z3=>some z3|.inr z3=>some (!Ql z3 (⟨#[]⟩:ByteArray))
def Z22.C (k:Nat):Cal->Option CArm:=λc=>match c with
 |.f 67=>some (.p [(.int .u8)] _ (λx=>Z49.F x.1) (λr=>(.t .bool r)))
 |_=>none
def Z22.sp0:List Sp:=[.t 0 .str,.t 3 (.int .i64)]
def Z22.sp0_0:List Sp:=[.t 2 .bool]
def Z22.sp0_1:List Sp:=[.t 0 .str]
def Z22.A0:LArm:=.two Z22.sp0 Z22.sp0_0 Z22.sp0_1 (Bool) (ByteArray) (λk x=>Z22.l0 k x.1 x.2.1) .ret (.exit 0) (λy=>(y,())) (λx=>x.1) (λy=>(y,())) (λx=>x.1)
def Z22.L:Nat->Option LArm:=λb=>match b with
 |0=>some Z22.A0
 |_=>none
theorem Z22.run (k:Nat)(a0:ByteArray):QE Q0 (Qf (Z22.C k)) (Qc 17 k Z22.L) Tryz.f46 [.t .str a0] (Qe (.t .bool))=Z22.F k a0:=by kernel_rfl
theorem Z22.step0 (k:Nat)(x0:ByteArray)(x3:Int):QJ Q0 (Qf (Z22.C k)) (Qc 17 k Z22.L) 0 (Qo Tryz.f46 0) (J1 17 Z22.sp0 (x0,x3,())) (Z22.A0.cont 17 k)=Z22.l0 (k+1) x0 x3:=by kernel_rfl
theorem Z22.G (hE:EnvOk Tryz.prog Q0)(pv:Nat->Value)(k:Nat):∀cal A,Z22.C k cal=some A->Qg Tryz.prog Q0 pv cal A:=by
 intro cal A h
 unfold Z22.C at h
 split at h
 ·cases h;exact λx y hy=>Z49.good hE pv x.1 hy
 ·cases h
theorem Z22.good (hE:EnvOk Tryz.prog Q0)(pv:Nat->Value)(k:Nat)(a0:ByteArray){y:_}(h:Z22.F k a0=some y):Qa Tryz.prog Q0 pv (.f 46) (Qb [.str] (a0,())) (.t .bool y):=
 Qi hE (t:=Z22.C) k (λk _=>Z22.G hE pv k) (f:=46) (fn:=Tryz.f46) (by kernel_rfl) rfl (by kernel_rfl) (by kernel_rfl) (lt:=Z22.L) (by kernel_rfl) (λb A h=>by
  unfold Z22.L at h;split at h
  ·cases h;exact⟨by kernel_rfl,by kernel_rfl,by kernel_rfl,λ_=>rfl,λ_=>rfl,λ_=>rfl⟩
  ·cases h) (λb A h=>by
  unfold Z22.L at h;split at h
  ·cases h;exact λk x=>Z22.step0 k x.1 x.2.1
  ·cases h) ((Z22.run k a0).trans h) (λr hr=>Q3 hr)
def Z72.F (a0:ByteArray)(a1:ByteArray):Option (ByteArray×Bool):=(Z46.F a0 a1).bind λr1=>bif (!r1)then(some (a0,false))else(bif decide (0<=(IntKind.wrap .i64 ((a0.size:Int)-(a1.size:Int))))then(bif decide ((IntKind.wrap .i64 ((a0.size:Int)-(a1.size:Int)))<=(a0.size:Int))then(some ((a0.extract 0 ((IntKind.wrap .i64 ((a0.size:Int)-(a1.size:Int))):Int).toNat),true))else none)else none)
def Z72.C:Cal->Option CArm:=λc=>match c with
 |.f 81=>some (.p [.str,.str] _ (λx=>Z46.F x.1 x.2.1) (λr=>(.t .bool r)))
 |_=>none
theorem Z72.run (a0:ByteArray)(a1:ByteArray):QE Q0 (Qf Z72.C) (Qc 18 0 (λ_=>none)) Tryz.f68 [.t .str a0,.t .str a1] (YF (.t .str) (.t .bool))=Z72.F a0 a1:=by kernel_rfl
theorem Z72.G (hE:EnvOk Tryz.prog Q0)(pv:Nat->Value):∀cal A,Z72.C cal=some A->Qg Tryz.prog Q0 pv cal A:=by
 intro cal A h
 unfold Z72.C at h
 split at h
 ·cases h;exact λx y hy=>Z46.good hE pv x.1 x.2.1 hy
 ·cases h
theorem Z72.good (hE:EnvOk Tryz.prog Q0)(pv:Nat->Value)(a0:ByteArray)(a1:ByteArray){y:_}(h:Z72.F a0 a1=some y):Qa Tryz.prog Q0 pv (.f 68) (Qb [.str,.str] (a0,a1,())) (.tup [.t .str y.1,.t .bool y.2]):=
 Qh hE (Z72.G hE pv) (f:=68) (fn:=Tryz.f68) (by kernel_rfl) rfl (by kernel_rfl) (by kernel_rfl) ((Z72.run a0 a1).trans h) (λr hr=>Ya hr)
def Z60.F (a0:ByteArray)(a1:ByteArray):Option (ByteArray×Bool):=(Z72.F a0 a1).bind λr1=>some (r1.1,r1.2)
def Z60.C:Cal->Option CArm:=λc=>match c with
 |.f 68=>some (.p [.str,.str] _ (λx=>Z72.F x.1 x.2.1) (λr=>(.tup [.t .str r.1,.t .bool r.2])))
 |_=>none
theorem Z60.run (a0:ByteArray)(a1:ByteArray):QE Q0 (Qf Z60.C) (Qc 11 0 (λ_=>none)) Tryz.f48 [.t .str a0,.t .str a1] (YF (.t .str) (.t .bool))=Z60.F a0 a1:=by kernel_rfl
theorem Z60.G (hE:EnvOk Tryz.prog Q0)(pv:Nat->Value):∀cal A,Z60.C cal=some A->Qg Tryz.prog Q0 pv cal A:=by
 intro cal A h
 unfold Z60.C at h
 split at h
 ·cases h;exact λx y hy=>Z72.good hE pv x.1 x.2.1 hy
 ·cases h
theorem Z60.good (hE:EnvOk Tryz.prog Q0)(pv:Nat->Value)(a0:ByteArray)(a1:ByteArray){y:_}(h:Z60.F a0 a1=some y):Qa Tryz.prog Q0 pv (.f 48) (Qb [.str,.str] (a0,a1,())) (.tup [.t .str y.1,.t .bool y.2]):=
 Qh hE (Z60.G hE pv) (f:=48) (fn:=Tryz.f48) (by kernel_rfl) rfl (by kernel_rfl) (by kernel_rfl) ((Z60.run a0 a1).trans h) (λr hr=>Ya hr)
def Z73.F (a0:ByteArray)(a1:ByteArray):Option (Bool):=bif (decide ((a0.size:Int) ≥ (a1.size:Int)))then(bif decide (0<=(a1.size:Int))then(bif decide ((a1.size:Int)<=(a0.size:Int))then(some (Ql (a0.extract 0 ((a1.size:Int):Int).toNat) a1))else none)else none)else(some false)
def Z73.C:Cal->Option CArm:=λc=>match c with
 |_=>none
theorem Z73.run (a0:ByteArray)(a1:ByteArray):QE Q0 (Qf Z73.C) (Qc 18 0 (λ_=>none)) Tryz.f69 [.t .str a0,.t .str a1] (Qe (.t .bool))=Z73.F a0 a1:=by kernel_rfl
theorem Z73.G (hE:EnvOk Tryz.prog Q0)(pv:Nat->Value):∀cal A,Z73.C cal=some A->Qg Tryz.prog Q0 pv cal A:=by
 intro cal A h
 unfold Z73.C at h
 cases h
theorem Z73.good (hE:EnvOk Tryz.prog Q0)(pv:Nat->Value)(a0:ByteArray)(a1:ByteArray){y:_}(h:Z73.F a0 a1=some y):Qa Tryz.prog Q0 pv (.f 69) (Qb [.str,.str] (a0,a1,())) (.t .bool y):=
 Qh hE (Z73.G hE pv) (f:=69) (fn:=Tryz.f69) (by kernel_rfl) rfl (by kernel_rfl) (by kernel_rfl) ((Z73.run a0 a1).trans h) (λr hr=>Q3 hr)
def Z61.F (a0:ByteArray)(a1:ByteArray):Option (Bool):=(Z73.F a0 a1).bind λr1=>some r1
def Z61.C:Cal->Option CArm:=λc=>match c with
 |.f 69=>some (.p [.str,.str] _ (λx=>Z73.F x.1 x.2.1) (λr=>(.t .bool r)))
 |_=>none
theorem Z61.run (a0:ByteArray)(a1:ByteArray):QE Q0 (Qf Z61.C) (Qc 8 0 (λ_=>none)) Tryz.f49 [.t .str a0,.t .str a1] (Qe (.t .bool))=Z61.F a0 a1:=by kernel_rfl
theorem Z61.G (hE:EnvOk Tryz.prog Q0)(pv:Nat->Value):∀cal A,Z61.C cal=some A->Qg Tryz.prog Q0 pv cal A:=by
 intro cal A h
 unfold Z61.C at h
 split at h
 ·cases h;exact λx y hy=>Z73.good hE pv x.1 x.2.1 hy
 ·cases h
theorem Z61.good (hE:EnvOk Tryz.prog Q0)(pv:Nat->Value)(a0:ByteArray)(a1:ByteArray){y:_}(h:Z61.F a0 a1=some y):Qa Tryz.prog Q0 pv (.f 49) (Qb [.str,.str] (a0,a1,())) (.t .bool y):=
 Qh hE (Z61.G hE pv) (f:=49) (fn:=Tryz.f49) (by kernel_rfl) rfl (by kernel_rfl) (by kernel_rfl) ((Z61.run a0 a1).trans h) (λr hr=>Q3 hr)
def Z5.l0:Nat->(List Abbr)->ByteArray->Int->(List Abbr)->Int->Int->Option (Sum Int Int)
 |0,_,_,_,_,_,_=>none
 |k+1,x0,x5,x6,x16,x17,x18=>bif (decide (x18<x17))then(bif decide (0<=x18)then(bif decide (x18<(x16.length:Int))then(bif (Ql ((x16.getD (x18:Int).toNat (Q9 .abbr)).word) x5)then(some (.inl x18))else((Z60.F ((x16.getD (x18:Int).toNat (Q9 .abbr)).word) (⟨#[45]⟩:ByteArray)).bind λr3=>bif r3.2 then((Z61.F x5 r3.1).bind λr4=>bif r4 then(bif (decide (x6<0))then(Z5.l0 k x0 x5 x18 x16 x17 (IntKind.wrap .i64 (x18+1)))else(bif decide (0<=x6)then(bif decide (x6<(x0.length:Int))then(bif (decide ((((x16.getD (x18:Int).toNat (Q9 .abbr)).word).size:Int) > (((x0.getD (x6:Int).toNat (Q9 .abbr)).word).size:Int)))then(Z5.l0 k x0 x5 x18 x16 x17 (IntKind.wrap .i64 (x18+1)))else(Z5.l0 k x0 x5 x6 x16 x17 (IntKind.wrap .i64 (x18+1))))else none)else none))else(Z5.l0 k x0 x5 x6 x16 x17 (IntKind.wrap .i64 (x18+1))))else(Z5.l0 k x0 x5 x6 x16 x17 (IntKind.wrap .i64 (x18+1)))))else none)else none)else(some (.inr x6))
def Z5.F (k:Nat)(a0:List Abbr)(a1:ByteArray):Option (Int):=(Z22.F k a1).bind λr1=>bif (!r1)then(some (-1))else((Z14.F k a1).bind λr2=>(Z5.l0 k a0 r2 (-1) a0 (a0.length:Int) 0).bind λy5=>match y5 with|.inl z6=>some z6|.inr z6=>some z6)
def Z5.C (k:Nat):Cal->Option CArm:=λc=>match c with
 |.f 46=>some (.p [.str] _ (λx=>Z22.F k x.1) (λr=>(.t .bool r)))
 |.f 47=>some (.p [.str] _ (λx=>Z14.F k x.1) (λr=>(.t .str r)))
 |.f 48=>some (.p [.str,.str] _ (λx=>Z60.F x.1 x.2.1) (λr=>(.tup [.t .str r.1,.t .bool r.2])))
 |.f 49=>some (.p [.str,.str] _ (λx=>Z61.F x.1 x.2.1) (λr=>(.t .bool r)))
 |_=>none
def Z5.sp0:List Sp:=[.t 0 (.sl .abbr),.t 5 .str,.t 6 (.int .i64),.t 16 (.sl .abbr),.t 17 (.int .i64),.t 18 (.int .i64)]
def Z5.sp0_0:List Sp:=[.t 4 (.int .i64)]
def Z5.sp0_1:List Sp:=[.t 6 (.int .i64)]
def Z5.A0:LArm:=.two Z5.sp0 Z5.sp0_0 Z5.sp0_1 (Int) (Int) (λk x=>Z5.l0 k x.1 x.2.1 x.2.2.1 x.2.2.2.1 x.2.2.2.2.1 x.2.2.2.2.2.1) .ret (.exit 0) (λy=>(y,())) (λx=>x.1) (λy=>(y,())) (λx=>x.1)
def Z5.L:Nat->Option LArm:=λb=>match b with
 |0=>some Z5.A0
 |_=>none
theorem Z5.run (k:Nat)(a0:List Abbr)(a1:ByteArray):QE Q0 (Qf (Z5.C k)) (Qc 59 k Z5.L) Tryz.f23 [.t (.sl .abbr) a0,.t .str a1] (Qe (.t (.int .i64)))=Z5.F k a0 a1:=by kernel_rfl
theorem Z5.step0 (k:Nat)(x0:List Abbr)(x5:ByteArray)(x6:Int)(x16:List Abbr)(x17:Int)(x18:Int):QJ Q0 (Qf (Z5.C k)) (Qc 59 k Z5.L) 0 (Qo Tryz.f23 0) (J1 59 Z5.sp0 (x0,x5,x6,x16,x17,x18,())) (Z5.A0.cont 59 k)=Z5.l0 (k+1) x0 x5 x6 x16 x17 x18:=by kernel_rfl
theorem Z5.G (hE:EnvOk Tryz.prog Q0)(pv:Nat->Value)(k:Nat):∀cal A,Z5.C k cal=some A->Qg Tryz.prog Q0 pv cal A:=by
 intro cal A h
 unfold Z5.C at h
 split at h
 ·cases h;exact λx y hy=>Z22.good hE pv k x.1 hy
 ·cases h;exact λx y hy=>Z14.good hE pv k x.1 hy
 ·cases h;exact λx y hy=>Z60.good hE pv x.1 x.2.1 hy
 ·cases h;exact λx y hy=>Z61.good hE pv x.1 x.2.1 hy
 ·cases h
theorem Z5.good (hE:EnvOk Tryz.prog Q0)(pv:Nat->Value)(k:Nat)(a0:List Abbr)(a1:ByteArray){y:_}(h:Z5.F k a0 a1=some y):Qa Tryz.prog Q0 pv (.f 23) (Qb [(.sl .abbr),.str] (a0,a1,())) (.t (.int .i64) y):=
 Qi hE (t:=Z5.C) k (λk _=>Z5.G hE pv k) (f:=23) (fn:=Tryz.f23) (by kernel_rfl) rfl (by kernel_rfl) (by kernel_rfl) (lt:=Z5.L) (by kernel_rfl) (λb A h=>by
  unfold Z5.L at h;split at h
  ·cases h;exact⟨by kernel_rfl,by kernel_rfl,by kernel_rfl,λ_=>rfl,λ_=>rfl,λ_=>rfl⟩
  ·cases h) (λb A h=>by
  unfold Z5.L at h;split at h
  ·cases h;exact λk x=>Z5.step0 k x.1 x.2.1 x.2.2.1 x.2.2.2.1 x.2.2.2.2.1 x.2.2.2.2.2.1
  ·cases h) ((Z5.run k a0 a1).trans h) (λr hr=>Q3 hr)
def Z62.F (a0:Int):Option (Int):=(Z38.F a0).bind λr1=>bif r1 then(some (IntKind.wrap .u8 (a0-32)))else(some a0)
def Z62.C:Cal->Option CArm:=λc=>match c with
 |.f 72=>some (.p [(.int .u8)] _ (λx=>Z38.F x.1) (λr=>(.t .bool r)))
 |_=>none
theorem Z62.run (a0:Int):QE Q0 (Qf Z62.C) (Qc 8 0 (λ_=>none)) Tryz.f75 [.t (.int .u8) a0] (Qe (.t (.int .u8)))=Z62.F a0:=by kernel_rfl
theorem Z62.G (hE:EnvOk Tryz.prog Q0)(pv:Nat->Value):∀cal A,Z62.C cal=some A->Qg Tryz.prog Q0 pv cal A:=by
 intro cal A h
 unfold Z62.C at h
 split at h
 ·cases h;exact λx y hy=>Z38.good hE pv x.1 hy
 ·cases h
theorem Z62.good (hE:EnvOk Tryz.prog Q0)(pv:Nat->Value)(a0:Int){y:_}(h:Z62.F a0=some y):Qa Tryz.prog Q0 pv (.f 75) (Qb [(.int .u8)] (a0,())) (.t (.int .u8) y):=
 Qh hE (Z62.G hE pv) (f:=75) (fn:=Tryz.f75) (by kernel_rfl) rfl (by kernel_rfl) (by kernel_rfl) ((Z62.run a0).trans h) (λr hr=>Q3 hr)
def Z28.l0:Nat->(List Int)->Int->Int->Option ((List Int))
 |0,_,_,_=>none
 |k+1,x3,x9,x10=>bif (decide (x10<x9))then(bif decide (0<=x10)then(bif decide (x10<(x3.length:Int))then((Z49.F (x3.getD ((x10:Int).toNat) 0)).bind λr1=>bif r1 then((Z62.F (x3.getD ((x10:Int).toNat) 0)).bind λr2=>bif decide (0<=x10)then(bif decide (x10<(x3.length:Int))then(some (x3.set ((x10:Int).toNat) r2))else none)else none)else(Z28.l0 k x3 x9 (IntKind.wrap .i64 (x10+1))))else none)else none)else(some x3)
def Z28.F (k:Nat)(a0:ByteArray):Option (ByteArray):=bif Nat.ble a0.size 9223372036854775807 then((Z28.l0 k (Q6 a0) ((Q6 a0).length:Int) 0).bind λy3=>some (YU y3))else none
def Z28.C (k:Nat):Cal->Option CArm:=λc=>match c with
 |.f 67=>some (.p [(.int .u8)] _ (λx=>Z49.F x.1) (λr=>(.t .bool r)))
 |.f 75=>some (.p [(.int .u8)] _ (λx=>Z62.F x.1) (λr=>(.t (.int .u8) r)))
 |_=>none
def Z28.sp0:List Sp:=[.own 3 1028 5 (.int .u8) false false,.con 8 (.own 1028),.t 9 (.int .i64),.t 10 (.int .i64)]
def Z28.sp0_0:List Sp:=[.own 3 1028 5 (.int .u8) false false]
def Z28.A0:LArm:=.one Z28.sp0 Z28.sp0_0 ((List Int)) (λk x=>Z28.l0 k x.1 x.2.2.1 x.2.2.2.1) (.exit 0) (λy=>(y,())) (λx=>x.1)
def Z28.L:Nat->Option LArm:=λb=>match b with
 |0=>some Z28.A0
 |_=>none
theorem Z28.run (k:Nat)(a0:ByteArray):QE Q0 (Qf (Z28.C k)) (Qc 25 k Z28.L) Tryz.f59 [.t .str a0] (Qe (.t .str))=Z28.F k a0:=by kernel_rfl
theorem Z28.step0 (k:Nat)(x3:List Int)(x9:Int)(x10:Int):QJ Q0 (Qf (Z28.C k)) (Qc 25 k Z28.L) 0 (Qo Tryz.f59 0) (J1 25 Z28.sp0 (x3,(),x9,x10,())) (Z28.A0.cont 25 k)=Z28.l0 (k+1) x3 x9 x10:=by kernel_rfl
theorem Z28.G (hE:EnvOk Tryz.prog Q0)(pv:Nat->Value)(k:Nat):∀cal A,Z28.C k cal=some A->Qg Tryz.prog Q0 pv cal A:=by
 intro cal A h
 unfold Z28.C at h
 split at h
 ·cases h;exact λx y hy=>Z49.good hE pv x.1 hy
 ·cases h;exact λx y hy=>Z62.good hE pv x.1 hy
 ·cases h
theorem Z28.good (hE:EnvOk Tryz.prog Q0)(pv:Nat->Value)(k:Nat)(a0:ByteArray){y:_}(h:Z28.F k a0=some y):Qa Tryz.prog Q0 pv (.f 59) (Qb [.str] (a0,())) (.t .str y):=
 Qi hE (t:=Z28.C) k (λk _=>Z28.G hE pv k) (f:=59) (fn:=Tryz.f59) (by kernel_rfl) rfl (by kernel_rfl) (by kernel_rfl) (lt:=Z28.L) (by kernel_rfl) (λb A h=>by
  unfold Z28.L at h;split at h
  ·cases h;exact⟨by kernel_rfl,by kernel_rfl,λ_=>rfl,λ_=>rfl⟩
  ·cases h) (λb A h=>by
  unfold Z28.L at h;split at h
  ·cases h;exact λk x=>Z28.step0 k x.1 x.2.2.1 x.2.2.2.1
  ·cases h) ((Z28.run k a0).trans h) (λr hr=>Q3 hr)
def Z51.F (k:Nat)(a0:List Abbr)(a1:ByteArray):Option (ByteArray):=(Z5.F k a0 a1).bind λr1=>bif (decide (r1<0))then(some a1)else(bif decide (0<=0)then(bif decide (0<(a1.size:Int))then((Z40.F (bt a1 (0:Int).toNat)).bind λr2=>bif r2 then(bif decide (0<=r1)then(bif decide (r1<(a0.length:Int))then((Z28.F k ((a0.getD (r1:Int).toNat (Q9 .abbr)).short)).bind λr3=>some r3)else none)else none)else(bif decide (0<=r1)then(bif decide (r1<(a0.length:Int))then(some ((a0.getD (r1:Int).toNat (Q9 .abbr)).short))else none)else none))else none)else none)
def Z51.C (k:Nat):Cal->Option CArm:=λc=>match c with
 |.f 23=>some (.p [(.sl .abbr),.str] _ (λx=>Z5.F k x.1 x.2.1) (λr=>(.t (.int .i64) r)))
 |.f 58=>some (.p [(.int .u8)] _ (λx=>Z40.F x.1) (λr=>(.t .bool r)))
 |.f 59=>some (.p [.str] _ (λx=>Z28.F k x.1) (λr=>(.t .str r)))
 |_=>none
theorem Z51.run (k:Nat)(a0:List Abbr)(a1:ByteArray):QE Q0 (Qf (Z51.C k)) (Qc 28 0 (λ_=>none)) Tryz.f35 [.t (.sl .abbr) a0,.t .str a1] (Qe (.t .str))=Z51.F k a0 a1:=by kernel_rfl
theorem Z51.G (hE:EnvOk Tryz.prog Q0)(pv:Nat->Value)(k:Nat):∀cal A,Z51.C k cal=some A->Qg Tryz.prog Q0 pv cal A:=by
 intro cal A h
 unfold Z51.C at h
 split at h
 ·cases h;exact λx y hy=>Z5.good hE pv k x.1 x.2.1 hy
 ·cases h;exact λx y hy=>Z40.good hE pv x.1 hy
 ·cases h;exact λx y hy=>Z28.good hE pv k x.1 hy
 ·cases h
theorem Z51.good (hE:EnvOk Tryz.prog Q0)(pv:Nat->Value)(k:Nat)(a0:List Abbr)(a1:ByteArray){y:_}(h:Z51.F k a0 a1=some y):Qa Tryz.prog Q0 pv (.f 35) (Qb [(.sl .abbr),.str] (a0,a1,())) (.t .str y):=
 Qh hE (Z51.G hE pv k) (f:=35) (fn:=Tryz.f35) (by kernel_rfl) rfl (by kernel_rfl) (by kernel_rfl) ((Z51.run k a0 a1).trans h) (λr hr=>Q3 hr)
def Z74.F (a0:List ByteArray)(a1:ByteArray):Option (ByteArray):=Q4Z a0 a1
theorem Z74.good (hE:EnvOk Tryz.prog Q0)(pv:Nat->Value)(a0:List ByteArray)(a1:ByteArray){y:_}(h:Z74.F a0 a1=some y):Qa Tryz.prog Q0 pv (.f 36) (Qb [(.sl .str),.str] (a0,a1,())) (.t .str y):=
 Q7p (fn:=Tryz.f36) (by kernel_rfl) rfl (by kernel_rfl) Tryz.strings_Join_none Tryz.strings_Join h
def Z8.l0:Nat->(List Abbr)->(List ByteArray)->Int->Int->Option ((List ByteArray))
 |0,_,_,_,_=>none
 |k+1,x0,x5,x15,x16=>bif (decide (x16<x15))then(bif decide (0<=x16)then(bif decide (x16<(x5.length:Int))then((Z51.F k x0 (x5.getD ((x16:Int).toNat) (⟨#[]⟩:ByteArray))).bind λr2=>bif decide (0<=x16)then(bif decide (x16<(x5.length:Int))then(Z8.l0 k x0 (x5.set ((x16:Int).toNat) r2) x15 (IntKind.wrap .i64 (x16+1)))else none)else none)else none)else none)else(some x5)
def Z8.F (k:Nat)(a0:List Abbr)(a1:ByteArray):Option (ByteArray):=(Z44.F k a1).bind λr1=>bif r1.2 then((Z8.l0 k a0 r1.1 (r1.1.length:Int) 0).bind λy3=>(Z74.F y3 (⟨#[32]⟩:ByteArray)).bind λr4=>some r4)else((Z74.F r1.1 (⟨#[32]⟩:ByteArray)).bind λr5=>some r5)
def Z8.C (k:Nat):Cal->Option CArm:=λc=>match c with
 |.f 22=>some (.p [.str] _ (λx=>Z44.F k x.1) (λr=>(.tup [.fr 9 .str r.1,.t .bool r.2])))
 |.f 35=>some (.p [(.sl .abbr),.str] _ (λx=>Z51.F k x.1 x.2.1) (λr=>(.t .str r)))
 |.f 36=>some (.p [(.sl .str),.str] _ (λx=>Z74.F x.1 x.2.1) (λr=>(.t .str r)))
 |_=>none
def Z8.sp0:List Sp:=[.t 0 (.sl .abbr),.own 5 1028 9 .str false true,.t 15 (.int .i64),.t 16 (.int .i64)]
def Z8.sp0_0:List Sp:=[.own 5 1028 9 .str false true]
def Z8.A0:LArm:=.one Z8.sp0 Z8.sp0_0 ((List ByteArray)) (λk x=>Z8.l0 k x.1 x.2.1 x.2.2.1 x.2.2.2.1) (.exit 0) (λy=>(y,())) (λx=>x.1)
def Z8.L:Nat->Option LArm:=λb=>match b with
 |0=>some Z8.A0
 |_=>none
theorem Z8.run (k:Nat)(a0:List Abbr)(a1:ByteArray):QE Q0 (Qf (Z8.C k)) (Qc 31 k Z8.L) Tryz.f16 [.t (.sl .abbr) a0,.t .str a1] (Qe (.t .str))=Z8.F k a0 a1:=by kernel_rfl
theorem Z8.step0 (k:Nat)(x0:List Abbr)(x5:List ByteArray)(x15:Int)(x16:Int):QJ Q0 (Qf (Z8.C k)) (Qc 31 k Z8.L) 0 (Qo Tryz.f16 0) (J1 31 Z8.sp0 (x0,x5,x15,x16,())) (Z8.A0.cont 31 k)=Z8.l0 (k+1) x0 x5 x15 x16:=by kernel_rfl
theorem Z8.G (hE:EnvOk Tryz.prog Q0)(pv:Nat->Value)(k:Nat):∀cal A,Z8.C k cal=some A->Qg Tryz.prog Q0 pv cal A:=by
 intro cal A h
 unfold Z8.C at h
 split at h
 ·cases h;exact λx y hy=>Z44.good hE pv k x.1 hy
 ·cases h;exact λx y hy=>Z51.good hE pv k x.1 x.2.1 hy
 ·cases h;exact λx y hy=>Z74.good hE pv x.1 x.2.1 hy
 ·cases h
theorem Z8.good (hE:EnvOk Tryz.prog Q0)(pv:Nat->Value)(k:Nat)(a0:List Abbr)(a1:ByteArray){y:_}(h:Z8.F k a0 a1=some y):Qa Tryz.prog Q0 pv (.f 16) (Qb [(.sl .abbr),.str] (a0,a1,())) (.t .str y):=
 Qi hE (t:=Z8.C) k (λk _=>Z8.G hE pv k) (f:=16) (fn:=Tryz.f16) (by kernel_rfl) rfl (by kernel_rfl) (by kernel_rfl) (lt:=Z8.L) (by kernel_rfl) (λb A h=>by
  unfold Z8.L at h;split at h
  ·cases h;exact⟨by kernel_rfl,by kernel_rfl,λ_=>rfl,λ_=>rfl⟩
  ·cases h) (λb A h=>by
  unfold Z8.L at h;split at h
  ·cases h;exact λk x=>Z8.step0 k x.1 x.2.1 x.2.2.1 x.2.2.2.1
  ·cases h) ((Z8.run k a0 a1).trans h) (λr hr=>Q3 hr)
def Z54.F (k:Nat)(a0:ByteArray)(a1:ByteArray)(a2:List Abbr)(a3:ByteArray):Option (Bool):=bif (!Ql a0 a1)then((Z8.F k a2 a0).bind λr1=>some (Ql r1 a3))else(some false)
def Z54.C (k:Nat):Cal->Option CArm:=λc=>match c with
 |.f 16=>some (.p [(.sl .abbr),.str] _ (λx=>Z8.F k x.1 x.2.1) (λr=>(.t .str r)))
 |_=>none
theorem Z54.run (k:Nat)(a0:ByteArray)(a1:ByteArray)(a2:List Abbr)(a3:ByteArray):QE Q0 (Qf (Z54.C k)) (Qc 16 0 (λ_=>none)) Tryz.f18 [.t .str a0,.tp (.t .str a1),.tp (.t (.sl .abbr) a2),.tp (.t .str a3)] (Qe (.t .bool))=Z54.F k a0 a1 a2 a3:=by kernel_rfl
theorem Z54.G (hE:EnvOk Tryz.prog Q0)(pv:Nat->Value)(k:Nat):∀cal A,Z54.C k cal=some A->Qg Tryz.prog Q0 pv cal A:=by
 intro cal A h
 unfold Z54.C at h
 split at h
 ·cases h;exact λx y hy=>Z8.good hE pv k x.1 x.2.1 hy
 ·cases h
theorem Z54.good (hE:EnvOk Tryz.prog Q0)(pv:Nat->Value)(k:Nat)(a0:ByteArray)(a1:ByteArray)(a2:List Abbr)(a3:ByteArray){y:_}(h:Z54.F k a0 a1 a2 a3=some y):Qa Tryz.prog Q0 pv (.f 18) (Yq [.t .str,.tp .str,.tp (.sl .abbr),.tp .str] (a0,a1,a2,a3,())) (.t .bool y):=
 Qh hE (Z54.G hE pv k) (f:=18) (fn:=Tryz.f18) (by kernel_rfl) rfl (by kernel_rfl) (by kernel_rfl) ((Z54.run k a0 a1 a2 a3).trans h) (λr hr=>Q3 hr)
def Z33.l0:Nat->(List ByteArray)->ByteArray->(List Abbr)->ByteArray->Int->Int->Option (Sum Int Unit)
 |0,_,_,_,_,_,_=>none
 |k+1,x0,x1_0,x1_1,x1_2,x7,x8=>bif (decide (x8<x7))then(bif decide (0<=x8)then(bif decide (x8<(x0.length:Int))then((Z54.F k (x0.getD (x8:Int).toNat (⟨#[]⟩:ByteArray)) x1_0 x1_1 x1_2).bind λr1=>bif r1 then(some (.inl x8))else(Z33.l0 k x0 x1_0 x1_1 x1_2 x7 (IntKind.wrap .i64 (x8+1))))else none)else none)else(some (.inr ()))
def Z33.F (k:Nat)(a0:List ByteArray)(a1c0:ByteArray)(a1c1:List Abbr)(a1c2:ByteArray):Option (Int):=(Z33.l0 k a0 a1c0 a1c1 a1c2 (a0.length:Int) 0).bind λy2=>match y2 with|.inl z3=>some z3|.inr z3=>some (-1)
def Z33.C (k:Nat):Cal->Option CArm:=λc=>match c with
 |.f 18=>some (.q [.t .str,.tp .str,.tp (.sl .abbr),.tp .str] _ (λx=>Z54.F k x.1 x.2.1 x.2.2.1 x.2.2.2.1) (λr=>(.t .bool r)))
 |_=>none
def Z33.sp0:List Sp:=[.t 0 (.sl .str),.cl 1 18 [.tp .str,.tp (.sl .abbr),.tp .str],.t 7 (.int .i64),.t 8 (.int .i64)]
def Z33.sp0_0:List Sp:=[.t 4 (.int .i64)]
def Z33.sp0_1:List Sp:=[]
def Z33.A0:LArm:=.two Z33.sp0 Z33.sp0_0 Z33.sp0_1 (Int) (Unit) (λk x=>Z33.l0 k x.1 x.2.1.1 x.2.1.2.1 x.2.1.2.2.1 x.2.2.1 x.2.2.2.1) .ret (.exit 0) (λy=>(y,())) (λx=>x.1) (λy=>()) (λx=>())
def Z33.L:Nat->Option LArm:=λb=>match b with
 |0=>some Z33.A0
 |_=>none
theorem Z33.run (k:Nat)(a0:List ByteArray)(a1c0:ByteArray)(a1c1:List Abbr)(a1c2:ByteArray):QE Q0 (Qf (Z33.C k)) (Qc 19 k Z33.L) Tryz.f37 [.t (.sl .str) a0,.clo 18 [.tp (.t .str a1c0),.tp (.t (.sl .abbr) a1c1),.tp (.t .str a1c2)]] (Qe (.t (.int .i64)))=Z33.F k a0 a1c0 a1c1 a1c2:=by kernel_rfl
theorem Z33.step0 (k:Nat)(x0:List ByteArray)(x1_0:ByteArray)(x1_1:List Abbr)(x1_2:ByteArray)(x7:Int)(x8:Int):QJ Q0 (Qf (Z33.C k)) (Qc 19 k Z33.L) 0 (Qo Tryz.f37 0) (J1 19 Z33.sp0 (x0,(x1_0,x1_1,x1_2,()),x7,x8,())) (Z33.A0.cont 19 k)=Z33.l0 (k+1) x0 x1_0 x1_1 x1_2 x7 x8:=by kernel_rfl
theorem Z33.G (hE:EnvOk Tryz.prog Q0)(pv:Nat->Value)(k:Nat):∀cal A,Z33.C k cal=some A->Qg Tryz.prog Q0 pv cal A:=by
 intro cal A h
 unfold Z33.C at h
 split at h
 ·cases h;exact λx y hy=>Z54.good hE pv k x.1 x.2.1 x.2.2.1 x.2.2.2.1 hy
 ·cases h
theorem Z33.good (hE:EnvOk Tryz.prog Q0)(pv:Nat->Value)(k:Nat)(a0:List ByteArray)(a1c0:ByteArray)(a1c1:List Abbr)(a1c2:ByteArray){y:_}(h:Z33.F k a0 a1c0 a1c1 a1c2=some y):Qa Tryz.prog Q0 pv (.f 37) (Yq [.t (.sl .str),.clo 18 [.tp .str,.tp (.sl .abbr),.tp .str]] (a0,(a1c0,a1c1,a1c2,()),())) (.t (.int .i64) y):=
 Qi hE (t:=Z33.C) k (λk _=>Z33.G hE pv k) (f:=37) (fn:=Tryz.f37) (by kernel_rfl) rfl (by kernel_rfl) (by kernel_rfl) (lt:=Z33.L) (by kernel_rfl) (λb A h=>by
  unfold Z33.L at h;split at h
  ·cases h;exact⟨by kernel_rfl,by kernel_rfl,by kernel_rfl,λ_=>rfl,λ_=>rfl,λ_=>rfl⟩
  ·cases h) (λb A h=>by
  unfold Z33.L at h;split at h
  ·cases h;exact λk x=>Z33.step0 k x.1 x.2.1.1 x.2.1.2.1 x.2.1.2.2.1 x.2.2.1 x.2.2.2.1
  ·cases h) ((Z33.run k a0 a1c0 a1c1 a1c2).trans h) (λr hr=>Q3 hr)
def Z63.F (k:Nat)(a0:List ByteArray)(a1c0:ByteArray)(a1c1:List Abbr)(a1c2:ByteArray):Option (Bool):=(Z33.F k a0 a1c0 a1c1 a1c2).bind λr1=>some (decide (r1 ≥ 0))
def Z63.C (k:Nat):Cal->Option CArm:=λc=>match c with
 |.f 37=>some (.q [.t (.sl .str),.clo 18 [.tp .str,.tp (.sl .abbr),.tp .str]] _ (λx=>Z33.F k x.1 x.2.1.1 x.2.1.2.1 x.2.1.2.2.1) (λr=>(.t (.int .i64) r)))
 |_=>none
theorem Z63.run (k:Nat)(a0:List ByteArray)(a1c0:ByteArray)(a1c1:List Abbr)(a1c2:ByteArray):QE Q0 (Qf (Z63.C k)) (Qc 9 0 (λ_=>none)) Tryz.f17 [.t (.sl .str) a0,.clo 18 [.tp (.t .str a1c0),.tp (.t (.sl .abbr) a1c1),.tp (.t .str a1c2)]] (Qe (.t .bool))=Z63.F k a0 a1c0 a1c1 a1c2:=by kernel_rfl
theorem Z63.G (hE:EnvOk Tryz.prog Q0)(pv:Nat->Value)(k:Nat):∀cal A,Z63.C k cal=some A->Qg Tryz.prog Q0 pv cal A:=by
 intro cal A h
 unfold Z63.C at h
 split at h
 ·cases h;exact λx y hy=>Z33.good hE pv k x.1 x.2.1.1 x.2.1.2.1 x.2.1.2.2.1 hy
 ·cases h
theorem Z63.good (hE:EnvOk Tryz.prog Q0)(pv:Nat->Value)(k:Nat)(a0:List ByteArray)(a1c0:ByteArray)(a1c1:List Abbr)(a1c2:ByteArray){y:_}(h:Z63.F k a0 a1c0 a1c1 a1c2=some y):Qa Tryz.prog Q0 pv (.f 17) (Yq [.t (.sl .str),.clo 18 [.tp .str,.tp (.sl .abbr),.tp .str]] (a0,(a1c0,a1c1,a1c2,()),())) (.t .bool y):=
 Qh hE (Z63.G hE pv k) (f:=17) (fn:=Tryz.f17) (by kernel_rfl) rfl (by kernel_rfl) (by kernel_rfl) ((Z63.run k a0 a1c0 a1c1 a1c2).trans h) (λr hr=>Q3 hr)
def Z18.l0:Nat->(List ByteArray)->(List Abbr)->(List ByteArray)->(List ByteArray)->Int->Int->Option ((List ByteArray))
 |0,_,_,_,_,_,_=>none
 |k+1,x1,x2,x6,x15,x16,x17=>bif (decide (x17<x16))then(bif decide (0<=x17)then(bif decide (x17<(x15.length:Int))then((Z8.F k x2 (x15.getD (x17:Int).toNat (⟨#[]⟩:ByteArray))).bind λr2=>(Z63.F k x1 (x15.getD (x17:Int).toNat (⟨#[]⟩:ByteArray)) x2 r2).bind λr3=>bif r3 then(bif room (x6.length+([(x15.getD (x17:Int).toNat (⟨#[]⟩:ByteArray))]:List ByteArray).length) .str then(Z18.l0 k x1 x2 (x6++([(x15.getD (x17:Int).toNat (⟨#[]⟩:ByteArray))]:List ByteArray)) x15 x16 (IntKind.wrap .i64 (x17+1)))else none)else(bif room (x6.length+([r2]:List ByteArray).length) .str then(Z18.l0 k x1 x2 (x6++([r2]:List ByteArray)) x15 x16 (IntKind.wrap .i64 (x17+1)))else none))else none)else none)else(some x6)
def Z18.F (k:Nat)(a0:List Abbr)(a1:List ByteArray):Option ((List ByteArray)×Bool):=(Z48.F k a0 a1).bind λr1=>bif (!r1)then(some ([],false))else((Z18.l0 k a1 a0 ([]:List ByteArray) a1 (a1.length:Int) 0).bind λy4=>some (y4,true))
def Z18.C (k:Nat):Cal->Option CArm:=λc=>match c with
 |.f 15=>some (.p [(.sl .abbr),(.sl .str)] _ (λx=>Z48.F k x.1 x.2.1) (λr=>(.t .bool r)))
 |.f 16=>some (.p [(.sl .abbr),.str] _ (λx=>Z8.F k x.1 x.2.1) (λr=>(.t .str r)))
 |.f 17=>some (.q [.t (.sl .str),.clo 18 [.tp .str,.tp (.sl .abbr),.tp .str]] _ (λx=>Z63.F k x.1 x.2.1.1 x.2.1.2.1 x.2.1.2.2.1) (λr=>(.t .bool r)))
 |_=>none
def Z18.sp0:List Sp:=[.t 1 (.sl .str),.boxT 2 0 (.sl .abbr),.own 6 3072 9 .str false true,.t 15 (.sl .str),.t 16 (.int .i64),.t 17 (.int .i64)]
def Z18.sp0_0:List Sp:=[.own 6 3072 9 .str false true]
def Z18.A0:LArm:=.one Z18.sp0 Z18.sp0_0 ((List ByteArray)) (λk x=>Z18.l0 k x.1 x.2.1 x.2.2.1 x.2.2.2.1 x.2.2.2.2.1 x.2.2.2.2.2.1) (.exit 0) (λy=>(y,())) (λx=>x.1)
def Z18.L:Nat->Option LArm:=λb=>match b with
 |0=>some Z18.A0
 |_=>none
theorem Z18.run (k:Nat)(a0:List Abbr)(a1:List ByteArray):QE Q0 (Qf (Z18.C k)) (Qc 34 k Z18.L) Tryz.f6 [.t (.sl .abbr) a0,.t (.sl .str) a1] (YF (.fr 9 .str) (.t .bool))=Z18.F k a0 a1:=by kernel_rfl
theorem Z18.step0 (k:Nat)(x1:List ByteArray)(x2:List Abbr)(x6:List ByteArray)(x15:List ByteArray)(x16:Int)(x17:Int):QJ Q0 (Qf (Z18.C k)) (Qc 34 k Z18.L) 0 (Qo Tryz.f6 0) (J1 34 Z18.sp0 (x1,x2,x6,x15,x16,x17,())) (Z18.A0.cont 34 k)=Z18.l0 (k+1) x1 x2 x6 x15 x16 x17:=by kernel_rfl
theorem Z18.G (hE:EnvOk Tryz.prog Q0)(pv:Nat->Value)(k:Nat):∀cal A,Z18.C k cal=some A->Qg Tryz.prog Q0 pv cal A:=by
 intro cal A h
 unfold Z18.C at h
 split at h
 ·cases h;exact λx y hy=>Z48.good hE pv k x.1 x.2.1 hy
 ·cases h;exact λx y hy=>Z8.good hE pv k x.1 x.2.1 hy
 ·cases h;exact λx y hy=>Z63.good hE pv k x.1 x.2.1.1 x.2.1.2.1 x.2.1.2.2.1 hy
 ·cases h
theorem Z18.good (hE:EnvOk Tryz.prog Q0)(pv:Nat->Value)(k:Nat)(a0:List Abbr)(a1:List ByteArray){y:_}(h:Z18.F k a0 a1=some y):Qa Tryz.prog Q0 pv (.f 6) (Qb [(.sl .abbr),(.sl .str)] (a0,a1,())) (.tup [.fr 9 .str y.1,.t .bool y.2]):=
 Qi hE (t:=Z18.C) k (λk _=>Z18.G hE pv k) (f:=6) (fn:=Tryz.f6) (by kernel_rfl) rfl (by kernel_rfl) (by kernel_rfl) (lt:=Z18.L) (by kernel_rfl) (λb A h=>by
  unfold Z18.L at h;split at h
  ·cases h;exact⟨by kernel_rfl,by kernel_rfl,λ_=>rfl,λ_=>rfl⟩
  ·cases h) (λb A h=>by
  unfold Z18.L at h;split at h
  ·cases h;exact λk x=>Z18.step0 k x.1 x.2.1 x.2.2.1 x.2.2.2.1 x.2.2.2.2.1 x.2.2.2.2.2.1
  ·cases h) ((Z18.run k a0 a1).trans h) (λr hr=>Ya hr)
def Z42.F (a0:ByteArray)(a1:Int):Option (ByteArray):=bif (!Ql a0 (⟨#[]⟩:ByteArray))then(bif decide (0<=(IntKind.wrap .i64 ((a0.size:Int)-1)))then(bif decide ((IntKind.wrap .i64 ((a0.size:Int)-1))<(a0.size:Int))then(bif ((bt a0 ((IntKind.wrap .i64 ((a0.size:Int)-1)):Int).toNat)==a1)then(bif decide (0<=(IntKind.wrap .i64 ((a0.size:Int)-1)))then(bif decide ((IntKind.wrap .i64 ((a0.size:Int)-1))<=(a0.size:Int))then(some (a0.extract 0 ((IntKind.wrap .i64 ((a0.size:Int)-1)):Int).toNat))else none)else none)else(some a0))else none)else none)else(some a0)
def Z42.C:Cal->Option CArm:=λc=>match c with
 |_=>none
theorem Z42.run (a0:ByteArray)(a1:Int):QE Q0 (Qf Z42.C) (Qc 22 0 (λ_=>none)) Tryz.f54 [.t .str a0,.t (.int .u8) a1] (Qe (.t .str))=Z42.F a0 a1:=by kernel_rfl
theorem Z42.G (hE:EnvOk Tryz.prog Q0)(pv:Nat->Value):∀cal A,Z42.C cal=some A->Qg Tryz.prog Q0 pv cal A:=by
 intro cal A h
 unfold Z42.C at h
 cases h
theorem Z42.good (hE:EnvOk Tryz.prog Q0)(pv:Nat->Value)(a0:ByteArray)(a1:Int){y:_}(h:Z42.F a0 a1=some y):Qa Tryz.prog Q0 pv (.f 54) (Qb [.str,(.int .u8)] (a0,a1,())) (.t .str y):=
 Qh hE (Z42.G hE pv) (f:=54) (fn:=Tryz.f54) (by kernel_rfl) rfl (by kernel_rfl) (by kernel_rfl) ((Z42.run a0 a1).trans h) (λr hr=>Q3 hr)
def Z64.F (a0:Int)(a1:Int)(a2:Int):Option (Bool):=bif (decide (a0 ≥ a1))then(some (decide (a0<=a2)))else(some false)
def Z64.C:Cal->Option CArm:=λc=>match c with
 |_=>none
theorem Z64.run (a0:Int)(a1:Int)(a2:Int):QE Q0 (Qf Z64.C) (Qc 15 0 (λ_=>none)) Tryz.f78 [.t (.int .i64) a0,.t (.int .i64) a1,.t (.int .i64) a2] (Qe (.t .bool))=Z64.F a0 a1 a2:=by kernel_rfl
theorem Z64.G (hE:EnvOk Tryz.prog Q0)(pv:Nat->Value):∀cal A,Z64.C cal=some A->Qg Tryz.prog Q0 pv cal A:=by
 intro cal A h
 unfold Z64.C at h
 cases h
theorem Z64.good (hE:EnvOk Tryz.prog Q0)(pv:Nat->Value)(a0:Int)(a1:Int)(a2:Int){y:_}(h:Z64.F a0 a1 a2=some y):Qa Tryz.prog Q0 pv (.f 78) (Qb [(.int .i64),(.int .i64),(.int .i64)] (a0,a1,a2,())) (.t .bool y):=
 Qh hE (Z64.G hE pv) (f:=78) (fn:=Tryz.f78) (by kernel_rfl) rfl (by kernel_rfl) (by kernel_rfl) ((Z64.run a0 a1 a2).trans h) (λr hr=>Q3 hr)
def Z19.l0:Nat->ByteArray->Int->Int->Int->Option (Sum Bool (ByteArray×Int×Int))
 |0,_,_,_,_=>none
 |k+1,x0,x1,x2,x7=>bif (decide (x7<(x0.size:Int)))then(bif decide (0<=x7)then(bif decide (x7<(x0.size:Int))then(bif (decide ((bt x0 (x7:Int).toNat)<97))then(some (.inl false))else(bif decide (0<=x7)then(bif decide (x7<(x0.size:Int))then(bif (decide ((bt x0 (x7:Int).toNat) > 122))then(some (.inl false))else(Z19.l0 k x0 x1 x2 (IntKind.wrap .i64 (x7+1))))else none)else none))else none)else none)else(some (.inr (x0,x1,x2)))
def Z19.F (k:Nat)(a0:ByteArray)(a1:Int)(a2:Int):Option (Bool):=(Z19.l0 k a0 a1 a2 0).bind λy1=>match y1 with|.inl z2=>some z2|.inr z2=>(Z64.F (z2.1.size:Int) z2.2.1 z2.2.2).bind λr3=>some r3
def Z19.C (k:Nat):Cal->Option CArm:=λc=>match c with
 |.f 78=>some (.p [(.int .i64),(.int .i64),(.int .i64)] _ (λx=>Z64.F x.1 x.2.1 x.2.2.1) (λr=>(.t .bool r)))
 |_=>none
def Z19.sp0:List Sp:=[.t 0 .str,.t 1 (.int .i64),.t 2 (.int .i64),.t 7 (.int .i64)]
def Z19.sp0_0:List Sp:=[.t 6 .bool]
def Z19.sp0_1:List Sp:=[.t 0 .str,.t 1 (.int .i64),.t 2 (.int .i64)]
def Z19.A0:LArm:=.two Z19.sp0 Z19.sp0_0 Z19.sp0_1 (Bool) (ByteArray×Int×Int) (λk x=>Z19.l0 k x.1 x.2.1 x.2.2.1 x.2.2.2.1) .ret (.exit 0) (λy=>(y,())) (λx=>x.1) (λy=>(y.1,y.2.1,y.2.2,())) (λx=>(x.1,x.2.1,x.2.2.1))
def Z19.L:Nat->Option LArm:=λb=>match b with
 |0=>some Z19.A0
 |_=>none
theorem Z19.run (k:Nat)(a0:ByteArray)(a1:Int)(a2:Int):QE Q0 (Qf (Z19.C k)) (Qc 29 k Z19.L) Tryz.f63 [.t .str a0,.t (.int .i64) a1,.t (.int .i64) a2] (Qe (.t .bool))=Z19.F k a0 a1 a2:=by kernel_rfl
theorem Z19.step0 (k:Nat)(x0:ByteArray)(x1:Int)(x2:Int)(x7:Int):QJ Q0 (Qf (Z19.C k)) (Qc 29 k Z19.L) 0 (Qo Tryz.f63 0) (J1 29 Z19.sp0 (x0,x1,x2,x7,())) (Z19.A0.cont 29 k)=Z19.l0 (k+1) x0 x1 x2 x7:=by kernel_rfl
theorem Z19.G (hE:EnvOk Tryz.prog Q0)(pv:Nat->Value)(k:Nat):∀cal A,Z19.C k cal=some A->Qg Tryz.prog Q0 pv cal A:=by
 intro cal A h
 unfold Z19.C at h
 split at h
 ·cases h;exact λx y hy=>Z64.good hE pv x.1 x.2.1 x.2.2.1 hy
 ·cases h
theorem Z19.good (hE:EnvOk Tryz.prog Q0)(pv:Nat->Value)(k:Nat)(a0:ByteArray)(a1:Int)(a2:Int){y:_}(h:Z19.F k a0 a1 a2=some y):Qa Tryz.prog Q0 pv (.f 63) (Qb [.str,(.int .i64),(.int .i64)] (a0,a1,a2,())) (.t .bool y):=
 Qi hE (t:=Z19.C) k (λk _=>Z19.G hE pv k) (f:=63) (fn:=Tryz.f63) (by kernel_rfl) rfl (by kernel_rfl) (by kernel_rfl) (lt:=Z19.L) (by kernel_rfl) (λb A h=>by
  unfold Z19.L at h;split at h
  ·cases h;exact⟨by kernel_rfl,by kernel_rfl,by kernel_rfl,λ_=>rfl,λ_=>rfl,λ_=>rfl⟩
  ·cases h) (λb A h=>by
  unfold Z19.L at h;split at h
  ·cases h;exact λk x=>Z19.step0 k x.1 x.2.1 x.2.2.1 x.2.2.2.1
  ·cases h) ((Z19.run k a0 a1 a2).trans h) (λr hr=>Q3 hr)
def Z65.F (k:Nat)(a0:Abbr):Option (Bool):=(Z42.F a0.word 45).bind λr1=>(Z19.F k r1 2 15).bind λr2=>bif r2 then((Z42.F a0.short 46).bind λr3=>(Z19.F k r3 1 12).bind λr4=>some r4)else(some false)
def Z65.C (k:Nat):Cal->Option CArm:=λc=>match c with
 |.f 54=>some (.p [.str,(.int .u8)] _ (λx=>Z42.F x.1 x.2.1) (λr=>(.t .str r)))
 |.f 63=>some (.p [.str,(.int .i64),(.int .i64)] _ (λx=>Z19.F k x.1 x.2.1 x.2.2.1) (λr=>(.t .bool r)))
 |_=>none
theorem Z65.run (k:Nat)(a0:Abbr):QE Q0 (Qf (Z65.C k)) (Qc 13 0 (λ_=>none)) Tryz.f38 [.t .abbr a0] (Qe (.t .bool))=Z65.F k a0:=by kernel_rfl
theorem Z65.G (hE:EnvOk Tryz.prog Q0)(pv:Nat->Value)(k:Nat):∀cal A,Z65.C k cal=some A->Qg Tryz.prog Q0 pv cal A:=by
 intro cal A h
 unfold Z65.C at h
 split at h
 ·cases h;exact λx y hy=>Z42.good hE pv x.1 x.2.1 hy
 ·cases h;exact λx y hy=>Z19.good hE pv k x.1 x.2.1 x.2.2.1 hy
 ·cases h
theorem Z65.good (hE:EnvOk Tryz.prog Q0)(pv:Nat->Value)(k:Nat)(a0:Abbr){y:_}(h:Z65.F k a0=some y):Qa Tryz.prog Q0 pv (.f 38) (Qb [.abbr] (a0,())) (.t .bool y):=
 Qh hE (Z65.G hE pv k) (f:=38) (fn:=Tryz.f38) (by kernel_rfl) rfl (by kernel_rfl) (by kernel_rfl) ((Z65.run k a0).trans h) (λr hr=>Q3 hr)
def Z6.l0:Nat->(List Abbr)->Int->Option (Sum Bool (List Abbr))
 |0,_,_=>none
 |k+1,x0,x3=>bif (decide (x3<(x0.length:Int)))then(bif (decide (x3<=15))then(bif decide (0<=x3)then(bif decide (x3<(x0.length:Int))then((Z65.F k (x0.getD (x3:Int).toNat (Q9 .abbr))).bind λr1=>bif (!r1)then(some (.inl false))else(bif (decide (x3 > 0))then(bif decide (0<=(IntKind.wrap .i64 (x3-1)))then(bif decide ((IntKind.wrap .i64 (x3-1))<(x0.length:Int))then(bif decide (0<=x3)then(bif decide (x3<(x0.length:Int))then(bif (!ltS ((x0.getD ((IntKind.wrap .i64 (x3-1)):Int).toNat (Q9 .abbr)).word) ((x0.getD (x3:Int).toNat (Q9 .abbr)).word))then(some (.inl false))else(Z6.l0 k x0 (IntKind.wrap .i64 (x3+1))))else none)else none)else none)else none)else(Z6.l0 k x0 (IntKind.wrap .i64 (x3+1)))))else none)else none)else(some (.inr x0)))else(some (.inr x0))
def Z6.F (k:Nat)(a0:List Abbr):Option (Bool):=(Z6.l0 k a0 0).bind λy2=>match y2 with|.inl z3=>some z3|.inr z3=>some (decide ((z3.length:Int)<=15))
def Z6.C (k:Nat):Cal->Option CArm:=λc=>match c with
 |.f 38=>some (.p [.abbr] _ (λx=>Z65.F k x.1) (λr=>(.t .bool r)))
 |_=>none
def Z6.sp0:List Sp:=[.t 0 (.sl .abbr),.t 3 (.int .i64)]
def Z6.sp0_0:List Sp:=[.t 2 .bool]
def Z6.sp0_1:List Sp:=[.t 0 (.sl .abbr)]
def Z6.A0:LArm:=.two Z6.sp0 Z6.sp0_0 Z6.sp0_1 (Bool) ((List Abbr)) (λk x=>Z6.l0 k x.1 x.2.1) .ret (.exit 0) (λy=>(y,())) (λx=>x.1) (λy=>(y,())) (λx=>x.1)
def Z6.L:Nat->Option LArm:=λb=>match b with
 |0=>some Z6.A0
 |_=>none
theorem Z6.run (k:Nat)(a0:List Abbr):QE Q0 (Qf (Z6.C k)) (Qc 41 k Z6.L) Tryz.f19 [.t (.sl .abbr) a0] (Qe (.t .bool))=Z6.F k a0:=by kernel_rfl
theorem Z6.step0 (k:Nat)(x0:List Abbr)(x3:Int):QJ Q0 (Qf (Z6.C k)) (Qc 41 k Z6.L) 0 (Qo Tryz.f19 0) (J1 41 Z6.sp0 (x0,x3,())) (Z6.A0.cont 41 k)=Z6.l0 (k+1) x0 x3:=by kernel_rfl
theorem Z6.G (hE:EnvOk Tryz.prog Q0)(pv:Nat->Value)(k:Nat):∀cal A,Z6.C k cal=some A->Qg Tryz.prog Q0 pv cal A:=by
 intro cal A h
 unfold Z6.C at h
 split at h
 ·cases h;exact λx y hy=>Z65.good hE pv k x.1 hy
 ·cases h
theorem Z6.good (hE:EnvOk Tryz.prog Q0)(pv:Nat->Value)(k:Nat)(a0:List Abbr){y:_}(h:Z6.F k a0=some y):Qa Tryz.prog Q0 pv (.f 19) (Qb [(.sl .abbr)] (a0,())) (.t .bool y):=
 Qi hE (t:=Z6.C) k (λk _=>Z6.G hE pv k) (f:=19) (fn:=Tryz.f19) (by kernel_rfl) rfl (by kernel_rfl) (by kernel_rfl) (lt:=Z6.L) (by kernel_rfl) (λb A h=>by
  unfold Z6.L at h;split at h
  ·cases h;exact⟨by kernel_rfl,by kernel_rfl,by kernel_rfl,λ_=>rfl,λ_=>rfl,λ_=>rfl⟩
  ·cases h) (λb A h=>by
  unfold Z6.L at h;split at h
  ·cases h;exact λk x=>Z6.step0 k x.1 x.2.1
  ·cases h) ((Z6.run k a0).trans h) (λr hr=>Q3 hr)
def Z23.l0:Nat->ByteArray->Int->Option (Sum Bool ByteArray)
 |0,_,_=>none
 |k+1,x0,x3=>bif (decide (x3<(x0.size:Int)))then(bif decide (0<=x3)then(bif decide (x3<(x0.size:Int))then(bif (decide ((bt x0 (x3:Int).toNat)<32))then(some (.inl false))else(bif decide (0<=x3)then(bif decide (x3<(x0.size:Int))then(bif (decide ((bt x0 (x3:Int).toNat) > 126))then(some (.inl false))else(Z23.l0 k x0 (IntKind.wrap .i64 (x3+1))))else none)else none))else none)else none)else(some (.inr x0))
def Z23.F (k:Nat)(a0:ByteArray):Option (Bool):=bif (decide ((a0.size:Int) > 40))then(some false)else((Z23.l0 k a0 0).bind λy1=>match y1 with|.inl z2=>some z2|.inr z2=>bif (Ql z2 (⟨#[]⟩:ByteArray))then(some true)else(bif decide (0<=0)then(bif decide (0<(z2.size:Int))then(bif ((bt z2 (0:Int).toNat) != 32)then(bif decide (0<=(IntKind.wrap .i64 ((z2.size:Int)-1)))then(bif decide ((IntKind.wrap .i64 ((z2.size:Int)-1))<(z2.size:Int))then(some ((bt z2 ((IntKind.wrap .i64 ((z2.size:Int)-1)):Int).toNat) != 32))else none)else none)else(some false))else none)else none))
def Z23.C (k:Nat):Cal->Option CArm:=λc=>match c with
 |_=>none
def Z23.sp0:List Sp:=[.t 0 .str,.t 3 (.int .i64)]
def Z23.sp0_0:List Sp:=[.t 2 .bool]
def Z23.sp0_1:List Sp:=[.t 0 .str]
def Z23.A0:LArm:=.two Z23.sp0 Z23.sp0_0 Z23.sp0_1 (Bool) (ByteArray) (λk x=>Z23.l0 k x.1 x.2.1) .ret (.exit 0) (λy=>(y,())) (λx=>x.1) (λy=>(y,())) (λx=>x.1)
def Z23.L:Nat->Option LArm:=λb=>match b with
 |0=>some Z23.A0
 |_=>none
theorem Z23.run (k:Nat)(a0:ByteArray):QE Q0 (Qf (Z23.C k)) (Qc 38 k Z23.L) Tryz.f39 [.t .str a0] (Qe (.t .bool))=Z23.F k a0:=by kernel_rfl
theorem Z23.step0 (k:Nat)(x0:ByteArray)(x3:Int):QJ Q0 (Qf (Z23.C k)) (Qc 38 k Z23.L) 0 (Qo Tryz.f39 0) (J1 38 Z23.sp0 (x0,x3,())) (Z23.A0.cont 38 k)=Z23.l0 (k+1) x0 x3:=by kernel_rfl
theorem Z23.G (hE:EnvOk Tryz.prog Q0)(pv:Nat->Value)(k:Nat):∀cal A,Z23.C k cal=some A->Qg Tryz.prog Q0 pv cal A:=by
 intro cal A h
 unfold Z23.C at h
 cases h
theorem Z23.good (hE:EnvOk Tryz.prog Q0)(pv:Nat->Value)(k:Nat)(a0:ByteArray){y:_}(h:Z23.F k a0=some y):Qa Tryz.prog Q0 pv (.f 39) (Qb [.str] (a0,())) (.t .bool y):=
 Qi hE (t:=Z23.C) k (λk _=>Z23.G hE pv k) (f:=39) (fn:=Tryz.f39) (by kernel_rfl) rfl (by kernel_rfl) (by kernel_rfl) (lt:=Z23.L) (by kernel_rfl) (λb A h=>by
  unfold Z23.L at h;split at h
  ·cases h;exact⟨by kernel_rfl,by kernel_rfl,by kernel_rfl,λ_=>rfl,λ_=>rfl,λ_=>rfl⟩
  ·cases h) (λb A h=>by
  unfold Z23.L at h;split at h
  ·cases h;exact λk x=>Z23.step0 k x.1 x.2.1
  ·cases h) ((Z23.run k a0).trans h) (λr hr=>Q3 hr)
def Z12.l0:Nat->(List ByteArray)->Int->Option (Sum Bool (List ByteArray))
 |0,_,_=>none
 |k+1,x0,x3=>bif (decide (x3<(x0.length:Int)))then(bif decide (0<=x3)then(bif decide (x3<(x0.length:Int))then((Z23.F k (x0.getD (x3:Int).toNat (⟨#[]⟩:ByteArray))).bind λr1=>bif (!r1)then(some (.inl false))else(Z12.l0 k x0 (IntKind.wrap .i64 (x3+1))))else none)else none)else(some (.inr x0))
def Z12.F (k:Nat)(a0:List ByteArray):Option (Bool):=(Z12.l0 k a0 0).bind λy2=>match y2 with|.inl z3=>some z3|.inr z3=>some (decide ((z3.length:Int)<=20))
def Z12.C (k:Nat):Cal->Option CArm:=λc=>match c with
 |.f 39=>some (.p [.str] _ (λx=>Z23.F k x.1) (λr=>(.t .bool r)))
 |_=>none
def Z12.sp0:List Sp:=[.t 0 (.sl .str),.t 3 (.int .i64)]
def Z12.sp0_0:List Sp:=[.t 2 .bool]
def Z12.sp0_1:List Sp:=[.t 0 (.sl .str)]
def Z12.A0:LArm:=.two Z12.sp0 Z12.sp0_0 Z12.sp0_1 (Bool) ((List ByteArray)) (λk x=>Z12.l0 k x.1 x.2.1) .ret (.exit 0) (λy=>(y,())) (λx=>x.1) (λy=>(y,())) (λx=>x.1)
def Z12.L:Nat->Option LArm:=λb=>match b with
 |0=>some Z12.A0
 |_=>none
theorem Z12.run (k:Nat)(a0:List ByteArray):QE Q0 (Qf (Z12.C k)) (Qc 19 k Z12.L) Tryz.f20 [.t (.sl .str) a0] (Qe (.t .bool))=Z12.F k a0:=by kernel_rfl
theorem Z12.step0 (k:Nat)(x0:List ByteArray)(x3:Int):QJ Q0 (Qf (Z12.C k)) (Qc 19 k Z12.L) 0 (Qo Tryz.f20 0) (J1 19 Z12.sp0 (x0,x3,())) (Z12.A0.cont 19 k)=Z12.l0 (k+1) x0 x3:=by kernel_rfl
theorem Z12.G (hE:EnvOk Tryz.prog Q0)(pv:Nat->Value)(k:Nat):∀cal A,Z12.C k cal=some A->Qg Tryz.prog Q0 pv cal A:=by
 intro cal A h
 unfold Z12.C at h
 split at h
 ·cases h;exact λx y hy=>Z23.good hE pv k x.1 hy
 ·cases h
theorem Z12.good (hE:EnvOk Tryz.prog Q0)(pv:Nat->Value)(k:Nat)(a0:List ByteArray){y:_}(h:Z12.F k a0=some y):Qa Tryz.prog Q0 pv (.f 20) (Qb [(.sl .str)] (a0,())) (.t .bool y):=
 Qi hE (t:=Z12.C) k (λk _=>Z12.G hE pv k) (f:=20) (fn:=Tryz.f20) (by kernel_rfl) rfl (by kernel_rfl) (by kernel_rfl) (lt:=Z12.L) (by kernel_rfl) (λb A h=>by
  unfold Z12.L at h;split at h
  ·cases h;exact⟨by kernel_rfl,by kernel_rfl,by kernel_rfl,λ_=>rfl,λ_=>rfl,λ_=>rfl⟩
  ·cases h) (λb A h=>by
  unfold Z12.L at h;split at h
  ·cases h;exact λk x=>Z12.step0 k x.1 x.2.1
  ·cases h) ((Z12.run k a0).trans h) (λr hr=>Q3 hr)
def Z10.l0:Nat->ByteArray->(List ByteArray)->Int->Int->Option ((List ByteArray))
 |0,_,_,_,_=>none
 |k+1,x0,x3,x4,x5=>bif (decide (x5<=(x0.size:Int)))then(bif (x5==(x0.size:Int))then(bif (decide (x5 > x4))then(bif decide (0<=x5)then(bif decide (x5<=(x0.size:Int))then(bif decide (0<=x4)then(bif decide (x4<=x5)then(bif room (x3.length+([(x0.extract (x4:Int).toNat (x5:Int).toNat)]:List ByteArray).length) .str then(Z10.l0 k x0 (x3++([(x0.extract (x4:Int).toNat (x5:Int).toNat)]:List ByteArray)) (IntKind.wrap .i64 (x5+1)) (IntKind.wrap .i64 (x5+1)))else none)else none)else none)else none)else none)else(Z10.l0 k x0 x3 (IntKind.wrap .i64 (x5+1)) (IntKind.wrap .i64 (x5+1))))else(bif decide (0<=x5)then(bif decide (x5<(x0.size:Int))then(bif ((bt x0 (x5:Int).toNat)==32)then(bif (decide (x5 > x4))then(bif decide (0<=x5)then(bif decide (x5<=(x0.size:Int))then(bif decide (0<=x4)then(bif decide (x4<=x5)then(bif room (x3.length+([(x0.extract (x4:Int).toNat (x5:Int).toNat)]:List ByteArray).length) .str then(Z10.l0 k x0 (x3++([(x0.extract (x4:Int).toNat (x5:Int).toNat)]:List ByteArray)) (IntKind.wrap .i64 (x5+1)) (IntKind.wrap .i64 (x5+1)))else none)else none)else none)else none)else none)else(Z10.l0 k x0 x3 (IntKind.wrap .i64 (x5+1)) (IntKind.wrap .i64 (x5+1))))else(Z10.l0 k x0 x3 x4 (IntKind.wrap .i64 (x5+1))))else none)else none))else(some x3)
def Z10.F (k:Nat)(a0:ByteArray):Option (List ByteArray):=(Z10.l0 k a0 ([]:List ByteArray) 0 0).bind λy1=>some y1
def Z10.C (k:Nat):Cal->Option CArm:=λc=>match c with
 |_=>none
def Z10.sp0:List Sp:=[.t 0 .str,.own 3 1024 9 .str false true,.t 4 (.int .i64),.t 5 (.int .i64)]
def Z10.sp0_0:List Sp:=[.own 3 1024 9 .str false true]
def Z10.A0:LArm:=.one Z10.sp0 Z10.sp0_0 ((List ByteArray)) (λk x=>Z10.l0 k x.1 x.2.1 x.2.2.1 x.2.2.2.1) (.exit 0) (λy=>(y,())) (λx=>x.1)
def Z10.L:Nat->Option LArm:=λb=>match b with
 |0=>some Z10.A0
 |_=>none
theorem Z10.run (k:Nat)(a0:ByteArray):QE Q0 (Qf (Z10.C k)) (Qc 36 k Z10.L) Tryz.f50 [.t .str a0] (Qe (.fr 9 .str))=Z10.F k a0:=by kernel_rfl
theorem Z10.step0 (k:Nat)(x0:ByteArray)(x3:List ByteArray)(x4:Int)(x5:Int):QJ Q0 (Qf (Z10.C k)) (Qc 36 k Z10.L) 0 (Qo Tryz.f50 0) (J1 36 Z10.sp0 (x0,x3,x4,x5,())) (Z10.A0.cont 36 k)=Z10.l0 (k+1) x0 x3 x4 x5:=by kernel_rfl
theorem Z10.G (hE:EnvOk Tryz.prog Q0)(pv:Nat->Value)(k:Nat):∀cal A,Z10.C k cal=some A->Qg Tryz.prog Q0 pv cal A:=by
 intro cal A h
 unfold Z10.C at h
 cases h
theorem Z10.good (hE:EnvOk Tryz.prog Q0)(pv:Nat->Value)(k:Nat)(a0:ByteArray){y:_}(h:Z10.F k a0=some y):Qa Tryz.prog Q0 pv (.f 50) (Qb [.str] (a0,())) (.fr 9 .str y):=
 Qi hE (t:=Z10.C) k (λk _=>Z10.G hE pv k) (f:=50) (fn:=Tryz.f50) (by kernel_rfl) rfl (by kernel_rfl) (by kernel_rfl) (lt:=Z10.L) (by kernel_rfl) (λb A h=>by
  unfold Z10.L at h;split at h
  ·cases h;exact⟨by kernel_rfl,by kernel_rfl,λ_=>rfl,λ_=>rfl⟩
  ·cases h) (λb A h=>by
  unfold Z10.L at h;split at h
  ·cases h;exact λk x=>Z10.step0 k x.1 x.2.1 x.2.2.1 x.2.2.2.1
  ·cases h) ((Z10.run k a0).trans h) (λr hr=>Q3 hr)
def Z66.F (a0:Int):Option (Int):=bif (decide (a0 ≥ 65))then(bif (decide (a0<=90))then(some (IntKind.wrap .u8 (a0+32)))else(some a0))else(some a0)
def Z66.C:Cal->Option CArm:=λc=>match c with
 |_=>none
theorem Z66.run (a0:Int):QE Q0 (Qf Z66.C) (Qc 12 0 (λ_=>none)) Tryz.f70 [.t (.int .u8) a0] (Qe (.t (.int .u8)))=Z66.F a0:=by kernel_rfl
theorem Z66.G (hE:EnvOk Tryz.prog Q0)(pv:Nat->Value):∀cal A,Z66.C cal=some A->Qg Tryz.prog Q0 pv cal A:=by
 intro cal A h
 unfold Z66.C at h
 cases h
theorem Z66.good (hE:EnvOk Tryz.prog Q0)(pv:Nat->Value)(a0:Int){y:_}(h:Z66.F a0=some y):Qa Tryz.prog Q0 pv (.f 70) (Qb [(.int .u8)] (a0,())) (.t (.int .u8) y):=
 Qh hE (Z66.G hE pv) (f:=70) (fn:=Tryz.f70) (by kernel_rfl) rfl (by kernel_rfl) (by kernel_rfl) ((Z66.run a0).trans h) (λr hr=>Q3 hr)
def Z20.l0:Nat->ByteArray->(List Int)->Int->Option ((List Int))
 |0,_,_,_=>none
 |k+1,x0,x3,x4=>bif (decide (x4<(x0.size:Int)))then(bif decide (0<=x4)then(bif decide (x4<(x0.size:Int))then((Z66.F (bt x0 (x4:Int).toNat)).bind λr1=>bif room (x3.length+([r1]:List Int).length) (.int .u8)then(Z20.l0 k x0 (x3++([r1]:List Int)) (IntKind.wrap .i64 (x4+1)))else none)else none)else none)else(some x3)
def Z20.F (k:Nat)(a0:ByteArray):Option (ByteArray):=(Z20.l0 k a0 ([]:List Int) 0).bind λy2=>some (YU y2)
def Z20.C (k:Nat):Cal->Option CArm:=λc=>match c with
 |.f 70=>some (.p [(.int .u8)] _ (λx=>Z66.F x.1) (λr=>(.t (.int .u8) r)))
 |_=>none
def Z20.sp0:List Sp:=[.t 0 .str,.own 3 1024 5 (.int .u8) false true,.t 4 (.int .i64)]
def Z20.sp0_0:List Sp:=[.own 3 1024 5 (.int .u8) false true]
def Z20.A0:LArm:=.one Z20.sp0 Z20.sp0_0 ((List Int)) (λk x=>Z20.l0 k x.1 x.2.1 x.2.2.1) (.exit 0) (λy=>(y,())) (λx=>x.1)
def Z20.L:Nat->Option LArm:=λb=>match b with
 |0=>some Z20.A0
 |_=>none
theorem Z20.run (k:Nat)(a0:ByteArray):QE Q0 (Qf (Z20.C k)) (Qc 21 k Z20.L) Tryz.f53 [.t .str a0] (Qe (.t .str))=Z20.F k a0:=by kernel_rfl
theorem Z20.step0 (k:Nat)(x0:ByteArray)(x3:List Int)(x4:Int):QJ Q0 (Qf (Z20.C k)) (Qc 21 k Z20.L) 0 (Qo Tryz.f53 0) (J1 21 Z20.sp0 (x0,x3,x4,())) (Z20.A0.cont 21 k)=Z20.l0 (k+1) x0 x3 x4:=by kernel_rfl
theorem Z20.G (hE:EnvOk Tryz.prog Q0)(pv:Nat->Value)(k:Nat):∀cal A,Z20.C k cal=some A->Qg Tryz.prog Q0 pv cal A:=by
 intro cal A h
 unfold Z20.C at h
 split at h
 ·cases h;exact λx y hy=>Z66.good hE pv x.1 hy
 ·cases h
theorem Z20.good (hE:EnvOk Tryz.prog Q0)(pv:Nat->Value)(k:Nat)(a0:ByteArray){y:_}(h:Z20.F k a0=some y):Qa Tryz.prog Q0 pv (.f 53) (Qb [.str] (a0,())) (.t .str y):=
 Qi hE (t:=Z20.C) k (λk _=>Z20.G hE pv k) (f:=53) (fn:=Tryz.f53) (by kernel_rfl) rfl (by kernel_rfl) (by kernel_rfl) (lt:=Z20.L) (by kernel_rfl) (λb A h=>by
  unfold Z20.L at h;split at h
  ·cases h;exact⟨by kernel_rfl,by kernel_rfl,λ_=>rfl,λ_=>rfl⟩
  ·cases h) (λb A h=>by
  unfold Z20.L at h;split at h
  ·cases h;exact λk x=>Z20.step0 k x.1 x.2.1 x.2.2.1
  ·cases h) ((Z20.run k a0).trans h) (λr hr=>Q3 hr)
def Z67.F (k:Nat)(a0:ByteArray):Option (Bool):=(Z20.F k a0).bind λr1=>bif (Ql r1 (⟨#[97]⟩:ByteArray))then(bif (Ql r1 (⟨#[97]⟩:ByteArray))then(some true)else(some false))else(bif (Ql r1 (⟨#[97,110]⟩:ByteArray))then(bif (Ql r1 (⟨#[97,110]⟩:ByteArray))then(some true)else(some false))else(bif (Ql r1 (⟨#[97,110,100]⟩:ByteArray))then(bif (Ql r1 (⟨#[97,110,100]⟩:ByteArray))then(some true)else(some false))else(bif (Ql r1 (⟨#[102,111,114]⟩:ByteArray))then(bif (Ql r1 (⟨#[102,111,114]⟩:ByteArray))then(some true)else(some false))else(bif (Ql r1 (⟨#[105,110]⟩:ByteArray))then(bif (Ql r1 (⟨#[105,110]⟩:ByteArray))then(some true)else(some false))else(bif (Ql r1 (⟨#[111,102]⟩:ByteArray))then(bif (Ql r1 (⟨#[111,102]⟩:ByteArray))then(some true)else(some false))else(bif (Ql r1 (⟨#[111,110]⟩:ByteArray))then(bif (Ql r1 (⟨#[111,110]⟩:ByteArray))then(some true)else(some false))else(bif (Ql r1 (⟨#[116,104,101]⟩:ByteArray))then(some true)else(some false))))))))
def Z67.C (k:Nat):Cal->Option CArm:=λc=>match c with
 |.f 53=>some (.p [.str] _ (λx=>Z20.F k x.1) (λr=>(.t .str r)))
 |_=>none
theorem Z67.run (k:Nat)(a0:ByteArray):QE Q0 (Qf (Z67.C k)) (Qc 14 0 (λ_=>none)) Tryz.f51 [.t .str a0] (Qe (.t .bool))=Z67.F k a0:=by kernel_rfl
theorem Z67.G (hE:EnvOk Tryz.prog Q0)(pv:Nat->Value)(k:Nat):∀cal A,Z67.C k cal=some A->Qg Tryz.prog Q0 pv cal A:=by
 intro cal A h
 unfold Z67.C at h
 split at h
 ·cases h;exact λx y hy=>Z20.good hE pv k x.1 hy
 ·cases h
theorem Z67.good (hE:EnvOk Tryz.prog Q0)(pv:Nat->Value)(k:Nat)(a0:ByteArray){y:_}(h:Z67.F k a0=some y):Qa Tryz.prog Q0 pv (.f 51) (Qb [.str] (a0,())) (.t .bool y):=
 Qh hE (Z67.G hE pv k) (f:=51) (fn:=Tryz.f51) (by kernel_rfl) rfl (by kernel_rfl) (by kernel_rfl) ((Z67.run k a0).trans h) (λr hr=>Q3 hr)
def Z15.l0:Nat->(List ByteArray)->(List ByteArray)->Int->Option ((List ByteArray)× (List ByteArray))
 |0,_,_,_=>none
 |k+1,x4,x5,x6=>bif (decide (x6<(x4.length:Int)))then(bif decide (0<=x6)then(bif decide (x6<(x4.length:Int))then((Z67.F k (x4.getD ((x6:Int).toNat) (⟨#[]⟩:ByteArray))).bind λr2=>bif (!r2)then(bif decide (0<=x6)then(bif decide (x6<(x4.length:Int))then(bif room (x5.length+([(x4.getD ((x6:Int).toNat) (⟨#[]⟩:ByteArray))]:List ByteArray).length) .str then(Z15.l0 k x4 (x5++([(x4.getD ((x6:Int).toNat) (⟨#[]⟩:ByteArray))]:List ByteArray)) (IntKind.wrap .i64 (x6+1)))else none)else none)else none)else(Z15.l0 k x4 x5 (IntKind.wrap .i64 (x6+1))))else none)else none)else(some (x4,x5))
def Z15.F (k:Nat)(a0:ByteArray):Option ((List ByteArray)×Bool):=(Z10.F k a0).bind λr1=>(Z15.l0 k r1 ([]:List ByteArray) 0).bind λy3=>bif ((y3.2.length:Int)==0)then(bif (decide ((y3.1.length:Int)<2))then(some (y3.1,false))else(some (y3.1,true)))else(bif (decide ((y3.1.length:Int)<2))then(some (y3.1,false))else(some (y3.2,true)))
def Z15.C (k:Nat):Cal->Option CArm:=λc=>match c with
 |.f 50=>some (.p [.str] _ (λx=>Z10.F k x.1) (λr=>(.fr 9 .str r)))
 |.f 51=>some (.p [.str] _ (λx=>Z67.F k x.1) (λr=>(.t .bool r)))
 |_=>none
def Z15.sp0:List Sp:=[.own 4 1028 9 .str false true,.own 5 2048 9 .str false true,.t 6 (.int .i64)]
def Z15.sp0_0:List Sp:=[.own 4 1028 9 .str false true,.own 5 2048 9 .str false true]
def Z15.A0:LArm:=.one Z15.sp0 Z15.sp0_0 ((List ByteArray)× (List ByteArray)) (λk x=>Z15.l0 k x.1 x.2.1 x.2.2.1) (.exit 0) (λy=>(y.1,y.2,())) (λx=>(x.1,x.2.1))
def Z15.L:Nat->Option LArm:=λb=>match b with
 |0=>some Z15.A0
 |_=>none
theorem Z15.run (k:Nat)(a0:ByteArray):QE Q0 (Qf (Z15.C k)) (Qc 38 k Z15.L) Tryz.f24 [.t .str a0] (YF (.fr 9 .str) (.t .bool))=Z15.F k a0:=by kernel_rfl
theorem Z15.step0 (k:Nat)(x4:List ByteArray)(x5:List ByteArray)(x6:Int):QJ Q0 (Qf (Z15.C k)) (Qc 38 k Z15.L) 0 (Qo Tryz.f24 0) (J1 38 Z15.sp0 (x4,x5,x6,())) (Z15.A0.cont 38 k)=Z15.l0 (k+1) x4 x5 x6:=by kernel_rfl
theorem Z15.G (hE:EnvOk Tryz.prog Q0)(pv:Nat->Value)(k:Nat):∀cal A,Z15.C k cal=some A->Qg Tryz.prog Q0 pv cal A:=by
 intro cal A h
 unfold Z15.C at h
 split at h
 ·cases h;exact λx y hy=>Z10.good hE pv k x.1 hy
 ·cases h;exact λx y hy=>Z67.good hE pv k x.1 hy
 ·cases h
theorem Z15.good (hE:EnvOk Tryz.prog Q0)(pv:Nat->Value)(k:Nat)(a0:ByteArray){y:_}(h:Z15.F k a0=some y):Qa Tryz.prog Q0 pv (.f 24) (Qb [.str] (a0,())) (.tup [.fr 9 .str y.1,.t .bool y.2]):=
 Qi hE (t:=Z15.C) k (λk _=>Z15.G hE pv k) (f:=24) (fn:=Tryz.f24) (by kernel_rfl) rfl (by kernel_rfl) (by kernel_rfl) (lt:=Z15.L) (by kernel_rfl) (λb A h=>by
  unfold Z15.L at h;split at h
  ·cases h;exact⟨by kernel_rfl,by kernel_rfl,λ_=>rfl,λ_=>rfl⟩
  ·cases h) (λb A h=>by
  unfold Z15.L at h;split at h
  ·cases h;exact λk x=>Z15.step0 k x.1 x.2.1 x.2.2.1
  ·cases h) ((Z15.run k a0).trans h) (λr hr=>Ya hr)
def Z50.F (a0:Int):Option (Bool):=bif (decide (a0 ≥ 65))then(bif (decide (a0<=90))then(some true)else(bif (decide (a0 ≥ 97))then(some (decide (a0<=122)))else(some false)))else(bif (decide (a0 ≥ 97))then(some (decide (a0<=122)))else(some false))
def Z50.C:Cal->Option CArm:=λc=>match c with
 |_=>none
theorem Z50.run (a0:Int):QE Q0 (Qf Z50.C) (Qc 17 0 (λ_=>none)) Tryz.f52 [.t (.int .u8) a0] (Qe (.t .bool))=Z50.F a0:=by kernel_rfl
theorem Z50.G (hE:EnvOk Tryz.prog Q0)(pv:Nat->Value):∀cal A,Z50.C cal=some A->Qg Tryz.prog Q0 pv cal A:=by
 intro cal A h
 unfold Z50.C at h
 cases h
theorem Z50.good (hE:EnvOk Tryz.prog Q0)(pv:Nat->Value)(a0:Int){y:_}(h:Z50.F a0=some y):Qa Tryz.prog Q0 pv (.f 52) (Qb [(.int .u8)] (a0,())) (.t .bool y):=
 Qh hE (Z50.G hE pv) (f:=52) (fn:=Tryz.f52) (by kernel_rfl) rfl (by kernel_rfl) (by kernel_rfl) ((Z50.run a0).trans h) (λr hr=>Q3 hr)
def Z0.l0:Nat->(List Abbr)->ByteArray->Int->Option (Sum Int ((List Abbr)×ByteArray))
 |0,_,_,_=>none
 |k+1,x0,x1,x5=>bif (decide (x5<(x1.size:Int)))then(bif decide (0<=x5)then(bif decide (x5<(x1.size:Int))then((Z50.F (bt x1 (x5:Int).toNat)).bind λr1=>bif (!r1)then(some (.inl (-1)))else(Z0.l0 k x0 x1 (IntKind.wrap .i64 (x5+1))))else none)else none)else(some (.inr (x0,x1)))
def Z0.l2:Nat->(List Abbr)->ByteArray->Int->Int->Option (Sum Int Int)
 |0,_,_,_,_=>none
 |k+1,x0,x6,x7,x8=>bif (decide (x8<(x0.length:Int)))then(bif decide (0<=x8)then(bif decide (x8<(x0.length:Int))then(bif (Ql ((x0.getD (x8:Int).toNat (Q9 .abbr)).word) x6)then(some (.inl x8))else((Z42.F ((x0.getD (x8:Int).toNat (Q9 .abbr)).word) 45).bind λr5=>bif (!Ql r5 ((x0.getD (x8:Int).toNat (Q9 .abbr)).word))then(bif (decide ((r5.size:Int)<=(x6.size:Int)))then(bif decide (0<=(r5.size:Int))then(bif decide ((r5.size:Int)<=(x6.size:Int))then(bif (Ql (x6.extract 0 ((r5.size:Int):Int).toNat) r5)then(bif (decide (x7<0))then(Z0.l2 k x0 x6 x8 (IntKind.wrap .i64 (x8+1)))else(bif decide (0<=x7)then(bif decide (x7<(x0.length:Int))then(bif (decide ((((x0.getD (x8:Int).toNat (Q9 .abbr)).word).size:Int) > (((x0.getD (x7:Int).toNat (Q9 .abbr)).word).size:Int)))then(Z0.l2 k x0 x6 x8 (IntKind.wrap .i64 (x8+1)))else(Z0.l2 k x0 x6 x7 (IntKind.wrap .i64 (x8+1))))else none)else none))else(Z0.l2 k x0 x6 x7 (IntKind.wrap .i64 (x8+1))))else none)else none)else(Z0.l2 k x0 x6 x7 (IntKind.wrap .i64 (x8+1))))else(Z0.l2 k x0 x6 x7 (IntKind.wrap .i64 (x8+1)))))else none)else none)else(some (.inr x7))
def Z0.F (k:Nat)(a0:List Abbr)(a1:ByteArray):Option (Int):=(Z0.l0 k a0 a1 0).bind λy2=>match y2 with|.inl z3=>some z3|.inr z3=>(Z20.F k z3.2).bind λr4=>(Z0.l2 k z3.1 r4 (-1) 0).bind λy6=>match y6 with|.inl z7=>some z7|.inr z7=>some z7
def Z0.C (k:Nat):Cal->Option CArm:=λc=>match c with
 |.f 52=>some (.p [(.int .u8)] _ (λx=>Z50.F x.1) (λr=>(.t .bool r)))
 |.f 53=>some (.p [.str] _ (λx=>Z20.F k x.1) (λr=>(.t .str r)))
 |.f 54=>some (.p [.str,(.int .u8)] _ (λx=>Z42.F x.1 x.2.1) (λr=>(.t .str r)))
 |_=>none
def Z0.sp0:List Sp:=[.t 0 (.sl .abbr),.t 1 .str,.t 5 (.int .i64)]
def Z0.sp0_0:List Sp:=[.t 4 (.int .i64)]
def Z0.sp0_1:List Sp:=[.t 0 (.sl .abbr),.t 1 .str]
def Z0.A0:LArm:=.two Z0.sp0 Z0.sp0_0 Z0.sp0_1 (Int) ((List Abbr)×ByteArray) (λk x=>Z0.l0 k x.1 x.2.1 x.2.2.1) .ret (.exit 0) (λy=>(y,())) (λx=>x.1) (λy=>(y.1,y.2,())) (λx=>(x.1,x.2.1))
def Z0.sp2:List Sp:=[.t 0 (.sl .abbr),.t 6 .str,.t 7 (.int .i64),.t 8 (.int .i64)]
def Z0.sp2_0:List Sp:=[.t 4 (.int .i64)]
def Z0.sp2_1:List Sp:=[.t 7 (.int .i64)]
def Z0.A2:LArm:=.two Z0.sp2 Z0.sp2_0 Z0.sp2_1 (Int) (Int) (λk x=>Z0.l2 k x.1 x.2.1 x.2.2.1 x.2.2.2.1) .ret (.exit 2) (λy=>(y,())) (λx=>x.1) (λy=>(y,())) (λx=>x.1)
def Z0.L:Nat->Option LArm:=λb=>match b with
 |0=>some Z0.A0
 |2=>some Z0.A2
 |_=>none
theorem Z0.run (k:Nat)(a0:List Abbr)(a1:ByteArray):QE Q0 (Qf (Z0.C k)) (Qc 76 k Z0.L) Tryz.f25 [.t (.sl .abbr) a0,.t .str a1] (Qe (.t (.int .i64)))=Z0.F k a0 a1:=by kernel_rfl
theorem Z0.step0 (k:Nat)(x0:List Abbr)(x1:ByteArray)(x5:Int):QJ Q0 (Qf (Z0.C k)) (Qc 76 k Z0.L) 0 (Qo Tryz.f25 0) (J1 76 Z0.sp0 (x0,x1,x5,())) (Z0.A0.cont 76 k)=Z0.l0 (k+1) x0 x1 x5:=by kernel_rfl
theorem Z0.step2 (k:Nat)(x0:List Abbr)(x6:ByteArray)(x7:Int)(x8:Int):QJ Q0 (Qf (Z0.C k)) (Qc 76 k Z0.L) 2 (Qo Tryz.f25 2) (J1 76 Z0.sp2 (x0,x6,x7,x8,())) (Z0.A2.cont 76 k)=Z0.l2 (k+1) x0 x6 x7 x8:=by kernel_rfl
theorem Z0.G (hE:EnvOk Tryz.prog Q0)(pv:Nat->Value)(k:Nat):∀cal A,Z0.C k cal=some A->Qg Tryz.prog Q0 pv cal A:=by
 intro cal A h
 unfold Z0.C at h
 split at h
 ·cases h;exact λx y hy=>Z50.good hE pv x.1 hy
 ·cases h;exact λx y hy=>Z20.good hE pv k x.1 hy
 ·cases h;exact λx y hy=>Z42.good hE pv x.1 x.2.1 hy
 ·cases h
theorem Z0.good (hE:EnvOk Tryz.prog Q0)(pv:Nat->Value)(k:Nat)(a0:List Abbr)(a1:ByteArray){y:_}(h:Z0.F k a0 a1=some y):Qa Tryz.prog Q0 pv (.f 25) (Qb [(.sl .abbr),.str] (a0,a1,())) (.t (.int .i64) y):=
 Qi hE (t:=Z0.C) k (λk _=>Z0.G hE pv k) (f:=25) (fn:=Tryz.f25) (by kernel_rfl) rfl (by kernel_rfl) (by kernel_rfl) (lt:=Z0.L) (by kernel_rfl) (λb A h=>by
  unfold Z0.L at h;split at h
  ·cases h;exact⟨by kernel_rfl,by kernel_rfl,by kernel_rfl,λ_=>rfl,λ_=>rfl,λ_=>rfl⟩
  ·cases h;exact⟨by kernel_rfl,by kernel_rfl,by kernel_rfl,λ_=>rfl,λ_=>rfl,λ_=>rfl⟩
  ·cases h) (λb A h=>by
  unfold Z0.L at h;split at h
  ·cases h;exact λk x=>Z0.step0 k x.1 x.2.1 x.2.2.1
  ·cases h;exact λk x=>Z0.step2 k x.1 x.2.1 x.2.2.1 x.2.2.2.1
  ·cases h) ((Z0.run k a0 a1).trans h) (λr hr=>Q3 hr)
def Z68.F (a0:Int):Option (Int):=bif (decide (a0 ≥ 97))then(bif (decide (a0<=122))then(some (IntKind.wrap .u8 (a0-32)))else(some a0))else(some a0)
def Z68.C:Cal->Option CArm:=λc=>match c with
 |_=>none
theorem Z68.run (a0:Int):QE Q0 (Qf Z68.C) (Qc 12 0 (λ_=>none)) Tryz.f79 [.t (.int .u8) a0] (Qe (.t (.int .u8)))=Z68.F a0:=by kernel_rfl
theorem Z68.G (hE:EnvOk Tryz.prog Q0)(pv:Nat->Value):∀cal A,Z68.C cal=some A->Qg Tryz.prog Q0 pv cal A:=by
 intro cal A h
 unfold Z68.C at h
 cases h
theorem Z68.good (hE:EnvOk Tryz.prog Q0)(pv:Nat->Value)(a0:Int){y:_}(h:Z68.F a0=some y):Qa Tryz.prog Q0 pv (.f 79) (Qb [(.int .u8)] (a0,())) (.t (.int .u8) y):=
 Qh hE (Z68.G hE pv) (f:=79) (fn:=Tryz.f79) (by kernel_rfl) rfl (by kernel_rfl) (by kernel_rfl) ((Z68.run a0).trans h) (λr hr=>Q3 hr)
def Z16.l0:Nat->ByteArray->Int->Option (Sum ByteArray ByteArray)
 |0,_,_=>none
 |k+1,x0,x3=>bif (decide (x3<(x0.size:Int)))then(bif decide (0<=x3)then(bif decide (x3<(x0.size:Int))then((Z50.F (bt x0 (x3:Int).toNat)).bind λr1=>bif r1 then(bif decide (0<=x3)then(bif decide (x3<=(x0.size:Int))then(bif decide (0<=x3)then(bif decide (x3<(x0.size:Int))then((Z68.F (bt x0 (x3:Int).toNat)).bind λr2=>bif Nat.ble ((x0.extract 0 (x3:Int).toNat).size+(YU ([r2]:List Int)).size) 9223372036854775807 then(bif decide (0<=(IntKind.wrap .i64 (x3+1)))then(bif decide ((IntKind.wrap .i64 (x3+1))<=(x0.size:Int))then(bif Nat.ble (((x0.extract 0 (x3:Int).toNat)++(YU ([r2]:List Int))).size+(x0.extract ((IntKind.wrap .i64 (x3+1)):Int).toNat x0.size).size) 9223372036854775807 then(some (.inl (((x0.extract 0 (x3:Int).toNat)++(YU ([r2]:List Int)))++(x0.extract ((IntKind.wrap .i64 (x3+1)):Int).toNat x0.size))))else none)else none)else none)else none)else none)else none)else none)else none)else(Z16.l0 k x0 (IntKind.wrap .i64 (x3+1))))else none)else none)else(some (.inr x0))
def Z16.F (k:Nat)(a0:ByteArray):Option (ByteArray):=(Z16.l0 k a0 0).bind λy3=>match y3 with|.inl z4=>some z4|.inr z4=>some z4
def Z16.C (k:Nat):Cal->Option CArm:=λc=>match c with
 |.f 52=>some (.p [(.int .u8)] _ (λx=>Z50.F x.1) (λr=>(.t .bool r)))
 |.f 79=>some (.p [(.int .u8)] _ (λx=>Z68.F x.1) (λr=>(.t (.int .u8) r)))
 |_=>none
def Z16.sp0:List Sp:=[.t 0 .str,.t 3 (.int .i64)]
def Z16.sp0_0:List Sp:=[.t 2 .str]
def Z16.sp0_1:List Sp:=[.t 0 .str]
def Z16.A0:LArm:=.two Z16.sp0 Z16.sp0_0 Z16.sp0_1 (ByteArray) (ByteArray) (λk x=>Z16.l0 k x.1 x.2.1) .ret (.exit 0) (λy=>(y,())) (λx=>x.1) (λy=>(y,())) (λx=>x.1)
def Z16.L:Nat->Option LArm:=λb=>match b with
 |0=>some Z16.A0
 |_=>none
theorem Z16.run (k:Nat)(a0:ByteArray):QE Q0 (Qf (Z16.C k)) (Qc 30 k Z16.L) Tryz.f64 [.t .str a0] (Qe (.t .str))=Z16.F k a0:=by kernel_rfl
theorem Z16.step0 (k:Nat)(x0:ByteArray)(x3:Int):QJ Q0 (Qf (Z16.C k)) (Qc 30 k Z16.L) 0 (Qo Tryz.f64 0) (J1 30 Z16.sp0 (x0,x3,())) (Z16.A0.cont 30 k)=Z16.l0 (k+1) x0 x3:=by kernel_rfl
theorem Z16.G (hE:EnvOk Tryz.prog Q0)(pv:Nat->Value)(k:Nat):∀cal A,Z16.C k cal=some A->Qg Tryz.prog Q0 pv cal A:=by
 intro cal A h
 unfold Z16.C at h
 split at h
 ·cases h;exact λx y hy=>Z50.good hE pv x.1 hy
 ·cases h;exact λx y hy=>Z68.good hE pv x.1 hy
 ·cases h
theorem Z16.good (hE:EnvOk Tryz.prog Q0)(pv:Nat->Value)(k:Nat)(a0:ByteArray){y:_}(h:Z16.F k a0=some y):Qa Tryz.prog Q0 pv (.f 64) (Qb [.str] (a0,())) (.t .str y):=
 Qi hE (t:=Z16.C) k (λk _=>Z16.G hE pv k) (f:=64) (fn:=Tryz.f64) (by kernel_rfl) rfl (by kernel_rfl) (by kernel_rfl) (lt:=Z16.L) (by kernel_rfl) (λb A h=>by
  unfold Z16.L at h;split at h
  ·cases h;exact⟨by kernel_rfl,by kernel_rfl,by kernel_rfl,λ_=>rfl,λ_=>rfl,λ_=>rfl⟩
  ·cases h) (λb A h=>by
  unfold Z16.L at h;split at h
  ·cases h;exact λk x=>Z16.step0 k x.1 x.2.1
  ·cases h) ((Z16.run k a0).trans h) (λr hr=>Q3 hr)
def Z43.F (k:Nat)(a0:List Abbr)(a1:ByteArray):Option (ByteArray):=(Z0.F k a0 a1).bind λr1=>bif (decide (r1<0))then(some a1)else(bif decide (0<=0)then(bif decide (0<(a1.size:Int))then(bif (decide ((bt a1 (0:Int).toNat) ≥ 65))then(bif decide (0<=0)then(bif decide (0<(a1.size:Int))then(bif (decide ((bt a1 (0:Int).toNat)<=90))then(bif decide (0<=r1)then(bif decide (r1<(a0.length:Int))then((Z16.F k ((a0.getD (r1:Int).toNat (Q9 .abbr)).short)).bind λr2=>some r2)else none)else none)else(bif decide (0<=r1)then(bif decide (r1<(a0.length:Int))then(some ((a0.getD (r1:Int).toNat (Q9 .abbr)).short))else none)else none))else none)else none)else(bif decide (0<=r1)then(bif decide (r1<(a0.length:Int))then(some ((a0.getD (r1:Int).toNat (Q9 .abbr)).short))else none)else none))else none)else none)
def Z43.C (k:Nat):Cal->Option CArm:=λc=>match c with
 |.f 25=>some (.p [(.sl .abbr),.str] _ (λx=>Z0.F k x.1 x.2.1) (λr=>(.t (.int .i64) r)))
 |.f 64=>some (.p [.str] _ (λx=>Z16.F k x.1) (λr=>(.t .str r)))
 |_=>none
theorem Z43.run (k:Nat)(a0:List Abbr)(a1:ByteArray):QE Q0 (Qf (Z43.C k)) (Qc 31 0 (λ_=>none)) Tryz.f40 [.t (.sl .abbr) a0,.t .str a1] (Qe (.t .str))=Z43.F k a0 a1:=by kernel_rfl
theorem Z43.G (hE:EnvOk Tryz.prog Q0)(pv:Nat->Value)(k:Nat):∀cal A,Z43.C k cal=some A->Qg Tryz.prog Q0 pv cal A:=by
 intro cal A h
 unfold Z43.C at h
 split at h
 ·cases h;exact λx y hy=>Z0.good hE pv k x.1 x.2.1 hy
 ·cases h;exact λx y hy=>Z16.good hE pv k x.1 hy
 ·cases h
theorem Z43.good (hE:EnvOk Tryz.prog Q0)(pv:Nat->Value)(k:Nat)(a0:List Abbr)(a1:ByteArray){y:_}(h:Z43.F k a0 a1=some y):Qa Tryz.prog Q0 pv (.f 40) (Qb [(.sl .abbr),.str] (a0,a1,())) (.t .str y):=
 Qh hE (Z43.G hE pv k) (f:=40) (fn:=Tryz.f40) (by kernel_rfl) rfl (by kernel_rfl) (by kernel_rfl) ((Z43.run k a0 a1).trans h) (λr hr=>Q3 hr)
def Z13.l0:Nat->(List ByteArray)->ByteArray->Int->Option (ByteArray)
 |0,_,_,_=>none
 |k+1,x0,x3,x4=>bif (decide (x4<(x0.length:Int)))then(bif (decide (x4 > 0))then(bif Nat.ble (x3.size+(⟨#[32]⟩:ByteArray).size) 9223372036854775807 then(bif decide (0<=x4)then(bif decide (x4<(x0.length:Int))then(bif Nat.ble ((x3++(⟨#[32]⟩:ByteArray)).size+(x0.getD (x4:Int).toNat (⟨#[]⟩:ByteArray)).size) 9223372036854775807 then(Z13.l0 k x0 ((x3++(⟨#[32]⟩:ByteArray))++(x0.getD (x4:Int).toNat (⟨#[]⟩:ByteArray))) (IntKind.wrap .i64 (x4+1)))else none)else none)else none)else none)else(bif decide (0<=x4)then(bif decide (x4<(x0.length:Int))then(bif Nat.ble (x3.size+(x0.getD (x4:Int).toNat (⟨#[]⟩:ByteArray)).size) 9223372036854775807 then(Z13.l0 k x0 (x3++(x0.getD (x4:Int).toNat (⟨#[]⟩:ByteArray))) (IntKind.wrap .i64 (x4+1)))else none)else none)else none))else(some x3)
def Z13.F (k:Nat)(a0:List ByteArray):Option (ByteArray):=(Z13.l0 k a0 (⟨#[]⟩:ByteArray) 0).bind λy1=>some y1
def Z13.C (k:Nat):Cal->Option CArm:=λc=>match c with
 |_=>none
def Z13.sp0:List Sp:=[.t 0 (.sl .str),.t 3 .str,.t 4 (.int .i64)]
def Z13.sp0_0:List Sp:=[.t 3 .str]
def Z13.A0:LArm:=.one Z13.sp0 Z13.sp0_0 (ByteArray) (λk x=>Z13.l0 k x.1 x.2.1 x.2.2.1) (.exit 0) (λy=>(y,())) (λx=>x.1)
def Z13.L:Nat->Option LArm:=λb=>match b with
 |0=>some Z13.A0
 |_=>none
theorem Z13.run (k:Nat)(a0:List ByteArray):QE Q0 (Qf (Z13.C k)) (Qc 22 k Z13.L) Tryz.f41 [.t (.sl .str) a0] (Qe (.t .str))=Z13.F k a0:=by kernel_rfl
theorem Z13.step0 (k:Nat)(x0:List ByteArray)(x3:ByteArray)(x4:Int):QJ Q0 (Qf (Z13.C k)) (Qc 22 k Z13.L) 0 (Qo Tryz.f41 0) (J1 22 Z13.sp0 (x0,x3,x4,())) (Z13.A0.cont 22 k)=Z13.l0 (k+1) x0 x3 x4:=by kernel_rfl
theorem Z13.G (hE:EnvOk Tryz.prog Q0)(pv:Nat->Value)(k:Nat):∀cal A,Z13.C k cal=some A->Qg Tryz.prog Q0 pv cal A:=by
 intro cal A h
 unfold Z13.C at h
 cases h
theorem Z13.good (hE:EnvOk Tryz.prog Q0)(pv:Nat->Value)(k:Nat)(a0:List ByteArray){y:_}(h:Z13.F k a0=some y):Qa Tryz.prog Q0 pv (.f 41) (Qb [(.sl .str)] (a0,())) (.t .str y):=
 Qi hE (t:=Z13.C) k (λk _=>Z13.G hE pv k) (f:=41) (fn:=Tryz.f41) (by kernel_rfl) rfl (by kernel_rfl) (by kernel_rfl) (lt:=Z13.L) (by kernel_rfl) (λb A h=>by
  unfold Z13.L at h;split at h
  ·cases h;exact⟨by kernel_rfl,by kernel_rfl,λ_=>rfl,λ_=>rfl⟩
  ·cases h) (λb A h=>by
  unfold Z13.L at h;split at h
  ·cases h;exact λk x=>Z13.step0 k x.1 x.2.1 x.2.2.1
  ·cases h) ((Z13.run k a0).trans h) (λr hr=>Q3 hr)
def Z7.l0:Nat->(List Abbr)->(List ByteArray)->(List ByteArray)->Int->Option ((List ByteArray))
 |0,_,_,_,_=>none
 |k+1,x0,x5,x7,x8=>bif (decide (x8<(x5.length:Int)))then(bif decide (0<=x8)then(bif decide (x8<(x5.length:Int))then((Z43.F k x0 (x5.getD ((x8:Int).toNat) (⟨#[]⟩:ByteArray))).bind λr2=>bif room (x7.length+([r2]:List ByteArray).length) .str then(Z7.l0 k x0 x5 (x7++([r2]:List ByteArray)) (IntKind.wrap .i64 (x8+1)))else none)else none)else none)else(some x7)
def Z7.F (k:Nat)(a0:List Abbr)(a1:ByteArray):Option (ByteArray):=(Z15.F k a1).bind λr1=>bif (!r1.2)then(some a1)else((Z7.l0 k a0 r1.1 ([]:List ByteArray) 0).bind λy3=>(Z13.F k y3).bind λr4=>some r4)
def Z7.C (k:Nat):Cal->Option CArm:=λc=>match c with
 |.f 24=>some (.p [.str] _ (λx=>Z15.F k x.1) (λr=>(.tup [.fr 9 .str r.1,.t .bool r.2])))
 |.f 40=>some (.p [(.sl .abbr),.str] _ (λx=>Z43.F k x.1 x.2.1) (λr=>(.t .str r)))
 |.f 41=>some (.p [(.sl .str)] _ (λx=>Z13.F k x.1) (λr=>(.t .str r)))
 |_=>none
def Z7.sp0:List Sp:=[.t 0 (.sl .abbr),.own 5 1028 9 .str false true,.own 7 4096 9 .str false true,.t 8 (.int .i64)]
def Z7.sp0_0:List Sp:=[.own 7 4096 9 .str false true]
def Z7.A0:LArm:=.one Z7.sp0 Z7.sp0_0 ((List ByteArray)) (λk x=>Z7.l0 k x.1 x.2.1 x.2.2.1 x.2.2.2.1) (.exit 0) (λy=>(y,())) (λx=>x.1)
def Z7.L:Nat->Option LArm:=λb=>match b with
 |0=>some Z7.A0
 |_=>none
theorem Z7.run (k:Nat)(a0:List Abbr)(a1:ByteArray):QE Q0 (Qf (Z7.C k)) (Qc 35 k Z7.L) Tryz.f21 [.t (.sl .abbr) a0,.t .str a1] (Qe (.t .str))=Z7.F k a0 a1:=by kernel_rfl
theorem Z7.step0 (k:Nat)(x0:List Abbr)(x5:List ByteArray)(x7:List ByteArray)(x8:Int):QJ Q0 (Qf (Z7.C k)) (Qc 35 k Z7.L) 0 (Qo Tryz.f21 0) (J1 35 Z7.sp0 (x0,x5,x7,x8,())) (Z7.A0.cont 35 k)=Z7.l0 (k+1) x0 x5 x7 x8:=by kernel_rfl
theorem Z7.G (hE:EnvOk Tryz.prog Q0)(pv:Nat->Value)(k:Nat):∀cal A,Z7.C k cal=some A->Qg Tryz.prog Q0 pv cal A:=by
 intro cal A h
 unfold Z7.C at h
 split at h
 ·cases h;exact λx y hy=>Z15.good hE pv k x.1 hy
 ·cases h;exact λx y hy=>Z43.good hE pv k x.1 x.2.1 hy
 ·cases h;exact λx y hy=>Z13.good hE pv k x.1 hy
 ·cases h
theorem Z7.good (hE:EnvOk Tryz.prog Q0)(pv:Nat->Value)(k:Nat)(a0:List Abbr)(a1:ByteArray){y:_}(h:Z7.F k a0 a1=some y):Qa Tryz.prog Q0 pv (.f 21) (Qb [(.sl .abbr),.str] (a0,a1,())) (.t .str y):=
 Qi hE (t:=Z7.C) k (λk _=>Z7.G hE pv k) (f:=21) (fn:=Tryz.f21) (by kernel_rfl) rfl (by kernel_rfl) (by kernel_rfl) (lt:=Z7.L) (by kernel_rfl) (λb A h=>by
  unfold Z7.L at h;split at h
  ·cases h;exact⟨by kernel_rfl,by kernel_rfl,λ_=>rfl,λ_=>rfl⟩
  ·cases h) (λb A h=>by
  unfold Z7.L at h;split at h
  ·cases h;exact λk x=>Z7.step0 k x.1 x.2.1 x.2.2.1 x.2.2.2.1
  ·cases h) ((Z7.run k a0 a1).trans h) (λr hr=>Q3 hr)
def Z3.l2:Nat->(List Abbr)->(List ByteArray)->(List ByteArray)->Int->ByteArray->Int->Option ((List Abbr)× (List ByteArray)× (List ByteArray)×Int×ByteArray)
 |0,_,_,_,_,_,_=>none
 |k+1,x0,x1,x6,x7,x8,x9=>bif (decide (x9<(x1.length:Int)))then(bif decide (0<=x9)then(bif decide (x9<(x1.length:Int))then(bif decide (0<=x7)then(bif decide (x7<(x1.length:Int))then(bif (!Ql (x1.getD (x9:Int).toNat (⟨#[]⟩:ByteArray)) (x1.getD (x7:Int).toNat (⟨#[]⟩:ByteArray)))then(bif decide (0<=x9)then(bif decide (x9<(x1.length:Int))then((Z7.F k x0 (x1.getD (x9:Int).toNat (⟨#[]⟩:ByteArray))).bind λr4=>bif decide (0<=x7)then(bif decide (x7<(x1.length:Int))then((Z7.F k x0 (x1.getD (x7:Int).toNat (⟨#[]⟩:ByteArray))).bind λr5=>bif (Ql r4 r5)then(bif decide (0<=x7)then(bif decide (x7<(x1.length:Int))then(Z3.l2 k x0 x1 x6 x7 (x1.getD (x7:Int).toNat (⟨#[]⟩:ByteArray)) (IntKind.wrap .i64 (x9+1)))else none)else none)else(Z3.l2 k x0 x1 x6 x7 x8 (IntKind.wrap .i64 (x9+1))))else none)else none)else none)else none)else(Z3.l2 k x0 x1 x6 x7 x8 (IntKind.wrap .i64 (x9+1))))else none)else none)else none)else none)else(some (x0,x1,x6,x7,x8))
def Z3.l0:Nat->(List Abbr)->(List ByteArray)->(List ByteArray)->Int->Option ((List ByteArray))
 |0,_,_,_,_=>none
 |k+1,x0,x1,x6,x7=>bif (decide (x7<(x1.length:Int)))then(bif decide (0<=x7)then(bif decide (x7<(x1.length:Int))then((Z7.F k x0 (x1.getD (x7:Int).toNat (⟨#[]⟩:ByteArray))).bind λr3=>(Z3.l2 k x0 x1 x6 x7 r3 0).bind λy6=>bif room (y6.2.2.1.length+([y6.2.2.2.2]:List ByteArray).length) .str then(Z3.l0 k y6.1 y6.2.1 (y6.2.2.1++([y6.2.2.2.2]:List ByteArray)) (IntKind.wrap .i64 (y6.2.2.2.1+1)))else none)else none)else none)else(some x6)
def Z3.F (k:Nat)(a0:List Abbr)(a1:List ByteArray):Option ((List ByteArray)×Bool):=(Z6.F k a0).bind λr1=>bif (!r1)then(some (([]:List ByteArray),false))else((Z12.F k a1).bind λr2=>bif (!r2)then(some (([]:List ByteArray),false))else((Z3.l0 k a0 a1 ([]:List ByteArray) 0).bind λy7=>some (y7,true)))
def Z3.C (k:Nat):Cal->Option CArm:=λc=>match c with
 |.f 19=>some (.p [(.sl .abbr)] _ (λx=>Z6.F k x.1) (λr=>(.t .bool r)))
 |.f 20=>some (.p [(.sl .str)] _ (λx=>Z12.F k x.1) (λr=>(.t .bool r)))
 |.f 21=>some (.p [(.sl .abbr),.str] _ (λx=>Z7.F k x.1 x.2.1) (λr=>(.t .str r)))
 |_=>none
def Z3.sp2:List Sp:=[.t 0 (.sl .abbr),.t 1 (.sl .str),.own 6 1024 9 .str false true,.t 7 (.int .i64),.t 8 .str,.t 9 (.int .i64)]
def Z3.sp2_0:List Sp:=[.t 0 (.sl .abbr),.t 1 (.sl .str),.own 6 1024 9 .str false true,.t 7 (.int .i64),.t 8 .str]
def Z3.A2:LArm:=.one Z3.sp2 Z3.sp2_0 ((List Abbr)× (List ByteArray)× (List ByteArray)×Int×ByteArray) (λk x=>Z3.l2 k x.1 x.2.1 x.2.2.1 x.2.2.2.1 x.2.2.2.2.1 x.2.2.2.2.2.1) (.exit 2) (λy=>(y.1,y.2.1,y.2.2.1,y.2.2.2.1,y.2.2.2.2,())) (λx=>(x.1,x.2.1,x.2.2.1,x.2.2.2.1,x.2.2.2.2.1))
def Z3.sp0:List Sp:=[.t 0 (.sl .abbr),.t 1 (.sl .str),.own 6 1024 9 .str false true,.t 7 (.int .i64)]
def Z3.sp0_0:List Sp:=[.own 6 1024 9 .str false true]
def Z3.A0:LArm:=.one Z3.sp0 Z3.sp0_0 ((List ByteArray)) (λk x=>Z3.l0 k x.1 x.2.1 x.2.2.1 x.2.2.2.1) (.exit 0) (λy=>(y,())) (λx=>x.1)
def Z3.L:Nat->Option LArm:=λb=>match b with
 |2=>some Z3.A2
 |0=>some Z3.A0
 |_=>none
theorem Z3.run (k:Nat)(a0:List Abbr)(a1:List ByteArray):QE Q0 (Qf (Z3.C k)) (Qc 71 k Z3.L) Tryz.f7 [.t (.sl .abbr) a0,.t (.sl .str) a1] (YF (.fr 9 .str) (.t .bool))=Z3.F k a0 a1:=by kernel_rfl
theorem Z3.step2 (k:Nat)(x0:List Abbr)(x1:List ByteArray)(x6:List ByteArray)(x7:Int)(x8:ByteArray)(x9:Int):QJ Q0 (Qf (Z3.C k)) (Qc 71 k Z3.L) 2 (Qo Tryz.f7 2) (J1 71 Z3.sp2 (x0,x1,x6,x7,x8,x9,())) (Z3.A2.cont 71 k)=Z3.l2 (k+1) x0 x1 x6 x7 x8 x9:=by kernel_rfl
theorem Z3.step0 (k:Nat)(x0:List Abbr)(x1:List ByteArray)(x6:List ByteArray)(x7:Int):QJ Q0 (Qf (Z3.C k)) (Qc 71 k Z3.L) 0 (Qo Tryz.f7 0) (J1 71 Z3.sp0 (x0,x1,x6,x7,())) (Z3.A0.cont 71 k)=Z3.l0 (k+1) x0 x1 x6 x7:=by kernel_rfl
theorem Z3.G (hE:EnvOk Tryz.prog Q0)(pv:Nat->Value)(k:Nat):∀cal A,Z3.C k cal=some A->Qg Tryz.prog Q0 pv cal A:=by
 intro cal A h
 unfold Z3.C at h
 split at h
 ·cases h;exact λx y hy=>Z6.good hE pv k x.1 hy
 ·cases h;exact λx y hy=>Z12.good hE pv k x.1 hy
 ·cases h;exact λx y hy=>Z7.good hE pv k x.1 x.2.1 hy
 ·cases h
theorem Z3.good (hE:EnvOk Tryz.prog Q0)(pv:Nat->Value)(k:Nat)(a0:List Abbr)(a1:List ByteArray){y:_}(h:Z3.F k a0 a1=some y):Qa Tryz.prog Q0 pv (.f 7) (Qb [(.sl .abbr),(.sl .str)] (a0,a1,())) (.tup [.fr 9 .str y.1,.t .bool y.2]):=
 Qi hE (t:=Z3.C) k (λk _=>Z3.G hE pv k) (f:=7) (fn:=Tryz.f7) (by kernel_rfl) rfl (by kernel_rfl) (by kernel_rfl) (lt:=Z3.L) (by kernel_rfl) (λb A h=>by
  unfold Z3.L at h;split at h
  ·cases h;exact⟨by kernel_rfl,by kernel_rfl,λ_=>rfl,λ_=>rfl⟩
  ·cases h;exact⟨by kernel_rfl,by kernel_rfl,λ_=>rfl,λ_=>rfl⟩
  ·cases h) (λb A h=>by
  unfold Z3.L at h;split at h
  ·cases h;exact λk x=>Z3.step2 k x.1 x.2.1 x.2.2.1 x.2.2.2.1 x.2.2.2.2.1 x.2.2.2.2.2.1
  ·cases h;exact λk x=>Z3.step0 k x.1 x.2.1 x.2.2.1 x.2.2.2.1
  ·cases h) ((Z3.run k a0 a1).trans h) (λr hr=>Ya hr)
def Z11.l0:Nat->(List ByteArray)->(List ByteArray)->Int->Option (Sum Bool Unit)
 |0,_,_,_=>none
 |k+1,x0,x1,x5=>bif (decide (x5<(x0.length:Int)))then(bif decide (0<=x5)then(bif decide (x5<(x0.length:Int))then(bif decide (0<=x5)then(bif decide (x5<(x1.length:Int))then(bif (!Ql (x0.getD (x5:Int).toNat (⟨#[]⟩:ByteArray)) (x1.getD (x5:Int).toNat (⟨#[]⟩:ByteArray)))then(some (.inl false))else(Z11.l0 k x0 x1 (IntKind.wrap .i64 (x5+1))))else none)else none)else none)else none)else(some (.inr ()))
def Z11.F (k:Nat)(a0:List ByteArray)(a1:List ByteArray):Option (Bool):=bif ((a0.length:Int) != (a1.length:Int))then(some false)else((Z11.l0 k a0 a1 0).bind λy1=>match y1 with|.inl z2=>some z2|.inr z2=>some true)
def Z11.C (k:Nat):Cal->Option CArm:=λc=>match c with
 |_=>none
def Z11.sp0:List Sp:=[.t 0 (.sl .str),.t 1 (.sl .str),.t 5 (.int .i64)]
def Z11.sp0_0:List Sp:=[.t 4 .bool]
def Z11.sp0_1:List Sp:=[]
def Z11.A0:LArm:=.two Z11.sp0 Z11.sp0_0 Z11.sp0_1 (Bool) (Unit) (λk x=>Z11.l0 k x.1 x.2.1 x.2.2.1) .ret (.exit 0) (λy=>(y,())) (λx=>x.1) (λy=>()) (λx=>())
def Z11.L:Nat->Option LArm:=λb=>match b with
 |0=>some Z11.A0
 |_=>none
theorem Z11.run (k:Nat)(a0:List ByteArray)(a1:List ByteArray):QE Q0 (Qf (Z11.C k)) (Qc 26 k Z11.L) Tryz.f8 [.t (.sl .str) a0,.t (.sl .str) a1] (Qe (.t .bool))=Z11.F k a0 a1:=by kernel_rfl
theorem Z11.step0 (k:Nat)(x0:List ByteArray)(x1:List ByteArray)(x5:Int):QJ Q0 (Qf (Z11.C k)) (Qc 26 k Z11.L) 0 (Qo Tryz.f8 0) (J1 26 Z11.sp0 (x0,x1,x5,())) (Z11.A0.cont 26 k)=Z11.l0 (k+1) x0 x1 x5:=by kernel_rfl
theorem Z11.G (hE:EnvOk Tryz.prog Q0)(pv:Nat->Value)(k:Nat):∀cal A,Z11.C k cal=some A->Qg Tryz.prog Q0 pv cal A:=by
 intro cal A h
 unfold Z11.C at h
 cases h
theorem Z11.good (hE:EnvOk Tryz.prog Q0)(pv:Nat->Value)(k:Nat)(a0:List ByteArray)(a1:List ByteArray){y:_}(h:Z11.F k a0 a1=some y):Qa Tryz.prog Q0 pv (.f 8) (Qb [(.sl .str),(.sl .str)] (a0,a1,())) (.t .bool y):=
 Qi hE (t:=Z11.C) k (λk _=>Z11.G hE pv k) (f:=8) (fn:=Tryz.f8) (by kernel_rfl) rfl (by kernel_rfl) (by kernel_rfl) (lt:=Z11.L) (by kernel_rfl) (λb A h=>by
  unfold Z11.L at h;split at h
  ·cases h;exact⟨by kernel_rfl,by kernel_rfl,by kernel_rfl,λ_=>rfl,λ_=>rfl,λ_=>rfl⟩
  ·cases h) (λb A h=>by
  unfold Z11.L at h;split at h
  ·cases h;exact λk x=>Z11.step0 k x.1 x.2.1 x.2.2.1
  ·cases h) ((Z11.run k a0 a1).trans h) (λr hr=>Q3 hr)
def Z75.F (k:Nat)(a0:List Abbr)(a1:List ByteArray):Option ((List ByteArray)×Bool):=(Z48.F k a0 a1).bind λr=>Q8o r a0 a1 (Z44.F k) (Z5.F k a0)
theorem Z75.good (hE:EnvOk Tryz.prog Q0)(pv:Nat->Value)(k:Nat)(a0:List Abbr)(a1:List ByteArray){y:_}(h:Z75.F k a0 a1=some y):Qa Tryz.prog Q0 pv (.f 9) (Qb [(.sl .abbr),(.sl .str)] (a0,a1,())) (.tup [.fr 9 .str y.1,.t .bool y.2]):=by
 unfold Z75.F at h
 cases hr:Z48.F k a0 a1 with
 |none=>rw[hr]at h;cases h
 |some r=>
  rw[hr]at h
  exact Q7q (Z48.good hE pv k a0 a1 hr) (λs p hs=>Z44.good hE pv k s hs) (λs i hs=>Z5.good hE pv k a0 s hs) h
def Z29.l0:Nat->(List Int)->Int->Int->Option ((List Int)×Int×Int)
 |0,_,_,_=>none
 |k+1,x0,x1,x5=>bif (decide (x5<(x0.length:Int)))then(bif decide (0<=x5)then(bif decide (x5<(x0.length:Int))then(bif (decide ((x0.getD (x5:Int).toNat 0)<x1))then(Z29.l0 k x0 x1 (IntKind.wrap .i64 (x5+1)))else(some (x0,x1,x5)))else none)else none)else(some (x0,x1,x5))
def Z29.F (k:Nat)(a0:List Int)(a1:Int):Option (List Int):=(Z29.l0 k a0 a1 0).bind λy1=>bif (decide (y1.2.2<(y1.1.length:Int)))then(bif decide (0<=y1.2.2)then(bif decide (y1.2.2<(y1.1.length:Int))then(bif ((y1.1.getD (y1.2.2:Int).toNat 0)==y1.2.1)then(some y1.1)else(bif decide (0<=y1.2.2)then(bif decide (y1.2.2<=(y1.1.length:Int))then(bif room (([]:List Int).length+(y1.1.take (y1.2.2:Int).toNat).length) (.int .i64)then(bif room ((([]:List Int)++(y1.1.take (y1.2.2:Int).toNat)).length+([y1.2.1]:List Int).length) (.int .i64)then(bif decide (0<=y1.2.2)then(bif decide (y1.2.2<=(y1.1.length:Int))then(bif room (((([]:List Int)++(y1.1.take (y1.2.2:Int).toNat))++([y1.2.1]:List Int)).length+(y1.1.drop (y1.2.2:Int).toNat).length) (.int .i64)then(some (((([]:List Int)++(y1.1.take (y1.2.2:Int).toNat))++([y1.2.1]:List Int))++(y1.1.drop (y1.2.2:Int).toNat)))else none)else none)else none)else none)else none)else none)else none))else none)else none)else(bif decide (0<=y1.2.2)then(bif decide (y1.2.2<=(y1.1.length:Int))then(bif room (([]:List Int).length+(y1.1.take (y1.2.2:Int).toNat).length) (.int .i64)then(bif room ((([]:List Int)++(y1.1.take (y1.2.2:Int).toNat)).length+([y1.2.1]:List Int).length) (.int .i64)then(bif decide (0<=y1.2.2)then(bif decide (y1.2.2<=(y1.1.length:Int))then(bif room (((([]:List Int)++(y1.1.take (y1.2.2:Int).toNat))++([y1.2.1]:List Int)).length+(y1.1.drop (y1.2.2:Int).toNat).length) (.int .i64)then(some (((([]:List Int)++(y1.1.take (y1.2.2:Int).toNat))++([y1.2.1]:List Int))++(y1.1.drop (y1.2.2:Int).toNat)))else none)else none)else none)else none)else none)else none)else none)
def Z29.C (k:Nat):Cal->Option CArm:=λc=>match c with
 |_=>none
def Z29.sp0:List Sp:=[.t 0 (.sl (.int .i64)),.t 1 (.int .i64),.t 5 (.int .i64)]
def Z29.sp0_0:List Sp:=[.t 0 (.sl (.int .i64)),.t 1 (.int .i64),.t 5 (.int .i64)]
def Z29.A0:LArm:=.one Z29.sp0 Z29.sp0_0 ((List Int)×Int×Int) (λk x=>Z29.l0 k x.1 x.2.1 x.2.2.1) (.exit 0) (λy=>(y.1,y.2.1,y.2.2,())) (λx=>(x.1,x.2.1,x.2.2.1))
def Z29.L:Nat->Option LArm:=λb=>match b with
 |0=>some Z29.A0
 |_=>none
theorem Z29.run (k:Nat)(a0:List Int)(a1:Int):QE Q0 (Qf (Z29.C k)) (Qc 45 k Z29.L) Tryz.f26 [.t (.sl (.int .i64)) a0,.t (.int .i64) a1] (Qe (.t (.sl (.int .i64))))=Z29.F k a0 a1:=by kernel_rfl
theorem Z29.step0 (k:Nat)(x0:List Int)(x1:Int)(x5:Int):QJ Q0 (Qf (Z29.C k)) (Qc 45 k Z29.L) 0 (Qo Tryz.f26 0) (J1 45 Z29.sp0 (x0,x1,x5,())) (Z29.A0.cont 45 k)=Z29.l0 (k+1) x0 x1 x5:=by kernel_rfl
theorem Z29.G (hE:EnvOk Tryz.prog Q0)(pv:Nat->Value)(k:Nat):∀cal A,Z29.C k cal=some A->Qg Tryz.prog Q0 pv cal A:=by
 intro cal A h
 unfold Z29.C at h
 cases h
theorem Z29.good (hE:EnvOk Tryz.prog Q0)(pv:Nat->Value)(k:Nat)(a0:List Int)(a1:Int){y:_}(h:Z29.F k a0 a1=some y):Qa Tryz.prog Q0 pv (.f 26) (Qb [(.sl (.int .i64)),(.int .i64)] (a0,a1,())) (.t (.sl (.int .i64)) y):=
 Qi hE (t:=Z29.C) k (λk _=>Z29.G hE pv k) (f:=26) (fn:=Tryz.f26) (by kernel_rfl) rfl (by kernel_rfl) (by kernel_rfl) (lt:=Z29.L) (by kernel_rfl) (λb A h=>by
  unfold Z29.L at h;split at h
  ·cases h;exact⟨by kernel_rfl,by kernel_rfl,λ_=>rfl,λ_=>rfl⟩
  ·cases h) (λb A h=>by
  unfold Z29.L at h;split at h
  ·cases h;exact λk x=>Z29.step0 k x.1 x.2.1 x.2.2.1
  ·cases h) ((Z29.run k a0 a1).trans h) (λr hr=>Q3 hr)
def Z21.l0:Nat->(List Int)->Int->Int->Option (Sum Bool Unit)
 |0,_,_,_=>none
 |k+1,x0,x1,x5=>bif (decide (x5<(x0.length:Int)))then(bif decide (0<=x5)then(bif decide (x5<(x0.length:Int))then(bif ((x0.getD (x5:Int).toNat 0)==x1)then(some (.inl true))else(Z21.l0 k x0 x1 (IntKind.wrap .i64 (x5+1))))else none)else none)else(some (.inr ()))
def Z21.F (k:Nat)(a0:List Int)(a1:Int):Option (Bool):=(Z21.l0 k a0 a1 0).bind λy1=>match y1 with|.inl z2=>some z2|.inr z2=>some false
def Z21.C (k:Nat):Cal->Option CArm:=λc=>match c with
 |_=>none
def Z21.sp0:List Sp:=[.t 0 (.sl (.int .i64)),.t 1 (.int .i64),.t 5 (.int .i64)]
def Z21.sp0_0:List Sp:=[.t 4 .bool]
def Z21.sp0_1:List Sp:=[]
def Z21.A0:LArm:=.two Z21.sp0 Z21.sp0_0 Z21.sp0_1 (Bool) (Unit) (λk x=>Z21.l0 k x.1 x.2.1 x.2.2.1) .ret (.exit 0) (λy=>(y,())) (λx=>x.1) (λy=>()) (λx=>())
def Z21.L:Nat->Option LArm:=λb=>match b with
 |0=>some Z21.A0
 |_=>none
theorem Z21.run (k:Nat)(a0:List Int)(a1:Int):QE Q0 (Qf (Z21.C k)) (Qc 18 k Z21.L) Tryz.f27 [.t (.sl (.int .i64)) a0,.t (.int .i64) a1] (Qe (.t .bool))=Z21.F k a0 a1:=by kernel_rfl
theorem Z21.step0 (k:Nat)(x0:List Int)(x1:Int)(x5:Int):QJ Q0 (Qf (Z21.C k)) (Qc 18 k Z21.L) 0 (Qo Tryz.f27 0) (J1 18 Z21.sp0 (x0,x1,x5,())) (Z21.A0.cont 18 k)=Z21.l0 (k+1) x0 x1 x5:=by kernel_rfl
theorem Z21.G (hE:EnvOk Tryz.prog Q0)(pv:Nat->Value)(k:Nat):∀cal A,Z21.C k cal=some A->Qg Tryz.prog Q0 pv cal A:=by
 intro cal A h
 unfold Z21.C at h
 cases h
theorem Z21.good (hE:EnvOk Tryz.prog Q0)(pv:Nat->Value)(k:Nat)(a0:List Int)(a1:Int){y:_}(h:Z21.F k a0 a1=some y):Qa Tryz.prog Q0 pv (.f 27) (Qb [(.sl (.int .i64)),(.int .i64)] (a0,a1,())) (.t .bool y):=
 Qi hE (t:=Z21.C) k (λk _=>Z21.G hE pv k) (f:=27) (fn:=Tryz.f27) (by kernel_rfl) rfl (by kernel_rfl) (by kernel_rfl) (lt:=Z21.L) (by kernel_rfl) (λb A h=>by
  unfold Z21.L at h;split at h
  ·cases h;exact⟨by kernel_rfl,by kernel_rfl,by kernel_rfl,λ_=>rfl,λ_=>rfl,λ_=>rfl⟩
  ·cases h) (λb A h=>by
  unfold Z21.L at h;split at h
  ·cases h;exact λk x=>Z21.step0 k x.1 x.2.1 x.2.2.1
  ·cases h) ((Z21.run k a0 a1).trans h) (λr hr=>Q3 hr)
def Z1.l2:Nat->(List Abbr)->(List ByteArray)->(List ByteArray)->(List Int)->Int->(List ByteArray)->Bool->Int->Option ((List Abbr)× (List ByteArray)× (List ByteArray)× (List Int)×Int)
 |0,_,_,_,_,_,_,_,_=>none
 |k+1,x0,x1,x6,x7,x8,x9,x10,x11=>bif (decide (x11<(x9.length:Int)))then(bif x10 then(bif decide (0<=x11)then(bif decide (x11<(x9.length:Int))then((Z0.F k x0 (x9.getD ((x11:Int).toNat) (⟨#[]⟩:ByteArray))).bind λr4=>bif (decide (r4 ≥ 0))then((Z29.F k x7 r4).bind λr5=>Z1.l2 k x0 x1 x6 r5 x8 x9 x10 (IntKind.wrap .i64 (x11+1)))else(Z1.l2 k x0 x1 x6 x7 x8 x9 x10 (IntKind.wrap .i64 (x11+1))))else none)else none)else(some (x0,x1,x6,x7,x8)))else(some (x0,x1,x6,x7,x8))
def Z1.l0:Nat->(List Abbr)->(List ByteArray)->(List ByteArray)->(List Int)->Int->Option ((List Abbr)× (List ByteArray)× (List Int))
 |0,_,_,_,_,_=>none
 |k+1,x0,x1,x6,x7,x8=>bif (decide (x8<(x1.length:Int)))then(bif decide (0<=x8)then(bif decide (x8<(x1.length:Int))then((Z15.F k (x1.getD (x8:Int).toNat (⟨#[]⟩:ByteArray))).bind λr3=>(Z1.l2 k x0 x1 x6 x7 x8 r3.1 r3.2 0).bind λy6=>Z1.l0 k y6.1 y6.2.1 y6.2.2.1 y6.2.2.2.1 (IntKind.wrap .i64 (y6.2.2.2.2+1)))else none)else none)else(some (x0,x6,x7))
def Z1.l4:Nat->(List Abbr)->(List ByteArray)->(List Int)->Int->Option ((List ByteArray))
 |0,_,_,_,_=>none
 |k+1,x0,x6,x7,x13=>bif (decide (x13<(x0.length:Int)))then((Z21.F k x7 x13).bind λr8=>bif (!r8)then(bif decide (0<=x13)then(bif decide (x13<(x0.length:Int))then(bif room (x6.length+([(x0.getD (x13:Int).toNat (Q9 .abbr)).word]:List ByteArray).length) .str then(Z1.l4 k x0 (x6++([(x0.getD (x13:Int).toNat (Q9 .abbr)).word]:List ByteArray)) x7 (IntKind.wrap .i64 (x13+1)))else none)else none)else none)else(Z1.l4 k x0 x6 x7 (IntKind.wrap .i64 (x13+1))))else(some x6)
def Z1.F (k:Nat)(a0:List Abbr)(a1:List ByteArray):Option ((List ByteArray)×Bool):=(Z6.F k a0).bind λr1=>bif (!r1)then(some (([]:List ByteArray),false))else((Z12.F k a1).bind λr2=>bif (!r2)then(some (([]:List ByteArray),false))else((Z1.l0 k a0 a1 ([]:List ByteArray) ([]:List Int) 0).bind λy7=>(Z1.l4 k y7.1 y7.2.1 y7.2.2 0).bind λy9=>some (y9,true)))
def Z1.C (k:Nat):Cal->Option CArm:=λc=>match c with
 |.f 19=>some (.p [(.sl .abbr)] _ (λx=>Z6.F k x.1) (λr=>(.t .bool r)))
 |.f 20=>some (.p [(.sl .str)] _ (λx=>Z12.F k x.1) (λr=>(.t .bool r)))
 |.f 24=>some (.p [.str] _ (λx=>Z15.F k x.1) (λr=>(.tup [.fr 9 .str r.1,.t .bool r.2])))
 |.f 25=>some (.p [(.sl .abbr),.str] _ (λx=>Z0.F k x.1 x.2.1) (λr=>(.t (.int .i64) r)))
 |.f 26=>some (.p [(.sl (.int .i64)),(.int .i64)] _ (λx=>Z29.F k x.1 x.2.1) (λr=>(.t (.sl (.int .i64)) r)))
 |.f 27=>some (.p [(.sl (.int .i64)),(.int .i64)] _ (λx=>Z21.F k x.1 x.2.1) (λr=>(.t .bool r)))
 |_=>none
def Z1.sp2:List Sp:=[.t 0 (.sl .abbr),.t 1 (.sl .str),.own 6 1024 9 .str false true,.t 7 (.sl (.int .i64)),.t 8 (.int .i64),.own 9 8208 9 .str false true,.t 10 .bool,.t 11 (.int .i64)]
def Z1.sp2_0:List Sp:=[.t 0 (.sl .abbr),.t 1 (.sl .str),.own 6 1024 9 .str false true,.t 7 (.sl (.int .i64)),.t 8 (.int .i64)]
def Z1.A2:LArm:=.one Z1.sp2 Z1.sp2_0 ((List Abbr)× (List ByteArray)× (List ByteArray)× (List Int)×Int) (λk x=>Z1.l2 k x.1 x.2.1 x.2.2.1 x.2.2.2.1 x.2.2.2.2.1 x.2.2.2.2.2.1 x.2.2.2.2.2.2.1 x.2.2.2.2.2.2.2.1) (.exit 2) (λy=>(y.1,y.2.1,y.2.2.1,y.2.2.2.1,y.2.2.2.2,())) (λx=>(x.1,x.2.1,x.2.2.1,x.2.2.2.1,x.2.2.2.2.1))
def Z1.sp0:List Sp:=[.t 0 (.sl .abbr),.t 1 (.sl .str),.own 6 1024 9 .str false true,.rd 7 (.int .i64),.t 8 (.int .i64)]
def Z1.sp0_0:List Sp:=[.t 0 (.sl .abbr),.own 6 1024 9 .str false true,.t 7 (.sl (.int .i64))]
def Z1.A0:LArm:=.one Z1.sp0 Z1.sp0_0 ((List Abbr)× (List ByteArray)× (List Int)) (λk x=>Z1.l0 k x.1 x.2.1 x.2.2.1 x.2.2.2.1 x.2.2.2.2.1) (.exit 0) (λy=>(y.1,y.2.1,y.2.2,())) (λx=>(x.1,x.2.1,x.2.2.1))
def Z1.sp4:List Sp:=[.t 0 (.sl .abbr),.own 6 1024 9 .str false true,.t 7 (.sl (.int .i64)),.t 13 (.int .i64)]
def Z1.sp4_0:List Sp:=[.own 6 1024 9 .str false true]
def Z1.A4:LArm:=.one Z1.sp4 Z1.sp4_0 ((List ByteArray)) (λk x=>Z1.l4 k x.1 x.2.1 x.2.2.1 x.2.2.2.1) (.exit 4) (λy=>(y,())) (λx=>x.1)
def Z1.L:Nat->Option LArm:=λb=>match b with
 |2=>some Z1.A2
 |0=>some Z1.A0
 |4=>some Z1.A4
 |_=>none
theorem Z1.run (k:Nat)(a0:List Abbr)(a1:List ByteArray):QE Q0 (Qf (Z1.C k)) (Qc 78 k Z1.L) Tryz.f10 [.t (.sl .abbr) a0,.t (.sl .str) a1] (YF (.fr 9 .str) (.t .bool))=Z1.F k a0 a1:=by kernel_rfl
theorem Z1.step2 (k:Nat)(x0:List Abbr)(x1:List ByteArray)(x6:List ByteArray)(x7:List Int)(x8:Int)(x9:List ByteArray)(x10:Bool)(x11:Int):QJ Q0 (Qf (Z1.C k)) (Qc 78 k Z1.L) 2 (Qo Tryz.f10 2) (J1 78 Z1.sp2 (x0,x1,x6,x7,x8,x9,x10,x11,())) (Z1.A2.cont 78 k)=Z1.l2 (k+1) x0 x1 x6 x7 x8 x9 x10 x11:=by kernel_rfl
theorem Z1.step0 (k:Nat)(x0:List Abbr)(x1:List ByteArray)(x6:List ByteArray)(x7:List Int)(x8:Int):QJ Q0 (Qf (Z1.C k)) (Qc 78 k Z1.L) 0 (Qo Tryz.f10 0) (J1 78 Z1.sp0 (x0,x1,x6,x7,x8,())) (Z1.A0.cont 78 k)=Z1.l0 (k+1) x0 x1 x6 x7 x8:=by kernel_rfl
theorem Z1.step4 (k:Nat)(x0:List Abbr)(x6:List ByteArray)(x7:List Int)(x13:Int):QJ Q0 (Qf (Z1.C k)) (Qc 78 k Z1.L) 4 (Qo Tryz.f10 4) (J1 78 Z1.sp4 (x0,x6,x7,x13,())) (Z1.A4.cont 78 k)=Z1.l4 (k+1) x0 x6 x7 x13:=by kernel_rfl
theorem Z1.G (hE:EnvOk Tryz.prog Q0)(pv:Nat->Value)(k:Nat):∀cal A,Z1.C k cal=some A->Qg Tryz.prog Q0 pv cal A:=by
 intro cal A h
 unfold Z1.C at h
 split at h
 ·cases h;exact λx y hy=>Z6.good hE pv k x.1 hy
 ·cases h;exact λx y hy=>Z12.good hE pv k x.1 hy
 ·cases h;exact λx y hy=>Z15.good hE pv k x.1 hy
 ·cases h;exact λx y hy=>Z0.good hE pv k x.1 x.2.1 hy
 ·cases h;exact λx y hy=>Z29.good hE pv k x.1 x.2.1 hy
 ·cases h;exact λx y hy=>Z21.good hE pv k x.1 x.2.1 hy
 ·cases h
theorem Z1.good (hE:EnvOk Tryz.prog Q0)(pv:Nat->Value)(k:Nat)(a0:List Abbr)(a1:List ByteArray){y:_}(h:Z1.F k a0 a1=some y):Qa Tryz.prog Q0 pv (.f 10) (Qb [(.sl .abbr),(.sl .str)] (a0,a1,())) (.tup [.fr 9 .str y.1,.t .bool y.2]):=
 Qi hE (t:=Z1.C) k (λk _=>Z1.G hE pv k) (f:=10) (fn:=Tryz.f10) (by kernel_rfl) rfl (by kernel_rfl) (by kernel_rfl) (lt:=Z1.L) (by kernel_rfl) (λb A h=>by
  unfold Z1.L at h;split at h
  ·cases h;exact⟨by kernel_rfl,by kernel_rfl,λ_=>rfl,λ_=>rfl⟩
  ·cases h;exact⟨by kernel_rfl,by kernel_rfl,λ_=>rfl,λ_=>rfl⟩
  ·cases h;exact⟨by kernel_rfl,by kernel_rfl,λ_=>rfl,λ_=>rfl⟩
  ·cases h) (λb A h=>by
  unfold Z1.L at h;split at h
  ·cases h;exact λk x=>Z1.step2 k x.1 x.2.1 x.2.2.1 x.2.2.2.1 x.2.2.2.2.1 x.2.2.2.2.2.1 x.2.2.2.2.2.2.1 x.2.2.2.2.2.2.2.1
  ·cases h;exact λk x=>Z1.step0 k x.1 x.2.1 x.2.2.1 x.2.2.2.1 x.2.2.2.2.1
  ·cases h;exact λk x=>Z1.step4 k x.1 x.2.1 x.2.2.1 x.2.2.2.1
  ·cases h) ((Z1.run k a0 a1).trans h) (λr hr=>Ya hr)
def Z24.l0:Nat->(List ByteArray)->ByteArray->Int->Option (Sum Bool Unit)
 |0,_,_,_=>none
 |k+1,x0,x1,x5=>bif (decide (x5<(x0.length:Int)))then(bif decide (0<=x5)then(bif decide (x5<(x0.length:Int))then(bif (Ql (x0.getD (x5:Int).toNat (⟨#[]⟩:ByteArray)) x1)then(some (.inl true))else(Z24.l0 k x0 x1 (IntKind.wrap .i64 (x5+1))))else none)else none)else(some (.inr ()))
def Z24.F (k:Nat)(a0:List ByteArray)(a1:ByteArray):Option (Bool):=(Z24.l0 k a0 a1 0).bind λy1=>match y1 with|.inl z2=>some z2|.inr z2=>some false
def Z24.C (k:Nat):Cal->Option CArm:=λc=>match c with
 |_=>none
def Z24.sp0:List Sp:=[.t 0 (.sl .str),.t 1 .str,.t 5 (.int .i64)]
def Z24.sp0_0:List Sp:=[.t 4 .bool]
def Z24.sp0_1:List Sp:=[]
def Z24.A0:LArm:=.two Z24.sp0 Z24.sp0_0 Z24.sp0_1 (Bool) (Unit) (λk x=>Z24.l0 k x.1 x.2.1 x.2.2.1) .ret (.exit 0) (λy=>(y,())) (λx=>x.1) (λy=>()) (λx=>())
def Z24.L:Nat->Option LArm:=λb=>match b with
 |0=>some Z24.A0
 |_=>none
theorem Z24.run (k:Nat)(a0:List ByteArray)(a1:ByteArray):QE Q0 (Qf (Z24.C k)) (Qc 18 k Z24.L) Tryz.f11 [.t (.sl .str) a0,.t .str a1] (Qe (.t .bool))=Z24.F k a0 a1:=by kernel_rfl
theorem Z24.step0 (k:Nat)(x0:List ByteArray)(x1:ByteArray)(x5:Int):QJ Q0 (Qf (Z24.C k)) (Qc 18 k Z24.L) 0 (Qo Tryz.f11 0) (J1 18 Z24.sp0 (x0,x1,x5,())) (Z24.A0.cont 18 k)=Z24.l0 (k+1) x0 x1 x5:=by kernel_rfl
theorem Z24.G (hE:EnvOk Tryz.prog Q0)(pv:Nat->Value)(k:Nat):∀cal A,Z24.C k cal=some A->Qg Tryz.prog Q0 pv cal A:=by
 intro cal A h
 unfold Z24.C at h
 cases h
theorem Z24.good (hE:EnvOk Tryz.prog Q0)(pv:Nat->Value)(k:Nat)(a0:List ByteArray)(a1:ByteArray){y:_}(h:Z24.F k a0 a1=some y):Qa Tryz.prog Q0 pv (.f 11) (Qb [(.sl .str),.str] (a0,a1,())) (.t .bool y):=
 Qi hE (t:=Z24.C) k (λk _=>Z24.G hE pv k) (f:=11) (fn:=Tryz.f11) (by kernel_rfl) rfl (by kernel_rfl) (by kernel_rfl) (lt:=Z24.L) (by kernel_rfl) (λb A h=>by
  unfold Z24.L at h;split at h
  ·cases h;exact⟨by kernel_rfl,by kernel_rfl,by kernel_rfl,λ_=>rfl,λ_=>rfl,λ_=>rfl⟩
  ·cases h) (λb A h=>by
  unfold Z24.L at h;split at h
  ·cases h;exact λk x=>Z24.step0 k x.1 x.2.1 x.2.2.1
  ·cases h) ((Z24.run k a0 a1).trans h) (λr hr=>Q3 hr)
def Z55.F (k:Nat)(a0:List Abbr)(a1:ByteArray):Option (ByteArray×Bool):=(Z9.F k a0).bind λr1=>bif (!r1)then(some ((⟨#[]⟩:ByteArray),false))else((Z47.F k a1).bind λr2=>bif (!r2)then(some ((⟨#[]⟩:ByteArray),false))else((Z8.F k a0 a1).bind λr3=>some (r3,true)))
def Z55.C (k:Nat):Cal->Option CArm:=λc=>match c with
 |.f 28=>some (.p [(.sl .abbr)] _ (λx=>Z9.F k x.1) (λr=>(.t .bool r)))
 |.f 29=>some (.p [.str] _ (λx=>Z47.F k x.1) (λr=>(.t .bool r)))
 |.f 16=>some (.p [(.sl .abbr),.str] _ (λx=>Z8.F k x.1 x.2.1) (λr=>(.t .str r)))
 |_=>none
theorem Z55.run (k:Nat)(a0:List Abbr)(a1:ByteArray):QE Q0 (Qf (Z55.C k)) (Qc 17 0 (λ_=>none)) Tryz.f12 [.t (.sl .abbr) a0,.t .str a1] (YF (.t .str) (.t .bool))=Z55.F k a0 a1:=by kernel_rfl
theorem Z55.G (hE:EnvOk Tryz.prog Q0)(pv:Nat->Value)(k:Nat):∀cal A,Z55.C k cal=some A->Qg Tryz.prog Q0 pv cal A:=by
 intro cal A h
 unfold Z55.C at h
 split at h
 ·cases h;exact λx y hy=>Z9.good hE pv k x.1 hy
 ·cases h;exact λx y hy=>Z47.good hE pv k x.1 hy
 ·cases h;exact λx y hy=>Z8.good hE pv k x.1 x.2.1 hy
 ·cases h
theorem Z55.good (hE:EnvOk Tryz.prog Q0)(pv:Nat->Value)(k:Nat)(a0:List Abbr)(a1:ByteArray){y:_}(h:Z55.F k a0 a1=some y):Qa Tryz.prog Q0 pv (.f 12) (Qb [(.sl .abbr),.str] (a0,a1,())) (.tup [.t .str y.1,.t .bool y.2]):=
 Qh hE (Z55.G hE pv k) (f:=12) (fn:=Tryz.f12) (by kernel_rfl) rfl (by kernel_rfl) (by kernel_rfl) ((Z55.run k a0 a1).trans h) (λr hr=>Ya hr)
def Z4.l0:Nat->(List Abbr)->(List ByteArray)->(List ByteArray)->(List Abbr)->Int->Option ((List Abbr)× (List ByteArray)× (List Abbr))
 |0,_,_,_,_,_=>none
 |k+1,x3,x4,x9,x13,x14=>bif (decide (x14<(x3.length:Int)))then(bif decide (0<=x14)then(bif decide (x14<(x3.length:Int))then((Z24.F k x9 ((x3.getD ((x14:Int).toNat) (Q9 .abbr)).word)).bind λr12=>bif (!r12)then(bif decide (0<=x14)then(bif decide (x14<(x3.length:Int))then(bif room (x13.length+([(x3.getD ((x14:Int).toNat) (Q9 .abbr))]:List Abbr).length) .abbr then(Z4.l0 k x3 x4 x9 (x13++([(x3.getD ((x14:Int).toNat) (Q9 .abbr))]:List Abbr)) (IntKind.wrap .i64 (x14+1)))else none)else none)else none)else(Z4.l0 k x3 x4 x9 x13 (IntKind.wrap .i64 (x14+1))))else none)else none)else(some (x3,x4,x13))
def Z4.l2:Nat->(List Abbr)->(List ByteArray)->(List Abbr)->Int->Option (Sum Bool Unit)
 |0,_,_,_,_=>none
 |k+1,x3,x4,x13,x15=>bif (decide (x15<(x4.length:Int)))then(bif decide (0<=x15)then(bif decide (x15<(x4.length:Int))then((Z55.F k x3 (x4.getD ((x15:Int).toNat) (⟨#[]⟩:ByteArray))).bind λr14=>bif decide (0<=x15)then(bif decide (x15<(x4.length:Int))then((Z55.F k x13 (x4.getD ((x15:Int).toNat) (⟨#[]⟩:ByteArray))).bind λr15=>bif (!r14.2)then(some (.inl false))else(bif (!r15.2)then(some (.inl false))else(bif (!Ql r14.1 r15.1)then(some (.inl false))else(Z4.l2 k x3 x4 x13 (IntKind.wrap .i64 (x15+1))))))else none)else none)else none)else none)else(some (.inr ()))
def Z4.F (k:Nat)(a0:List Int):Option (Bool):=(Z69.F a0).bind λr1=>bif r1 then(some true)else((Z56.F k a0).bind λr2=>(Z18.F k r2.1 r2.2).bind λr3=>(Z3.F k r2.1 r2.2).bind λr4=>bif (!(r3.2==r4.2))then(bif (r3.2==r4.2)then((Z11.F k r3.1 r4.1).bind λr5=>some r5)else(some false))else((Z11.F k r3.1 r4.1).bind λr6=>bif (!r6)then(bif (r3.2==r4.2)then((Z11.F k r3.1 r4.1).bind λr7=>some r7)else(some false))else(bif (!r3.2)then(bif (r3.2==r4.2)then((Z11.F k r3.1 r4.1).bind λr8=>some r8)else(some false))else((Z75.F k r2.1 r2.2).bind λr9=>(Z1.F k r2.1 r2.2).bind λr10=>bif (!(r9.2==r10.2))then(some false)else((Z11.F k r9.1 r10.1).bind λr11=>bif (!r11)then(some false)else(bif (!r9.2)then(some false)else((Z4.l0 k r2.1 r2.2 r9.1 ([]:List Abbr) 0).bind λy13=>(Z4.l2 k y13.1 y13.2.1 y13.2.2 0).bind λy16=>match y16 with|.inl z17=>some z17|.inr z17=>some true)))))))
def Z4.C (k:Nat):Cal->Option CArm:=λc=>match c with
 |.f 4=>some (.p [(.sl (.int .u8))] _ (λx=>Z69.F x.1) (λr=>(.t .bool r)))
 |.f 5=>some (.p [(.sl (.int .u8))] _ (λx=>Z56.F k x.1) (λr=>(.tup [.fr 33 .abbr r.1,.fr 9 .str r.2])))
 |.f 6=>some (.p [(.sl .abbr),(.sl .str)] _ (λx=>Z18.F k x.1 x.2.1) (λr=>(.tup [.fr 9 .str r.1,.t .bool r.2])))
 |.f 7=>some (.p [(.sl .abbr),(.sl .str)] _ (λx=>Z3.F k x.1 x.2.1) (λr=>(.tup [.fr 9 .str r.1,.t .bool r.2])))
 |.f 8=>some (.p [(.sl .str),(.sl .str)] _ (λx=>Z11.F k x.1 x.2.1) (λr=>(.t .bool r)))
 |.f 9=>some (.p [(.sl .abbr),(.sl .str)] _ (λx=>Z75.F k x.1 x.2.1) (λr=>(.tup [.fr 9 .str r.1,.t .bool r.2])))
 |.f 10=>some (.p [(.sl .abbr),(.sl .str)] _ (λx=>Z1.F k x.1 x.2.1) (λr=>(.tup [.fr 9 .str r.1,.t .bool r.2])))
 |.f 11=>some (.p [(.sl .str),.str] _ (λx=>Z24.F k x.1 x.2.1) (λr=>(.t .bool r)))
 |.f 12=>some (.p [(.sl .abbr),.str] _ (λx=>Z55.F k x.1 x.2.1) (λr=>(.tup [.t .str r.1,.t .bool r.2])))
 |_=>none
def Z4.sp0:List Sp:=[.own 3 3076 33 .abbr false true,.own 4 3077 9 .str false true,.own 9 8200 9 .str false true,.own 13 12288 33 .abbr false true,.t 14 (.int .i64)]
def Z4.sp0_0:List Sp:=[.own 3 3076 33 .abbr false true,.own 4 3077 9 .str false true,.own 13 12288 33 .abbr false true]
def Z4.A0:LArm:=.one Z4.sp0 Z4.sp0_0 ((List Abbr)× (List ByteArray)× (List Abbr)) (λk x=>Z4.l0 k x.1 x.2.1 x.2.2.1 x.2.2.2.1 x.2.2.2.2.1) (.exit 0) (λy=>(y.1,y.2.1,y.2.2,())) (λx=>(x.1,x.2.1,x.2.2.1))
def Z4.sp2:List Sp:=[.own 3 3076 33 .abbr false true,.own 4 3077 9 .str false true,.own 13 12288 33 .abbr false true,.t 15 (.int .i64)]
def Z4.sp2_0:List Sp:=[.t 2 .bool]
def Z4.sp2_1:List Sp:=[]
def Z4.A2:LArm:=.two Z4.sp2 Z4.sp2_0 Z4.sp2_1 (Bool) (Unit) (λk x=>Z4.l2 k x.1 x.2.1 x.2.2.1 x.2.2.2.1) .ret (.exit 2) (λy=>(y,())) (λx=>x.1) (λy=>()) (λx=>())
def Z4.L:Nat->Option LArm:=λb=>match b with
 |0=>some Z4.A0
 |2=>some Z4.A2
 |_=>none
theorem Z4.run (k:Nat)(a0:List Int):QE Q0 (Qf (Z4.C k)) (Qc 142 k Z4.L) Tryz.f3 [.t (.sl (.int .u8)) a0] (Qe (.t .bool))=Z4.F k a0:=by kernel_rfl
theorem Z4.step0 (k:Nat)(x3:List Abbr)(x4:List ByteArray)(x9:List ByteArray)(x13:List Abbr)(x14:Int):QJ Q0 (Qf (Z4.C k)) (Qc 142 k Z4.L) 0 (Qo Tryz.f3 0) (J1 142 Z4.sp0 (x3,x4,x9,x13,x14,())) (Z4.A0.cont 142 k)=Z4.l0 (k+1) x3 x4 x9 x13 x14:=by kernel_rfl
theorem Z4.step2 (k:Nat)(x3:List Abbr)(x4:List ByteArray)(x13:List Abbr)(x15:Int):QJ Q0 (Qf (Z4.C k)) (Qc 142 k Z4.L) 2 (Qo Tryz.f3 2) (J1 142 Z4.sp2 (x3,x4,x13,x15,())) (Z4.A2.cont 142 k)=Z4.l2 (k+1) x3 x4 x13 x15:=by kernel_rfl
theorem Z4.G (hE:EnvOk Tryz.prog Q0)(pv:Nat->Value)(k:Nat):∀cal A,Z4.C k cal=some A->Qg Tryz.prog Q0 pv cal A:=by
 intro cal A h
 unfold Z4.C at h
 split at h
 ·cases h;exact λx y hy=>Z69.good hE pv x.1 hy
 ·cases h;exact λx y hy=>Z56.good hE pv k x.1 hy
 ·cases h;exact λx y hy=>Z18.good hE pv k x.1 x.2.1 hy
 ·cases h;exact λx y hy=>Z3.good hE pv k x.1 x.2.1 hy
 ·cases h;exact λx y hy=>Z11.good hE pv k x.1 x.2.1 hy
 ·cases h;exact λx y hy=>Z75.good hE pv k x.1 x.2.1 hy
 ·cases h;exact λx y hy=>Z1.good hE pv k x.1 x.2.1 hy
 ·cases h;exact λx y hy=>Z24.good hE pv k x.1 x.2.1 hy
 ·cases h;exact λx y hy=>Z55.good hE pv k x.1 x.2.1 hy
 ·cases h
theorem Z4.good (hE:EnvOk Tryz.prog Q0)(pv:Nat->Value)(k:Nat)(a0:List Int){y:_}(h:Z4.F k a0=some y):Qa Tryz.prog Q0 pv (.f 3) (Qb [(.sl (.int .u8))] (a0,())) (.t .bool y):=
 Qi hE (t:=Z4.C) k (λk _=>Z4.G hE pv k) (f:=3) (fn:=Tryz.f3) (by kernel_rfl) rfl (by kernel_rfl) (by kernel_rfl) (lt:=Z4.L) (by kernel_rfl) (λb A h=>by
  unfold Z4.L at h;split at h
  ·cases h;exact⟨by kernel_rfl,by kernel_rfl,λ_=>rfl,λ_=>rfl⟩
  ·cases h;exact⟨by kernel_rfl,by kernel_rfl,by kernel_rfl,λ_=>rfl,λ_=>rfl,λ_=>rfl⟩
  ·cases h) (λb A h=>by
  unfold Z4.L at h;split at h
  ·cases h;exact λk x=>Z4.step0 k x.1 x.2.1 x.2.2.1 x.2.2.2.1 x.2.2.2.2.1
  ·cases h;exact λk x=>Z4.step2 k x.1 x.2.1 x.2.2.1 x.2.2.2.1
  ·cases h) ((Z4.run k a0).trans h) (λr hr=>Q3 hr)
end Go.Proofs.YtlnhmbnbloakmaaGreatDoor
end
section
/- Plain laws: abbreviations,their check. -/
namespace Go.Proofs.YtlnhmbnbloakmaaGreatDoor
open Go.Gx
theorem getD_at {α:Type}{xs:List α}{i:Nat}(h:i<xs.length)(d:α):xs.getD i d=xs[i]:=by simp[List.getD,List.getElem?_eq_getElem h]
def low (b:UInt8):Bool:=decide (97<=b.toNat)&&decide (b.toNat<=122)
def JU (s:ByteArray)(b:Nat):ByteArray:=if 0<s.size/\bt s (s.size-1)=b then s.extract 0 (s.size-1)else s
theorem Dz (s:ByteArray)(b:Nat):(JU s b).size<=s.size:=by
 unfold JU;split
 ·simp[ByteArray.size_extract]
 ·exact Nat.le_refl _
theorem D3 {s:ByteArray}:(!Ql s ⟨#[]⟩)=decide (0<s.size):=by
 rw[Q4Y]
 have:L ⟨#[]⟩=[]:=rfl
 rw[this,<-J2]
 cases L s<;>rfl
theorem UH (s:ByteArray)(b:Nat)(h:s.size<=9223372036854775807):Z42.F s b=some (JU s b):=by
 unfold Z42.F JU
 rw[D3]
 by_cases c:0<s.size
 ·simp(disch:=omega) only[Qd,wrap_in]
  rw[show((s.size:Int)-1).toNat=s.size-1 by omega]
  by_cases c2:bt s (s.size-1)=b
  ·simp(disch:=first|omega|exact c2) only[ceq]
   rw[if_pos ⟨c,c2⟩]
  ·simp(disch:=first|omega|exact c2) only[cne]
   rw[if_neg (λh=>c2 h.2)]
 ·simp(disch:=omega) only[Qu]
  rw[if_neg (λh=>c h.1)]
theorem Q1q (s:ByteArray)(c:UInt8)(h:s.size<=9223372036854775807):Z46.F s ⟨#[c]⟩=some (decide (0<s.size)&&(bt s (s.size-1)==(c.toNat:Int))):=by
 unfold Z46.F
 have h1:(⟨#[c]⟩:ByteArray).size=1:=rfl
 rw[h1]
 by_cases hs:0<s.size
 ·simp(disch:=omega) only[Qd,wrap_in]
  rw[Q4Y,J8,show((s.size:Int)-((1:Nat):Int)).toNat=s.size-1 by omega,List.take_of_length_le (by rw[J2];omega),Q7m]
  congr 1
  have hl:s.size-1<(L s).length:=by rw[J2];omega
  rw[List.drop_eq_getElem_cons hl,List.drop_eq_nil_of_le (by rw[J2];omega),getD_at hl,decide_eq_true hs]
  show([(L s)[s.size-1]]==[c])=_
  rw[Bool.true_and]
  by_cases e:(L s)[s.size-1]=c
  ·rw[e];simp
  ·have:((L s)[s.size-1].toNat:Int)≠(c.toNat:Int):=λh=>e (UInt8.toNat_inj.1 (by omega))
   rw[show((((L s)[s.size-1]).toNat:Int)==(c.toNat:Int))=false by simpa using this]
   simpa using e
 ·simp(disch:=omega) only[Qu]
  rw[decide_eq_false hs];rfl
theorem Q8p (s:ByteArray)(c:UInt8)(h:s.size<=9223372036854775807):Z57.F s ⟨#[c]⟩=some (JU s c.toNat):=by
 unfold Z57.F Z70.F
 rw[Q1q s c h]
 have h1:(⟨#[c]⟩:ByteArray).size=1:=rfl
 rw[h1]
 unfold JU
 simp only[Option.bind_some]
 by_cases hs:0<s.size
 ·simp(disch:=omega) only[Qd,wrap_in,decide_eq_true hs,Bool.true_and]
  rw[show((s.size:Int)-((1:Nat):Int)).toNat=s.size-1 by omega]
  by_cases c2:bt s (s.size-1)=c.toNat
  ·simp(disch:=first|omega|exact c2) only[ceq]
   rw[if_pos ⟨hs,c2⟩];rfl
  ·simp(disch:=first|omega|exact c2) only[cne]
   rw[if_neg (λh=>c2 h.2)];rfl
 ·rw[decide_eq_false hs,if_neg (λh=>hs h.1)];rfl
theorem Q53 (b:UInt8):low b=(decide ((b.toNat:Int) ≥ 97)&&decide ((b.toNat:Int)<=122)):=by
 unfold low
 congr 1<;>exact decide_eq_decide.2 (by omega)
theorem Q4i (b:UInt8):Z38.F (b.toNat:Int)=some (low b):=by
 unfold Z38.F
 rw[Q53]
 cases decide ((b.toNat:Int) ≥ 97)<;>rfl
theorem Q9p (a b c:Int):Z64.F a b c=some (decide (a ≥ b)&&decide (a<=c)):=by
 unfold Z64.F
 cases decide (a ≥ b)<;>rfl
theorem Q5W (a b c:Int):Z58.F a b c=some (decide (a ≥ b)&&decide (a<=c)):=by
 unfold Z58.F
 cases decide (a ≥ b)<;>rfl
theorem Q3h {s:ByteArray}{i:Nat}(hi:i<s.size)(p:UInt8->Bool):((L s).drop i).all p=(p ((L s).getD i 0)&&((L s).drop (i+1)).all p):=by
 have hl:i<(L s).length:=by rw[J2];exact hi
 rw[List.drop_eq_getElem_cons hl,getD_at hl];rfl
theorem Q3i (s:ByteArray)(hs:s.size<=9223372036854775806)(lo hi:Int):∀n i:Nat,i+n=s.size->Ev (λk=>Z17.l0 k s lo hi i) (if((L s).drop i).all low=true then .inr (s,lo,hi)else .inl false)
 |0,i,h=>by
  refine Ev.step (λk=>by rw[Z17.l0]) ?_
  simp(disch:=omega) only[Qu]
  rw[List.drop_eq_nil_of_le (by rw[J2];omega)]
  exact Ev.pure _
 |n+1,i,h=>by
  refine Ev.step (λk=>by rw[Z17.l0]) ?_
  simp(disch:=omega) only[Qd,Int.toNat_natCast,Q7m]
  refine Ev.bind0 (Q4i _) ?_
  rw[Q3h (by omega)]
  cases hlow:low ((L s).getD i 0)with
  |false=>simp only[Bool.not_false,cond_true,Bool.false_and];exact Ev.pure _
  |true=>
   simp(disch:=omega) only[Bool.not_true,cond_false,Bool.true_and,wrap_in]
   exact Q3i s hs lo hi n (i+1) (by omega)
theorem Q0l (s:ByteArray)(hs:s.size<=9223372036854775806)(lo hi:Int):∀n i:Nat,i+n=s.size->Ev (λk=>Z19.l0 k s lo hi i) (if((L s).drop i).all low=true then .inr (s,lo,hi)else .inl false)
 |0,i,h=>by
  refine Ev.step (λk=>by rw[Z19.l0]) ?_
  simp(disch:=omega) only[Qu]
  rw[List.drop_eq_nil_of_le (by rw[J2];omega)]
  exact Ev.pure _
 |n+1,i,h=>by
  refine Ev.step (λk=>by rw[Z19.l0]) ?_
  simp(disch:=omega) only[Qd,Int.toNat_natCast,Q7m]
  rw[Q3h (by omega),Q53]
  generalize (((L s).getD i 0).toNat:Int)=b
  by_cases c:b<97
  ·simp(disch:=omega) only[Qd,Dy,Bool.false_and];exact Ev.pure _
  ·by_cases c2:b > 122
   ·simp(disch:=omega) only[Qu,Qd,Gf,Dy,Bool.true_and,Bool.false_and];exact Ev.pure _
   ·simp(disch:=omega) only[Qu,Gf,Bool.true_and,wrap_in]
    exact Q0l s hs lo hi n (i+1) (by omega)
def Yj (s:ByteArray)(lo hi:Int)(b:Nat):Bool:=(L (JU s b)).all low&&(decide ((((JU s b).size:Nat):Int) ≥ lo)&&decide ((((JU s b).size:Nat):Int)<=hi))
theorem Q0m (s:ByteArray)(lo hi:Int)(c:UInt8)(h:s.size<=9223372036854775806):Ev (λk=>Z17.F k s lo hi ⟨#[c]⟩) (Yj s lo hi c.toNat):=by
 unfold Z17.F Yj
 refine Ev.bind0 (Q8p s c (by omega)) ?_
 have hc:=Dz s c.toNat
 have:=Q3i (JU s c.toNat) (by omega) lo hi (JU s c.toNat).size 0 (by omega)
 rw[List.drop_zero]at this
 cases hall:(L (JU s c.toNat)).all low with
 |true=>rw[hall]at this;exact Ev.bind this (Ev.bind0 (Q5W _ _ _) (Ev.pure _))
 |false=>rw[hall]at this;exact Ev.bind this (Ev.pure _)
theorem Q0n (s:ByteArray)(lo hi:Int)(h:s.size<=9223372036854775806):Ev (λk=>Z19.F k s lo hi) ((L s).all low&&(decide ((s.size:Int) ≥ lo)&&decide ((s.size:Int)<=hi))):=by
 unfold Z19.F
 have:=Q0l s h lo hi s.size 0 (by omega)
 rw[List.drop_zero]at this
 cases hall:(L s).all low with
 |true=>rw[hall]at this;exact Ev.bind this (Ev.bind0 (Q9p _ _ _) (Ev.pure _))
 |false=>rw[hall]at this;exact Ev.bind this (Ev.pure _)
def Q5X (a:Abbr):Bool:=Yj a.word 2 15 45&&Yj a.short 1 12 46
theorem Q28 (a:Abbr)(h1:a.word.size<=9223372036854775806)(h2:a.short.size<=9223372036854775806):Ev (λk=>Z65.F k a) (Q5X a):=by
 unfold Z65.F Q5X
 refine Ev.bind0 (UH a.word 45 (by omega)) ?_
 have hc:=Dz a.word 45
 refine Ev.bind (Q0n _ 2 15 (by omega)) ?_
 refine Ev.cond (λh=>?_) (λh=>?_)
 ·refine Ev.bind0 (UH a.short 46 (by omega)) ?_
  have hc:=Dz a.short 46
  refine(Ev.bind (Q0n _ 1 12 (by omega)) (Ev.pure _)).eq ?_
  show _=(Yj a.word 2 15 45&&_)
  rw[show Yj a.word 2 15 45=true from h,Bool.true_and];rfl
 ·rw[show Yj a.word 2 15 45=false from h];exact Ev.pure _
def okA (xs:List Abbr)(i:Nat):Bool:=Q5X (xs.getD i (Q9 .abbr))&&(decide (i=0)||ltS (xs.getD (i-1) (Q9 .abbr)).word (xs.getD i (Q9 .abbr)).word)
def smalls (xs:List Abbr):Prop:=xs.length<=1048576/\∀a∈xs,a.word.size<=1048576/\a.short.size<=1048576
theorem D4 (xs:List Abbr)(hs:smalls xs):∀n i:Nat,i+n=xs.length->Ev (λk=>Z9.l0 k xs xs xs.length i) (if(List.range' i n).all (okA xs)=true then .inr xs else .inl false)
 |0,i,h=>by
  refine Ev.step (λk=>by rw[Z9.l0]) ?_
  simp(disch:=omega) only[Qu]
  exact Ev.pure _
 |n+1,i,h=>by
  have hi:i<xs.length:=by omega
  obtain⟨hl,hx⟩:=hs
  obtain⟨h1,h2⟩:=hx _ (List.getElem_mem hi)
  rw[<-getD_at hi (Q9 .abbr)]at h1 h2
  rw[List.range'_succ,List.all_cons]
  refine Ev.step (λk=>by rw[Z9.l0]) ?_
  simp(disch:=omega) only[Qd,Int.toNat_natCast]
  refine Ev.bind (Q0m _ 2 15 45 (by omega)) ?_
  unfold okA Q5X
  cases hw:Yj (xs.getD i (Q9 .abbr)).word 2 15 (45:UInt8).toNat with
  |false=>
   rw[show Yj (xs.getD i (Q9 .abbr)).word 2 15 45=false from hw]
   exact Ev.pure _
  |true=>
   rw[show Yj (xs.getD i (Q9 .abbr)).word 2 15 45=true from hw]
   simp only[Bool.not_true,cond_false,Bool.true_and]
   refine Ev.bind (Q0m _ 1 12 46 (by omega)) ?_
   cases hw2:Yj (xs.getD i (Q9 .abbr)).short 1 12 (46:UInt8).toNat with
   |false=>
    rw[show Yj (xs.getD i (Q9 .abbr)).short 1 12 46=false from hw2]
    exact Ev.pure _
   |true=>
    rw[show Yj (xs.getD i (Q9 .abbr)).short 1 12 46=true from hw2]
    simp only[Bool.not_true,cond_false,Bool.true_and]
    have ih:=D4 xs ⟨hl,hx⟩ n (i+1) (by omega)
    by_cases c:i=0
    ·simp(disch:=omega) only[Qu,wrap_in,Gf,Bool.true_or,Bool.true_and]
     exact ih
    ·simp(disch:=omega) only[Qd,wrap_in,Dy,Bool.false_or]
     rw[show((i:Int)-1).toNat=i-1 by omega]
     cases ltS (xs.getD (i-1) (Q9 .abbr)).word (xs.getD i (Q9 .abbr)).word with
     |false=>exact Ev.pure _
     |true=>exact ih
theorem D5 (xs:List Abbr)(hs:smalls xs):∀n i:Nat,i+n=xs.length->∃r,Ev (λk=>Z6.l0 k xs i) r/\(r= .inl false\/r= .inr xs)/\(xs.length<=15->r=if(List.range' i n).all (okA xs)=true then .inr xs else .inl false)
 |0,i,h=>by
  refine⟨.inr xs,Ev.step (λk=>by rw[Z6.l0]) ?_,.inr rfl,λ_=>rfl⟩
  simp(disch:=omega) only[Qu]
  exact Ev.pure _
 |n+1,i,h=>by
  have hi:i<xs.length:=by omega
  obtain⟨hl,hx⟩:=hs
  obtain⟨h1,h2⟩:=hx _ (List.getElem_mem hi)
  rw[<-getD_at hi (Q9 .abbr)]at h1 h2
  obtain⟨r,ih1,ih2,ih3⟩:=D5 xs ⟨hl,hx⟩ n (i+1) (by omega)
  rw[List.range'_succ,List.all_cons]
  by_cases c15:(i:Int)<=15
  ·have st:∀r,Ev (λk=>Z6.l0 k xs i) r ↔ Ev (λk=>Z6.l0 k xs i) r:=λ_=>Iff.rfl
   cases ho:Q5X (xs.getD i (Q9 .abbr))with
   |false=>
    refine⟨.inl false,Ev.step (λk=>by rw[Z6.l0]) ?_,.inl rfl,λ_=>by unfold okA;rw[ho];rfl⟩
    simp(disch:=omega) only[Qd,Int.toNat_natCast]
    exact Ev.bind (Q28 _ (by omega) (by omega)) (by rw[ho];exact Ev.pure _)
   |true=>
    by_cases c:i=0
    ·refine⟨r,Ev.step (λk=>by rw[Z6.l0]) ?_,ih2,λh15=>by rw[ih3 h15];unfold okA;rw[ho,decide_eq_true c];rfl⟩
     simp(disch:=omega) only[Qd,Int.toNat_natCast]
     refine Ev.bind (Q28 _ (by omega) (by omega)) ?_
     rw[ho]
     simp(disch:=omega) only[Bool.not_true,cond_false,Qu,wrap_in]
     exact ih1
    ·cases hlt:ltS (xs.getD (i-1) (Q9 .abbr)).word (xs.getD i (Q9 .abbr)).word with
     |false=>
      refine⟨.inl false,Ev.step (λk=>by rw[Z6.l0]) ?_,.inl rfl,λ_=>by unfold okA;rw[ho,hlt,decide_eq_false c];rfl⟩
      simp(disch:=omega) only[Qd,Int.toNat_natCast]
      refine Ev.bind (Q28 _ (by omega) (by omega)) ?_
      rw[ho]
      simp(disch:=omega) only[Bool.not_true,cond_false,Qd,wrap_in]
      rw[show((i:Int)-1).toNat=i-1 by omega,hlt]
      exact Ev.pure _
     |true=>
      refine⟨r,Ev.step (λk=>by rw[Z6.l0]) ?_,ih2,λh15=>by rw[ih3 h15];unfold okA;rw[ho,hlt,decide_eq_false c];rfl⟩
      simp(disch:=omega) only[Qd,Int.toNat_natCast]
      refine Ev.bind (Q28 _ (by omega) (by omega)) ?_
      rw[ho]
      simp(disch:=omega) only[Bool.not_true,cond_false,Qd,wrap_in]
      rw[show((i:Int)-1).toNat=i-1 by omega,hlt]
      exact ih1
  ·refine⟨.inr xs,Ev.step (λk=>by rw[Z6.l0]) ?_,.inr rfl,λh15=>by omega⟩
   simp(disch:=omega) only[Qd,Qu]
   exact Ev.pure _
def JB (xs:List Abbr):Bool:=(List.range' 0 xs.length).all (okA xs)&&decide ((xs.length:Int)<=15)
theorem D6 (xs:List Abbr)(hs:smalls xs):Ev (λk=>Z9.F k xs) (JB xs):=by
 unfold Z9.F JB
 have:=D4 xs hs xs.length 0 (by omega)
 cases hall:(List.range' 0 xs.length).all (okA xs)with
 |true=>rw[hall]at this;exact Ev.bind this (Ev.pure _)
 |false=>rw[hall]at this;exact Ev.bind this (Ev.pure _)
theorem D7 (xs:List Abbr)(hs:smalls xs):Ev (λk=>Z6.F k xs) (JB xs):=by
 unfold Z6.F JB
 obtain⟨r,h1,h2,h3⟩:=D5 xs hs xs.length 0 (by omega)
 by_cases c:xs.length<=15
 ·have:=h3 c
  cases hall:(List.range' 0 xs.length).all (okA xs)with
  |true=>rw[this,hall]at h1;exact Ev.bind h1 (Ev.pure _)
  |false=>rw[this,hall]at h1;exact Ev.bind h1 (Ev.pure _)
 ·rw[decide_eq_false (show¬(xs.length:Int)<=15 by omega),Bool.and_false]
  rcases h2 with rfl|rfl
  ·exact Ev.bind h1 (Ev.pure _)
  ·exact Ev.bind h1 ((Ev.pure _).eq (decide_eq_false (by omega)))
end Go.Proofs.YtlnhmbnbloakmaaGreatDoor
end
section
/- The addition of an abbreviation,both ways. -/
namespace Go.Proofs.YtlnhmbnbloakmaaGreatDoor
open Go.Gx
theorem Q7r {n:Nat}(h:n<=2097152):room n .abbr=true:=by
 show Nat.ble (n*32) 140737488355328=true
 exact Nat.ble_eq_true_of_le (by omega)
end Go.Proofs.YtlnhmbnbloakmaaGreatDoor
end
section
/- Plain laws: the short form of a word. -/
namespace Go.Proofs.YtlnhmbnbloakmaaGreatDoor
open Go.Gx
theorem Qv (s:ByteArray):(Q6 s).length=s.size:=by
 simp only[Q6,List.length_map,Array.length_toList];rfl
theorem Kq (s:ByteArray):Q6 s=(L s).map λb=>(b.toNat:Int):=rfl
theorem Ys (s:ByteArray)(i:Nat)(h:i<(Q6 s).length):bt s i=(Q6 s)[i]:=by
 rw[Q7m]
 have h':i<(L s).length:=by simpa[Kq]using h
 simp[Kq,List.getD,h']
theorem Q3j (s:ByteArray)(i:Nat)(h:i<(Q6 s).length):0<=(Q6 s)[i]/\(Q6 s)[i]<=255:=by
 rw[<-Ys s i h];exact Q7n s i
theorem Q0o (ys:List Int):L (YU ys)=ys.map λn=>UInt8.ofNat n.toNat:=Q8Z _
theorem Q0p (s:ByteArray):YU (Q6 s)=s:=by
 apply XL
 rw[Q0o,Kq,List.map_map]
 conv=>rhs;rw[<-List.map_id (L s)]
 refine List.map_congr_left λb _=>?_
 simp
theorem Q1r (ys:List Int):(YU ys).size=ys.length:=by
 rw[<-J2,Q0o,List.length_map]
def Kr (b:Int):Bool:=(decide (65<=b)&&decide (b<=90))||(decide (97<=b)&&decide (b<=122))
theorem U5 (b:Int):Z50.F b=some (Kr b):=by
 unfold Z50.F Kr
 simp only[ge_iff_le]
 cases decide (65<=b)<;>cases decide (b<=90)<;>cases decide (97<=b)<;>cases decide (b<=122)<;>rfl
theorem Xk (b:Int):Z49.F b=some (Kr b):=by
 unfold Z49.F Z40.F Z38.F Kr
 simp only[ge_iff_le]
 cases decide (65<=b)<;>cases decide (b<=90)<;>cases decide (97<=b)<;>cases decide (b<=122)<;>rfl
theorem UI (b:Int):Z40.F b=some (decide (65<=b)&&decide (b<=90)):=by
 unfold Z40.F
 simp only[ge_iff_le]
 cases decide (65<=b)<;>rfl
def UQ (b:Int):Int:=bif decide (65<=b)&&decide (b<=90)then b+32 else b
theorem DC (b:Int):Z66.F b=some (UQ b):=by
 unfold Z66.F UQ
 simp only[ge_iff_le]
 by_cases h1:65<=b
 ·by_cases h2:b<=90
  ·have:IntKind.wrap .u8 (b+32)=b+32:=by rw[IntKind.wrap_u8];omega
   simp only[Gf h1,Gf h2,cond_true,Bool.and_self,this]
  ·simp only[Gf h1,Dy h2,cond_true,cond_false,Bool.and_false]
 ·simp only[Dy h1,cond_false,Bool.false_and]
def upI (b:Int):Int:=bif decide (97<=b)&&decide (b<=122)then IntKind.wrap .u8 (b-32)else b
theorem DD (b:Int):Z68.F b=some (upI b):=by
 unfold Z68.F upI
 simp only[ge_iff_le]
 cases decide (97<=b)<;>cases decide (b<=122)<;>rfl
theorem Q29 (b:Int):Z62.F b=some (upI b):=by
 unfold Z62.F Z38.F upI
 simp only[ge_iff_le]
 cases decide (97<=b)<;>cases decide (b<=122)<;>rfl
def mix (s:ByteArray)(i:Nat):List Int:=((Q6 s).take i).map UQ++(Q6 s).drop i
theorem Q2a (s:ByteArray)(i:Nat):(mix s i).length=(Q6 s).length:=by
 unfold mix;simp;omega
theorem Q7s (s:ByteArray)(i:Nat)(h:i<(Q6 s).length):(mix s i).getD i 0=(Q6 s)[i]:=by
 unfold mix
 rw[List.getD_eq_getElem?_getD,List.getElem?_append_right (by simp;omega)]
 simp[Nat.min_eq_left (Nat.le_of_lt h),h]
theorem Q54 (s:ByteArray)(i:Nat)(h:i<(Q6 s).length):(mix s i).set i (UQ (Q6 s)[i])=mix s (i+1):=by
 unfold mix
 rw[List.set_append_right _ _ (by simp;omega)]
 simp only[List.length_map,List.length_take,Nat.min_eq_left (Nat.le_of_lt h),Nat.sub_self]
 rw[List.drop_eq_getElem_cons h,List.set_cons_zero,List.take_add_one,List.getElem?_eq_getElem h]
 simp only[Option.toList_some,List.map_append,List.map_cons,List.map_nil,List.append_assoc,List.cons_append,List.nil_append]
theorem Q7t (s:ByteArray)(i:Nat)(h:i<(Q6 s).length)(e:UQ (Q6 s)[i]=(Q6 s)[i]):mix s (i+1)=mix s i:=by
 rw[<-Q54 s i h,e]
 apply List.ext_getElem?
 intro j
 by_cases hj:i=j
 ·subst hj
  have:=Q7s s i h
  rw[List.getD_eq_getElem?_getD]at this
  rw[List.getElem?_set_self (by rw[Q2a];exact h)]
  rw[List.getElem?_eq_getElem (by rw[Q2a];exact h)]at this ⊢
  rw[<-this];rfl
 ·rw[List.getElem?_set_ne hj]
theorem D8 (s:ByteArray)(hs:s.size<=1048576):∀n i:Nat,i+n=s.size->Ev (λk=>Z20.l0 k s (((Q6 s).take i).map UQ) i) ((Q6 s).map UQ)
 |0,i,h=>by
  refine Ev.step (λk=>by rw[Z20.l0]) ?_
  simp(disch:=omega) only[Qu]
  rw[List.take_of_length_le (by rw[Qv];omega)]
  exact Ev.pure _
 |n+1,i,h=>by
  have hl:=Qv s
  have hi:i<(Q6 s).length:=by omega
  refine Ev.step (λk=>by rw[Z20.l0]) ?_
  simp(disch:=omega) only[Qd,Int.toNat_natCast,Ys s i hi]
  refine Ev.bind0 (DC _) ?_
  have hr:room ((((Q6 s).take i).map UQ).length+([UQ (Q6 s)[i]]:List Int).length) (.int .u8)=true:=by
   unfold room
   rw[Nat.ble_eq]
   have:nb (.int .u8)=1:=rfl
   rw[this]
   simp;omega
  simp(disch:=omega) only[hr,cond_true,wrap_in]
  have e:((Q6 s).take i).map UQ++[UQ (Q6 s)[i]]=((Q6 s).take (i+1)).map UQ:=by
   rw[List.take_add_one,List.getElem?_eq_getElem hi]
   simp only[Option.toList_some,List.map_append,List.map_cons,List.map_nil]
  rw[e]
  exact D8 s hs n (i+1) (by omega)
theorem Q3k (s:ByteArray)(hs:s.size<=1048576):∀n i:Nat,i+n=s.size->Ev (λk=>Z14.l0 k (mix s i) s.size i) ((Q6 s).map UQ)
 |0,i,h=>by
  refine Ev.step (λk=>by rw[Z14.l0]) ?_
  simp(disch:=omega) only[Qu]
  unfold mix
  rw[List.take_of_length_le (by rw[Qv];omega),List.drop_eq_nil_of_le (by rw[Qv];omega),List.append_nil]
  exact Ev.pure _
 |n+1,i,h=>by
  have hl:=Qv s
  have hi:i<(Q6 s).length:=by omega
  have hm:=Q2a s i
  have ih:=Q3k s hs n (i+1) (by omega)
  have hb:=Q3j s i hi
  refine Ev.step (λk=>by rw[Z14.l0]) ?_
  simp(disch:=omega) only[Qd,Int.toNat_natCast,Q7s s i hi]
  refine Ev.bind0 (UI _) ?_
  cases hu:decide (65<=(Q6 s)[i])&&decide ((Q6 s)[i]<=90)with
  |true=>
   have hu':=hu
   simp only[Bool.and_eq_true,decide_eq_true_eq]at hu'
   have e:IntKind.wrap .u8 (IntKind.wrap .u8 ((Q6 s)[i]+97)-65)=UQ (Q6 s)[i]:=by
    unfold UQ
    rw[hu,cond_true,IntKind.wrap_u8,IntKind.wrap_u8];omega
   simp(disch:=omega) only[cond_true,Qd,e,Q54 s i hi,wrap_in]
   exact ih
  |false=>
   have e:UQ (Q6 s)[i]=(Q6 s)[i]:=by unfold UQ;rw[hu,cond_false]
   rw[Q7t s i hi e]at ih
   simp(disch:=omega) only[cond_false,wrap_in]
   exact ih
def DF (s:ByteArray):ByteArray:=YU ((Q6 s).map UQ)
theorem Yb (s:ByteArray)(hs:s.size<=1048576):Ev (λk=>Z20.F k s) (DF s):=by
 unfold Z20.F
 exact Ev.bind (D8 s hs s.size 0 (by omega)) (Ev.pure _)
theorem Q0q (s:ByteArray)(hs:s.size<=1048576):Ev (λk=>Z14.F k s) (DF s):=by
 unfold Z14.F
 rw[Qv]
 simp(disch:=omega) only[Q0H]
 have:=Q3k s hs s.size 0 (by omega)
 unfold mix at this
 rw[List.take_zero,List.map_nil,List.nil_append,List.drop_zero]at this
 exact Ev.bind this (Ev.pure _)
end Go.Proofs.YtlnhmbnbloakmaaGreatDoor
end
section
/- Plain laws: the abbreviation of a word. -/
namespace Go.Proofs.YtlnhmbnbloakmaaGreatDoor
open Go.Gx
theorem XE {s:ByteArray}{i:Nat}(h:i<(Q6 s).length)(p:Int->Bool):((Q6 s).drop i).all p=(p (Q6 s)[i]&&((Q6 s).drop (i+1)).all p):=by
 rw[List.drop_eq_getElem_cons h];rfl
theorem D9 (xs:List Abbr)(s:ByteArray)(hs:s.size<=1048576):∀n i:Nat,i+n=s.size->Ev (λk=>Z0.l0 k xs s i) (if((Q6 s).drop i).all Kr=true then .inr (xs,s)else .inl (-1))
 |0,i,h=>by
  refine Ev.step (λk=>by rw[Z0.l0]) ?_
  simp(disch:=omega) only[Qu]
  rw[List.drop_eq_nil_of_le (by rw[Qv];omega)]
  exact Ev.pure _
 |n+1,i,h=>by
  have hl:=Qv s
  have hi:i<(Q6 s).length:=by omega
  refine Ev.step (λk=>by rw[Z0.l0]) ?_
  simp(disch:=omega) only[Qd,Int.toNat_natCast,Ys s i hi]
  refine Ev.bind0 (U5 _) ?_
  rw[XE hi]
  cases Kr (Q6 s)[i]with
  |false=>exact Ev.pure _
  |true=>
   simp(disch:=omega) only[Bool.not_true,cond_false,Bool.true_and,wrap_in]
   exact D9 xs s hs n (i+1) (by omega)
theorem Q55 (s:ByteArray)(hs:s.size<=1048576):∀n i:Nat,i+n=s.size->Ev (λk=>Z22.l0 k s i) (if((Q6 s).drop i).all Kr=true then .inr s else .inl false)
 |0,i,h=>by
  refine Ev.step (λk=>by rw[Z22.l0]) ?_
  simp(disch:=omega) only[Qu]
  rw[List.drop_eq_nil_of_le (by rw[Qv];omega)]
  exact Ev.pure _
 |n+1,i,h=>by
  have hl:=Qv s
  have hi:i<(Q6 s).length:=by omega
  refine Ev.step (λk=>by rw[Z22.l0]) ?_
  simp(disch:=omega) only[Qd,Int.toNat_natCast,Ys s i hi]
  refine Ev.bind0 (Xk _) ?_
  rw[XE hi]
  cases Kr (Q6 s)[i]with
  |false=>exact Ev.pure _
  |true=>
   simp(disch:=omega) only[Bool.not_true,cond_false,Bool.true_and,wrap_in]
   exact Q55 s hs n (i+1) (by omega)
theorem Q0I (s:ByteArray)(hs:s.size<=1048576):Ev (λk=>Z22.F k s) ((Q6 s).all Kr&&decide (0<s.size)):=by
 unfold Z22.F
 have:=Q55 s hs s.size 0 (by omega)
 rw[List.drop_zero]at this
 cases h:(Q6 s).all Kr with
 |true=>
  rw[h]at this
  refine Ev.bind this ?_
  simp only[D3,Bool.true_and]
  exact Ev.pure _
 |false=>rw[h]at this;exact Ev.bind this (Ev.pure _)
def dash (s:ByteArray):Bool:=decide (0<s.size)&&(bt s (s.size-1)==((45:UInt8).toNat:Int))
theorem Q2b (s:ByteArray)(h:s.size<=9223372036854775807):Z60.F s ⟨#[45]⟩=some (JU s 45,dash s):=by
 unfold Z60.F Z72.F
 rw[Q1q s 45 h]
 have h1:(⟨#[45]⟩:ByteArray).size=1:=rfl
 have h2:((45:UInt8).toNat:Int)=((45:Nat):Int):=rfl
 rw[h1]
 unfold JU dash
 rw[h2]
 simp only[Option.bind_some]
 by_cases hs:0<s.size
 ·simp(disch:=omega) only[decide_eq_true hs,Bool.true_and]
  by_cases c2:bt s (s.size-1)=((45:Nat):Int)
  ·rw[show(bt s (s.size-1)==((45:Nat):Int))=true by simpa using c2,if_pos ⟨hs,c2⟩]
   simp(disch:=omega) only[Bool.not_true,cond_false,wrap_in,Qd]
   rw[show((s.size:Int)-((1:Nat):Int)).toNat=s.size-1 by omega];rfl
  ·rw[show(bt s (s.size-1)==((45:Nat):Int))=false by simpa using c2,if_neg (λh=>c2 h.2)]
   rfl
 ·rw[decide_eq_false hs,if_neg (λh=>hs h.1)];rfl
theorem U6 (s:ByteArray):(!Ql (JU s 45) s)=dash s:=by
 have h2:((45:UInt8).toNat:Int)=((45:Nat):Int):=rfl
 unfold JU dash
 rw[h2]
 by_cases hs:0<s.size/\bt s (s.size-1)=((45:Nat):Int)
 ·rw[if_pos hs,decide_eq_true hs.1,show(bt s (s.size-1)==((45:Nat):Int))=true by simpa using hs.2]
  cases e:Ql (s.extract 0 (s.size-1)) s with
  |false=>rfl
  |true=>
   have:=congrArg ByteArray.size (YQ.1 e)
   rw[ByteArray.size_extract]at this
   omega
 ·rw[if_neg hs,Un]
  by_cases h3:0<s.size
  ·rw[show(bt s (s.size-1)==((45:Nat):Int))=false by simpa using λh=>hs ⟨h3,h⟩,Bool.and_false];rfl
  ·rw[decide_eq_false h3];rfl
theorem Q2c (s p:ByteArray):Z61.F s p=some (decide ((p.size:Int)<=(s.size:Int))&&Ql (s.extract 0 p.size) p):=by
 unfold Z61.F Z73.F
 by_cases c:(p.size:Int)<=(s.size:Int)
 ·simp(disch:=omega) only[Gf,cond_true,Int.toNat_natCast,Option.bind_some,Bool.true_and]
 ·simp(disch:=omega) only[Dy,cond_false,Option.bind_some,Bool.false_and]
theorem Q7u (xs:List Abbr)(hs:smalls xs)(lw:ByteArray):∀n i:Nat,i+n=xs.length->∀best:Int,-1<=best->best<xs.length->
  ∃r,Ev (λk=>Z0.l2 k xs lw best i) r/\Ev (λk=>Z5.l0 k xs lw best xs xs.length i) r/\∀z,(r= .inl z\/r= .inr z)-> -1<=z/\z<xs.length
 |0,i,h,best,h1,h2=>by
  refine⟨.inr best,Ev.step (λk=>by rw[Z0.l2]) ?_,Ev.step (λk=>by rw[Z5.l0]) ?_,?_⟩
  ·simp(disch:=omega) only[Qu];exact Ev.pure _
  ·simp(disch:=omega) only[Qu];exact Ev.pure _
  ·rintro z (hz|hz)<;>cases hz;exact⟨h1,h2⟩
 |n+1,i,h,best,h1,h2=>by
  have hi:i<xs.length:=by omega
  have hlen:=hs.1
  have hw:=(hs.2 _ (List.getElem_mem hi)).1
  have ih:=Q7u xs hs lw n (i+1) (by omega)
  have cut:Z42.F xs[i].word 45=some (JU xs[i].word 45):=UH xs[i].word 45 (by omega)
  have cuts:=Q2b xs[i].word (by omega)
  have hp:=Q2c lw (JU xs[i].word 45)
  cases e:Ql xs[i].word lw with
  |true=>
   refine⟨.inl i,Ev.step (λk=>by rw[Z0.l2]) ?_,Ev.step (λk=>by rw[Z5.l0]) ?_,?_⟩
   ·simp(disch:=omega) only[Qd,Int.toNat_natCast,getD_at hi,e,cond_true];exact Ev.pure _
   ·simp(disch:=omega) only[Qd,Int.toNat_natCast,getD_at hi,e,cond_true];exact Ev.pure _
   ·rintro z (hz|hz)<;>cases hz;omega
  |false=>
   cases hd:dash xs[i].word with
   |false=>
    obtain⟨r,r1,r2,r3⟩:=ih best h1 h2
    refine⟨r,Ev.step (λk=>by rw[Z0.l2]) ?_,Ev.step (λk=>by rw[Z5.l0]) ?_,r3⟩
    ·simp(disch:=omega) only[Qd,Int.toNat_natCast,getD_at hi,e,cond_false]
     refine Ev.bind0 cut ?_
     simp(disch:=omega) only[U6,hd,cond_false,wrap_in]
     exact r1
    ·simp(disch:=omega) only[Qd,Int.toNat_natCast,getD_at hi,e,cond_false]
     refine Ev.bind0 cuts ?_
     simp(disch:=omega) only[hd,cond_false,wrap_in]
     exact r2
   |true=>
    by_cases c:((JU xs[i].word 45).size:Int)<=(lw.size:Int)
    ·cases hq:Ql (lw.extract 0 (JU xs[i].word 45).size) (JU xs[i].word 45)with
     |false=>
      obtain⟨r,r1,r2,r3⟩:=ih best h1 h2
      refine⟨r,Ev.step (λk=>by rw[Z0.l2]) ?_,Ev.step (λk=>by rw[Z5.l0]) ?_,r3⟩
      ·simp(disch:=omega) only[Qd,Int.toNat_natCast,getD_at hi,e,cond_false]
       refine Ev.bind0 cut ?_
       simp(disch:=omega) only[U6,hd,cond_true,cond_false,Qd,Int.toNat_natCast,hq,wrap_in]
       exact r1
      ·simp(disch:=omega) only[Qd,Int.toNat_natCast,getD_at hi,e,cond_false]
       refine Ev.bind0 cuts ?_
       simp(disch:=omega) only[hd,cond_true]
       refine Ev.bind0 hp ?_
       simp(disch:=omega) only[hq,Bool.and_false,cond_false,wrap_in]
       exact r2
     |true=>
      by_cases hb:best<0
      ·obtain⟨r,r1,r2,r3⟩:=ih i (by omega) (by omega)
       refine⟨r,Ev.step (λk=>by rw[Z0.l2]) ?_,Ev.step (λk=>by rw[Z5.l0]) ?_,r3⟩
       ·simp(disch:=omega) only[Qd,Int.toNat_natCast,getD_at hi,e,cond_false]
        refine Ev.bind0 cut ?_
        simp(disch:=omega) only[U6,hd,cond_true,cond_false,Qd,Int.toNat_natCast,hq,wrap_in]
        exact r1
       ·simp(disch:=omega) only[Qd,Int.toNat_natCast,getD_at hi,e,cond_false]
        refine Ev.bind0 cuts ?_
        simp(disch:=omega) only[hd,cond_true]
        refine Ev.bind0 hp ?_
        rw[hq,decide_eq_true c]
        simp(disch:=omega) only[Bool.and_self,cond_true,Qd,wrap_in]
        exact r2
      ·have hb':best.toNat<xs.length:=by omega
       by_cases hz:(xs[i].word.size:Int) > (xs[best.toNat].word.size:Int)
       ·obtain⟨r,r1,r2,r3⟩:=ih i (by omega) (by omega)
        refine⟨r,Ev.step (λk=>by rw[Z0.l2]) ?_,Ev.step (λk=>by rw[Z5.l0]) ?_,r3⟩
        ·simp(disch:=omega) only[Qd,Int.toNat_natCast,getD_at hi,e,cond_false]
         refine Ev.bind0 cut ?_
         simp(disch:=omega) only[U6,hd,cond_true,cond_false,Qd,Qu,Int.toNat_natCast,hq,wrap_in,getD_at hb']
         exact r1
        ·simp(disch:=omega) only[Qd,Int.toNat_natCast,getD_at hi,e,cond_false]
         refine Ev.bind0 cuts ?_
         simp(disch:=omega) only[hd,cond_true]
         refine Ev.bind0 hp ?_
         rw[hq,decide_eq_true c]
         simp(disch:=omega) only[Bool.and_self,cond_true,Qd,Qu,wrap_in,getD_at hb']
         exact r2
       ·obtain⟨r,r1,r2,r3⟩:=ih best h1 h2
        refine⟨r,Ev.step (λk=>by rw[Z0.l2]) ?_,Ev.step (λk=>by rw[Z5.l0]) ?_,r3⟩
        ·simp(disch:=omega) only[Qd,Int.toNat_natCast,getD_at hi,e,cond_false]
         refine Ev.bind0 cut ?_
         simp(disch:=omega) only[U6,hd,cond_true,cond_false,Qd,Qu,Int.toNat_natCast,hq,wrap_in,getD_at hb']
         exact r1
        ·simp(disch:=omega) only[Qd,Int.toNat_natCast,getD_at hi,e,cond_false]
         refine Ev.bind0 cuts ?_
         simp(disch:=omega) only[hd,cond_true]
         refine Ev.bind0 hp ?_
         rw[hq,decide_eq_true c]
         simp(disch:=omega) only[Bool.and_self,cond_true,Qd,Qu,wrap_in,getD_at hb']
         exact r2
    ·obtain⟨r,r1,r2,r3⟩:=ih best h1 h2
     refine⟨r,Ev.step (λk=>by rw[Z0.l2]) ?_,Ev.step (λk=>by rw[Z5.l0]) ?_,r3⟩
     ·simp(disch:=omega) only[Qd,Int.toNat_natCast,getD_at hi,e,cond_false]
      refine Ev.bind0 cut ?_
      simp(disch:=omega) only[U6,hd,cond_true,Qu,wrap_in]
      exact r1
     ·simp(disch:=omega) only[Qd,Int.toNat_natCast,getD_at hi,e,cond_false]
      refine Ev.bind0 cuts ?_
      simp(disch:=omega) only[hd,cond_true]
      refine Ev.bind0 hp ?_
      rw[decide_eq_false c]
      simp(disch:=omega) only[Bool.false_and,cond_false,wrap_in]
      exact r2
theorem found (xs:List Abbr)(hs:smalls xs)(s:ByteArray)(h0:0<s.size)(h1:s.size<=1048576):∃z:Int,Ev (λk=>Z0.F k xs s) z/\Ev (λk=>Z5.F k xs s) z/\ -1<=z/\z<xs.length:=by
 unfold Z0.F Z5.F
 have e1:=D9 xs s h1 s.size 0 (by omega)
 have e2:=Q0I s h1
 rw[List.drop_zero]at e1
 cases ha:(Q6 s).all Kr with
 |false=>
  rw[ha]at e1 e2
  refine⟨-1,Ev.bind e1 (Ev.pure _),Ev.bind e2 (Ev.pure _),by omega,by omega⟩
 |true=>
  rw[ha,decide_eq_true h0]at e2
  rw[ha]at e1
  obtain⟨r,r1,r2,r3⟩:=Q7u xs hs (DF s) xs.length 0 (by omega) (-1) (by omega) (by omega)
  cases r with
  |inl z=>exact⟨z,Ev.bind e1 (Ev.bind (Yb s h1) (Ev.bind r1 (Ev.pure _))),Ev.bind e2 (Ev.bind (Q0q s h1) (Ev.bind r2 (Ev.pure _))),r3 z (.inl rfl)⟩
  |inr z=>exact⟨z,Ev.bind e1 (Ev.bind (Yb s h1) (Ev.bind r1 (Ev.pure _))),Ev.bind e2 (Ev.bind (Q0q s h1) (Ev.bind r2 (Ev.pure _))),r3 z (.inr rfl)⟩
theorem Q7v (s:ByteArray)(i:Nat)(v:Int)(h:i<(Q6 s).length):YU ((Q6 s).set i v)=s.extract 0 i++YU [v]++s.extract (i+1) s.size:=by
 apply XL
 have hl:=Qv s
 have e:=congrArg L (Q0p s)
 rw[Q0o]at e
 rw[Yr,Yr,J8,J8,Q0o,Q0o,List.map_set,e,List.drop_zero,List.take_of_length_le (show(L s).length<=s.size from Nat.le_refl _)]
 rw[List.set_eq_take_append_cons_drop,if_pos (by rw[J2];omega)]
 simp
theorem Q3l (s:ByteArray)(hs:s.size<=1048576):∀n i:Nat,i+n=s.size->∃ys r,Ev (λk=>Z28.l0 k (Q6 s) s.size i) ys/\Ev (λk=>Z16.l0 k s i) r/\(r= .inl (YU ys)\/r= .inr (YU ys))/\ys.length=s.size
 |0,i,h=>by
  refine⟨Q6 s,.inr s,Ev.step (λk=>by rw[Z28.l0]) ?_,Ev.step (λk=>by rw[Z16.l0]) ?_,.inr (by rw[Q0p]),Qv s⟩
  ·simp(disch:=omega) only[Qu];exact Ev.pure _
  ·simp(disch:=omega) only[Qu];exact Ev.pure _
 |n+1,i,h=>by
  have hl:=Qv s
  have hi:i<(Q6 s).length:=by omega
  cases hlt:Kr (Q6 s)[i]with
  |false=>
   obtain⟨ys,r,r1,r2,r3,r4⟩:=Q3l s hs n (i+1) (by omega)
   refine⟨ys,r,Ev.step (λk=>by rw[Z28.l0]) ?_,Ev.step (λk=>by rw[Z16.l0]) ?_,r3,r4⟩
   ·simp(disch:=omega) only[Qd,Int.toNat_natCast,getD_at hi]
    refine Ev.bind0 (Xk _) ?_
    simp(disch:=omega) only[hlt,cond_false,wrap_in]
    exact r1
   ·simp(disch:=omega) only[Qd,Int.toNat_natCast,Ys s i hi]
    refine Ev.bind0 (U5 _) ?_
    simp(disch:=omega) only[hlt,cond_false,wrap_in]
    exact r2
  |true=>
   refine⟨(Q6 s).set i (upI (Q6 s)[i]),.inl (s.extract 0 i++YU [upI (Q6 s)[i]]++s.extract (i+1) s.size),Ev.step (λk=>by rw[Z28.l0]) ?_,Ev.step (λk=>by rw[Z16.l0]) ?_,.inl (by rw[Q7v s i _ hi]),by rw[List.length_set];exact Qv s⟩
   ·simp(disch:=omega) only[Qd,Int.toNat_natCast,getD_at hi]
    refine Ev.bind0 (Xk _) ?_
    simp(disch:=omega) only[hlt,cond_true]
    refine Ev.bind0 (Q29 _) ?_
    try simp(disch:=omega) only[Qd]
    exact Ev.pure _
   ·simp(disch:=omega) only[Qd,Int.toNat_natCast,Ys s i hi]
    refine Ev.bind0 (U5 _) ?_
    simp(disch:=omega) only[hlt,cond_true,Qd]
    refine Ev.bind0 (DD _) ?_
    have e1:(s.extract 0 i).size<=s.size:=by rw[ByteArray.size_extract];omega
    have e2:(YU ([upI (Q6 s)[i]]:List Int)).size=1:=Q1r _
    have e3:(s.extract 0 i++YU ([upI (Q6 s)[i]]:List Int)).size=(s.extract 0 i).size+1:=by rw[<-J2,Yr,List.length_append,J2,J2,e2]
    have e4:(s.extract (i+1) s.size).size<=s.size:=by rw[ByteArray.size_extract];omega
    have e5:((i:Int)+1).toNat=i+1:=by omega
    simp(disch:=omega) only[Q0H,wrap_in,Qd,e5]
    exact Ev.pure _
theorem Q1s (s:ByteArray)(hs:s.size<=1048576):∃r,Ev (λk=>Z16.F k s) r/\Ev (λk=>Z28.F k s) r/\r.size=s.size:=by
 obtain⟨ys,r,r1,r2,r3,r4⟩:=Q3l s hs s.size 0 (by omega)
 refine⟨YU ys,?_,?_,by rw[Q1r];exact r4⟩
 ·unfold Z16.F
  rcases r3 with rfl|rfl
  ·exact Ev.bind r2 (Ev.pure _)
  ·exact Ev.bind r2 (Ev.pure _)
 ·unfold Z28.F
  rw[Qv]
  simp(disch:=omega) only[Q0H]
  exact Ev.bind r1 (Ev.pure _)
theorem Q7w (xs:List Abbr)(hs:smalls xs)(s:ByteArray)(h0:0<s.size)(h1:s.size<=1048576):∃r,Ev (λk=>Z43.F k xs s) r/\Ev (λk=>Z51.F k xs s) r/\r.size<=1048576:=by
 obtain⟨z,z1,z2,z3,z4⟩:=found xs hs s h0 h1
 unfold Z43.F Z51.F
 have hl:=Qv s
 by_cases hz:z<0
 ·refine⟨s,Ev.bind z1 ?_,Ev.bind z2 ?_,h1⟩
  ·simp(disch:=omega) only[Qd];exact Ev.pure _
  ·simp(disch:=omega) only[Qd];exact Ev.pure _
 ·have hz':z.toNat<xs.length:=by omega
  have hsh:=(hs.2 _ (List.getElem_mem hz')).2
  obtain⟨r,r1,r2,r3⟩:=Q1s xs[z.toNat].short hsh
  by_cases c1:65<=bt s (0:Int).toNat
  ·by_cases c2:bt s (0:Int).toNat<=90
   ·refine⟨r,Ev.bind z1 ?_,Ev.bind z2 ?_,by omega⟩
    ·simp(disch:=omega) only[Qd,Qu,getD_at hz'];exact Ev.bind r1 (Ev.pure _)
    ·simp(disch:=omega) only[Qd,Qu]
     refine Ev.bind0 (UI _) ?_
     rw[decide_eq_true c1,decide_eq_true c2]
     simp(disch:=omega) only[Bool.and_self,cond_true,Qd,getD_at hz']
     exact Ev.bind r2 (Ev.pure _)
   ·refine⟨xs[z.toNat].short,Ev.bind z1 ?_,Ev.bind z2 ?_,hsh⟩
    ·simp(disch:=omega) only[Qd,Qu,getD_at hz'];exact Ev.pure _
    ·simp(disch:=omega) only[Qd,Qu]
     refine Ev.bind0 (UI _) ?_
     rw[decide_eq_false c2]
     simp(disch:=omega) only[Bool.and_false,cond_false,Qd,getD_at hz']
     exact Ev.pure _
  ·refine⟨xs[z.toNat].short,Ev.bind z1 ?_,Ev.bind z2 ?_,hsh⟩
   ·simp(disch:=omega) only[Qd,Qu,getD_at hz'];exact Ev.pure _
   ·simp(disch:=omega) only[Qd,Qu]
    refine Ev.bind0 (UI _) ?_
    rw[decide_eq_false c1]
    simp(disch:=omega) only[Bool.false_and,cond_false,Qd,getD_at hz']
    exact Ev.pure _
end Go.Proofs.YtlnhmbnbloakmaaGreatDoor
end
section
/- ShortWord (cut out of LawShortWord). -/
namespace Go.Proofs.YtlnhmbnbloakmaaGreatDoor
open Go.Gx
end Go.Proofs.YtlnhmbnbloakmaaGreatDoor
end
section
/- Plain laws: the pieces of a text between spaces. -/
namespace Go.Proofs.YtlnhmbnbloakmaaGreatDoor
open Go.Gx
theorem Q0r (s t:ByteArray):(s++t).size=s.size+t.size:=by
 rw[<-J2,Yr,List.length_append,J2,J2]
theorem Q7x (s:ByteArray)(st a:Nat):(s.extract st s.size).extract a (s.extract st s.size).size=s.extract (st+a) s.size:=by
 apply XL
 have e:(L s).take s.size=L s:=List.take_of_length_le (Nat.le_refl _)
 rw[J8,J8 s (st+a),<-J2 (s.extract st s.size),J8,List.take_length,List.drop_drop,e]
theorem Q7y (s:ByteArray)(st i:Nat)(h:st<=i)(hi:i<=s.size):(s.extract st s.size).extract 0 (i-st)=s.extract st i:=by
 apply XL
 rw[J8,J8,J8,List.drop_zero,List.take_of_length_le (show(L s).length<=s.size from Nat.le_refl _),List.drop_take]
def sp:ByteArray:=⟨#[32]⟩
theorem Q91 {l:List UInt8}{c:UInt8}{i:Nat}(h:l[i]? =some c)(hn:∀j,j<i->l[j]? ≠some c):Lib.indexByte l c=i:=by
 have hg:=Lib.indexByte_ge l c
 by_cases e:Lib.indexByte l c= -1
 ·exact absurd h (Lib.indexByte_none e i)
 ·obtain⟨o,ho⟩:∃o:Nat,Lib.indexByte l c=o:=⟨(Lib.indexByte l c).toNat,by omega⟩
  obtain⟨h1,h2⟩:=Lib.indexByte_some ho
  rcases Nat.lt_trichotomy o i with h3|h3|h3
  ·exact absurd h1 (hn o h3)
  ·rw[ho,h3]
  ·exact absurd h (h2 i h3)
theorem Q8q {l:List UInt8}{c:UInt8}(hn:∀j:Nat,l[j]? ≠some c):Lib.indexByte l c= -1:=by
 have hg:=Lib.indexByte_ge l c
 by_cases e:Lib.indexByte l c= -1
 ·exact e
 ·obtain⟨o,ho⟩:∃o:Nat,Lib.indexByte l c=o:=⟨(Lib.indexByte l c).toNat,by omega⟩
  exact absurd (Lib.indexByte_some ho).1 (hn o)
theorem Q1t (s:ByteArray):Lib.indexB s sp=Lib.indexByte (L s) 32:=Lib.one s sp rfl
theorem Q4j (s:ByteArray)(st j:Nat):(L (s.extract st s.size))[j]? =(L s)[st+j]?:=by
 rw[J8,List.take_of_length_le (show(L s).length<=s.size from Nat.le_refl _),List.getElem?_drop]
def Jd (s:ByteArray)(st:Nat):List ByteArray:=Lib.splitB sp 0 (Lib.countB (s.extract st s.size) sp) (s.extract st s.size)
theorem XF (s:ByteArray)(st:Nat)(h:∀j,st<=j->(L s)[j]? ≠some 32):Jd s st=[s.extract st s.size]:=by
 unfold Jd
 rw[Lib.countB_miss _ _ ((Q1t _).trans (Q8q λj=>by rw[Q4j];exact h _ (by omega)))]
 rfl
theorem DG (s:ByteArray)(st i:Nat)(h1:st<=i)(hi:i<s.size)(hb:(L s)[i]? =some 32)(h:∀j,st<=j->j<i->(L s)[j]? ≠some 32):Jd s st=s.extract st i::Jd s (i+1):=by
 have e:Lib.indexB (s.extract st s.size) sp=((i-st:Nat):Int):=(Q1t _).trans (Q91 (by rw[Q4j,show st+(i-st)=i by omega];exact hb) λj hj=>by rw[Q4j];exact h _ (by omega) (by omega))
 have e1:sp.size=1:=rfl
 unfold Jd
 rw[Lib.countB_hit _ _ _ (by rw[e1];exact Nat.le_refl _) e,Nat.add_comm 1,Lib.splitB_hit _ _ _ _ _ e,Nat.add_zero,Q7y s st i h1 (by omega),e1,Q7x,show st+(i-st+1)=i+1 by omega]
theorem sub_self (s:ByteArray):s.extract 0 s.size=s:=by
 apply XL
 rw[J8,List.take_of_length_le (show(L s).length<=s.size from Nat.le_refl _),List.drop_zero]
def words (s:ByteArray):List ByteArray:=Lib.splitB sp 0 (Lib.countB s sp) s
theorem Q0s (s:ByteArray):Jd s 0=words s:=by unfold Jd words;rw[sub_self]
theorem Q7z (s:ByteArray)(hs:s.size<=4000):Z77.F s ⟨#[32]⟩=some (words s):=by
 unfold Z77.F Q25
 rw[Nat.ble_eq_true_of_le (by omega)]
 rfl
theorem G5:∀(k:Nat) (s:ByteArray),∀x∈Lib.splitB sp 0 k s,x.size<=s.size
 |0,s,x,hx=>by
  rw[Lib.splitB_zero]at hx
  simp only[List.mem_singleton]at hx
  rw[hx];exact Nat.le_refl _
 |k+1,s,x,hx=>by
  unfold Lib.splitB at hx
  split at hx
  ·simp only[List.mem_singleton]at hx
   rw[hx];exact Nat.le_refl _
  ·rcases List.mem_cons.1 hx with rfl|hx
   ·rw[ByteArray.size_extract];omega
   ·have:=G5 k _ x hx
    rw[ByteArray.size_extract]at this
    omega
theorem Q1u (s:ByteArray):1<=(words s).length/\(words s).length<=s.size+1:=by
 unfold words
 have h1:1<=sp.size:=Nat.le_refl 1
 rw[Lib.splitB_all sp h1 0 _ s rfl]
 have:=Lib.countB_le sp h1 s.size s (Nat.le_refl _)
 omega
end Go.Proofs.YtlnhmbnbloakmaaGreatDoor
end
section
/- Plain laws: slices.IndexFunc,slices.DeleteFunc,as they are printed for a function value. -/
namespace Go.Gx
section
variable {α:Type} {d:α} {p:α->Bool} {q:Nat->α->Option Bool} {xs:List α}
theorem DI {α:Type}{xs:List α}{i:Nat}(h:i<xs.length)(d:α):xs.getD i d=xs[i]:=by simp[List.getD,List.getElem?_eq_getElem h]
theorem Q7A {l0:Nat->List α->Int->Int->Option (Sum Int Unit)}(H:∀k x0 x7 x8,l0 (k+1) x0 x7 x8=bif (decide (x8<x7))then(bif decide (0<=x8)then(bif decide (x8<(x0.length:Int))then((q k (x0.getD (x8:Int).toNat d)).bind λr1=>bif r1 then(some (.inl x8))else(l0 k x0 x7 (IntKind.wrap .i64 (x8+1))))else none)else none)else(some (.inr ())))
  (hq:∀x,x∈xs->Ev (λk=>q k x) (p x)) (hl:xs.length<=4611686018427387904):∀n i:Nat,i+n=xs.length->(∀x∈xs.take i,p x=false)->
  ∃r,Ev (λk=>l0 k xs xs.length i) r/\((r= .inr ()/\∀x∈xs,p x=false)\/∃j:Nat,r= .inl j/\j<xs.length/\p (xs.getD j d)=true/\∀x∈xs.take j,p x=false)
 |0,i,h,ht=>by
  refine⟨.inr (),Ev.step (λk=>by rw[H]) ?_,.inl ⟨rfl,by rw[List.take_of_length_le (by omega)]at ht;exact ht⟩⟩
  simp(disch:=omega) only[Qu]
  exact Ev.pure _
 |n+1,i,h,ht=>by
  have hi:i<xs.length:=by omega
  cases hp:p xs[i]with
  |true=>
   refine⟨.inl i,Ev.step (λk=>by rw[H]) ?_,.inr ⟨i,rfl,hi,by rw[DI hi,hp],ht⟩⟩
   simp(disch:=omega) only[Qd,Int.toNat_natCast,DI hi]
   refine Ev.bind (hq _ (List.getElem_mem hi)) ?_
   rw[hp]
   exact Ev.pure _
  |false=>
   obtain⟨r,h1,h2⟩:=Q7A H hq hl n (i+1) (by omega) (by
    intro x hx
    rw[List.take_add_one,List.getElem?_eq_getElem hi]at hx
    rcases List.mem_append.1 hx with hx|hx
    ·exact ht x hx
    ·simp only[Option.toList_some,List.mem_singleton]at hx
     rw[hx,hp])
   refine⟨r,Ev.step (λk=>by rw[H]) ?_,h2⟩
   simp(disch:=omega) only[Qd,Int.toNat_natCast,DI hi]
   refine Ev.bind (hq _ (List.getElem_mem hi)) ?_
   rw[hp]
   simp(disch:=omega) only[cond_false,wrap_in]
   exact h1
theorem Q2d {l0:Nat->List α->Int->Int->Option (Sum Int Unit)}(H:∀k x0 x7 x8,l0 (k+1) x0 x7 x8=bif (decide (x8<x7))then(bif decide (0<=x8)then(bif decide (x8<(x0.length:Int))then((q k (x0.getD (x8:Int).toNat d)).bind λr1=>bif r1 then(some (.inl x8))else(l0 k x0 x7 (IntKind.wrap .i64 (x8+1))))else none)else none)else(some (.inr ())))
  (hq:∀x,x∈xs->Ev (λk=>q k x) (p x)) (hl:xs.length<=4611686018427387904) {F:Nat->List α->Option Int} (HF:∀k a0,F k a0=(l0 k a0 (a0.length:Int) 0).bind λy2=>match y2 with|.inl z3=>some z3|.inr z3=>some (-1)) :
  ∃r,Ev (λk=>F k xs) r/\((r= -1/\∀x∈xs,p x=false)\/∃j:Nat,r=j/\j<xs.length/\p (xs.getD j d)=true/\∀x∈xs.take j,p x=false):=by
 obtain⟨r,h1,h2⟩:=Q7A H hq hl xs.length 0 (by omega) (λx hx=>by simp at hx)
 rcases h2 with⟨rfl,h2⟩|⟨j,rfl,h2⟩
 ·exact⟨-1,Ev.congr (Ev.bind h1 (Ev.pure _)) (λk=>HF k xs),.inl ⟨rfl,h2⟩⟩
 ·exact⟨j,Ev.congr (Ev.bind h1 (Ev.pure _)) (λk=>HF k xs),.inr ⟨j,rfl,h2⟩⟩
theorem Q4k {l0:Nat->List α->Int->Int->Option (List α×Int)}(H:∀k x0 x5 x6,l0 (k+1) x0 x5 x6=bif (decide (x6<(x0.length:Int)))then(bif decide (0<=x6)then(bif decide (x6<(x0.length:Int))then((q k (x0.getD ((x6:Int).toNat) d)).bind λr2=>bif (!r2)then(bif decide (0<=x5)then(bif decide (x5<(x0.length:Int))then(l0 k (x0.set ((x5:Int).toNat) (x0.getD ((x6:Int).toNat) d)) (IntKind.wrap .i64 (x5+1)) (IntKind.wrap .i64 (x6+1)))else none)else none)else(l0 k x0 x5 (IntKind.wrap .i64 (x6+1))))else none)else none)else(some (x0,x5)))
  (hq:∀x,x∈xs->Ev (λk=>q k x) (p x)) (hl:xs.length<=4611686018427387904):∀n j:Nat,j+n=xs.length->∀(ys:List α) (i:Nat),ys.length=xs.length->i<=j->ys.drop j=xs.drop j->
  ∃zs,∃i':Nat,Ev (λk=>l0 k ys i j) (zs,(i':Int))/\i'<=xs.length/\zs.length=xs.length/\zs.take i'=ys.take i++(xs.drop j).filter λx=> !p x
 |0,j,h,ys,i,hy,hij,hd=>by
  refine⟨ys,i,Ev.step (λk=>by rw[H]) ?_,by omega,hy,?_⟩
  ·simp(disch:=omega) only[Qu]
   exact Ev.pure _
  ·rw[List.drop_eq_nil_of_le (by omega),List.filter_nil,List.append_nil]
 |n+1,j,h,ys,i,hy,hij,hd=>by
  have hj:j<xs.length:=by omega
  have hj':j<ys.length:=by omega
  have hx:ys[j]=xs[j]:=by
   have h0:=congrArg (·[0]?) hd
   simpa[hj,hj']using h0
  have hd1:ys.drop (j+1)=xs.drop (j+1):=by
   have:=congrArg (List.drop 1) hd
   simpa[List.drop_drop]using this
  cases hp:p xs[j]with
  |true=>
   obtain⟨zs,i',h1,h2,h3,h4⟩:=Q4k H hq hl n (j+1) (by omega) ys i hy (by omega) hd1
   refine⟨zs,i',Ev.step (λk=>by rw[H]) ?_,h2,h3,?_⟩
   ·simp(disch:=omega) only[Qd,Int.toNat_natCast,DI hj',hx]
    refine Ev.bind (hq _ (List.getElem_mem hj)) ?_
    rw[hp]
    simp(disch:=omega) only[Bool.not_true,cond_false,wrap_in]
    exact h1
   ·rw[h4,List.drop_eq_getElem_cons hj,List.filter_cons_of_neg (by rw[hp];decide)]
  |false=>
   obtain⟨zs,i',h1,h2,h3,h4⟩:=Q4k H hq hl n (j+1) (by omega) (ys.set i xs[j]) (i+1) (by simpa using hy) (by omega) (by rw[List.drop_set_of_lt (by omega)];exact hd1)
   refine⟨zs,i',Ev.step (λk=>by rw[H]) ?_,h2,h3,?_⟩
   ·simp(disch:=omega) only[Qd,Int.toNat_natCast,DI hj',hx]
    refine Ev.bind (hq _ (List.getElem_mem hj)) ?_
    rw[hp]
    simp(disch:=omega) only[Bool.not_false,cond_true,Qd,Int.toNat_natCast,wrap_in]
    exact h1
   ·rw[h4,List.drop_eq_getElem_cons hj,List.filter_cons_of_pos (by rw[hp];decide),List.take_add_one,List.take_set_of_le (Nat.le_refl i)]
    have:(ys.set i xs[j])[i]? =some xs[j]:=by rw[List.getElem?_set_self (by omega)]
    rw[this]
    simp
theorem Q1v {l0:Nat->List α->Int->Int->Option (List α×Int)}(H:∀k x0 x5 x6,l0 (k+1) x0 x5 x6=bif (decide (x6<(x0.length:Int)))then(bif decide (0<=x6)then(bif decide (x6<(x0.length:Int))then((q k (x0.getD ((x6:Int).toNat) d)).bind λr2=>bif (!r2)then(bif decide (0<=x5)then(bif decide (x5<(x0.length:Int))then(l0 k (x0.set ((x5:Int).toNat) (x0.getD ((x6:Int).toNat) d)) (IntKind.wrap .i64 (x5+1)) (IntKind.wrap .i64 (x6+1)))else none)else none)else(l0 k x0 x5 (IntKind.wrap .i64 (x6+1))))else none)else none)else(some (x0,x5)))
  (hq:∀x,x∈xs->Ev (λk=>q k x) (p x)) (hl:xs.length<=4611686018427387904) {I F:Nat->List α->Option _} {e:α}
  (hI:∃r:Int,Ev (λk=>I k xs) r/\((r= -1/\∀x∈xs,p x=false)\/∃j:Nat,r=j/\j<xs.length/\p (xs.getD j d)=true/\∀x∈xs.take j,p x=false))
  (HF:∀k a0,F k a0=(I k a0).bind λr1=>bif (r1==(-1))then(some a0)else((l0 k a0 r1 (IntKind.wrap .i64 (r1+1))).bind λy3=>bif decide (0<=y3.2)then(bif decide (y3.2<=(y3.1.length:Int))then(bif decide (0<=y3.2)then(bif decide (y3.2<=((y3.1.take ((y3.2:Int).toNat)++List.replicate (y3.1.length-((y3.2:Int).toNat)) e).length:Int))then(some ((y3.1.take ((y3.2:Int).toNat)++List.replicate (y3.1.length-((y3.2:Int).toNat)) e).take (y3.2:Int).toNat))else none)else none)else none)else none)) :
  Ev (λk=>F k xs) (xs.filter λx=> !p x):=by
 obtain⟨r,h1,h2⟩:=hI
 refine Ev.congr (?_:Ev _ _) (λk=>HF k xs)
 refine Ev.bind h1 ?_
 rcases h2 with⟨rfl,h2⟩|⟨j,rfl,hj,hp,h2⟩
 ·have:(xs.filter λx=> !p x)=xs:=List.filter_eq_self.2 λx hx=>by rw[h2 x hx];rfl
  rw[this]
  exact Ev.pure _
 ·obtain⟨zs,i',h3,h4,h5,h6⟩:=Q4k H hq hl (xs.length-(j+1)) (j+1) (by omega) xs j rfl (by omega) rfl
  rw[DI hj]at hp
  have hz:zs.take i'=xs.filter λx=> !p x:=by
   rw[h6]
   conv=>rhs;rw[<-List.take_append_drop j xs,List.filter_append,List.drop_eq_getElem_cons hj,List.filter_cons_of_neg (by rw[hp];decide)]
   congr 1
   exact(List.filter_eq_self.2 λx hx=>by rw[h2 x hx];rfl).symm
  simp(disch:=omega) only[cne,wrap_in]
  refine Ev.bind h3 ?_
  have e1:((zs.take i'++List.replicate (zs.length-i') e)).length=zs.length:=by simp;omega
  simp(disch:=(try simp only[Int.toNat_natCast,e1]);omega) only[Qd,Int.toNat_natCast,e1]
  rw[List.take_append_of_le_length (by simp;omega),List.take_take,Nat.min_self,hz]
  exact Ev.pure _
end
end Go.Gx
end
section
/- Plain laws: texts,their words,their abbreviation. -/
namespace Go.Proofs.YtlnhmbnbloakmaaGreatDoor
open Go.Gx
theorem Q0t {α:Type}(p:α->Bool):∀l:List α,l.dropWhile p=l ↔ (∀a,l.head?=some a->p a=false)
 |[]=>by simp
 |a::l=>by
  have hl:(l.dropWhile p).length<=l.length:=(List.dropWhile_sublist p).length_le
  cases h:p a with
  |true=>
   rw[List.dropWhile_cons_of_pos h]
   constructor
   ·intro e
    have:=congrArg List.length e
    simp at this
    omega
   ·intro e
    have:=e a rfl
    rw[h]at this;cases this
  |false=>
   rw[List.dropWhile_cons_of_neg (by rw[h];exact Bool.noConfusion)]
   simp[h]
theorem Q4l (l:List UInt8)(c:UInt8):Lib.trimB l c=l ↔ l.head?≠some c/\l.getLast?≠some c:=by
 unfold Lib.trimB Lib.trimLeftB Lib.trimRightB
 have h1:∀m:List UInt8,m.dropWhile (· ==c)=m ↔ m.head?≠some c:=λm=>by
  rw[Q0t]
  constructor
  ·intro h e;have:=h c e;simp at this
  ·intro h a e
   have:a≠c:=λe'=>h (e'▸e)
   simpa using this
 constructor
 ·intro h
  have h2:((l.reverse.dropWhile (· ==c)).reverse).length<=l.length:=by
   have:=(List.dropWhile_sublist (p:=(· ==c)) (l:=l.reverse)).length_le
   simpa using this
  have h3:=(List.dropWhile_sublist (p:=(· ==c)) (l:=(l.reverse.dropWhile (· ==c)).reverse))
  have h4:(l.reverse.dropWhile (· ==c)).reverse=l:=by
   have h5:(l.reverse.dropWhile (· ==c)).reverse.length=l.length:=by
    have:=h3.length_le
    rw[h]at this
    omega
   have h6:l.reverse.dropWhile (· ==c)=l.reverse:=(List.dropWhile_sublist (p:=(· ==c)) (l:=l.reverse)).eq_of_length (by simpa using h5)
   rw[h6,List.reverse_reverse]
  rw[h4]at h
  refine⟨(h1 l).1 h,?_⟩
  have h6:l.reverse.dropWhile (· ==c)=l.reverse:=by rw[<-List.reverse_inj,h4,List.reverse_reverse]
  have:=(h1 _).1 h6
  simpa using this
 ·rintro⟨ha,hb⟩
  have h6:l.reverse.dropWhile (· ==c)=l.reverse:=(h1 _).2 (by simpa using hb)
  rw[h6,List.reverse_reverse]
  exact(h1 l).2 ha
def vis (lo b:Int):Bool:=decide (lo<=b)&&decide (b<=126)
theorem Da {s:ByteArray}{i:Nat}(hi:i<s.size):bt s i=32 ↔ (L s)[i]? =some 32:=by
 have hi':i<(L s).length:=hi
 have hbt:bt s i=((L s)[i].toNat:Int):=by rw[Q7m,getD_at hi']
 rw[List.getElem?_eq_getElem hi',hbt]
 have:(32:UInt8).toNat=32:=rfl
 constructor
 ·intro h
  congr 1
  apply UInt8.toNat_inj.1
  omega
 ·intro h
  rw[Option.some.inj h];rfl
def Q5Y (s:ByteArray):Bool:=(decide (s.size=0))||(bt s 0 != 32&&bt s (s.size-1) != 32)
theorem Q5Z (s:ByteArray)(hs:s.size<=1048576):Z76.F s ⟨#[32]⟩=some ⟨(Lib.trimB (L s) 32).toArray⟩:=by
 unfold Z76.F Q26
 rw[Nat.ble_eq_true_of_le (by omega)]
 rfl
theorem Q8r (s:ByteArray):Ql ⟨(Lib.trimB (L s) 32).toArray⟩ s=Q5Y s:=by
 rw[Bool.eq_iff_iff,YQ]
 have h1:(⟨(Lib.trimB (L s) 32).toArray⟩:ByteArray)=s ↔ Lib.trimB (L s) 32=L s:=by
  constructor
  ·intro h
   have:=congrArg L h
   rwa [Q8Z]at this
  ·intro h
   apply XL
   rw[Q8Z,h]
 rw[h1,Q4l]
 unfold Q5Y
 by_cases hz:s.size=0
 ·have:L s=[]:=List.eq_nil_of_length_eq_zero hz
  rw[this]
  simp[hz]
 ·have h2:(L s).head?=(L s)[0]?:=List.head?_eq_getElem?
  have h3:(L s).getLast?=(L s)[s.size-1]?:=by rw[List.getLast?_eq_getElem?];rfl
  rw[h2,h3,Bool.or_eq_true,decide_eq_true_eq,Bool.and_eq_true,bne_iff_ne,bne_iff_ne,Ne,Ne,Ne,Ne,Da (by omega),Da (by omega)]
  simp[hz]
theorem G6 (s:ByteArray)(hs:s.size<=1048576):∀n i:Nat,i+n=s.size->Ev (λk=>Z23.l0 k s i) (if((Q6 s).drop i).all (vis 32)=true then .inr s else .inl false)
 |0,i,h=>by
  refine Ev.step (λk=>by rw[Z23.l0]) ?_
  simp(disch:=omega) only[Qu]
  rw[List.drop_eq_nil_of_le (by rw[Qv];omega)]
  exact Ev.pure _
 |n+1,i,h=>by
  have hl:=Qv s
  have hi:i<(Q6 s).length:=by omega
  refine Ev.step (λk=>by rw[Z23.l0]) ?_
  simp(disch:=omega) only[Qd,Int.toNat_natCast,Ys s i hi]
  rw[XE hi]
  unfold vis
  by_cases c1:(Q6 s)[i]<32
  ·simp(disch:=omega) only[Qd,Dy,Bool.false_and];exact Ev.pure _
  ·by_cases c2:(Q6 s)[i] > 126
   ·simp(disch:=omega) only[Qd,Qu,Dy,Bool.and_false,Bool.false_and];exact Ev.pure _
   ·simp(disch:=omega) only[Qd,Qu,Gf,Bool.and_self,Bool.true_and,wrap_in]
    exact G6 s hs n (i+1) (by omega)
theorem Q0u (s:ByteArray)(hs:s.size<=1048576):∀n i:Nat,i+n=s.size->Ev (λk=>Z27.l0 k s i) (if((Q6 s).drop i).all (vis 32)=true then .inr s else .inl false)
 |0,i,h=>by
  refine Ev.step (λk=>by rw[Z27.l0]) ?_
  simp(disch:=omega) only[Qu]
  rw[List.drop_eq_nil_of_le (by rw[Qv];omega)]
  exact Ev.pure _
 |n+1,i,h=>by
  have hl:=Qv s
  have hi:i<(Q6 s).length:=by omega
  refine Ev.step (λk=>by rw[Z27.l0]) ?_
  simp(disch:=omega) only[Qd,Int.toNat_natCast,Ys s i hi]
  rw[XE hi]
  unfold vis
  by_cases c1:(Q6 s)[i]<32
  ·simp(disch:=omega) only[Qd,Dy,Bool.false_and];exact Ev.pure _
  ·by_cases c2:(Q6 s)[i] > 126
   ·simp(disch:=omega) only[Qd,Qu,Dy,Bool.and_false,Bool.false_and];exact Ev.pure _
   ·simp(disch:=omega) only[Qd,Qu,Gf,Bool.and_self,Bool.true_and,wrap_in]
    exact Q0u s hs n (i+1) (by omega)
def Jo (s:ByteArray):Bool:=decide (s.size<=40)&&((Q6 s).all (vis 32)&&Q5Y s)
theorem Q3m (s:ByteArray):Ev (λk=>Z23.F k s) (Jo s):=by
 unfold Z23.F Jo
 by_cases c:(s.size:Int) > 40
 ·simp(disch:=omega) only[Qd,Dy,Bool.false_and]
  exact Ev.pure _
 ·simp(disch:=omega) only[Qu,Gf,Bool.true_and]
  have:=G6 s (by omega) s.size 0 (by omega)
  rw[List.drop_zero]at this
  cases h:(Q6 s).all (vis 32)with
  |false=>rw[h]at this;exact Ev.bind this (Ev.pure _)
  |true=>
   rw[h]at this
   refine Ev.bind (a:=.inr s) this ?_
   dsimp only
   have he:Ql s ⟨#[]⟩=decide (s.size=0):=by
    rw[<-Bool.not_not (b:=Ql s ⟨#[]⟩),D3]
    by_cases hz:s.size=0
    ·simp[hz]
    ·rw[decide_eq_true (by omega:0<s.size),decide_eq_false hz];rfl
   rw[he]
   unfold Q5Y
   by_cases hz:s.size=0
   ·rw[decide_eq_true hz];exact Ev.pure _
   ·rw[decide_eq_false hz]
    simp(disch:=omega) only[cond_false,cond_true,Qd,wrap_in]
    rw[show((s.size:Int)-1).toNat=s.size-1 by omega,show(0:Int).toNat=0 from rfl,Bool.false_or,Bool.true_and]
    cases (bt s 0 != 32)with
    |true=>exact Ev.pure _
    |false=>exact Ev.pure _
theorem Q1w (s:ByteArray):Ev (λk=>Z47.F k s) (Jo s):=by
 unfold Z47.F Jo
 by_cases c:(s.size:Int)<=40
 ·simp(disch:=omega) only[Qd,Gf,Bool.true_and]
  refine Ev.bind ?_ (Ev.pure _)
  unfold Z27.F
  have:=Q0u s (by omega) s.size 0 (by omega)
  rw[List.drop_zero]at this
  cases h:(Q6 s).all (vis 32)with
  |false=>rw[h]at this;exact Ev.bind this (Ev.pure _)
  |true=>
   rw[h]at this
   refine Ev.bind (a:=.inr s) this ?_
   dsimp only
   refine Ev.bind0 (Q5Z s (by omega)) ?_
   simp only[Q8r,Bool.true_and]
   exact Ev.pure _
 ·simp(disch:=omega) only[Qu,Dy,Bool.false_and]
  exact Ev.pure _
def pos (s:ByteArray):Bool:=decide (0<s.size)
def kw (s:ByteArray):List ByteArray:=(words s).filter pos
theorem ext_size {s:ByteArray}{a b:Nat}(h:a<=b)(hb:b<=s.size):(s.extract a b).size=b-a:=by
 rw[ByteArray.size_extract];omega
theorem UJ {n:Nat}(h:n<=8192):room n .str=true:=by
 unfold room
 rw[Nat.ble_eq]
 have:nb .str=16:=rfl
 rw[this]
 omega
theorem YS (s:ByteArray)(a b:Nat)(hab:a<=b)(hb:b<=s.size)(l:List ByteArray):(s.extract a b::l).filter pos=(if a<b then[s.extract a b]else[])++l.filter pos:=by
 rw[List.filter_cons]
 unfold pos
 rw[ext_size hab hb]
 by_cases c:a<b
 ·rw[if_pos c,decide_eq_true (by omega)];rfl
 ·rw[if_neg c,decide_eq_false (by omega)];rfl
theorem YC (s:ByteArray)(hs:s.size<=4000):∀n i:Nat,i+n=s.size->∀st:Nat,st<=i->(∀j,st<=j->j<i->(L s)[j]? ≠some 32)->∀acc:List ByteArray,acc.length<=i->Ev (λk=>Z10.l0 k s acc st i) (acc++(Jd s st).filter pos)
 |0,i,h,st,h1,hn,acc,ha=>by
  have e:Jd s st=[s.extract st s.size]:=XF s st λj hj=>by
   by_cases hj2:j<i
   ·exact hn j hj hj2
   ·rw[List.getElem?_eq_none (by rw[J2];omega)];exact λh=>by cases h
  rw[e,YS s st s.size (by omega) (Nat.le_refl _),List.filter_nil,List.append_nil]
  have fin:∀acc',Ev (λk=>Z10.l0 k s acc' ((i:Int)+1) ((i:Int)+1)) acc':=λacc'=>by
   refine Ev.step (λk=>by rw[Z10.l0]) ?_
   simp(disch:=omega) only[Qu]
   exact Ev.pure _
  refine Ev.step (λk=>by rw[Z10.l0]) ?_
  by_cases c:st<i
  ·rw[if_pos (by omega)]
   have hr:∀x:ByteArray,room (acc.length+([x]:List ByteArray).length) .str=true:=λx=>UJ (by simp;omega)
   simp(disch:=omega) only[Qd,ceq,Int.toNat_natCast,hr,cond_true,wrap_in]
   rw[show i=s.size by omega]
   have:=fin (acc++[s.extract st s.size])
   rw[show i=s.size by omega]at this
   exact this
  ·rw[if_neg (by omega),List.append_nil]
   simp(disch:=omega) only[Qd,Qu,ceq,wrap_in]
   exact fin acc
 |n+1,i,h,st,h1,hn,acc,ha=>by
  have hi:i<s.size:=by omega
  refine Ev.step (λk=>by rw[Z10.l0]) ?_
  by_cases c:bt s i=32
  ·rw[DG s st i h1 hi ((Da hi).1 c) hn,YS s st i h1 (by omega)]
   by_cases c2:st<i
   ·have hr:∀x:ByteArray,room (acc.length+([x]:List ByteArray).length) .str=true:=λx=>UJ (by simp;omega)
    rw[if_pos c2,<-List.append_assoc]
    simp(disch:=first|exact c|omega) only[Qd,cne,ceq,Int.toNat_natCast,hr,cond_true,wrap_in]
    exact YC s hs n (i+1) (by omega) (i+1) (Nat.le_refl _) (λj h1 h2=>by omega) (acc++[s.extract st i]) (by simp;omega)
   ·rw[if_neg c2,List.nil_append]
    simp(disch:=first|exact c|omega) only[Qd,Qu,cne,ceq,Int.toNat_natCast,wrap_in]
    exact YC s hs n (i+1) (by omega) (i+1) (Nat.le_refl _) (λj h1 h2=>by omega) acc (by omega)
  ·simp(disch:=first|exact c|omega) only[Qd,cne,Int.toNat_natCast,wrap_in]
   exact YC s hs n (i+1) (by omega) st (by omega) (λj h3 h4=>by
    rcases Nat.lt_or_ge j i with h5|h5
    ·exact hn j h3 h5
    ·obtain rfl:j=i:=by omega
     exact λe=>c ((Da hi).2 e)) acc (by omega)
theorem Q2e (s:ByteArray)(hs:s.size<=4000):Ev (λk=>Z10.F k s) (kw s):=by
 unfold Z10.F
 have:=YC s hs s.size 0 (by omega) 0 (Nat.le_refl _) (λj h1 h2=>by omega) [] (Nat.le_refl _)
 rw[Q0s,List.nil_append]at this
 exact Ev.bind this (Ev.pure _)
theorem Q7B:(λx:ByteArray=> !Ql x ⟨#[]⟩)=pos:=by
 funext x
 rw[D3];rfl
theorem Q4m (s:ByteArray)(hs:s.size<=4000):Ev (λk=>Z59.F k s) (kw s):=by
 unfold Z59.F
 refine Ev.bind0 (Q7z s hs) (Ev.bind (a:=kw s) ?_ (Ev.pure _))
 have hlen:=(Q1u s).2
 have hq:∀x,x∈words s->Ev (λk=>(λ(_:Nat) (x:ByteArray)=>Z45.F x) k x) (Ql x ⟨#[]⟩):=λx _=>Ev.const rfl
 have:=Q1v (d:=(⟨#[]⟩:ByteArray)) (p:=λx=>Ql x ⟨#[]⟩) (q:=λ_ x=>Z45.F x) (xs:=words s) (l0:=Z34.l0) (λk x0 x5 x6=>by rw[Z34.l0]) hq (by omega) (I:=Z31.F) (F:=Z34.F)
  (Q2d (d:=(⟨#[]⟩:ByteArray)) (p:=λx=>Ql x ⟨#[]⟩) (q:=λ_ x=>Z45.F x) (l0:=Z31.l0) (λk x0 x7 x8=>by rw[Z31.l0]) hq (by omega) (λk a0=>rfl)) (λk a0=>rfl)
 rw[Q7B]at this
 exact this
def om (s:ByteArray):Bool:=Ql (DF s) ⟨#[97]⟩||(Ql (DF s) ⟨#[97,110]⟩||(Ql (DF s) ⟨#[97,110,100]⟩||(Ql (DF s) ⟨#[102,111,114]⟩||(Ql (DF s) ⟨#[105,110]⟩||(Ql (DF s) ⟨#[111,102]⟩||(Ql (DF s) ⟨#[111,110]⟩||Ql (DF s) ⟨#[116,104,101]⟩))))))
theorem cb1 (c:Bool):(bif c then some true else some false)=some c:=by cases c<;>rfl
theorem cb2 (c d:Bool):(bif c then some c else some d)=some (c||d):=by cases c<;>rfl
theorem Q7C (s:ByteArray)(hs:s.size<=1048576):Ev (λk=>Z67.F k s) (om s):=by
 unfold Z67.F om
 refine Ev.bind (Yb s hs) ?_
 simp only[cb1,cb2]
 exact Ev.pure _
theorem Q4n (s:ByteArray)(hs:s.size<=1048576):Ev (λk=>Z41.F k s) (om s):=by
 unfold Z41.F om
 refine Ev.bind (Q0q s hs) ?_
 simp only[cb1,cb2]
 exact Ev.pure _
theorem Q0v (s:ByteArray):∀x∈kw s,0<x.size/\x.size<=s.size:=λx hx=>by
 obtain⟨h1,h2⟩:=List.mem_filter.1 hx
 exact⟨by simpa[pos]using h2,G5 _ _ x h1⟩
theorem Q4o (s:ByteArray):(kw s).length<=s.size+1:=Nat.le_trans (List.length_filter_le _ _) (Q1u s).2
theorem Q2f (W:List ByteArray)(hW:∀x∈W,x.size<=4000)(hl:W.length<=4001):∀n i:Nat,i+n=W.length->∀acc:List ByteArray,acc.length<=i->Ev (λk=>Z15.l0 k W acc i) (W,acc++(W.drop i).filter λx=> !om x)
 |0,i,h,acc,ha=>by
  refine Ev.step (λk=>by rw[Z15.l0]) ?_
  simp(disch:=omega) only[Qu]
  rw[List.drop_eq_nil_of_le (by omega),List.filter_nil,List.append_nil]
  exact Ev.pure _
 |n+1,i,h,acc,ha=>by
  have hi:i<W.length:=by omega
  refine Ev.step (λk=>by rw[Z15.l0]) ?_
  simp(disch:=omega) only[Qd,Int.toNat_natCast,getD_at hi]
  have:=hW _ (List.getElem_mem hi)
  refine Ev.bind (Q7C _ (by omega)) ?_
  rw[List.drop_eq_getElem_cons hi,List.filter_cons]
  cases ho:om W[i]with
  |true=>
   simp(disch:=omega) only[Bool.not_true,cond_false,wrap_in,Bool.false_eq_true,if_false]
   exact Q2f W hW hl n (i+1) (by omega) acc (by omega)
  |false=>
   have hr:room (acc.length+([W[i]]:List ByteArray).length) .str=true:=UJ (by simp;omega)
   simp(disch:=omega) only[Bool.not_false,cond_true,Qd,hr,wrap_in,if_true]
   have:=Q2f W hW hl n (i+1) (by omega) (acc++[W[i]]) (by simp;omega)
   rw[List.append_assoc]at this
   exact this
def J4 (s:ByteArray):List ByteArray×Bool:=if(kw s).length<=1 then(kw s,false)else if((kw s).filter λx=> !om x).length=0 then(kw s,true)else((kw s).filter λx=> !om x,true)
theorem Xl (s:ByteArray)(hs:s.size<=40):Ev (λk=>Z15.F k s) (J4 s):=by
 unfold Z15.F
 have hW:=Q0v s
 have hl:=Q4o s
 have h2:=Q2f (kw s) (λx hx=>by have:=(hW x hx).2;omega) (by omega) (kw s).length 0 (by omega) [] (Nat.le_refl _)
 rw[List.drop_zero,List.nil_append]at h2
 refine Ev.bind (Q2e s (by omega)) (Ev.bind h2 ?_)
 unfold J4
 by_cases c1:(kw s).length<=1
 ·rw[if_pos c1]
  by_cases c2:(((kw s).filter λx=> !om x).length:Int)=0
  ·simp(disch:=omega) only[ceq,Qd];exact Ev.pure _
  ·simp(disch:=omega) only[cne,Qd];exact Ev.pure _
 ·rw[if_neg c1]
  by_cases c2:((kw s).filter λx=> !om x).length=0
  ·rw[if_pos c2]
   simp(disch:=omega) only[ceq,Qu];exact Ev.pure _
  ·rw[if_neg c2]
   simp(disch:=omega) only[cne,Qu];exact Ev.pure _
theorem Q2g (s:ByteArray)(hs:s.size<=40):Ev (λk=>Z44.F k s) (J4 s):=by
 unfold Z44.F J4
 have hW:=Q0v s
 have hl:=Q4o s
 refine Ev.bind (Q4m s (by omega)) ?_
 by_cases c1:(kw s).length<=1
 ·rw[if_pos c1]
  simp(disch:=omega) only[Qd]
  exact Ev.pure _
 ·rw[if_neg c1]
  simp(disch:=omega) only[Qu]
  have hc:Z78.F (kw s)=some (kw s):=by
   unfold Z78.F Q27
   rw[Nat.ble_eq_true_of_le (by omega)]
   rfl
  refine Ev.bind0 hc ?_
  have hq:∀x,x∈kw s->Ev (λk=>Z41.F k x) (om x):=λx hx=>Q4n x (by have:=(hW x hx).2;omega)
  refine Ev.bind (Q1v (d:=(⟨#[]⟩:ByteArray)) (p:=om) (q:=Z41.F) (xs:=kw s) (l0:=Z35.l0) (λk x0 x5 x6=>by rw[Z35.l0]) hq (by omega) (I:=Z32.F) (F:=Z35.F)
   (Q2d (d:=(⟨#[]⟩:ByteArray)) (p:=om) (q:=Z41.F) (l0:=Z32.l0) (λk x0 x7 x8=>by rw[Z32.l0]) hq (by omega) (λk a0=>rfl)) (λk a0=>rfl)) ?_
  by_cases c2:((kw s).filter λx=> !om x).length=0
  ·rw[if_pos c2]
   simp(disch:=omega) only[ceq];exact Ev.pure _
  ·rw[if_neg c2]
   simp(disch:=omega) only[cne];exact Ev.pure _
theorem UK (s:ByteArray):(∀x∈(J4 s).1,0<x.size/\x.size<=s.size)/\(J4 s).1.length<=s.size+1:=by
 have hW:=Q0v s
 have hl:=Q4o s
 have hf:=List.length_filter_le (λx=> !om x) (kw s)
 unfold J4
 split
 ·exact⟨hW,hl⟩
 ·split
  ·exact⟨hW,hl⟩
  ·exact⟨λx hx=>hW x (List.mem_filter.1 hx).1,by show((kw s).filter λx=> !om x).length<=_;omega⟩
end Go.Proofs.YtlnhmbnbloakmaaGreatDoor
end
section
/- Plain laws: a text,abbreviated. -/
namespace Go.Proofs.YtlnhmbnbloakmaaGreatDoor
open Go.Gx
theorem Q60 (x:List UInt8)(r:List (List UInt8)):Lib.joinTail [32] (x::r)=32::(x++Lib.joinTail [32] r):=by simp[Lib.joinTail]
theorem e32:(⟨#[32]⟩:ByteArray).size=1:=rfl
theorem L32:L ⟨#[32]⟩=[32]:=rfl
theorem Q56 (W:List ByteArray)(hW:∀x∈W,x.size<=1048576)(hl:W.length<=8192):∀n i:Nat,i+n=W.length->1<=i->∀acc:ByteArray,acc.size<=1048577*i->
  ∃r,Ev (λk=>Z13.l0 k W acc i) r/\L r=L acc++Lib.joinTail [32] ((W.drop i).map L)/\r.size<=1048577*W.length
 |0,i,h,h0,acc,ha=>by
  refine⟨acc,Ev.step (λk=>by rw[Z13.l0]) ?_,?_,by rw[show W.length=i by omega];exact ha⟩
  ·simp(disch:=omega) only[Qu];exact Ev.pure _
  ·rw[List.drop_eq_nil_of_le (by omega)];simp[Lib.joinTail]
 |n+1,i,h,h0,acc,ha=>by
  have hi:i<W.length:=by omega
  have hx:=hW _ (List.getElem_mem hi)
  obtain⟨r,r1,r2,r3⟩:=Q56 W hW hl n (i+1) (by omega) (by omega) (acc++⟨#[32]⟩++W[i]) (by rw[Q0r,Q0r,e32];omega)
  refine⟨r,Ev.step (λk=>by rw[Z13.l0]) ?_,?_,r3⟩
  ·simp(disch:=(try simp only[Q0r,e32]);omega) only[Qd,Int.toNat_natCast,getD_at hi,Q0H,wrap_in]
   exact r1
  ·rw[r2,List.drop_eq_getElem_cons hi,List.map_cons,Q60,Yr,Yr,L32]
   simp
theorem Q2h (W:List ByteArray)(hW:∀x∈W,x.size<=1048576)(hl:W.length<=8192):∃r,Ev (λk=>Z13.F k W) r/\Z74.F W ⟨#[32]⟩=some r/\L r=Lib.join (W.map L) [32]/\r.size<=1048577*W.length:=by
 have key:∃r,Ev (λk=>Z13.F k W) r/\L r=Lib.join (W.map L) [32]/\r.size<=1048577*W.length:=by
  unfold Z13.F
  match W,hW,hl with
  |[],_,_=>
   refine⟨⟨#[]⟩,Ev.bind (a:=⟨#[]⟩) ?_ (Ev.pure _),rfl,Nat.zero_le _⟩
   refine Ev.step (λk=>by rw[Z13.l0]) ?_
   exact Ev.pure _
  |x::W,hW,hl=>
   have hx:=hW x List.mem_cons_self
   have e00:∀t:ByteArray,(⟨#[]⟩:ByteArray)++t=t:=λt=>XL (by rw[Yr];rfl)
   have e0:(⟨#[]⟩:ByteArray).size=0:=rfl
   obtain⟨r,r1,r2,r3⟩:=Q56 (x::W) hW hl W.length 1 (by rw[List.length_cons];omega) (Nat.le_refl _) x (by omega)
   refine⟨r,Ev.bind (a:=r) ?_ (Ev.pure _),?_,r3⟩
   ·refine Ev.step (λk=>by rw[Z13.l0]) ?_
    have r1':Ev (λk=>Z13.l0 k (x::W) x (0+1)) r:=r1
    have hlen:(0:Int)<((x::W).length:Int):=by rw[List.length_cons];omega
    have hg:(x::W).getD (0:Int).toNat (⟨#[]⟩:ByteArray)=x:=rfl
    simp(disch:=(try simp only[e0]);omega) only[Qd,Qu,hg,e00,Q0H,wrap_in]
    exact r1'
   ·rw[r2,List.map_cons,Lib.join_cons];rfl
 obtain⟨r,r1,r2,r3⟩:=key
 refine⟨r,r1,?_,r2,r3⟩
 unfold Z74.F Q4Z
 have e1:Lib.join (W.map (·.data.toList)) (⟨#[32]⟩:ByteArray).data.toList=L r:=by rw[r2];rfl
 rw[e1,Nat.ble_eq_true_of_le (by omega),Nat.ble_eq_true_of_le (by rw[J2];omega)]
 show some _=some r
 congr 1
def ms {α:Type}(f:α->α)(W:List α)(i:Nat):List α:=(W.take i).map f++W.drop i
section
variable {α:Type} (f:α->α) (W:List α)
theorem Q92 (i:Nat):(ms f W i).length=W.length:=by unfold ms;simp;omega
theorem Q8s:ms f W 0=W:=by simp[ms]
theorem Q93:ms f W W.length=W.map f:=by simp[ms]
theorem Q9q {i:Nat}(h:i<W.length)(d:α):(ms f W i).getD i d=W[i]:=by
 unfold ms
 rw[List.getD_eq_getElem?_getD,List.getElem?_append_right (by simp;omega)]
 simp[Nat.min_eq_left (Nat.le_of_lt h),h]
theorem Q94 {i:Nat}(h:i<W.length):(ms f W i).set i (f W[i])=ms f W (i+1):=by
 unfold ms
 rw[List.set_append_right _ _ (by simp;omega)]
 simp only[List.length_map,List.length_take,Nat.min_eq_left (Nat.le_of_lt h),Nat.sub_self]
 rw[List.drop_eq_getElem_cons h,List.set_cons_zero,List.take_add_one,List.getElem?_eq_getElem h]
 simp only[Option.toList_some,List.map_append,List.map_cons,List.map_nil,List.append_assoc,List.cons_append,List.nil_append]
end
open Classical in
noncomputable def shW (xs:List Abbr)(s:ByteArray):ByteArray:=if h:∃r,Ev (λk=>Z43.F k xs s) r/\Ev (λk=>Z51.F k xs s) r/\r.size<=1048576 then h.choose else s
theorem DJ (xs:List Abbr)(hs:smalls xs)(s:ByteArray)(h0:0<s.size)(h1:s.size<=1048576):Ev (λk=>Z43.F k xs s) (shW xs s)/\Ev (λk=>Z51.F k xs s) (shW xs s)/\(shW xs s).size<=1048576:=by
 have h:=Q7w xs hs s h0 h1
 unfold shW
 rw[dif_pos h]
 exact h.choose_spec
theorem Yk (xs:List Abbr)(hs:smalls xs)(W:List ByteArray)(hW:∀x∈W,0<x.size/\x.size<=1048576)(hl:W.length<=8192):∀n i:Nat,i+n=W.length->∀acc:List ByteArray,acc.length<=i->Ev (λk=>Z7.l0 k xs W acc i) (acc++(W.drop i).map (shW xs))
 |0,i,h,acc,ha=>by
  refine Ev.step (λk=>by rw[Z7.l0]) ?_
  simp(disch:=omega) only[Qu]
  rw[List.drop_eq_nil_of_le (by omega),List.map_nil,List.append_nil]
  exact Ev.pure _
 |n+1,i,h,acc,ha=>by
  have hi:i<W.length:=by omega
  obtain⟨h1,h2⟩:=hW _ (List.getElem_mem hi)
  refine Ev.step (λk=>by rw[Z7.l0]) ?_
  simp(disch:=omega) only[Qd,Int.toNat_natCast,getD_at hi]
  refine Ev.bind (DJ xs hs _ h1 h2).1 ?_
  have hr:room (acc.length+([shW xs W[i]]:List ByteArray).length) .str=true:=UJ (by simp;omega)
  simp(disch:=omega) only[hr,cond_true,wrap_in]
  have:=Yk xs hs W hW hl n (i+1) (by omega) (acc++[shW xs W[i]]) (by simp;omega)
  rw[List.append_assoc]at this
  rw[List.drop_eq_getElem_cons hi,List.map_cons]
  exact this
theorem Q1x (xs:List Abbr)(hs:smalls xs)(W:List ByteArray)(hW:∀x∈W,0<x.size/\x.size<=1048576)(hl:W.length<=8192):∀n i:Nat,i+n=W.length->Ev (λk=>Z8.l0 k xs (ms (shW xs) W i) W.length i) (W.map (shW xs))
 |0,i,h=>by
  refine Ev.step (λk=>by rw[Z8.l0]) ?_
  simp(disch:=omega) only[Qu]
  rw[show i=W.length by omega,Q93]
  exact Ev.pure _
 |n+1,i,h=>by
  have hi:i<W.length:=by omega
  have hm:=Q92 (shW xs) W i
  obtain⟨h1,h2⟩:=hW _ (List.getElem_mem hi)
  refine Ev.step (λk=>by rw[Z8.l0]) ?_
  simp(disch:=omega) only[Qd,Int.toNat_natCast,Q9q (shW xs) W hi]
  refine Ev.bind (DJ xs hs _ h1 h2).2.1 ?_
  simp(disch:=omega) only[Qd,Q94 (shW xs) W hi,wrap_in]
  exact Q1x xs hs W hW hl n (i+1) (by omega)
theorem DK (s:ByteArray)(hl:bt s (s.size-1)≠32):∀n i:Nat,i+n=s.size->∀st:Nat,st<=i->st<s.size->(∀j,st<=j->j<i->(L s)[j]? ≠some 32)->0<((Jd s st).filter pos).length
 |0,i,h,st,h1,h2,hn=>by
  rw[XF s st λj hj=>by
   by_cases hj2:j<i
   ·exact hn j hj hj2
   ·rw[List.getElem?_eq_none (by rw[J2];omega)];exact λh=>by cases h]
  rw[YS s st s.size (by omega) (Nat.le_refl _),if_pos h2]
  simp
 |n+1,i,h,st,h1,h2,hn=>by
  have hi:i<s.size:=by omega
  by_cases c:bt s i=32
  ·have hi2:i+1<s.size:=by
    rcases Nat.lt_or_ge (i+1) s.size with h3|h3
    ·exact h3
    ·exact absurd (by rw[show s.size-1=i by omega];exact c) hl
   rw[DG s st i h1 hi ((Da hi).1 c) hn,YS s st i h1 (by omega)]
   have:=DK s hl n (i+1) (by omega) (i+1) (Nat.le_refl _) hi2 (λj h1 h2=>by omega)
   simp;omega
  ·exact DK s hl n (i+1) (by omega) st (by omega) h2 (λj h3 h4=>by
    rcases Nat.lt_or_ge j i with h5|h5
    ·exact hn j h3 h5
    ·obtain rfl:j=i:=by omega
     exact λe=>c ((Da hi).2 e))
theorem Q3n (s:ByteArray)(hl:bt s (s.size-1)≠32):∀n i:Nat,i+n=s.size->1<=i->(∀j,j<i->(L s)[j]? ≠some 32)->((Jd s 0).filter pos).length<=1->(Jd s 0).filter pos=[s]
 |0,i,h,h0,hn,hlen=>by
  rw[XF s 0 λj hj=>by
   by_cases hj2:j<i
   ·exact hn j hj2
   ·rw[List.getElem?_eq_none (by rw[J2];omega)];exact λh=>by cases h]
  rw[YS s 0 s.size (by omega) (Nat.le_refl _),if_pos (by omega),sub_self]
  rfl
 |n+1,i,h,h0,hn,hlen=>by
  have hi:i<s.size:=by omega
  by_cases c:bt s i=32
  ·have hi2:i+1<s.size:=by
    rcases Nat.lt_or_ge (i+1) s.size with h3|h3
    ·exact h3
    ·exact absurd (by rw[show s.size-1=i by omega];exact c) hl
   rw[DG s 0 i (by omega) hi ((Da hi).1 c) (λj _ h=>hn j h),YS s 0 i (by omega) (by omega),if_pos (by omega)]at hlen
   have:=DK s hl n (i+1) (by omega) (i+1) (Nat.le_refl _) hi2 (λj h1 h2=>by omega)
   rw[List.length_append,List.length_singleton]at hlen
   omega
  ·exact Q3n s hl n (i+1) (by omega) (by omega) (λj h4=>by
    rcases Nat.lt_or_ge j i with h5|h5
    ·exact hn j h5
    ·obtain rfl:j=i:=by omega
     exact λe=>c ((Da hi).2 e)) hlen
theorem Q95 (s:ByteArray)(he:Q5Y s=true)(hl:(kw s).length<=1):Lib.join ((kw s).map L) [32]=L s:=by
 unfold kw at hl ⊢
 rw[<-Q0s]at hl ⊢
 unfold Q5Y at he
 by_cases hz:s.size=0
 ·rw[XF s 0 λj hj=>by rw[List.getElem?_eq_none (by rw[J2];omega)];exact λh=>by cases h]
  rw[YS s 0 s.size (by omega) (Nat.le_refl _),if_neg (by omega)]
  have:L s=[]:=List.eq_nil_of_length_eq_zero hz
  rw[this];rfl
 ·rw[decide_eq_false hz,Bool.false_or,Bool.and_eq_true,bne_iff_ne,bne_iff_ne]at he
  rw[Q3n s he.2 (s.size-1) 1 (by omega) (Nat.le_refl _) (λj hj=>by
   obtain rfl:j=0:=by omega
   exact λe=>he.1 ((Da (by omega)).2 e)) hl]
  simp[Lib.join_one]
theorem Q7D (xs:List Abbr)(hs:smalls xs)(s:ByteArray)(ht:Jo s=true):∃r,Ev (λk=>Z7.F k xs s) r/\Ev (λk=>Z8.F k xs s) r:=by
 unfold Jo at ht
 simp only[Bool.and_eq_true,decide_eq_true_eq]at ht
 obtain⟨h40,_,he⟩:=ht
 obtain⟨hW,hl⟩:=UK s
 have k1:=Xl s h40
 have k2:=Q2g s h40
 unfold Z7.F Z8.F
 cases hb:(J4 s).2 with
 |false=>
  have hk:J4 s=(kw s,false)/\(kw s).length<=1:=by
   unfold J4 at hb ⊢
   split at hb
   ·rename_i c;rw[if_pos c];exact⟨rfl,c⟩
   ·split at hb<;>cases hb
  obtain⟨r,r1,r2,r3,_⟩:=Q2h (J4 s).1 (λx hx=>by have:=(hW x hx).2;omega) (by omega)
  have:r=s:=XL (by rw[r3,hk.1,Q95 s he hk.2])
  subst this
  refine⟨r,Ev.bind k1 ?_,Ev.bind k2 ?_⟩
  ·rw[hb];exact Ev.pure _
  ·rw[hb];exact Ev.bind0 r2 (Ev.pure _)
 |true=>
  have hW':∀x∈(J4 s).1,0<x.size/\x.size<=1048576:=λx hx=>by have:=hW x hx;omega
  have s1:=Yk xs hs (J4 s).1 hW' (by omega) (J4 s).1.length 0 (by omega) [] (Nat.le_refl _)
  have s2:=Q1x xs hs (J4 s).1 hW' (by omega) (J4 s).1.length 0 (by omega)
  rw[List.drop_zero,List.nil_append]at s1
  rw[Q8s]at s2
  obtain⟨r,r1,r2,r3,_⟩:=Q2h ((J4 s).1.map (shW xs)) (λx hx=>by
   obtain⟨y,hy,rfl⟩:=List.mem_map.1 hx
   obtain⟨h1,h2⟩:=hW' y hy
   exact(DJ xs hs y h1 h2).2.2) (by rw[List.length_map];omega)
  refine⟨r,Ev.bind k1 ?_,Ev.bind k2 ?_⟩
  ·rw[hb];exact Ev.bind s1 (Ev.bind r1 (Ev.pure _))
  ·rw[hb];exact Ev.bind s2 (Ev.bind0 r2 (Ev.pure _))
end Go.Proofs.YtlnhmbnbloakmaaGreatDoor
end
section
/- Plain laws: lists of titles. -/
namespace Go.Proofs.YtlnhmbnbloakmaaGreatDoor
open Go.Gx
open Classical in
noncomputable def tW (xs:List Abbr)(s:ByteArray):ByteArray:=if h:∃r,Ev (λk=>Z7.F k xs s) r/\Ev (λk=>Z8.F k xs s) r then h.choose else s
theorem Q0w (xs:List Abbr)(hs:smalls xs)(s:ByteArray)(ht:Jo s=true):Ev (λk=>Z7.F k xs s) (tW xs s)/\Ev (λk=>Z8.F k xs s) (tW xs s):=by
 have h:=Q7D xs hs s ht
 unfold tW
 rw[dif_pos h]
 exact h.choose_spec
def Yc (ts:List ByteArray):Bool:=ts.all Jo&&decide (ts.length<=20)
theorem Xm {ts:List ByteArray}(h:Yc ts=true):(∀t∈ts,Jo t=true)/\ts.length<=20:=by
 unfold Yc at h
 rw[Bool.and_eq_true,decide_eq_true_eq,List.all_eq_true]at h
 exact h
theorem XM (ts:List ByteArray)(hl:ts.length<=1048576):∀n i:Nat,i+n=ts.length->Ev (λk=>Z12.l0 k ts i) (if(ts.drop i).all Jo=true then .inr ts else .inl false)
 |0,i,h=>by
  refine Ev.step (λk=>by rw[Z12.l0]) ?_
  simp(disch:=omega) only[Qu]
  rw[List.drop_eq_nil_of_le (by omega)]
  exact Ev.pure _
 |n+1,i,h=>by
  have hi:i<ts.length:=by omega
  refine Ev.step (λk=>by rw[Z12.l0]) ?_
  simp(disch:=omega) only[Qd,Int.toNat_natCast,getD_at hi]
  refine Ev.bind (Q3m _) ?_
  rw[List.drop_eq_getElem_cons hi,List.all_cons]
  cases Jo ts[i]with
  |false=>exact Ev.pure _
  |true=>
   simp(disch:=omega) only[Bool.not_true,cond_false,Bool.true_and,wrap_in]
   exact XM ts hl n (i+1) (by omega)
theorem XN (ts:List ByteArray)(hl:ts.length<=1048576):Ev (λk=>Z12.F k ts) (Yc ts):=by
 unfold Z12.F Yc
 have:=XM ts hl ts.length 0 (by omega)
 rw[List.drop_zero]at this
 cases h:ts.all Jo with
 |false=>rw[h]at this;exact Ev.bind this (Ev.pure _)
 |true=>
  rw[h]at this
  refine Ev.bind this ((Ev.pure _).eq ?_)
  rw[Bool.true_and]
  exact decide_eq_decide.2 (by omega)
theorem UL (xs:List Abbr)(hs:smalls xs)(ts:List ByteArray)(hl:ts.length<=1048576):Ev (λk=>Z48.F k xs ts) (JB xs&&Yc ts):=by
 have v2:=D6 xs hs
 unfold Z48.F Yc
 cases hv:JB xs with
 |false=>rw[hv]at v2;exact Ev.bind v2 (Ev.pure _)
 |true=>
  rw[hv]at v2
  refine Ev.bind v2 ?_
  simp only[cond_true,Bool.true_and]
  by_cases c:ts.length<=20
  ·simp(disch:=omega) only[Qd,Gf,Bool.and_true]
   have hq:∀x,x∈ts->Ev (λk=>Z53.F k x) (!Jo x):=λx _=>by
    unfold Z53.F
    exact Ev.bind (Q1w x) (Ev.pure _)
   obtain⟨r,h1,h2⟩:=Q2d (d:=(⟨#[]⟩:ByteArray)) (p:=λx=> !Jo x) (q:=Z53.F) (xs:=ts) (l0:=Z30.l0) (λk x0 x7 x8=>by rw[Z30.l0]) hq (by omega) (F:=Z30.F) (λk a0=>rfl)
   refine Ev.bind (a:=!ts.all Jo) ?_ ?_
   ·unfold Z71.F
    refine Ev.bind h1 ((Ev.pure _).eq ?_)
    rcases h2 with⟨rfl,h2⟩|⟨j,rfl,hj,hp,_⟩
    ·have:ts.all Jo=true:=List.all_eq_true.2 λx hx=>by have:=h2 x hx;simpa using this
     rw[this];rfl
    ·have:ts.all Jo=false:=by
      rw[List.all_eq_false]
      refine⟨ts[j],List.getElem_mem hj,?_⟩
      rw[getD_at hj]at hp
      simpa using hp
     rw[this,decide_eq_true (by omega)];rfl
   ·rw[Bool.not_not];exact Ev.pure _
  ·simp(disch:=omega) only[Qu,Dy,Bool.and_false]
   exact Ev.pure _
end Go.Proofs.YtlnhmbnbloakmaaGreatDoor
end
section
/- UnabbreviatedWords,both ways (cut out of LawUnabbr). -/
namespace Go.Proofs.YtlnhmbnbloakmaaGreatDoor
open Go.Gx
end Go.Proofs.YtlnhmbnbloakmaaGreatDoor
end
section
/- What the laws draw: cursors and titles of containers (cut out of PlDraw and PlDraw2). -/
namespace Go.Proofs.YtlnhmbnbloakmaaGreatDoor
open Go.Gx
theorem EvP.cond {α:Type}{b:Bool}{f g:Nat->Option α}{Q:α->Prop}(h1:b=true->EvP f Q)(h2:b=false->EvP g Q):EvP (λk=>cond b (f k) (g k)) Q:=by
 cases b with
 |true=>exact h1 rfl
 |false=>exact h2 rfl
theorem Q96 (z:Int):0<=IntKind.wrap .i64 (IntKind.wrap .u64 ((BitVec.ofInt (IntKind.bits .u64) z&&& BitVec.ofInt (IntKind.bits .u64) 255).toNat:Int))/\IntKind.wrap .i64 (IntKind.wrap .u64 ((BitVec.ofInt (IntKind.bits .u64) z&&& BitVec.ofInt (IntKind.bits .u64) 255).toNat:Int))<=255:=by
 have h1:(BitVec.ofInt (IntKind.bits .u64) z&&& BitVec.ofInt (IntKind.bits .u64) 255).toNat<=255:=by
  rw[BitVec.toNat_and]
  exact Nat.le_trans Nat.and_le_right (Nat.le_of_eq rfl)
 generalize (BitVec.ofInt (IntKind.bits .u64) z&&& BitVec.ofInt (IntKind.bits .u64) 255).toNat=m at h1
 have h2:IntKind.wrap .u64 (m:Int)=m:=by rw[IntKind.wrap_u64];omega
 rw[h2,wrap_in (by omega) (by omega)]
 omega
def byt (l:List Int):Prop:=(∀b∈l,0<=b/\b<=255)/\l.length<=65536
theorem Q97 {code:List Int}(hw:WF (.sl (.int .u8)) code)(hl:(code.length:Int)<=65536):byt code:=by
 refine⟨λb hb=>?_,by omega⟩
 obtain⟨i,hi,rfl⟩:=List.getElem_of_mem hb
 cases hw with
 |sl _ _ _ h=>
  have:=h i hi
  cases this with
  |int _ _ h=>
   have h1:IntKind.u8.min=0:=rfl
   have h2:IntKind.u8.max=255:=rfl
   simp only[Lit.wf,Bool.and_eq_true,decide_eq_true_eq]at h
   omega
theorem Q8t (c:Cur)(hc:byt c.code)(h0:0<=c.at_)(h1:c.at_<=1000000):∃c' x,Z52.F c=some (c',x)/\c'.code=c.code/\c'.at_=c.at_+1/\0<=x/\x<=255:=by
 unfold Z52.F
 have hl:=hc.2
 have z40:(decide ((0:Nat)<=40))=true:=rfl
 by_cases c1:c.at_<(c.code.length:Int)
 ·have hi:c.at_.toNat<c.code.length:=by omega
  have hb:0<=c.code.getD c.at_.toNat 0/\c.code.getD c.at_.toNat 0<=255:=by
   have:c.code.getD c.at_.toNat 0=c.code[c.at_.toNat]:=by simp[List.getD,hi]
   rw[this];exact hc.1 _ (List.getElem_mem hi)
  by_cases c2:c.at_+1<=(c.code.length:Int)
  ·refine⟨⟨c.code,c.at_+1,_⟩,_,by simp(disch:=omega) only[Qd,wrap_in];rfl,rfl,rfl,hb⟩
  ·omega
 ·have c2:¬c.at_+1<=(c.code.length:Int):=by omega
  refine⟨⟨c.code,c.at_+1,_⟩,_,by simp(disch:=omega) only[Qu,wrap_in,z40,cond_true];rfl,rfl,rfl,Q96 _⟩
theorem Q2i (c:Cur)(hc:byt c.code)(h0:0<=c.at_)(h1:c.at_<=1000000)(n:Int)(hn:1<=n)(hn2:n<=200):∃c' x,Z36.F c n=some (c',x)/\c'.code=c.code/\0<=c'.at_/\c'.at_<=c.at_+1/\0<=x/\x<n:=by
 unfold Z36.F
 by_cases c1:n<=1
 ·refine⟨c,0,by simp(disch:=omega) only[Qd],rfl,h0,by omega,by omega,by omega⟩
 ·obtain⟨c',x,e1,e2,e3,e4,e5⟩:=Q8t c hc h0 h1
  refine⟨c',Int.tmod x n,?_,e2,by omega,by omega,Int.tmod_nonneg _ e4,Int.tmod_lt_of_pos _ (by omega)⟩
  have hz:(n==0)=false:=by rw[beq_eq_false_iff_ne];omega
  simp(disch:=omega) only[Qu,e1,Option.bind_some,hz,cond_false]
def cu (n:Int)(c:Cur):Prop:=byt c.code/\0<=c.at_/\c.at_<=n
theorem cu.mono {n m:Int}{c:Cur}(h:cu n c)(hn:n<=m):cu m c:=⟨h.1,h.2.1,Int.le_trans h.2.2 hn⟩
theorem cu.start {code:List Int}(h:byt code):cu 0 ⟨code,0,0⟩:=⟨h,Int.le_refl 0,Int.le_refl 0⟩
section
variable {β:Type} {Q:β->Prop} {n:Int} {c:Cur}
theorem DL {m:Int}{g:Nat->Cur×Int->Option β}(h:cu n c)(hn:n<=900000)(h1:1<=m)(h2:m<=200)(hg:∀c' x,cu (n+1) c'->0<=x->x<m->EvP (λk=>g k (c',x)) Q):EvP (λk=>(Z36.F c m).bind (g k)) Q:=by
 obtain⟨h3,h4,h5⟩:=h
 obtain⟨c',x,e1,e2,e3,e4,e5,e6⟩:=Q2i c h3 h4 (by omega) m h1 h2
 exact EvP.of0 e1 (hg c' x ⟨by rw[e2];exact h3,e3,by omega⟩ e5 e6)
theorem Q7E {m:Int}{g:Nat->Cur×Bool->Option β}(h:cu n c)(hn:n<=900000)(h1:1<=m)(h2:m<=200)(hg:∀c' x,cu (n+1) c'->EvP (λk=>g k (c',x)) Q):EvP (λk=>(Z39.F c m).bind (g k)) Q:=by
 obtain⟨h3,h4,h5⟩:=h
 obtain⟨c',x,e1,e2,e3,e4,e5,e6⟩:=Q2i c h3 h4 (by omega) m h1 h2
 refine EvP.of0 (a:=(c',x==0)) ?_ (hg c' (x==0) ⟨by rw[e2];exact h3,e3,by omega⟩)
 unfold Z39.F
 rw[e1];rfl
theorem Q7F {l:List ByteArray}{g:Nat->Cur×ByteArray->Option β}(h:cu n c)(hn:n<=900000)(h1:1<=l.length)(h2:l.length<=200)(hs:∀y∈l,y.size<=50)(hg:∀c' x,cu (n+1) c'->x.size<=50->EvP (λk=>g k (c',x)) Q):EvP (λk=>(Z37.F c l).bind (g k)) Q:=by
 obtain⟨h3,h4,h5⟩:=h
 obtain⟨c',x,e1,e2,e3,e4,e5,e6⟩:=Q2i c h3 h4 (by omega) (l.length:Int) (by omega) (by omega)
 have hi:x.toNat<l.length:=by omega
 refine EvP.of0 (a:=(c',l.getD x.toNat ⟨#[]⟩)) ?_ (hg c' _ ⟨by rw[e2];exact h3,e3,by omega⟩ (by rw[getD_at hi];exact hs _ (List.getElem_mem hi)))
 unfold Z37.F
 simp(disch:=omega) only[e1,Option.bind_some,Qd]
end
theorem Y3 (s t:ByteArray):(s++t).size=s.size+t.size:=by rw[<-J2,Yr,List.length_append];rfl
theorem UM:∀m:Nat,m<=6->∀{n:Int} {c:Cur},cu n c->n+m<=500000->∀(s:ByteArray),s.size+60*m<=1000->EvP (λk=>Z26.l0 k c s m) λr=>cu (n+m) r.1/\r.2.size<=s.size+60*m
 |0,_,n,c,hc,hn,s,hs=>by
  refine EvP.step (λk=>by rw[Z26.l0]) ?_
  simp(disch:=omega) only[Qu]
  exact EvP.pure _ ⟨hc.mono (by omega),by show s.size<=_;omega⟩
 |m+1,hm,n,c,hc,hn,s,hs=>by
  have e32:(⟨#[32]⟩:ByteArray).size=1:=rfl
  refine EvP.step (λk=>by rw[Z26.l0]) ?_
  simp(disch:=omega) only[Qd]
  refine EvP.cond (λ_=>?_) (λ_=>?_)
  ·simp(disch:=(try simp only[e32]);omega) only[Q0H]
   refine Q7F hc (by omega) (by decide) (by decide) (by decide) λc1 x hc1 hx=>?_
   dsimp only
   rw[show(((m+1:Nat):Int)-1)=(m:Int) by omega]
   simp(disch:=(try simp only[Y3,e32]);omega) only[Q0H,wrap_in]
   refine EvP.mono (UM m (by omega) hc1 (by omega) (s++⟨#[32]⟩++x) (by simp only[Y3,e32];omega)) λr hr=>⟨hr.1.mono (by omega),?_⟩
   have:=hr.2
   simp only[Y3,e32]at this
   omega
  ·refine Q7F hc (by omega) (by decide) (by decide) (by decide) λc1 x hc1 hx=>?_
   dsimp only
   rw[show(((m+1:Nat):Int)-1)=(m:Int) by omega]
   simp(disch:=(try simp only[Y3,e32]);omega) only[Q0H,wrap_in]
   refine EvP.mono (UM m (by omega) hc1 (by omega) (s++x) (by simp only[Y3,e32];omega)) λr hr=>⟨hr.1.mono (by omega),?_⟩
   have:=hr.2
   simp only[Y3,e32]at this
   omega
theorem Q3o {n:Int}{c:Cur}(h:cu n c)(hn:n<=400000):EvP (λk=>Z26.F k c) λr=>cu (n+10) r.1/\r.2.size<=100:=by
 unfold Z26.F
 have z20:(20:Int).toNat=20:=rfl
 have e120:(⟨#[120]⟩:ByteArray).size=1:=rfl
 refine DL h (by omega) (by omega) (by omega) λc2 y hc2 y0 y1=>?_
 obtain⟨m,rfl⟩:∃m:Nat,y=m:=⟨y.toNat,by omega⟩
 dsimp only
 rw[wrap_in (by omega) (by omega),show(1+(m:Int))=((m+1:Nat):Int) by omega]
 refine EvP.bind (UM (m+1) (by omega) hc2 (by omega) ⟨#[]⟩ (by have:(⟨#[]⟩:ByteArray).size=0:=rfl;omega)) λr hr=>?_
 obtain⟨h1,h2⟩:=hr
 have z0:(⟨#[]⟩:ByteArray).size=0:=rfl
 have tail:∀(t:ByteArray),t.size<=41->∀{c:Cur},cu (n+1+((m+1:Nat):Int)) c->EvP (λk=>(Z36.F c 40).bind λr7=>bif (r7.2==0)then(some (r7.1,(⟨#[]⟩:ByteArray)))else(bif (r7.2==1)then((Z37.F r7.1 ([(⟨#[32]⟩:ByteArray),(⟨#[9]⟩:ByteArray)]:List ByteArray)).bind λr8=>bif Nat.ble (t.size+r8.2.size) 9223372036854775807 then(some (r8.1,(t++r8.2)))else none)else(bif (r7.2==2)then(some (r7.1,(⟨#[111,102,32,32,84,104,101]⟩:ByteArray)))else(some (r7.1,t))))) λr=>cu (n+10) r.1/\r.2.size<=100:=λt ht {c} hc=>by
  refine DL hc (by omega) (by omega) (by omega) λc4 y4 hc4 _ _=>?_
  dsimp only
  refine EvP.cond (λ_=>?_) (λ_=>EvP.cond (λ_=>?_) (λ_=>EvP.cond (λ_=>?_) (λ_=>?_)))
  ·exact EvP.pure _ ⟨hc4.mono (by omega),by show(⟨#[]⟩:ByteArray).size<=100;decide⟩
  ·refine Q7F hc4 (by omega) (by decide) (by decide) (by decide) λc5 x5 hc5 hx5=>?_
   dsimp only
   simp(disch:=omega) only[Q0H]
   exact EvP.pure _ ⟨hc5.mono (by omega),by show(t++x5).size<=100;rw[Y3];omega⟩
  ·exact EvP.pure _ ⟨hc4.mono (by omega),by show(⟨#[111,102,32,32,84,104,101]⟩:ByteArray).size<=100;decide⟩
  ·exact EvP.pure _ ⟨hc4.mono (by omega),by show t.size<=100;omega⟩
 by_cases c1:(r.2.size:Int) > 40
 ·have hx:(r.2.extract 0 20).size<=20:=by rw[<-J2,J8,List.length_drop,List.length_take];omega
  simp(disch:=(try simp only[e120]);omega) only[Qd,z20,Q0H]
  have:=tail (r.2.extract 0 20++⟨#[120]⟩) (by rw[Y3,e120];omega) h1
  exact this
 ·simp(disch:=omega) only[Qu]
  exact tail r.2 (by omega) h1
end Go.Proofs.YtlnhmbnbloakmaaGreatDoor
end
section
/- The plain law of FnAbbreviations. -/
namespace Go.Proofs.YtlnhmbnbloakmaaGreatDoor
open Go.Gx
def Q2j (m:Nat)(l:List Abbr):Prop:=l.length<=m/\∀a∈l,a.word.size<=50/\a.short.size<=50
theorem Q2j.smalls {m:Nat}{l:List Abbr}(h:Q2j m l)(hm:m<=100):smalls l:=⟨by have:=h.1;omega,λa ha=>by have:=h.2 a ha;omega⟩
theorem Q2j.put {m:Nat}{l:List Abbr}{a:Abbr}(h:Q2j m l)(ha:a.word.size<=50/\a.short.size<=50):Q2j (m+1) (l++[a]):=
 ⟨by have:=h.1;simp;omega,λx hx=>by
  rcases List.mem_append.1 hx with hx|hx
  ·exact h.2 x hx
  ·rw[List.mem_singleton.1 hx];exact ha⟩
theorem UN (all:List Abbr)(hall:Q2j 7 all):∀m:Nat,∀{n:Int} {c:Cur},cu n c->n+m<=100000->∀(i:Nat) (acc:List Abbr),i+m=all.length->Q2j i acc->
  EvP (λk=>Z25.l0 k c all acc i) λr=>cu (n+m) r.1/\Q2j 7 r.2
 |0,n,c,hc,hn,i,acc,h,ha=>by
  have hl:=hall.1
  refine EvP.step (λk=>by rw[Z25.l0]) ?_
  simp(disch:=omega) only[Qu]
  exact EvP.pure _ ⟨hc.mono (by omega),by have:=ha.1;show acc.length<=7;omega,ha.2⟩
 |m+1,n,c,hc,hn,i,acc,h,ha=>by
  have hl:=hall.1
  have hi:i<all.length:=by omega
  have hal:=ha.1
  refine EvP.step (λk=>by rw[Z25.l0]) ?_
  simp(disch:=omega) only[Qd]
  refine Q7E hc (by omega) (by decide) (by decide) λc1 b1 hc1=>?_
  dsimp only
  have hr:∀x:Abbr,room (acc.length+([x]:List Abbr).length) .abbr=true:=λx=>Q7r (by simp;omega)
  refine EvP.cond (λ_=>?_) (λ_=>?_)
  ·simp(disch:=omega) only[Qd,Int.toNat_natCast,getD_at hi,hr,cond_true,wrap_in]
   exact EvP.mono (UN all hall m hc1 (by omega) (i+1) _ (by omega) (ha.put (hall.2 _ (List.getElem_mem hi)))) λr hr=>⟨hr.1.mono (by omega),hr.2⟩
  ·simp(disch:=omega) only[wrap_in]
   exact EvP.mono (UN all hall m hc1 (by omega) (i+1) acc (by omega) ⟨by omega,ha.2⟩) λr hr=>⟨hr.1.mono (by omega),hr.2⟩
theorem Q3p {n:Int}{c:Cur}(h:cu n c)(hn:n<=50000):EvP (λk=>Z25.F k c) λr=>cu (n+20) r.1/\Q2j 8 r.2:=by
 unfold Z25.F
 refine EvP.bind (UN _ ⟨by decide,by decide⟩ 7 h (by omega) 0 [] (by rfl) ⟨by simp,λ_ h=>by cases h⟩) λy hy=>?_
 obtain⟨y1,y2⟩:=hy
 have hl:=y2.1
 have hr:∀x:Abbr,room (y.2.length+([x]:List Abbr).length) .abbr=true:=λx=>Q7r (by simp;omega)
 refine DL y1 (by omega) (by omega) (by omega) λc2 x hc2 x0 x1=>?_
 dsimp only
 refine EvP.cond (λ_=>?_) (λ_=>EvP.cond (λ_=>?_) (λ_=>?_))
 ·refine Q7F hc2 (by omega) (by decide) (by decide) (by decide) λc5 x5 hc5 hx5=>?_
  simp only[hr,cond_true]
  exact EvP.pure _ ⟨hc5.mono (by omega),y2.put ⟨hx5,by show(⟨#[122,46]⟩:ByteArray).size<=50;decide⟩⟩
 ·refine Q7F hc2 (by omega) (by decide) (by decide) (by decide) λc5 x5 hc5 hx5=>?_
  simp only[hr,cond_true]
  exact EvP.pure _ ⟨hc5.mono (by omega),y2.put ⟨by show(⟨#[122,111,111,108,111,103,121]⟩:ByteArray).size<=50;decide,hx5⟩⟩
 ·exact EvP.pure _ ⟨hc2.mono (by omega),by show y.2.length<=8;omega,y2.2⟩
theorem Q8G (a:List ByteArray)(ha:a.length<=1048576):∀n i:Nat,i+n=a.length->Ev (λk=>Z11.l0 k a a i) (.inr ())
 |0,i,e=>by
  refine Ev.step (λk=>by rw[Z11.l0]) ?_
  simp(disch:=omega) only[Qu]
  exact Ev.pure _
 |n+1,i,e=>by
  refine Ev.step (λk=>by rw[Z11.l0]) ?_
  simp(disch:=omega) only[Qd,Un,Bool.not_true,cond_false,wrap_in]
  exact Q8G a ha n (i+1) (by omega)
theorem Q7G (a:List ByteArray)(ha:a.length<=1048576):Ev (λk=>Z11.F k a a) true:=by
 unfold Z11.F
 simp only[bne_self_eq_false,cond_false]
 exact Ev.bind (Q8G a ha a.length 0 (by omega)) (Ev.pure _)
end Go.Proofs.YtlnhmbnbloakmaaGreatDoor
end
section
/- Plain laws: sizes,copies,equality,marks of lists of texts and of numbers. -/
namespace Go.Proofs.YtlnhmbnbloakmaaGreatDoor
open Go.Gx
end Go.Proofs.YtlnhmbnbloakmaaGreatDoor
end
section
/- Plain laws: marks of abbreviations. -/
namespace Go.Proofs.YtlnhmbnbloakmaaGreatDoor
open Go.Gx
end Go.Proofs.YtlnhmbnbloakmaaGreatDoor
end
