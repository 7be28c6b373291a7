/- The law FnExactUnusedAbbreviations returns true for every input,the listed package variables being as the program's text lays it: the card. -/
import Derived.Test.YtlnhmbnbloakmaaDoorMux4
import Derived.Shelf.Vars
import Derived.Below
import Derived.Lib.IndexMore
import Derived.Lib.Split
import Derived.Lib.SplitLaws
import Derived.Lib.Repeat
import Derived.Deep.Draws
import Derived.Lib.Join
import Derived.Lib.SlTrimSet
import Derived.Lib.IndexAny
import Derived.Lib.TrimByte
import Derived.Laws.AppendOwn
import Derived.Maps.OwnOps
import Derived.Maps.Views
import Derived.Test.YtlnhmbnbloakmaaDoorProg
import Derived.WalkKit
import Derived.Deep.LoopGhost
import Derived.Laws.OwnMore
import Derived.Handy
import Derived.Maps.AppendAt
import Derived.Test.YtlnhmbnbloakmaaDoorMux5
import Derived.KernelRfl
import Derived.Lib.IndexBytes
import Derived.Lib.IndexLaws
import Derived.Lib.CountLaws
import Derived.Test.YtlnhmbnbloakmaaDoorCards
import Derived.Test.YtlnhmbnbloakmaaDoorTie
import Derived.ProofKit
import Derived.OpenShut
import Derived.Deep.DeepHandedRow
import Derived.Lib.LaidTab
set_option linter.unusedVariables false
set_option linter.unusedSimpArgs false
set_option maxRecDepth 100000
section
namespace Go.Gx
open Go.RowKit Go.Lib
theorem U7 {P:Program}{f:FuncId}{fn:Func}{c:Code}(hf:P.funcs[f]? =some fn)(hb:fn.body=some c)(hname:(fn.name== "runtime.NumGoroutine")=false){args:Array Value}{w:World}{R:Value->World->Prop}
  (h:Calls P f args w λe w'=>∃v,e= .returned v/\R v w'):Goes P f args w R:=by
 have hcall:(callFunc f args).run P w= .ok (.enter f args) w:=by
  have hn':fn.name≠ "runtime.NumGoroutine":=by simpa using hname
  simp[callFunc,hf,hn',hb]
 unfold Goes
 rw[hcall]
 exact h
theorem Kt {S:Nat->Prop}{w:World}{pv:Nat->Value}{vs:List Value}(h:QX S w pv [] vs):vs=[]:=List.eq_nil_of_length_eq_zero h.1
theorem Xd {S:Nat->Prop}{w:World}{pv:Nat->Value}{a:AV}{al:List AV}{vs:List Value}(h:QX S w pv (a::al) vs):∃cs vs',AR S w (λ_=>none) (λ_=>none) pv a cs/\vs=valOf a cs::vs'/\QX S w pv al vs':=by
 match vs,h with
 |[],h=>cases h.1
 |v::vs',⟨h1,h2⟩=>
  obtain⟨cs,hc,rfl⟩:=h2 0 a v rfl rfl
  exact⟨cs,vs',hc,rfl,by simpa using h1,λi b u hb hu=>h2 (i+1) b u (by simpa using hb) (by simpa using hu)⟩
theorem Ku {S:Nat->Prop}{w:World}{pv:Nat->Value}{s:ByteArray}{al:List AV}{vs:List Value}(h:QX S w pv (.t .str s::al) vs):∃vs',vs= .string s::vs'/\QX S w pv al vs':=by
 obtain⟨cs,vs',hc,rfl,h'⟩:=Xd h
 cases hc with|t _ _ _ hc=>cases hc;exact⟨vs',rfl,h'⟩
section
variable {P:Program} {E:Env} {pv:Nat->Value} {f:FuncId} {fn:Func} {c:Code}
theorem Q6G (hf:P.funcs[f]? =some fn)(hb:fn.body=some c)(hname:(fn.name== "runtime.NumGoroutine")=false){args:List AV}{τ:Ty}{y:den τ}{v:Value}(hy:∀S w,∃cs,CR S w τ y cs/\v=valOf (.t τ y) cs)
  (h:∀S w vs,(∀b,S b->b<w.heap.size)->Qq E pv S w->QX S w pv args vs->Calls P f vs.toArray w λe w'=>e= .returned v/\Below w.heap.size w w'):Qa P E pv (.f f) args (.t τ y):=by
 intro S w vs hS hgl hargs
 refine U7 hf hb hname ((h S w vs hS hgl hargs).mono λe w' ⟨he,hbl⟩=>⟨v,he,hbl,S,λb hb=>hb,λb hb=>.inl hb,?_⟩)
 obtain⟨cs,hc,rfl⟩:=hy S w'
 exact⟨none,.plain _ _ (.t _ _ _ hc)⟩
theorem Q6H (hf:P.funcs[f]? =some fn)(hb:fn.body=some c)(hname:(fn.name== "runtime.NumGoroutine")=false){args:List AV}{te:Nat}{xs:List ByteArray}(hx:xs.length<=maxLen)
  (h:∀S w vs,(∀b,S b->b<w.heap.size)->Qq E pv S w->QX S w pv args vs->Calls P f vs.toArray w λe w'=>e= .returned (.slice (some ⟨w.heap.size,0,none⟩) xs.length xs.length)/\w'=w.alloc (.cells (xs.map Value.string).toArray te)):Qa P E pv (.f f) args (.fr te .str xs):=by
 intro S w vs hS hgl hargs
 refine U7 hf hb hname ((h S w vs hS hgl hargs).mono λe w' ⟨he,hw⟩=>⟨_,he,?_⟩)
 subst hw
 refine⟨(Below.refl _ w).alloc (Nat.le_refl _) _,S,λb hb=>hb,λb hb=>.inl hb,some w.heap.size,.fr te .str xs w.heap.size xs.length (Nat.le_refl _) (λhs=>absurd (hS _ hs) (Nat.lt_irrefl _)) ⟨(xs.map Value.string).toArray,(0,0),?_,?_,Nat.le_refl _,hx,λ_=>rfl,.inl (Nat.le_refl _),by decide,λi hi=>⟨[.string xs[i]],.str _,λj v hj=>?_⟩⟩⟩
 ·show(w.heap.push _)[w.heap.size]? =_
  simp
 ·simp[nc]
 ·cases j with
  |zero=>
   simp only[List.getElem?_cons_zero,Option.some.injEq]at hj
   subst hj
   simp[nc,hi]
  |succ j=>simp at hj
end
def Q1k (s sep:ByteArray):Option (List ByteArray):=bif Nat.ble s.size 4294967280&&Nat.ble 1 sep.size then some (Lib.splitB sep 0 (Lib.countB s sep) s)else none
theorem Q58 {P:Program}{E:Env}{pv:Nat->Value}{f:FuncId}{fn:Func}{c:Code}(hf:P.funcs[f]? =some fn)(hb:fn.body=some c)(hname:(fn.name== "runtime.NumGoroutine")=false){mx:Nat}(hmx:E.gi mx=true){te:Nat}
  (hc:∀(s sep:ByteArray) (m:Int) (w:World),s.size<4294967281->w.cell? ⟨mx,0,none⟩=some (.int .i64 m)->1<=sep.size->Calls P f #[.string s,.string sep] w λe w'=>
   e= .returned (.slice (some ⟨w.heap.size,0,none⟩) (Lib.countB s sep+1) (Lib.countB s sep+1))/\w'=w.alloc (.cells ((Lib.splitB sep 0 (Lib.countB s sep) s).map Value.string).toArray te))
  {s sep:ByteArray} {y:List ByteArray} (h:Q1k s sep=some y):Qa P E pv (.f f) (Qb [.str,.str] (s,sep,())) (.fr te .str y):=by
 unfold Q1k at h
 cases hs:Nat.ble s.size 4294967280&&Nat.ble 1 sep.size with
 |false=>rw[hs]at h;cases h
 |true=>
  rw[hs]at h
  cases h
  rw[Bool.and_eq_true]at hs
  have h1:=Nat.le_of_ble_eq_true hs.1
  have h2:=Nat.le_of_ble_eq_true hs.2
  have hl:=Lib.splitB_all sep h2 0 _ s rfl
  have hle:=Lib.countB_le sep h2 s.size s (Nat.le_refl _)
  have hm:maxLen=9223372036854775807:=by decide
  refine Q6H hf hb hname (by rw[hl,hm];omega) λS w vs hS hgl ha=>?_
  obtain⟨_,rfl,ha1⟩:=Ku ha
  obtain⟨_,rfl,ha2⟩:=Ku ha1
  obtain rfl:=Kt ha2
  obtain⟨_,m,hm⟩:=hgl.2.1 mx hmx
  rw[hl]
  exact hc s sep m w (by omega) hm h2
def Q1l (s cs:ByteArray):Option ByteArray:=match cs with
 |⟨⟨[c]⟩⟩=>bif Nat.ble s.size 9223372036854775807&&Nat.blt c.toNat 128 then some ⟨(Lib.trimB s.data.toList c).toArray⟩else none
 |_=>none
theorem Q59 {P:Program}{E:Env}{pv:Nat->Value}{f:FuncId}{fn:Func}{c:Code}(hf:P.funcs[f]? =some fn)(hb:fn.body=some c)(hname:(fn.name== "runtime.NumGoroutine")=false)
  (hc:∀(s:ByteArray) (c:UInt8),c.toNat<128->∀(w:World),s.size<=9223372036854775807->Calls P f #[.string s,.string ⟨#[c]⟩] w λe w'=>e= .returned (.string ⟨(Lib.trimB s.data.toList c).toArray⟩)/\(w'=w\/w'=w.drew))
  {s cs:ByteArray} {y:ByteArray} (h:Q1l s cs=some y):Qa P E pv (.f f) (Qb [.str,.str] (s,cs,())) (.t .str y):=by
 unfold Q1l at h
 split at h
 ·rename_i c0
  cases hs:Nat.ble s.size 9223372036854775807&&Nat.blt c0.toNat 128 with
  |false=>rw[hs]at h;cases h
  |true=>
   rw[hs]at h
   cases h
   rw[Bool.and_eq_true]at hs
   refine Q6G hf hb hname (v:=.string _) (λS w=>⟨_,.str _,rfl⟩) λS w vs hS hgl ha=>?_
   obtain⟨_,rfl,ha1⟩:=Ku ha
   obtain⟨_,rfl,ha2⟩:=Ku ha1
   obtain rfl:=Kt ha2
   refine(hc s c0 (Nat.le_of_ble_eq_true hs.2) w (Nat.le_of_ble_eq_true hs.1)).mono λe w' ⟨he,hw⟩=>⟨he,?_⟩
   rcases hw with rfl|rfl
   ·exact Below.refl _ _
   ·exact(Below.refl _ _).drew
 ·cases h
def Q1m (xs:List ByteArray):Option (List ByteArray):=bif Nat.ble (xs.length*16) 140737488355328 then some xs else none
theorem Q5a {P:Program}{E:Env}{pv:Nat->Value}{f:FuncId}{fn:Func}{c:Code}(hf:P.funcs[f]? =some fn)(hb:fn.body=some c)(hname:(fn.name== "runtime.NumGoroutine")=false){te:Nat}
  (hc:∀(b off n c:Nat) (zs:List ByteArray) (w:World),n<=zs.length->n*16<=140737488355328->(∀j,j<zs.length->w.cell? ⟨b,off+j,none⟩=some (.string (zs.getD j ByteArray.empty)))->
   Calls P f #[.slice (some ⟨b,off,none⟩) n c] w λe w'=>∃v',e= .returned v'/\w'.ownsRow w.heap.size te 1 v' n ((zs.take n).map Value.string)/\v'≠ .slice none 0 0/\Below w.heap.size w w')
  (hcn:∀(n c:Nat) (w:World),Calls P f #[.slice none n c] w λe w'=>e= .returned (.slice none 0 0)/\w'=w)
  (hcz:∀(a:Addr) (c:Nat) (w:World),Calls P f #[.slice (some a) 0 c] w λe w'=>∃v',e= .returned v'/\w'.ownsRow w.heap.size te 1 v' 0 []/\v'≠ .slice none 0 0/\Below w.heap.size w w')
  {xs:List ByteArray} {y:List ByteArray} (h:Q1m xs=some y):Qa P E pv (.f f) (Qb [.sl .str] (xs,())) (.fr te .str y):=by
 have hc0:∀(A:Option Addr) (c:Nat) (w:World),Calls P f #[.slice A 0 c] w λe w'=>∃v',e= .returned v'/\w'.ownsRow w.heap.size te 1 v' 0 []/\Below w.heap.size w w':=λA c w=>by
  cases A with
  |none=>exact(hcn 0 c w).mono λe w' ⟨he,hw⟩=>⟨_,he,⟨rfl,.inl ⟨rfl,rfl⟩⟩,hw▸Below.refl _ _⟩
  |some a=>exact(hcz a c w).mono λe w' ⟨v,he,ho,_,hb⟩=>⟨v,he,ho,hb⟩
 unfold Q1m at h
 cases hs:Nat.ble (xs.length*16) 140737488355328 with
 |false=>rw[hs]at h;cases h
 |true=>
  rw[hs]at h
  cases h
  have hs:=Nat.le_of_ble_eq_true hs
  intro S w vs hS hgl ha
  have fin:∀(v':Value) (w':World),w'.ownsRow w.heap.size te 1 v' xs.length (xs.map Value.string)->Below w.heap.size w w'->Below w.heap.size w w'/\∃S':Nat->Prop,(∀b,S b->S' b)/\(∀b,S' b->S b\/(w.heap.size<=b/\b<w'.heap.size))/\RR S' w' w.heap.size pv (.fr te .str xs) v':=λv' w' ho hbl=>by
   refine⟨hbl,S,λb hb=>hb,λb hb=>.inl hb,?_⟩
   obtain⟨h1,⟨rfl,h2⟩|⟨g,cap,cur,rfl,h3,h4,h5,h6,h7,h8⟩⟩:=ho
   ·obtain rfl:xs=[]:=List.eq_nil_of_length_eq_zero h2
    exact⟨none,.frNil te .str (by decide)⟩
   ·refine⟨some g,.fr te .str xs g cap h3 (λhs=>absurd (hS _ hs) (by omega)) ⟨cur,(0,0),h4,h7,h5,h6,λ_=>rfl,.inl (Nat.le_refl _),by decide,λi hi=>⟨[.string xs[i]],.str _,λj v hj=>?_⟩⟩⟩
    cases j with
    |zero=>
     simp only[List.getElem?_cons_zero,Option.some.injEq]at hj
     subst hj
     have h9:=congrArg (·[i]?) h8
     simp only[Nat.mul_one,List.getElem?_take,if_pos hi,List.getElem?_map,List.getElem?_eq_getElem hi,Option.map_some]at h9
     simpa[nc]using h9
    |succ j=>simp at hj
  obtain⟨cs,_,hcr,rfl,ha1⟩:=Xd ha
  obtain rfl:=Kt ha1
  cases hcr with
  |t _ _ _ hcr=>
   cases hcr with
   |sl e xs A c cv hle hm h1 h2=>
    match xs,A,hle,h1,h2,hs,fin with
    |[],A,_,_,_,_,fin=>exact U7 hf hb hname ((hc0 A c w).mono λe w' ⟨v',he,ho,hbl⟩=>⟨v',he,fin _ _ ho hbl⟩)
    |x::l,A,hle,h1,h2,hs,fin=>
     obtain⟨g,o,rfl,hg,_⟩:=h2 0 (Nat.succ_pos _)
     refine U7 hf hb hname ((hc g o (x::l).length c (x::l) w (Nat.le_refl _) hs λj hj=>?_).mono λe w' ⟨v',he,ho,_,hbl⟩=>⟨v',he,fin _ _ (by rw[List.take_length]at ho;exact ho) hbl⟩)
     obtain⟨g',o',e',_,hcell⟩:=h2 j hj
     cases e'
     have hcv:=h1 j hj
     have hq:∀z q,CR S w .str z q->q[0]? =some (.string z):=λz q hq=>by cases hq;rfl
     have:=hcell 0 _ (hq _ _ hcv)
     rw[List.getD_eq_getElem?_getD,List.getElem?_eq_getElem hj,Option.getD_some]
     simpa[nc]using this
end Go.Gx
end
section
/- A set of numbers in a map of the call's own (map[int]bool),for a walk;what a callee's summary says to the walk. -/
namespace Go.Gx
open Go.RowKit Go.Proofs Go.Maps
theorem YP {P:Program}{f:FuncId}{fn:Func}{c:Code}(hf:P.funcs[f]? =some fn)(hb:fn.body=some c)(hname:(fn.name== "runtime.NumGoroutine")=false){args:Array Value}{w:World}{R:Value->World->Prop}
  (h:Goes P f args w R):Calls P f args w λe w'=>∃v,e= .returned v/\R v w':=by
 have hcall:(callFunc f args).run P w= .ok (.enter f args) w:=by
  have hn':fn.name≠ "runtime.NumGoroutine":=by simpa using hname
  simp[callFunc,hf,hn',hb]
 unfold Goes at h
 rw[hcall]at h
 exact h
def YC (P:Program)(k e:TypeId)(w:World)(b n:Nat)(L:List Int):Prop:=
 ∃D:DataW Unit,w.ownsMap P k (plainElem P e) b n D/\∀j:Int,D.atKey (.int .i64 j) (.lit (.bool false))= .lit (.bool (L.contains j))
theorem YC.made (P:Program)(k e:TypeId)(w:World):YC P k e (w.alloc (.map #[] 0)) w.heap.size 0 []:=
 ⟨.map [],World.ownsMap_made _ _ _ _,λj=>rfl⟩
theorem YC.keep {P:Program}{k e:TypeId}{w w':World}{b n:Nat}{L:List Int}(h:YC P k e w b n L)(hb:w'.heap[b]? =w.heap[b]?):YC P k e w' b n L:=by
 obtain⟨D,⟨es,clock,h1,h2,h3,h4⟩,hL⟩:=h
 exact⟨D,⟨es,clock,hb.trans h1,h2,h3,h4⟩,hL⟩
theorem YC.lt {P:Program}{k e:TypeId}{w:World}{b n:Nat}{L:List Int}(h:YC P k e w b n L):b<w.heap.size:=by
 obtain⟨D,h,_⟩:=h
 exact h.lt
theorem Q3r {P:Program}(w:World){ops:Array Oper}{rest:List Oper}{o:Oper}{a:Act}{Q:Exit->Act->World->Prop}
  (hg:o.guard=none) (m x v:Operand) (t:TypeId) (hop:o.op=Op.mapUpdate t m x v) (k e:TypeId) (hk:P.underlying k=some (.int .i64)) (he:P.underlying e=some .bool) (ht:P.underlying t=some (.map k e)) (b n:Nat) (L:List Int)
  (hm:a.eval m= .map (some b)) (hown:YC P k e w b n L) (hn:n<maxLen) (i:Int) (hi:(Lit.int .i64 i).wf=true) (hx:a.eval x= .int .i64 i) (hv:a.eval v= .bool true)
  (hK:∀w',YC P k e w' b (n+1) (i::L)->w.grownBy w' (some b)->wpList P ops Q rest (a.put o.dst undef) w'):wpList P ops Q (o::rest) a w:=by
 obtain⟨D,h1,h2⟩:=hown
 refine wpList_mapUpdate_own w hg m x v t hop k e (int_keyed hk) ht _ b n D hm h1 hn _ _ (.int .i64 i) hx hv (keyOf_int_mk hk hi) _ [] (plainElem_bool he true) λw' r1 r2=>hK w' ⟨_,r1,λj=>?_⟩ r2
 by_cases hj:j=i
 ·subst hj
  rw[atKey_put_same (by obtain⟨_,_,_,_,_,h⟩:=h1;exact⟨_,h⟩) (by trivial)]
  simp
 ·rw[atKey_put_other (by intro h;cases h;exact hj rfl),h2]
  simp[hj]
theorem GH {P:Program}(w:World){ops:Array Oper}{rest:List Oper}{o:Oper}{a:Act}{Q:Exit->Act->World->Prop}
  (hg:o.guard=none) (m x:Operand) (t:TypeId) (hop:o.op=Op.lookup t m x false) (k e:TypeId) (hk:P.underlying k=some (.int .i64)) (he:P.underlying e=some .bool) (ht:P.underlying t=some (.map k e)) (hz:(zeroValue e).run P w= .ok (.bool false) w) (b n:Nat) (L:List Int)
  (hm:a.eval m= .map (some b)) (hown:YC P k e w b n L) (i:Int) (hi:(Lit.int .i64 i).wf=true) (hx:a.eval x= .int .i64 i) (c:Bool) (hc:L.contains i=c)
  (hK:wpList P ops Q rest (a.put o.dst (.bool c)) w):wpList P ops Q (o::rest) a w:=by
 obtain⟨D,h1,h2⟩:=hown
 refine wpList_plain hg λK' hK'=>?_
 obtain⟨v,ps,hrun,hat⟩:=h1.lookup (int_keyed hk) ht hz (plainElem_bool he false) (keyOf_int_mk hk hi)
 have hv:v= .bool c:=by
  rw[h2,hc]at hat
  unfold plainElem at hat
  rw[he]at hat
  cases v<;>simp at hat
  rw[hat.1]
 subst hv
 unfold Oper.wp
 simp[execOp,hop,hm,hx,hrun,Result.andThen]
 exact hK' _ _ hK
def uW (g:ByteArray->Option Int):List ByteArray->List Int->Option (List Int)
 |[],l=>some l
 |s::ss,l=>bif Nat.ble l.length 1000000 then(g s).bind λi=>bif (Lit.int .i64 i).wf then uW g ss (i::l)else none else none
def uT (t:ByteArray->Option (List ByteArray×Bool))(g:ByteArray->Option Int):List ByteArray->List Int->Option (List Int)
 |[],l=>some l
 |s::ss,l=>(t s).bind λp=>(bif p.2 then uW g p.1 l else some l).bind λl'=>uT t g ss l'
def uO (i:Int):List Abbr->List Int->List ByteArray
 |[],_=>[]
 |a::q,l=>bif l.contains i then uO (i+1) q l else a.word::uO (i+1) q l
theorem Q7u {g:ByteArray->Option Int}{s:ByteArray}{ss:List ByteArray}{l m:List Int}(h:uW g (s::ss) l=some m):l.length<=1000000/\∃i,g s=some i/\(Lit.int .i64 i).wf=true/\uW g ss (i::l)=some m:=by
 unfold uW at h
 cases h1:Nat.ble l.length 1000000 with
 |false=>rw[h1]at h;cases h
 |true=>
  rw[h1]at h
  cases h2:g s with
  |none=>rw[h2]at h;cases h
  |some i=>
   rw[h2]at h
   cases h3:(Lit.int .i64 i).wf with
   |false=>simp[h3]at h
   |true=>exact⟨Nat.le_of_ble_eq_true h1,i,rfl,h3,by simpa[h3]using h⟩
theorem Q7v {t:ByteArray->Option (List ByteArray×Bool)}{g:ByteArray->Option Int}{s:ByteArray}{ss:List ByteArray}{l m:List Int}(h:uT t g (s::ss) l=some m) :
  ∃ws b l',t s=some (ws,b)/\(bif b then uW g ws l else some l)=some l'/\uT t g ss l'=some m:=by
 unfold uT at h
 cases h2:t s with
 |none=>rw[h2]at h;cases h
 |some p=>
  rw[h2]at h
  obtain⟨ws,b⟩:=p
  cases h3:(bif b then uW g ws l else some l)with
  |none=>simp[h3]at h
  |some l'=>exact⟨ws,b,l',rfl,h3,by simpa[h3]using h⟩
def But (b:Nat)(w w':World):Prop:=w.heap.size<=w'.heap.size/\∀q,q<w.heap.size->q≠b->w'.heap[q]? =w.heap[q]?
theorem But.refl (b:Nat)(w:World):But b w w:=⟨Nat.le_refl _,λ_ _ _=>rfl⟩
theorem But.below {b:Nat}{w w1 w2:World}(h:But b w w1)(k:Below w1.heap.size w1 w2):But b w w2:=⟨Nat.le_trans h.1 k.size,λq hq hb=>(k.block q (Nat.lt_of_lt_of_le hq h.1)).trans (h.2 q hq hb)⟩
theorem But.grown {b:Nat}{w w1 w2:World}(h:But b w w1)(k:w1.grownBy w2 (some b)):But b w w2:=⟨Nat.le_trans h.1 k.size,λq hq hb=>(k.block q (Nat.lt_of_lt_of_le hq h.1) (by intro e;cases e;exact hb rfl)).trans (h.2 q hq hb)⟩
theorem But.cell {b:Nat}{w w1:World}(h:But b w w1){q:Nat}(hq:q<w.heap.size)(hb:q≠b)(o:Nat):w1.cell? ⟨q,o,none⟩=w.cell? ⟨q,o,none⟩:=World.cell?_of_block (w:=w) (h.2 q hq hb)
end Go.Gx
end
section
namespace Go.Proofs.YtlnhmbnbloakmaaDoor
open Go.Gx Go.RowKit Go.Maps
set_option maxHeartbeats 4000000
theorem JD (w:World)(o:Obj):(w.alloc o).heap.size=w.heap.size+1:=by
 show(w.heap.push o).size=_
 exact Array.size_push _
theorem cell_two_new (w:World)(o:Obj)(x:Value)(t:TypeId):∀j u,[x][j]? =some u->((w.alloc o).alloc (.cells #[x] t)).cell? ((⟨w.heap.size+1,0,none⟩:Addr).add j)=some u:=by
 have h:=cell_one_new (w.alloc o) x t
 rwa [JD]at h
theorem Q8w (w:World)(vL vT:Value)(h23:Hid (Calls Tryd.prog 23 #[vL,vT] w λe w'=>e= .returned (.bool false)/\Below w.heap.size w w')) :
  Calls Tryd.prog 9 #[vL,vT] w λe w'=>e= .returned (.tuple #[.slice none 0 0,.bool false])/\Below w.heap.size w w':=by
 go_enter Tryd.func9,Tryd.ntmps9
 go_wp2_with (go_at_call 23;refine h23.out.mono ?_;rintro e w1 ⟨rfl,hb1⟩)
 go_returns
 exact⟨rfl,hb1⟩
theorem Q8a (w:World)(xs:List Abbr)(ts:List ByteArray)(A B:Option Addr)(cA cB:Nat)(t:ByteArray->Option (List ByteArray×Bool))(g:ByteArray->Option Int)(Lf:List Int)
  (hL:Hid (∀i (h:i<xs.length),∃b o,A=some ⟨b,o,none⟩/\b<w.heap.size/\w.cell? ⟨b,o+i*2,none⟩=some (.string xs[i].word)/\w.cell? ⟨b,o+i*2+1,none⟩=some (.string xs[i].short)))
  (hT:Hid (∀i (h:i<ts.length),∃b o,B=some ⟨b,o,none⟩/\b<w.heap.size/\w.cell? ⟨b,o+i,none⟩=some (.string ts[i])))
  (hxs:xs.length<=1000000) (hts:ts.length<=9223372036854775807)
  (h23:Hid (Calls Tryd.prog 23 #[.slice A xs.length cA,.slice B ts.length cB] w λe w'=>e= .returned (.bool true)/\Below w.heap.size w w'))
  (h24:Hid (∀s ws b,t s=some (ws,b)->∀wr,Below w.heap.size w wr->Calls Tryd.prog 24 #[.string s] wr λe w'=>∃C c,e= .returned (.tuple #[.slice C ws.length c,.bool b])/\Below wr.heap.size wr w'/\ws.length<=9223372036854775807/\
   Hid (∀i (h:i<ws.length),∃q,C=some ⟨q,0,none⟩/\wr.heap.size<=q/\q<w'.heap.size/\w'.cell? ⟨q,i,none⟩=some (.string ws[i]))))
  (h25:Hid (∀s i,g s=some i->∀wr,Below w.heap.size w wr->Calls Tryd.prog 25 #[.slice A xs.length cA,.string s] wr λe w'=>e= .returned (.int .i64 i)/\Below wr.heap.size wr w'))
  (hu:Hid (uT t g ts []=some Lf)) :
  Calls Tryd.prog 9 #[.slice A xs.length cA,.slice B ts.length cB] w λe w'=>∃v,e= .returned (.tuple #[v,.bool true])/\Below w.heap.size w w'/\w'.ownsRow w.heap.size 9 1 v (uO 0 xs Lf).length ((uO 0 xs Lf).map Value.string):=by
 have hmm:=@run_makeMap Tryd.prog
 go_enter Tryd.func9,Tryd.ntmps9
 go_wp2_with (first|(go_at_call 23;refine h23.out.mono ?_;rintro e w1 ⟨rfl,hb1⟩)|go_in)
 have hw1:w.heap.size<=w1.heap.size:=hb1.size
 go_loopg [23] ts.length (λn s23 wr=>∃j L,n=ts.length-j/\j<=ts.length/\s23= .int .i64 (j:Nat)/\YC Tryd.prog 3 4 wr w1.heap.size L.length L/\Hid (uT t g (ts.drop j) L=some Lf)/\Below w.heap.size w wr)
 case atStart=>exact⟨0,[],rfl,Nat.zero_le _,rfl,YC.made _ _ _ _,hu,hb1.alloc hw1 _⟩
 case round=>
  obtain⟨j,L,rfl,hj,rfl,hm,hrest,hbr⟩:=hrel
  by_cases hjl:j<ts.length
  ·obtain⟨bB,oB,rfl,hbB,hcB⟩:=hT.out j hjl
   have hcBr:wr.cell? ⟨bB,oB+j,none⟩=some (.string ts[j]):=(hbr.cell (by exact hbB)).trans hcB
   have hr0:=hrest.out
   rw[List.drop_eq_getElem_cons hjl]at hr0
   obtain⟨ws,bb,L2,ht1,hw2,hr2⟩:=Q7v hr0
   replace hr2:Hid _:=hr2
   replace hw2:Hid _:=hw2
   have hmlt:=hm.lt
   clear hr0 hcB hrest
   go_wp2_with (first|(go_at_call 24;refine(h24.out _ _ _ ht1 _ hbr).mono ?_;rintro e w2 ⟨C,c,rfl,hb2,hwl,hcw⟩)|go_in)
   have hkeep:YC Tryd.prog 3 4 w2 w1.heap.size L.length L:=hm.keep (hb2.block _ hmlt)
   have hbw2:Below w.heap.size w w2:=hbr.trans (hb2.mono hbr.size)
   have hmb:Hid (wr.heap.size<=w2.heap.size):=hb2.size
   go_loopg [34] ws.length (λn s34 wy=>∃k L',n=ws.length-k/\k<=ws.length/\s34= .int .i64 (k:Nat)/\YC Tryd.prog 3 4 wy w1.heap.size L'.length L'/\Hid ((bif bb then uW g (ws.drop k) L' else some L')=some L2)/\Below w.heap.size w wy/\Hid (But w1.heap.size w2 wy))
   case atStart=>exact⟨0,L,rfl,Nat.zero_le _,rfl,hkeep,hw2,hbw2,But.refl _ _⟩
   case round=>
    obtain⟨k,L',rfl,hk,rfl,hmy,hwy,hby,hbut⟩:=hrel
    by_cases hkl:k<ws.length
    ·obtain⟨q,rfl,hq1,hq2,hq3⟩:=hcw.out k hkl
     have hqy:‹World›.cell? ⟨q,k,none⟩=some (.string ws[k]):=(hbut.out.cell hq2 (by omega) k).trans hq3
     cases bb with
     |false=>
      go_wp2
      go_roundg (ws.length-(k+1))
      case measure=>omega
      case rel=>exact⟨k+1,L',rfl,by omega,by go_num,hmy,hwy,hby,hbut⟩
     |true=>
      have hwz:uW g (ws.drop k) L'=some L2:=hwy.out
      rw[List.drop_eq_getElem_cons hkl]at hwz
      obtain⟨hll,i,hgi,hiw,hwn⟩:=Q7u hwz
      replace hwn:Hid _:=hwn
      have hmylt:=hmy.lt
      clear hwz hwy hq3
      go_wp2_with (first
       |(go_at_call 25;refine(h25.out _ _ hgi _ hby).mono ?_;rintro e w3 ⟨rfl,hb3⟩)
       |(at_mapUpdate;refine Q3r _ rfl _ _ _ 48 rfl 3 4 Tryd.underlying3 Tryd.underlying4 Tryd.underlying48 w1.heap.size L'.length L' rfl (hmy.keep (hb3.block _ hmylt)) (by unfold maxLen;omega) i hiw rfl rfl ?_;intro w4 hm4 hg4)
       |go_in)
      go_roundg (ws.length-(k+1))
      case measure=>omega
      case rel=>exact⟨k+1,i::L',rfl,by omega,by go_num,hm4,hwn,(hby.trans (hb3.mono hby.size)).grown hg4 (Nat.le_trans hby.size hb3.size) (λq hq=>by cases hq;exact hw1),(hbut.out.below hb3).grown hg4⟩
    ·have:k=ws.length:=by omega
     subst this
     have hL2:L'=L2:=by
      have:=hwy.out
      rw[List.drop_length]at this
      cases bb<;>simpa[uW]using this
     subst hL2
     clear hwy
     go_wp2
     go_roundg (ts.length-(j+1))
     case measure=>omega
     case rel=>exact⟨j+1,L',rfl,by omega,by go_num,hmy,hr2,hby⟩
  ·have:j=ts.length:=by omega
   subst this
   have hLf:L=Lf:=by
    have:=hrest.out
    rw[List.drop_length]at this
    simpa[uT]using this
   subst hLf
   have hmlt:=hm.lt
   clear hrest hu
   go_wp2_with (first|go_in)
   have hwr:w.heap.size<=wr.heap.size:=hbr.size
   have h31:Tryd.prog.info? 9=some Tryd.t9:=by kernel_rfl
   have hz0:Tryd.t9.zero=some (.string ByteArray.empty):=by kernel_rfl
   have hz1:Tryd.t9.size=1:=by kernel_rfl
   have hz2:Tryd.t9.bytes=16:=by kernel_rfl
   go_loopg [13,48] xs.length (λn s13 s48 wy=>∃(k:Nat) (out:List ByteArray),n=xs.length-k/\k<=xs.length/\s48= .int .i64 (k:Nat)/\YC Tryd.prog 3 4 wy w1.heap.size L.length L/\wy.ownsRow (w1.heap.size+1) 9 1 s13 out.length (out.map Value.string)/\out.length<=k/\Hid (out++uO k (xs.drop k) L=uO 0 xs L)/\Below w.heap.size w wy)
   case atStart=>exact⟨0,[],rfl,Nat.zero_le _,rfl,hm.keep (Below.heap_alloc _ _ _ hmlt),World.ownsRow_made wr #[] 0 (by omega) (by decide) rfl,Nat.le_refl _,rfl,hbr.alloc hwr _⟩
   case round=>
    obtain⟨k,out,rfl,hk,rfl,hmy,hown,hol,hout,hby⟩:=hrel
    by_cases hkl:k<xs.length
    ·obtain⟨b,o,rfl,hbl,hc1,hc2⟩:=hL.out k hkl
     have hd1:=(hby.cell (p:=⟨b,o+k*2,none⟩) hbl).trans hc1
     have hd2:=(hby.cell (p:=⟨b,o+k*2+1,none⟩) hbl).trans hc2
     have hkw:(Lit.int .i64 (k:Int)).wf=true:=by
      have e1:IntKind.i64.min= -9223372036854775808:=by decide
      have e2:IntKind.i64.max=9223372036854775807:=by decide
      simp only[Lit.wf,e1,e2,Bool.and_eq_true,decide_eq_true_eq]
      omega
     obtain⟨wd,hwd⟩:∃wd,wd=xs[k].word:=⟨_,rfl⟩
     obtain⟨sh,hsh⟩:∃sh,sh=xs[k].short:=⟨_,rfl⟩
     rw[<-hwd]at hd1
     rw[<-hsh]at hd2
     have hzb:∀w,(zeroValue 4).run Tryd.prog w= .ok (.bool false) w:=λw=>by kernel_rfl
     have hmylt:=hmy.lt
     clear hc1 hc2
     cases hcon:L.contains (k:Int)with
     |true=>
      go_wp2_with (first|(at_lookup;refine GH _ rfl _ _ 48 rfl 3 4 Tryd.underlying3 Tryd.underlying4 Tryd.underlying48 (hzb _) w1.heap.size L.length L rfl (hmy.keep (Below.heap_alloc _ _ _ hmylt)) (k:Int) hkw rfl _ hcon ?_)|go_in)
      go_roundg (xs.length-(k+1))
      case measure=>omega
      case rel=>exact⟨k+1,out,rfl,by omega,by go_num,hmy.keep (Below.heap_alloc _ _ _ hmylt),hown.alloc _,by omega,(by
       have hd:out++uO k (xs[k]::xs.drop (k+1)) L=uO 0 xs L:=by rw[<-List.drop_eq_getElem_cons hkl];exact hout
       have he:uO k (xs[k]::xs.drop (k+1)) L=uO (k+1) (xs.drop (k+1)) L:=by
        show(bif L.contains (k:Int)then _ else _)=_
        rw[hcon]
        rfl
       rw[he]at hd
       exact hd),hby.alloc hby.size _⟩
     |false=>
      have hwy0:w.heap.size<= ‹World›.heap.size:=hby.size
      go_wp2_with (first
       |(at_lookup;refine GH _ rfl _ _ 48 rfl 3 4 Tryd.underlying3 Tryd.underlying4 Tryd.underlying48 (hzb _) w1.heap.size L.length L rfl (hmy.keep (Below.heap_alloc _ _ _ hmylt)) (k:Int) hkw rfl _ hcon ?_)
       |(at_builtin;refine wpList_append_own _ rfl _ _ 23 rfl (w1.heap.size+1) 9 Tryd.t9 (.string ByteArray.empty) 1 16 Tryd.underlying23 h31 hz0 hz1 hz2 rfl (by decide) _ _ _ rfl ((hown.alloc _).alloc _) ⟨_,0,none⟩ 1 1 [.string xs[k].word] rfl rfl (cell_two_new _ _ _ _) (λx hx=>by simp at hx;subst hx;rfl) (by unfold maxLen;omega) (by omega) (by simp;omega) ?_;intro v' w3 hown' hgrow3 hnil3)
       |go_in)
      go_roundg (xs.length-(k+1))
      case measure=>omega
      case rel=>
       refine⟨k+1,out++[xs[k].word],rfl,by omega,by go_num,?_,?_,by simp;omega,?_,?_⟩
       ·refine((hmy.keep (w':=World.alloc _ _) (Below.heap_alloc _ _ _ hmylt)).keep (w':=World.alloc _ _) (Below.heap_alloc _ _ _ (by rw[JD];omega))).keep (hgrow3.block _ ?_ ?_)
        ·show w1.heap.size<(World.alloc (World.alloc _ _) _).heap.size
         rw[JD,JD]
         omega
        ·intro e
         obtain⟨h1,_⟩:=hown.lt _ e.symm
         omega
       ·simpa using hown'
       ·have hd:out++uO k (xs[k]::xs.drop (k+1)) L=uO 0 xs L:=by rw[<-List.drop_eq_getElem_cons hkl];exact hout
        have he:uO k (xs[k]::xs.drop (k+1)) L=xs[k].word::uO (k+1) (xs.drop (k+1)) L:=by
         show(bif L.contains (k:Int)then _ else _)=_
         rw[hcon]
         rfl
        rw[he]at hd
        show out++[xs[k].word]++_=_
        rw[List.append_assoc]
        exact hd
       ·exact((hby.alloc hwy0 _).alloc (by rw[JD];omega) _).grown hgrow3 (by rw[JD,JD];omega) (λq hq=>by obtain⟨h1,_⟩:=hown.lt _ hq;omega)
    ·have:k=xs.length:=by omega
     subst this
     have hl:=hout.out
     rw[List.drop_length]at hl
     have hl2:out=uO 0 xs L:=by simpa[uO]using hl
     go_wp2
     go_returns
     rw[<-hl2]
     refine⟨_,rfl,hby,hown.1,hown.2.imp_right ?_⟩
     rintro⟨g',cap,cur,e1,e2,e3⟩
     exact⟨g',cap,cur,e1,by omega,e3⟩
theorem Q7w {S:Nat->Prop}{w:World}{n0:Nat}{pv:Nat->Value}{te:Nat}{ws:List ByteArray}{b:Bool}{v:Value}(h:RR S w n0 pv (.tup [.fr te .str ws,.t .bool b]) v) :
  ∃C c,v= .tuple #[.slice C ws.length c,.bool b]/\ws.length<=9223372036854775807/\Hid (∀i (h:i<ws.length),∃q,C=some ⟨q,0,none⟩/\n0<=q/\q<w.heap.size/\w.cell? ⟨q,i,none⟩=some (.string ws[i])):=by
 obtain⟨vs,gs,rfl,hl1,hl2,h1,_⟩:=h
 match vs,gs,hl1,hl2,h1 with
 |[v0,v1],[g0,g1],_,_,h1=>
  have r1:=h1 1 _ _ _ rfl rfl rfl
  have e1:v1= .bool b:=by
   cases r1 with
   |plain a cs ha=>
    cases ha with
    |t _ _ _ hc=>cases hc;rfl
  subst e1
  have r0:=h1 0 _ _ _ rfl rfl rfl
  cases r0 with
  |plain a cs ha=>cases ha
  |fr e τ xs g cap hg hS hrow=>
   obtain⟨cur,fr,q1,q2,q3,q4,q5,q6,q7,q8⟩:=hrow
   refine⟨_,_,rfl,Nat.le_trans q3 q4,λi hi=>⟨g,rfl,hg,(Array.getElem?_eq_some_iff.1 q1).1,?_⟩⟩
   obtain⟨cs,c1,c2⟩:=q8 i hi
   cases c1
   have:=c2 0 _ rfl
   simpa[World.cell?,q1,nc]using this
  |frNil=>exact⟨none,0,rfl,Nat.zero_le _,λi hi=>absurd hi (Nat.not_lt_zero _)⟩
theorem Q4c {S:Nat->Prop}{w:World}{pv:Nat->Value}{τ σ:Ty}{x:den τ}{y:den σ}{cs ds:List Value}(h1:CR S w τ x cs)(h2:CR S w σ y ds):QX S w pv [.t τ x,.t σ y] [Go.Gx.valOf (.t τ x) cs,Go.Gx.valOf (.t σ y) ds]:=by
 refine⟨rfl,λi a v ha hv=>?_⟩
 match i,ha,hv with
 |0,ha,hv=>cases ha;cases hv;exact⟨cs,.t _ _ _ h1,rfl⟩
 |1,ha,hv=>cases ha;cases hv;exact⟨ds,.t _ _ _ h2,rfl⟩
 |(n+2),ha,hv=>simp at ha
theorem Q7x {S:Nat->Prop}{w:World}{pv:Nat->Value}{τ:Ty}{x:den τ}{cs:List Value}(h1:CR S w τ x cs):QX S w pv [.t τ x] [Go.Gx.valOf (.t τ x) cs]:=by
 refine⟨rfl,λi a v ha hv=>?_⟩
 match i,ha,hv with
 |0,ha,hv=>cases ha;cases hv;exact⟨cs,.t _ _ _ h1,rfl⟩
 |(n+1),ha,hv=>simp at ha
def Q7y (r:Bool)(a0:List Abbr)(a1:List ByteArray)(t:ByteArray->Option (List ByteArray×Bool))(g:ByteArray->Option Int):Option (List ByteArray×Bool):=
 bif r then(bif Nat.ble a0.length 1000000 then((uT t g a1 []).bind λl=>some (uO 0 a0 l,true))else none)else some ([],false)
theorem Q6I {E:Env}{pv:Nat->Value}{a0:List Abbr}{a1:List ByteArray}{r:Bool}{t:ByteArray->Option (List ByteArray×Bool)}{g:ByteArray->Option Int}{y:List ByteArray×Bool}
  (h1:Qa Tryd.prog E pv (.f 23) (Qb [(.sl .abbr),(.sl .str)] (a0,a1,())) (.t .bool r))
  (h2:∀s p,t s=some p->Qa Tryd.prog E pv (.f 24) (Qb [.str] (s,())) (.tup [.fr 9 .str p.1,.t .bool p.2]))
  (h3:∀s i,g s=some i->Qa Tryd.prog E pv (.f 25) (Qb [(.sl .abbr),.str] (a0,s,())) (.t (.int .i64) i))
  (h:Q7y r a0 a1 t g=some y):Qa Tryd.prog E pv (.f 9) (Qb [(.sl .abbr),(.sl .str)] (a0,a1,())) (.tup [.fr 9 .str y.1,.t .bool y.2]):=by
 intro S w vs hS hgl ha
 obtain⟨cs,_,hc1,rfl,ha1⟩:=Xd ha
 obtain⟨ds,_,hc2,rfl,ha2⟩:=Xd ha1
 obtain rfl:=Kt ha2
 have k1:CR S w (.sl .abbr) a0 cs:=by cases hc1;assumption
 have k2:CR S w (.sl .str) a1 ds:=by cases hc2;assumption
 clear ha ha1 ha2 hc1 hc2
 have hgw:∀{wr:World},Below w.heap.size w wr->Qq E pv S wr:=λhb=>hgl.mono (λb h=>h) λb hb'=>hb.block b (hS b hb')
 have hSw:∀{wr:World},Below w.heap.size w wr->∀b,S b->b<wr.heap.size:=λhb b hb'=>Nat.lt_of_lt_of_le (hS b hb') hb.size
 have c1:∀{wr:World},Below w.heap.size w wr->CR S wr (.sl .abbr) a0 cs:=λhb=>k1.mono (λb h=>h) λb hb'=>hb.block b (hS b hb')
 have h23:Calls Tryd.prog 23 #[Go.Gx.valOf (.t (.sl .abbr) a0) cs,Go.Gx.valOf (.t (.sl .str) a1) ds] w λe w'=>e= .returned (.bool r)/\Below w.heap.size w w':=by
  refine(YP Tryd.func23 rfl (by kernel_rfl) (h1 S w _ hS hgl (Q4c k1 k2))).mono ?_
  rintro e w' ⟨v,rfl,hb,S',_,_,q,hr⟩
  cases hr with
  |plain a cs ha=>
   cases ha with
   |t _ _ _ hc=>cases hc;exact⟨rfl,hb⟩
 have fin:∀(v':Value) (w':World),w'.ownsRow w.heap.size 9 1 v' y.1.length (y.1.map Value.string)->Below w.heap.size w w'->Below w.heap.size w w'/\∃S':Nat->Prop,(∀b,S b->S' b)/\(∀b,S' b->S b\/(w.heap.size<=b/\b<w'.heap.size))/\RR S' w' w.heap.size pv (.tup [.fr 9 .str y.1,.t .bool y.2]) (.tuple #[v',.bool y.2]):=λv' w' ho hbl=>by
  refine⟨hbl,S,λb hb=>hb,λb hb=>.inl hb,?_⟩
  have:∃q,R1 S w' w.heap.size pv (.fr 9 .str y.1) v' q:=by
   obtain⟨h1,⟨rfl,h2⟩|⟨g,cap,cur,rfl,h3,h4,h5,h6,h7,h8⟩⟩:=ho
   ·obtain h0:y.1=[]:=List.eq_nil_of_length_eq_zero h2
    rw[h0]
    exact⟨none,.frNil 9 .str (by decide)⟩
   ·refine⟨some g,.fr 9 .str y.1 g cap h3 (λhs=>absurd (hS _ hs) (by omega)) ⟨cur,(0,0),h4,h7,h5,h6,λ_=>rfl,.inl (Nat.le_refl _),by decide,λi hi=>⟨[.string y.1[i]],.str _,λj v hj=>?_⟩⟩⟩
    cases j with
    |zero=>
     simp only[List.getElem?_cons_zero,Option.some.injEq]at hj
     subst hj
     have h9:=congrArg (·[i]?) h8
     simp only[Nat.mul_one,List.getElem?_take,if_pos hi,List.getElem?_map,List.getElem?_eq_getElem hi,Option.map_some]at h9
     simpa[nc]using h9
    |succ j=>simp at hj
  obtain⟨q,hq⟩:=this
  refine⟨[v',.bool y.2],[q,none],rfl,rfl,rfl,λi r v g hr hv hg=>?_,λi j g hij hi hj=>?_⟩
  ·match i,hr,hv,hg with
   |0,hr,hv,hg=>cases hr;cases hv;cases hg;exact hq
   |1,hr,hv,hg=>cases hr;cases hv;cases hg;exact .plain (.t .bool y.2) [.bool y.2] (.t _ _ _ (.bool _))
   |(n+2),hr,hv,hg=>simp at hr
  ·match i,j,hi,hj with
   |0,0,hi,hj=>exact hij rfl
   |1,j,hi,hj=>simp at hi
   |0,1,hi,hj=>simp at hj
   |(n+2),j,hi,hj=>simp at hi
   |0,(n+2),hi,hj=>simp at hj
 unfold Q7y at h
 cases r with
 |false=>
  cases h
  exact U7 Tryd.func9 rfl (by kernel_rfl) ((Q8w w _ _ h23).mono λe w' ⟨he,hb⟩=>⟨_,he,fin _ _ ⟨rfl,.inl ⟨rfl,rfl⟩⟩ hb⟩)
 |true=>
  cases hn:Nat.ble a0.length 1000000 with
  |false=>rw[hn]at h;cases h
  |true=>
   rw[hn]at h
   cases hl:uT t g a1 []with
   |none=>rw[hl]at h;cases h
   |some Lf=>
    rw[hl]at h
    cases h
    cases k1 with
    |sl e xs A cA cv hle hm g1 g2=>
     cases k2 with
     |sl e ys B cB dv hle2 hm2 g3 g4=>
      refine U7 Tryd.func9 rfl (by kernel_rfl) ((Q8a w a0 a1 A B cA cB t g Lf (λi hi=>?_) (λi hi=>?_) (Nat.le_of_ble_eq_true hn) (Nat.le_trans hle2 hm2) h23 (λs ws b hs wr hb=>?_) (λs i hs wr hb=>?_) hl).mono λe w' ⟨v,he,hb,ho⟩=>⟨_,he,fin _ _ ho hb⟩)
      ·obtain⟨b,o,rfl,hb,hc⟩:=g2 i hi
       have hcv:cv i=[.string a0[i].word,.string a0[i].short]:=Q3K (g1 i hi)
       rw[hcv]at hc
       exact⟨b,o,rfl,hS b hb,hc 0 _ rfl,hc 1 _ rfl⟩
      ·obtain⟨b,o,rfl,hb,hc⟩:=g4 i hi
       have hcv:dv i=[.string a1[i]]:=JJ (g3 i hi)
       rw[hcv]at hc
       have:=hc 0 _ rfl
       exact⟨b,o,rfl,hS b hb,by simpa[nc]using this⟩
      ·refine(YP Tryd.func24 rfl (by kernel_rfl) (h2 s _ hs S wr _ (hSw hb) (hgw hb) (Q7x (.str s)))).mono ?_
       rintro e w' ⟨v,rfl,hb',S',_,_,hr⟩
       obtain⟨C,c,rfl,hl,hh⟩:=Q7w hr
       exact⟨C,c,rfl,hb',hl,hh⟩
      ·refine(YP Tryd.func25 rfl (by kernel_rfl) (h3 s _ hs S wr _ (hSw hb) (hgw hb) (Q4c (c1 hb) (.str s)))).mono ?_
       rintro e w' ⟨v,rfl,hb',S',_,_,q,hr⟩
       cases hr with
       |plain a cs ha=>
        cases ha with
        |t _ _ _ hc=>cases hc;exact⟨rfl,hb'⟩
end Go.Proofs.YtlnhmbnbloakmaaDoor
end
section
namespace Go.Proofs.YtlnhmbnbloakmaaDoor
open Go.Gx
def tyT (t:Nat):Option Ty:=match t with
 |2=>some (.int .i64)
 |3=>some (.int .i64)
 |4=>some .bool
 |5=>some (.int .u8)
 |9=>some .str
 |10=>some .str
 |11=>some .str
 |21=>some (.int .i32)
 |22=>some (.sl .abbr)
 |23=>some (.sl .str)
 |28=>some (.sl .abbr)
 |37=>some .abbr
 |40=>some (.sl (.int .i64))
 |45=>some .abbr
 |62=>some (.sl (.int .u8))
 |72=>some (.arr 256 .bool)
 |86=>some (.int .u64)
 |87=>some (.arr 256 (.int .u8))
 |92=>some (.int .u32)
 |103=>some (.int .u8)
 |_=>none
def elT (t:Nat):Nat:=match t with
 |22=>37
 |23=>9
 |28=>45
 |40=>3
 |62=>5
 |_=>0
def mdT (f:Nat):Bool:=match f with
 |12=>true
 |13=>true
 |40=>true
 |_=>false
def glT (g:Nat):Option AV:=match g with
 |_=>none
def giT (g:Nat):Bool:=match g with
 |0=>true
 |_=>false
def dmT (f:Nat):Bool:=match f with
 |12=>true
 |13=>true
 |_=>false
def pmT (f:Nat):Bool:=match f with
 |_=>false
def tmX (f:Nat):Bool:=match f with
 |_=>false
def Q0:Env:={ty:=tyT,el:=elT,gl:=glT,md:=mdT,gi:=giT,dm:=dmT,pm:=pmT,tm:=tmX}
theorem Q3s:∀T τ,Q0.ty T=some τ->TyOk Tryd.prog Q0 T τ:=λT τ h=>by
 dsimp only[Q0,tyT]at h
 split at h<;>first
  |(cases h;done)
  |(cases h;exact Q7c (by kernel_rfl) (by kernel_rfl))
theorem Q7R:EnvOk Tryd.prog Q0:=⟨Q3s,by kernel_rfl,λT h=>by
 dsimp only[Q0,tyT]at h
 split at h<;>first
  |(cases h;done)
  |exact Q7r Q3s rfl (by kernel_rfl) (by kernel_rfl) (by kernel_rfl),λT h=>by
 dsimp only[Q0,tyT]at h
 split at h<;>first
  |(cases h;done)
  |exact Q7s Q3s rfl (by kernel_rfl) (by kernel_rfl) (by kernel_rfl)⟩
def Z40.F (a0:Abbr)(a1:Int):Option (Int):=bif (decide ((IntKind.wrap .i64 (a1-(a0.word.size:Int)))<0))then(some (-1))else(bif (decide ((IntKind.wrap .i64 ((IntKind.wrap .i64 (a1-(a0.word.size:Int)))-(a0.short.size:Int)))<0))then(some (-1))else(some (IntKind.wrap .i64 ((IntKind.wrap .i64 (a1-(a0.word.size:Int)))-(a0.short.size:Int)))))
def Z40.C:Cal->Option CArm:=λc=>match c with
 |_=>none
theorem Z40.run (a0:Abbr)(a1:Int):QH Q0 (Qf Z40.C) (Qd 20 0 (λ_=>none)) Tryd.f15 [.t .abbr a0,.t (.int .i64) a1] (Qc (.t (.int .i64)))=Z40.F a0 a1:=by kernel_rfl
theorem Z40.G (hE:EnvOk Tryd.prog Q0)(pv:Nat->Value):∀cal A,Z40.C cal=some A->Qj Tryd.prog Q0 pv cal A:=by
 intro cal A h
 unfold Z40.C at h
 cases h
theorem Z40.good (hE:EnvOk Tryd.prog Q0)(pv:Nat->Value)(a0:Abbr)(a1:Int){y:_}(h:Z40.F a0 a1=some y):Qa Tryd.prog Q0 pv (.f 15) (Qb [.abbr,(.int .i64)] (a0,a1,())) (.t (.int .i64) y):=
 Qi hE (Z40.G hE pv) (f:=15) (fn:=Tryd.f15) (by kernel_rfl) rfl (by kernel_rfl) (by kernel_rfl) ((Z40.run a0 a1).trans h) (λr hr=>Q5 hr)
def Z17.l0:Nat->(List Abbr)->Int->Int->Option (Sum Int Int)
 |0,_,_,_=>none
 |k+1,x0,x1,x5=>bif (decide (x5<(x0.length:Int)))then(bif decide (0<=x5)then(bif decide (x5<(x0.length:Int))then((Z40.F (x0.getD (x5:Int).toNat (Q8 .abbr)) x1).bind λr1=>bif (decide (r1<0))then(some (.inl (-1)))else(Z17.l0 k x0 r1 (IntKind.wrap .i64 (x5+1))))else none)else none)else(some (.inr x1))
def Z17.F (k:Nat)(a0:List Abbr)(a1:Int):Option (Int):=bif (decide ((IntKind.wrap .i64 (a1-(a0.length:Int)))<0))then(some (-1))else((Z17.l0 k a0 (IntKind.wrap .i64 (a1-(a0.length:Int))) 0).bind λy2=>match y2 with|.inl z3=>some z3|.inr z3=>some z3)
def Z17.C (k:Nat):Cal->Option CArm:=λc=>match c with
 |.f 15=>some (.p [.abbr,(.int .i64)] _ (λx=>Z40.F x.1 x.2.1) (λr=>(.t (.int .i64) r)))
 |_=>none
def Z17.sp0:List Sp:=[.t 0 (.sl .abbr),.t 1 (.int .i64),.t 5 (.int .i64)]
def Z17.sp0_0:List Sp:=[.t 4 (.int .i64)]
def Z17.sp0_1:List Sp:=[.t 1 (.int .i64)]
def Z17.A0:LArm:=.two Z17.sp0 Z17.sp0_0 Z17.sp0_1 (Int) (Int) (λk x=>Z17.l0 k x.1 x.2.1 x.2.2.1) .ret (.exit 0) (λy=>(y,())) (λx=>x.1) (λy=>(y,())) (λx=>x.1)
def Z17.L:Nat->Option LArm:=λb=>match b with
 |0=>some Z17.A0
 |_=>none
theorem Z17.run (k:Nat)(a0:List Abbr)(a1:Int):QH Q0 (Qf (Z17.C k)) (Qd 27 k Z17.L) Tryd.f4 [.t (.sl .abbr) a0,.t (.int .i64) a1] (Qc (.t (.int .i64)))=Z17.F k a0 a1:=by kernel_rfl
theorem Z17.step0 (k:Nat)(x0:List Abbr)(x1:Int)(x5:Int):QN Q0 (Qf (Z17.C k)) (Qd 27 k Z17.L) 0 (Qp Tryd.f4 0) (J8 27 Z17.sp0 (x0,x1,x5,())) (Z17.A0.cont 27 k)=Z17.l0 (k+1) x0 x1 x5:=by kernel_rfl
theorem Z17.G (hE:EnvOk Tryd.prog Q0)(pv:Nat->Value)(k:Nat):∀cal A,Z17.C k cal=some A->Qj Tryd.prog Q0 pv cal A:=by
 intro cal A h
 unfold Z17.C at h
 split at h
 ·cases h;exact λx y hy=>Z40.good hE pv x.1 x.2.1 hy
 ·cases h
theorem Z17.good (hE:EnvOk Tryd.prog Q0)(pv:Nat->Value)(k:Nat)(a0:List Abbr)(a1:Int){y:_}(h:Z17.F k a0 a1=some y):Qa Tryd.prog Q0 pv (.f 4) (Qb [(.sl .abbr),(.int .i64)] (a0,a1,())) (.t (.int .i64) y):=
 Ql hE (t:=Z17.C) k (λk _=>Z17.G hE pv k) (f:=4) (fn:=Tryd.f4) (by kernel_rfl) rfl (by kernel_rfl) (by kernel_rfl) (lt:=Z17.L) (by kernel_rfl) (λb A h=>by
  unfold Z17.L at h;split at h
  ·cases h;exact⟨by kernel_rfl,by kernel_rfl,by kernel_rfl,λ_=>rfl,λ_=>rfl,λ_=>rfl⟩
  ·cases h) (λb A h=>by
  unfold Z17.L at h;split at h
  ·cases h;exact λk x=>Z17.step0 k x.1 x.2.1 x.2.2.1
  ·cases h) ((Z17.run k a0 a1).trans h) (λr hr=>Q5 hr)
def Z18.l0:Nat->(List ByteArray)->Int->Int->Option (Sum Int Int)
 |0,_,_,_=>none
 |k+1,x0,x1,x5=>bif (decide (x5<(x0.length:Int)))then(bif decide (0<=x5)then(bif decide (x5<(x0.length:Int))then(bif (decide ((IntKind.wrap .i64 (x1-((x0.getD (x5:Int).toNat (⟨#[]⟩:ByteArray)).size:Int)))<0))then(some (.inl (-1)))else(Z18.l0 k x0 (IntKind.wrap .i64 (x1-((x0.getD (x5:Int).toNat (⟨#[]⟩:ByteArray)).size:Int))) (IntKind.wrap .i64 (x5+1))))else none)else none)else(some (.inr x1))
def Z18.F (k:Nat)(a0:List ByteArray)(a1:Int):Option (Int):=bif (decide ((IntKind.wrap .i64 (a1-(a0.length:Int)))<0))then(some (-1))else((Z18.l0 k a0 (IntKind.wrap .i64 (a1-(a0.length:Int))) 0).bind λy1=>match y1 with|.inl z2=>some z2|.inr z2=>some z2)
def Z18.C (k:Nat):Cal->Option CArm:=λc=>match c with
 |_=>none
def Z18.sp0:List Sp:=[.t 0 (.sl .str),.t 1 (.int .i64),.t 5 (.int .i64)]
def Z18.sp0_0:List Sp:=[.t 4 (.int .i64)]
def Z18.sp0_1:List Sp:=[.t 1 (.int .i64)]
def Z18.A0:LArm:=.two Z18.sp0 Z18.sp0_0 Z18.sp0_1 (Int) (Int) (λk x=>Z18.l0 k x.1 x.2.1 x.2.2.1) .ret (.exit 0) (λy=>(y,())) (λx=>x.1) (λy=>(y,())) (λx=>x.1)
def Z18.L:Nat->Option LArm:=λb=>match b with
 |0=>some Z18.A0
 |_=>none
theorem Z18.run (k:Nat)(a0:List ByteArray)(a1:Int):QH Q0 (Qf (Z18.C k)) (Qd 28 k Z18.L) Tryd.f5 [.t (.sl .str) a0,.t (.int .i64) a1] (Qc (.t (.int .i64)))=Z18.F k a0 a1:=by kernel_rfl
theorem Z18.step0 (k:Nat)(x0:List ByteArray)(x1:Int)(x5:Int):QN Q0 (Qf (Z18.C k)) (Qd 28 k Z18.L) 0 (Qp Tryd.f5 0) (J8 28 Z18.sp0 (x0,x1,x5,())) (Z18.A0.cont 28 k)=Z18.l0 (k+1) x0 x1 x5:=by kernel_rfl
theorem Z18.G (hE:EnvOk Tryd.prog Q0)(pv:Nat->Value)(k:Nat):∀cal A,Z18.C k cal=some A->Qj Tryd.prog Q0 pv cal A:=by
 intro cal A h
 unfold Z18.C at h
 cases h
theorem Z18.good (hE:EnvOk Tryd.prog Q0)(pv:Nat->Value)(k:Nat)(a0:List ByteArray)(a1:Int){y:_}(h:Z18.F k a0 a1=some y):Qa Tryd.prog Q0 pv (.f 5) (Qb [(.sl .str),(.int .i64)] (a0,a1,())) (.t (.int .i64) y):=
 Ql hE (t:=Z18.C) k (λk _=>Z18.G hE pv k) (f:=5) (fn:=Tryd.f5) (by kernel_rfl) rfl (by kernel_rfl) (by kernel_rfl) (lt:=Z18.L) (by kernel_rfl) (λb A h=>by
  unfold Z18.L at h;split at h
  ·cases h;exact⟨by kernel_rfl,by kernel_rfl,by kernel_rfl,λ_=>rfl,λ_=>rfl,λ_=>rfl⟩
  ·cases h) (λb A h=>by
  unfold Z18.L at h;split at h
  ·cases h;exact λk x=>Z18.step0 k x.1 x.2.1 x.2.2.1
  ·cases h) ((Z18.run k a0 a1).trans h) (λr hr=>Q5 hr)
def Z33.F (a0:ByteArray)(a1:Int):Option (ByteArray):=bif (!Qn a0 (⟨#[]⟩:ByteArray))then(bif decide (0<=(IntKind.wrap .i64 ((a0.size:Int)-1)))then(bif decide ((IntKind.wrap .i64 ((a0.size:Int)-1))<(a0.size:Int))then(bif ((bt a0 ((IntKind.wrap .i64 ((a0.size:Int)-1)):Int).toNat)==a1)then(bif decide (0<=(IntKind.wrap .i64 ((a0.size:Int)-1)))then(bif decide ((IntKind.wrap .i64 ((a0.size:Int)-1))<=(a0.size:Int))then(some (a0.extract 0 ((IntKind.wrap .i64 ((a0.size:Int)-1)):Int).toNat))else none)else none)else(some a0))else none)else none)else(some a0)
def Z33.C:Cal->Option CArm:=λc=>match c with
 |_=>none
theorem Z33.run (a0:ByteArray)(a1:Int):QH Q0 (Qf Z33.C) (Qd 22 0 (λ_=>none)) Tryd.f34 [.t .str a0,.t (.int .u8) a1] (Qc (.t .str))=Z33.F a0 a1:=by kernel_rfl
theorem Z33.G (hE:EnvOk Tryd.prog Q0)(pv:Nat->Value):∀cal A,Z33.C cal=some A->Qj Tryd.prog Q0 pv cal A:=by
 intro cal A h
 unfold Z33.C at h
 cases h
theorem Z33.good (hE:EnvOk Tryd.prog Q0)(pv:Nat->Value)(a0:ByteArray)(a1:Int){y:_}(h:Z33.F a0 a1=some y):Qa Tryd.prog Q0 pv (.f 34) (Qb [.str,(.int .u8)] (a0,a1,())) (.t .str y):=
 Qi hE (Z33.G hE pv) (f:=34) (fn:=Tryd.f34) (by kernel_rfl) rfl (by kernel_rfl) (by kernel_rfl) ((Z33.run a0 a1).trans h) (λr hr=>Q5 hr)
def Z41.F (a0:Int)(a1:Int)(a2:Int):Option (Bool):=bif (decide (a0 ≥ a1))then(some (decide (a0<=a2)))else(some false)
def Z41.C:Cal->Option CArm:=λc=>match c with
 |_=>none
theorem Z41.run (a0:Int)(a1:Int)(a2:Int):QH Q0 (Qf Z41.C) (Qd 15 0 (λ_=>none)) Tryd.f58 [.t (.int .i64) a0,.t (.int .i64) a1,.t (.int .i64) a2] (Qc (.t .bool))=Z41.F a0 a1 a2:=by kernel_rfl
theorem Z41.G (hE:EnvOk Tryd.prog Q0)(pv:Nat->Value):∀cal A,Z41.C cal=some A->Qj Tryd.prog Q0 pv cal A:=by
 intro cal A h
 unfold Z41.C at h
 cases h
theorem Z41.good (hE:EnvOk Tryd.prog Q0)(pv:Nat->Value)(a0:Int)(a1:Int)(a2:Int){y:_}(h:Z41.F a0 a1 a2=some y):Qa Tryd.prog Q0 pv (.f 58) (Qb [(.int .i64),(.int .i64),(.int .i64)] (a0,a1,a2,())) (.t .bool y):=
 Qi hE (Z41.G hE pv) (f:=58) (fn:=Tryd.f58) (by kernel_rfl) rfl (by kernel_rfl) (by kernel_rfl) ((Z41.run a0 a1 a2).trans h) (λr hr=>Q5 hr)
def Z9.l0:Nat->ByteArray->Int->Int->Int->Option (Sum Bool (ByteArray×Int×Int))
 |0,_,_,_,_=>none
 |k+1,x0,x1,x2,x7=>bif (decide (x7<(x0.size:Int)))then(bif decide (0<=x7)then(bif decide (x7<(x0.size:Int))then(bif (decide ((bt x0 (x7:Int).toNat)<97))then(some (.inl false))else(bif decide (0<=x7)then(bif decide (x7<(x0.size:Int))then(bif (decide ((bt x0 (x7:Int).toNat) > 122))then(some (.inl false))else(Z9.l0 k x0 x1 x2 (IntKind.wrap .i64 (x7+1))))else none)else none))else none)else none)else(some (.inr (x0,x1,x2)))
def Z9.F (k:Nat)(a0:ByteArray)(a1:Int)(a2:Int):Option (Bool):=(Z9.l0 k a0 a1 a2 0).bind λy1=>match y1 with|.inl z2=>some z2|.inr z2=>(Z41.F (z2.1.size:Int) z2.2.1 z2.2.2).bind λr3=>some r3
def Z9.C (k:Nat):Cal->Option CArm:=λc=>match c with
 |.f 58=>some (.p [(.int .i64),(.int .i64),(.int .i64)] _ (λx=>Z41.F x.1 x.2.1 x.2.2.1) (λr=>(.t .bool r)))
 |_=>none
def Z9.sp0:List Sp:=[.t 0 .str,.t 1 (.int .i64),.t 2 (.int .i64),.t 7 (.int .i64)]
def Z9.sp0_0:List Sp:=[.t 6 .bool]
def Z9.sp0_1:List Sp:=[.t 0 .str,.t 1 (.int .i64),.t 2 (.int .i64)]
def Z9.A0:LArm:=.two Z9.sp0 Z9.sp0_0 Z9.sp0_1 (Bool) (ByteArray×Int×Int) (λk x=>Z9.l0 k x.1 x.2.1 x.2.2.1 x.2.2.2.1) .ret (.exit 0) (λy=>(y,())) (λx=>x.1) (λy=>(y.1,y.2.1,y.2.2,())) (λx=>(x.1,x.2.1,x.2.2.1))
def Z9.L:Nat->Option LArm:=λb=>match b with
 |0=>some Z9.A0
 |_=>none
theorem Z9.run (k:Nat)(a0:ByteArray)(a1:Int)(a2:Int):QH Q0 (Qf (Z9.C k)) (Qd 29 k Z9.L) Tryd.f47 [.t .str a0,.t (.int .i64) a1,.t (.int .i64) a2] (Qc (.t .bool))=Z9.F k a0 a1 a2:=by kernel_rfl
theorem Z9.step0 (k:Nat)(x0:ByteArray)(x1:Int)(x2:Int)(x7:Int):QN Q0 (Qf (Z9.C k)) (Qd 29 k Z9.L) 0 (Qp Tryd.f47 0) (J8 29 Z9.sp0 (x0,x1,x2,x7,())) (Z9.A0.cont 29 k)=Z9.l0 (k+1) x0 x1 x2 x7:=by kernel_rfl
theorem Z9.G (hE:EnvOk Tryd.prog Q0)(pv:Nat->Value)(k:Nat):∀cal A,Z9.C k cal=some A->Qj Tryd.prog Q0 pv cal A:=by
 intro cal A h
 unfold Z9.C at h
 split at h
 ·cases h;exact λx y hy=>Z41.good hE pv x.1 x.2.1 x.2.2.1 hy
 ·cases h
theorem Z9.good (hE:EnvOk Tryd.prog Q0)(pv:Nat->Value)(k:Nat)(a0:ByteArray)(a1:Int)(a2:Int){y:_}(h:Z9.F k a0 a1 a2=some y):Qa Tryd.prog Q0 pv (.f 47) (Qb [.str,(.int .i64),(.int .i64)] (a0,a1,a2,())) (.t .bool y):=
 Ql hE (t:=Z9.C) k (λk _=>Z9.G hE pv k) (f:=47) (fn:=Tryd.f47) (by kernel_rfl) rfl (by kernel_rfl) (by kernel_rfl) (lt:=Z9.L) (by kernel_rfl) (λb A h=>by
  unfold Z9.L at h;split at h
  ·cases h;exact⟨by kernel_rfl,by kernel_rfl,by kernel_rfl,λ_=>rfl,λ_=>rfl,λ_=>rfl⟩
  ·cases h) (λb A h=>by
  unfold Z9.L at h;split at h
  ·cases h;exact λk x=>Z9.step0 k x.1 x.2.1 x.2.2.1 x.2.2.2.1
  ·cases h) ((Z9.run k a0 a1 a2).trans h) (λr hr=>Q5 hr)
def Z42.F (k:Nat)(a0:Abbr):Option (Bool):=(Z33.F a0.word 45).bind λr1=>(Z9.F k r1 2 15).bind λr2=>bif r2 then((Z33.F a0.short 46).bind λr3=>(Z9.F k r3 1 12).bind λr4=>some r4)else(some false)
def Z42.C (k:Nat):Cal->Option CArm:=λc=>match c with
 |.f 34=>some (.p [.str,(.int .u8)] _ (λx=>Z33.F x.1 x.2.1) (λr=>(.t .str r)))
 |.f 47=>some (.p [.str,(.int .i64),(.int .i64)] _ (λx=>Z9.F k x.1 x.2.1 x.2.2.1) (λr=>(.t .bool r)))
 |_=>none
theorem Z42.run (k:Nat)(a0:Abbr):QH Q0 (Qf (Z42.C k)) (Qd 13 0 (λ_=>none)) Tryd.f28 [.t .abbr a0] (Qc (.t .bool))=Z42.F k a0:=by kernel_rfl
theorem Z42.G (hE:EnvOk Tryd.prog Q0)(pv:Nat->Value)(k:Nat):∀cal A,Z42.C k cal=some A->Qj Tryd.prog Q0 pv cal A:=by
 intro cal A h
 unfold Z42.C at h
 split at h
 ·cases h;exact λx y hy=>Z33.good hE pv x.1 x.2.1 hy
 ·cases h;exact λx y hy=>Z9.good hE pv k x.1 x.2.1 x.2.2.1 hy
 ·cases h
theorem Z42.good (hE:EnvOk Tryd.prog Q0)(pv:Nat->Value)(k:Nat)(a0:Abbr){y:_}(h:Z42.F k a0=some y):Qa Tryd.prog Q0 pv (.f 28) (Qb [.abbr] (a0,())) (.t .bool y):=
 Qi hE (Z42.G hE pv k) (f:=28) (fn:=Tryd.f28) (by kernel_rfl) rfl (by kernel_rfl) (by kernel_rfl) ((Z42.run k a0).trans h) (λr hr=>Q5 hr)
def Z3.l0:Nat->(List Abbr)->Int->Option (Sum Bool (List Abbr))
 |0,_,_=>none
 |k+1,x0,x3=>bif (decide (x3<(x0.length:Int)))then(bif (decide (x3<=15))then(bif decide (0<=x3)then(bif decide (x3<(x0.length:Int))then((Z42.F k (x0.getD (x3:Int).toNat (Q8 .abbr))).bind λr1=>bif (!r1)then(some (.inl false))else(bif (decide (x3 > 0))then(bif decide (0<=(IntKind.wrap .i64 (x3-1)))then(bif decide ((IntKind.wrap .i64 (x3-1))<(x0.length:Int))then(bif decide (0<=x3)then(bif decide (x3<(x0.length:Int))then(bif (!ltS ((x0.getD ((IntKind.wrap .i64 (x3-1)):Int).toNat (Q8 .abbr)).word) ((x0.getD (x3:Int).toNat (Q8 .abbr)).word))then(some (.inl false))else(Z3.l0 k x0 (IntKind.wrap .i64 (x3+1))))else none)else none)else none)else none)else(Z3.l0 k x0 (IntKind.wrap .i64 (x3+1)))))else none)else none)else(some (.inr x0)))else(some (.inr x0))
def Z3.F (k:Nat)(a0:List Abbr):Option (Bool):=(Z3.l0 k a0 0).bind λy2=>match y2 with|.inl z3=>some z3|.inr z3=>some (decide ((z3.length:Int)<=15))
def Z3.C (k:Nat):Cal->Option CArm:=λc=>match c with
 |.f 28=>some (.p [.abbr] _ (λx=>Z42.F k x.1) (λr=>(.t .bool r)))
 |_=>none
def Z3.sp0:List Sp:=[.t 0 (.sl .abbr),.t 3 (.int .i64)]
def Z3.sp0_0:List Sp:=[.t 2 .bool]
def Z3.sp0_1:List Sp:=[.t 0 (.sl .abbr)]
def Z3.A0:LArm:=.two Z3.sp0 Z3.sp0_0 Z3.sp0_1 (Bool) ((List Abbr)) (λk x=>Z3.l0 k x.1 x.2.1) .ret (.exit 0) (λy=>(y,())) (λx=>x.1) (λy=>(y,())) (λx=>x.1)
def Z3.L:Nat->Option LArm:=λb=>match b with
 |0=>some Z3.A0
 |_=>none
theorem Z3.run (k:Nat)(a0:List Abbr):QH Q0 (Qf (Z3.C k)) (Qd 41 k Z3.L) Tryd.f16 [.t (.sl .abbr) a0] (Qc (.t .bool))=Z3.F k a0:=by kernel_rfl
theorem Z3.step0 (k:Nat)(x0:List Abbr)(x3:Int):QN Q0 (Qf (Z3.C k)) (Qd 41 k Z3.L) 0 (Qp Tryd.f16 0) (J8 41 Z3.sp0 (x0,x3,())) (Z3.A0.cont 41 k)=Z3.l0 (k+1) x0 x3:=by kernel_rfl
theorem Z3.G (hE:EnvOk Tryd.prog Q0)(pv:Nat->Value)(k:Nat):∀cal A,Z3.C k cal=some A->Qj Tryd.prog Q0 pv cal A:=by
 intro cal A h
 unfold Z3.C at h
 split at h
 ·cases h;exact λx y hy=>Z42.good hE pv k x.1 hy
 ·cases h
theorem Z3.good (hE:EnvOk Tryd.prog Q0)(pv:Nat->Value)(k:Nat)(a0:List Abbr){y:_}(h:Z3.F k a0=some y):Qa Tryd.prog Q0 pv (.f 16) (Qb [(.sl .abbr)] (a0,())) (.t .bool y):=
 Ql hE (t:=Z3.C) k (λk _=>Z3.G hE pv k) (f:=16) (fn:=Tryd.f16) (by kernel_rfl) rfl (by kernel_rfl) (by kernel_rfl) (lt:=Z3.L) (by kernel_rfl) (λb A h=>by
  unfold Z3.L at h;split at h
  ·cases h;exact⟨by kernel_rfl,by kernel_rfl,by kernel_rfl,λ_=>rfl,λ_=>rfl,λ_=>rfl⟩
  ·cases h) (λb A h=>by
  unfold Z3.L at h;split at h
  ·cases h;exact λk x=>Z3.step0 k x.1 x.2.1
  ·cases h) ((Z3.run k a0).trans h) (λr hr=>Q5 hr)
def Z19.l0:Nat->ByteArray->Int->Option (Sum Bool ByteArray)
 |0,_,_=>none
 |k+1,x0,x3=>bif (decide (x3<(x0.size:Int)))then(bif decide (0<=x3)then(bif decide (x3<(x0.size:Int))then(bif (decide ((bt x0 (x3:Int).toNat)<32))then(some (.inl false))else(bif decide (0<=x3)then(bif decide (x3<(x0.size:Int))then(bif (decide ((bt x0 (x3:Int).toNat) > 126))then(some (.inl false))else(Z19.l0 k x0 (IntKind.wrap .i64 (x3+1))))else none)else none))else none)else none)else(some (.inr x0))
def Z19.F (k:Nat)(a0:ByteArray):Option (Bool):=bif (decide ((a0.size:Int) > 40))then(some false)else((Z19.l0 k a0 0).bind λy1=>match y1 with|.inl z2=>some z2|.inr z2=>bif (Qn z2 (⟨#[]⟩:ByteArray))then(some true)else(bif decide (0<=0)then(bif decide (0<(z2.size:Int))then(bif ((bt z2 (0:Int).toNat) != 32)then(bif decide (0<=(IntKind.wrap .i64 ((z2.size:Int)-1)))then(bif decide ((IntKind.wrap .i64 ((z2.size:Int)-1))<(z2.size:Int))then(some ((bt z2 ((IntKind.wrap .i64 ((z2.size:Int)-1)):Int).toNat) != 32))else none)else none)else(some false))else none)else none))
def Z19.C (k:Nat):Cal->Option CArm:=λc=>match c with
 |_=>none
def Z19.sp0:List Sp:=[.t 0 .str,.t 3 (.int .i64)]
def Z19.sp0_0:List Sp:=[.t 2 .bool]
def Z19.sp0_1:List Sp:=[.t 0 .str]
def Z19.A0:LArm:=.two Z19.sp0 Z19.sp0_0 Z19.sp0_1 (Bool) (ByteArray) (λk x=>Z19.l0 k x.1 x.2.1) .ret (.exit 0) (λy=>(y,())) (λx=>x.1) (λy=>(y,())) (λx=>x.1)
def Z19.L:Nat->Option LArm:=λb=>match b with
 |0=>some Z19.A0
 |_=>none
theorem Z19.run (k:Nat)(a0:ByteArray):QH Q0 (Qf (Z19.C k)) (Qd 38 k Z19.L) Tryd.f29 [.t .str a0] (Qc (.t .bool))=Z19.F k a0:=by kernel_rfl
theorem Z19.step0 (k:Nat)(x0:ByteArray)(x3:Int):QN Q0 (Qf (Z19.C k)) (Qd 38 k Z19.L) 0 (Qp Tryd.f29 0) (J8 38 Z19.sp0 (x0,x3,())) (Z19.A0.cont 38 k)=Z19.l0 (k+1) x0 x3:=by kernel_rfl
theorem Z19.G (hE:EnvOk Tryd.prog Q0)(pv:Nat->Value)(k:Nat):∀cal A,Z19.C k cal=some A->Qj Tryd.prog Q0 pv cal A:=by
 intro cal A h
 unfold Z19.C at h
 cases h
theorem Z19.good (hE:EnvOk Tryd.prog Q0)(pv:Nat->Value)(k:Nat)(a0:ByteArray){y:_}(h:Z19.F k a0=some y):Qa Tryd.prog Q0 pv (.f 29) (Qb [.str] (a0,())) (.t .bool y):=
 Ql hE (t:=Z19.C) k (λk _=>Z19.G hE pv k) (f:=29) (fn:=Tryd.f29) (by kernel_rfl) rfl (by kernel_rfl) (by kernel_rfl) (lt:=Z19.L) (by kernel_rfl) (λb A h=>by
  unfold Z19.L at h;split at h
  ·cases h;exact⟨by kernel_rfl,by kernel_rfl,by kernel_rfl,λ_=>rfl,λ_=>rfl,λ_=>rfl⟩
  ·cases h) (λb A h=>by
  unfold Z19.L at h;split at h
  ·cases h;exact λk x=>Z19.step0 k x.1 x.2.1
  ·cases h) ((Z19.run k a0).trans h) (λr hr=>Q5 hr)
def Z20.l0:Nat->(List ByteArray)->Int->Option (Sum Bool (List ByteArray))
 |0,_,_=>none
 |k+1,x0,x3=>bif (decide (x3<(x0.length:Int)))then(bif decide (0<=x3)then(bif decide (x3<(x0.length:Int))then((Z19.F k (x0.getD (x3:Int).toNat (⟨#[]⟩:ByteArray))).bind λr1=>bif (!r1)then(some (.inl false))else(Z20.l0 k x0 (IntKind.wrap .i64 (x3+1))))else none)else none)else(some (.inr x0))
def Z20.F (k:Nat)(a0:List ByteArray):Option (Bool):=(Z20.l0 k a0 0).bind λy2=>match y2 with|.inl z3=>some z3|.inr z3=>some (decide ((z3.length:Int)<=20))
def Z20.C (k:Nat):Cal->Option CArm:=λc=>match c with
 |.f 29=>some (.p [.str] _ (λx=>Z19.F k x.1) (λr=>(.t .bool r)))
 |_=>none
def Z20.sp0:List Sp:=[.t 0 (.sl .str),.t 3 (.int .i64)]
def Z20.sp0_0:List Sp:=[.t 2 .bool]
def Z20.sp0_1:List Sp:=[.t 0 (.sl .str)]
def Z20.A0:LArm:=.two Z20.sp0 Z20.sp0_0 Z20.sp0_1 (Bool) ((List ByteArray)) (λk x=>Z20.l0 k x.1 x.2.1) .ret (.exit 0) (λy=>(y,())) (λx=>x.1) (λy=>(y,())) (λx=>x.1)
def Z20.L:Nat->Option LArm:=λb=>match b with
 |0=>some Z20.A0
 |_=>none
theorem Z20.run (k:Nat)(a0:List ByteArray):QH Q0 (Qf (Z20.C k)) (Qd 19 k Z20.L) Tryd.f17 [.t (.sl .str) a0] (Qc (.t .bool))=Z20.F k a0:=by kernel_rfl
theorem Z20.step0 (k:Nat)(x0:List ByteArray)(x3:Int):QN Q0 (Qf (Z20.C k)) (Qd 19 k Z20.L) 0 (Qp Tryd.f17 0) (J8 19 Z20.sp0 (x0,x3,())) (Z20.A0.cont 19 k)=Z20.l0 (k+1) x0 x3:=by kernel_rfl
theorem Z20.G (hE:EnvOk Tryd.prog Q0)(pv:Nat->Value)(k:Nat):∀cal A,Z20.C k cal=some A->Qj Tryd.prog Q0 pv cal A:=by
 intro cal A h
 unfold Z20.C at h
 split at h
 ·cases h;exact λx y hy=>Z19.good hE pv k x.1 hy
 ·cases h
theorem Z20.good (hE:EnvOk Tryd.prog Q0)(pv:Nat->Value)(k:Nat)(a0:List ByteArray){y:_}(h:Z20.F k a0=some y):Qa Tryd.prog Q0 pv (.f 17) (Qb [(.sl .str)] (a0,())) (.t .bool y):=
 Ql hE (t:=Z20.C) k (λk _=>Z20.G hE pv k) (f:=17) (fn:=Tryd.f17) (by kernel_rfl) rfl (by kernel_rfl) (by kernel_rfl) (lt:=Z20.L) (by kernel_rfl) (λb A h=>by
  unfold Z20.L at h;split at h
  ·cases h;exact⟨by kernel_rfl,by kernel_rfl,by kernel_rfl,λ_=>rfl,λ_=>rfl,λ_=>rfl⟩
  ·cases h) (λb A h=>by
  unfold Z20.L at h;split at h
  ·cases h;exact λk x=>Z20.step0 k x.1 x.2.1
  ·cases h) ((Z20.run k a0).trans h) (λr hr=>Q5 hr)
def Z5.l0:Nat->ByteArray->(List ByteArray)->Int->Int->Option ((List ByteArray))
 |0,_,_,_,_=>none
 |k+1,x0,x3,x4,x5=>bif (decide (x5<=(x0.size:Int)))then(bif (x5==(x0.size:Int))then(bif (decide (x5 > x4))then(bif decide (0<=x5)then(bif decide (x5<=(x0.size:Int))then(bif decide (0<=x4)then(bif decide (x4<=x5)then(bif room (x3.length+([(x0.extract (x4:Int).toNat (x5:Int).toNat)]:List ByteArray).length) .str then(Z5.l0 k x0 (x3++([(x0.extract (x4:Int).toNat (x5:Int).toNat)]:List ByteArray)) (IntKind.wrap .i64 (x5+1)) (IntKind.wrap .i64 (x5+1)))else none)else none)else none)else none)else none)else(Z5.l0 k x0 x3 (IntKind.wrap .i64 (x5+1)) (IntKind.wrap .i64 (x5+1))))else(bif decide (0<=x5)then(bif decide (x5<(x0.size:Int))then(bif ((bt x0 (x5:Int).toNat)==32)then(bif (decide (x5 > x4))then(bif decide (0<=x5)then(bif decide (x5<=(x0.size:Int))then(bif decide (0<=x4)then(bif decide (x4<=x5)then(bif room (x3.length+([(x0.extract (x4:Int).toNat (x5:Int).toNat)]:List ByteArray).length) .str then(Z5.l0 k x0 (x3++([(x0.extract (x4:Int).toNat (x5:Int).toNat)]:List ByteArray)) (IntKind.wrap .i64 (x5+1)) (IntKind.wrap .i64 (x5+1)))else none)else none)else none)else none)else none)else(Z5.l0 k x0 x3 (IntKind.wrap .i64 (x5+1)) (IntKind.wrap .i64 (x5+1))))else(Z5.l0 k x0 x3 x4 (IntKind.wrap .i64 (x5+1))))else none)else none))else(some x3)
def Z5.F (k:Nat)(a0:ByteArray):Option (List ByteArray):=(Z5.l0 k a0 ([]:List ByteArray) 0 0).bind λy1=>some y1
def Z5.C (k:Nat):Cal->Option CArm:=λc=>match c with
 |_=>none
def Z5.sp0:List Sp:=[.t 0 .str,.own 3 1024 9 .str false true,.t 4 (.int .i64),.t 5 (.int .i64)]
def Z5.sp0_0:List Sp:=[.own 3 1024 9 .str false true]
def Z5.A0:LArm:=.one Z5.sp0 Z5.sp0_0 ((List ByteArray)) (λk x=>Z5.l0 k x.1 x.2.1 x.2.2.1 x.2.2.2.1) (.exit 0) (λy=>(y,())) (λx=>x.1)
def Z5.L:Nat->Option LArm:=λb=>match b with
 |0=>some Z5.A0
 |_=>none
theorem Z5.run (k:Nat)(a0:ByteArray):QH Q0 (Qf (Z5.C k)) (Qd 36 k Z5.L) Tryd.f30 [.t .str a0] (Qc (.fr 9 .str))=Z5.F k a0:=by kernel_rfl
theorem Z5.step0 (k:Nat)(x0:ByteArray)(x3:List ByteArray)(x4:Int)(x5:Int):QN Q0 (Qf (Z5.C k)) (Qd 36 k Z5.L) 0 (Qp Tryd.f30 0) (J8 36 Z5.sp0 (x0,x3,x4,x5,())) (Z5.A0.cont 36 k)=Z5.l0 (k+1) x0 x3 x4 x5:=by kernel_rfl
theorem Z5.G (hE:EnvOk Tryd.prog Q0)(pv:Nat->Value)(k:Nat):∀cal A,Z5.C k cal=some A->Qj Tryd.prog Q0 pv cal A:=by
 intro cal A h
 unfold Z5.C at h
 cases h
theorem Z5.good (hE:EnvOk Tryd.prog Q0)(pv:Nat->Value)(k:Nat)(a0:ByteArray){y:_}(h:Z5.F k a0=some y):Qa Tryd.prog Q0 pv (.f 30) (Qb [.str] (a0,())) (.fr 9 .str y):=
 Ql hE (t:=Z5.C) k (λk _=>Z5.G hE pv k) (f:=30) (fn:=Tryd.f30) (by kernel_rfl) rfl (by kernel_rfl) (by kernel_rfl) (lt:=Z5.L) (by kernel_rfl) (λb A h=>by
  unfold Z5.L at h;split at h
  ·cases h;exact⟨by kernel_rfl,by kernel_rfl,λ_=>rfl,λ_=>rfl⟩
  ·cases h) (λb A h=>by
  unfold Z5.L at h;split at h
  ·cases h;exact λk x=>Z5.step0 k x.1 x.2.1 x.2.2.1 x.2.2.2.1
  ·cases h) ((Z5.run k a0).trans h) (λr hr=>Q5 hr)
def Z43.F (a0:Int):Option (Int):=bif (decide (a0 ≥ 65))then(bif (decide (a0<=90))then(some (IntKind.wrap .u8 (a0+32)))else(some a0))else(some a0)
def Z43.C:Cal->Option CArm:=λc=>match c with
 |_=>none
theorem Z43.run (a0:Int):QH Q0 (Qf Z43.C) (Qd 12 0 (λ_=>none)) Tryd.f48 [.t (.int .u8) a0] (Qc (.t (.int .u8)))=Z43.F a0:=by kernel_rfl
theorem Z43.G (hE:EnvOk Tryd.prog Q0)(pv:Nat->Value):∀cal A,Z43.C cal=some A->Qj Tryd.prog Q0 pv cal A:=by
 intro cal A h
 unfold Z43.C at h
 cases h
theorem Z43.good (hE:EnvOk Tryd.prog Q0)(pv:Nat->Value)(a0:Int){y:_}(h:Z43.F a0=some y):Qa Tryd.prog Q0 pv (.f 48) (Qb [(.int .u8)] (a0,())) (.t (.int .u8) y):=
 Qi hE (Z43.G hE pv) (f:=48) (fn:=Tryd.f48) (by kernel_rfl) rfl (by kernel_rfl) (by kernel_rfl) ((Z43.run a0).trans h) (λr hr=>Q5 hr)
def Z10.l0:Nat->ByteArray->(List Int)->Int->Option ((List Int))
 |0,_,_,_=>none
 |k+1,x0,x3,x4=>bif (decide (x4<(x0.size:Int)))then(bif decide (0<=x4)then(bif decide (x4<(x0.size:Int))then((Z43.F (bt x0 (x4:Int).toNat)).bind λr1=>bif room (x3.length+([r1]:List Int).length) (.int .u8)then(Z10.l0 k x0 (x3++([r1]:List Int)) (IntKind.wrap .i64 (x4+1)))else none)else none)else none)else(some x3)
def Z10.F (k:Nat)(a0:ByteArray):Option (ByteArray):=(Z10.l0 k a0 ([]:List Int) 0).bind λy2=>some (DI y2)
def Z10.C (k:Nat):Cal->Option CArm:=λc=>match c with
 |.f 48=>some (.p [(.int .u8)] _ (λx=>Z43.F x.1) (λr=>(.t (.int .u8) r)))
 |_=>none
def Z10.sp0:List Sp:=[.t 0 .str,.own 3 1024 5 (.int .u8) false true,.t 4 (.int .i64)]
def Z10.sp0_0:List Sp:=[.own 3 1024 5 (.int .u8) false true]
def Z10.A0:LArm:=.one Z10.sp0 Z10.sp0_0 ((List Int)) (λk x=>Z10.l0 k x.1 x.2.1 x.2.2.1) (.exit 0) (λy=>(y,())) (λx=>x.1)
def Z10.L:Nat->Option LArm:=λb=>match b with
 |0=>some Z10.A0
 |_=>none
theorem Z10.run (k:Nat)(a0:ByteArray):QH Q0 (Qf (Z10.C k)) (Qd 21 k Z10.L) Tryd.f33 [.t .str a0] (Qc (.t .str))=Z10.F k a0:=by kernel_rfl
theorem Z10.step0 (k:Nat)(x0:ByteArray)(x3:List Int)(x4:Int):QN Q0 (Qf (Z10.C k)) (Qd 21 k Z10.L) 0 (Qp Tryd.f33 0) (J8 21 Z10.sp0 (x0,x3,x4,())) (Z10.A0.cont 21 k)=Z10.l0 (k+1) x0 x3 x4:=by kernel_rfl
theorem Z10.G (hE:EnvOk Tryd.prog Q0)(pv:Nat->Value)(k:Nat):∀cal A,Z10.C k cal=some A->Qj Tryd.prog Q0 pv cal A:=by
 intro cal A h
 unfold Z10.C at h
 split at h
 ·cases h;exact λx y hy=>Z43.good hE pv x.1 hy
 ·cases h
theorem Z10.good (hE:EnvOk Tryd.prog Q0)(pv:Nat->Value)(k:Nat)(a0:ByteArray){y:_}(h:Z10.F k a0=some y):Qa Tryd.prog Q0 pv (.f 33) (Qb [.str] (a0,())) (.t .str y):=
 Ql hE (t:=Z10.C) k (λk _=>Z10.G hE pv k) (f:=33) (fn:=Tryd.f33) (by kernel_rfl) rfl (by kernel_rfl) (by kernel_rfl) (lt:=Z10.L) (by kernel_rfl) (λb A h=>by
  unfold Z10.L at h;split at h
  ·cases h;exact⟨by kernel_rfl,by kernel_rfl,λ_=>rfl,λ_=>rfl⟩
  ·cases h) (λb A h=>by
  unfold Z10.L at h;split at h
  ·cases h;exact λk x=>Z10.step0 k x.1 x.2.1 x.2.2.1
  ·cases h) ((Z10.run k a0).trans h) (λr hr=>Q5 hr)
def Z44.F (k:Nat)(a0:ByteArray):Option (Bool):=(Z10.F k a0).bind λr1=>bif (Qn r1 (⟨#[97]⟩:ByteArray))then(bif (Qn r1 (⟨#[97]⟩:ByteArray))then(some true)else(some false))else(bif (Qn r1 (⟨#[97,110]⟩:ByteArray))then(bif (Qn r1 (⟨#[97,110]⟩:ByteArray))then(some true)else(some false))else(bif (Qn r1 (⟨#[97,110,100]⟩:ByteArray))then(bif (Qn r1 (⟨#[97,110,100]⟩:ByteArray))then(some true)else(some false))else(bif (Qn r1 (⟨#[102,111,114]⟩:ByteArray))then(bif (Qn r1 (⟨#[102,111,114]⟩:ByteArray))then(some true)else(some false))else(bif (Qn r1 (⟨#[105,110]⟩:ByteArray))then(bif (Qn r1 (⟨#[105,110]⟩:ByteArray))then(some true)else(some false))else(bif (Qn r1 (⟨#[111,102]⟩:ByteArray))then(bif (Qn r1 (⟨#[111,102]⟩:ByteArray))then(some true)else(some false))else(bif (Qn r1 (⟨#[111,110]⟩:ByteArray))then(bif (Qn r1 (⟨#[111,110]⟩:ByteArray))then(some true)else(some false))else(bif (Qn r1 (⟨#[116,104,101]⟩:ByteArray))then(some true)else(some false))))))))
def Z44.C (k:Nat):Cal->Option CArm:=λc=>match c with
 |.f 33=>some (.p [.str] _ (λx=>Z10.F k x.1) (λr=>(.t .str r)))
 |_=>none
theorem Z44.run (k:Nat)(a0:ByteArray):QH Q0 (Qf (Z44.C k)) (Qd 14 0 (λ_=>none)) Tryd.f31 [.t .str a0] (Qc (.t .bool))=Z44.F k a0:=by kernel_rfl
theorem Z44.G (hE:EnvOk Tryd.prog Q0)(pv:Nat->Value)(k:Nat):∀cal A,Z44.C k cal=some A->Qj Tryd.prog Q0 pv cal A:=by
 intro cal A h
 unfold Z44.C at h
 split at h
 ·cases h;exact λx y hy=>Z10.good hE pv k x.1 hy
 ·cases h
theorem Z44.good (hE:EnvOk Tryd.prog Q0)(pv:Nat->Value)(k:Nat)(a0:ByteArray){y:_}(h:Z44.F k a0=some y):Qa Tryd.prog Q0 pv (.f 31) (Qb [.str] (a0,())) (.t .bool y):=
 Qi hE (Z44.G hE pv k) (f:=31) (fn:=Tryd.f31) (by kernel_rfl) rfl (by kernel_rfl) (by kernel_rfl) ((Z44.run k a0).trans h) (λr hr=>Q5 hr)
def Z23.l0:Nat->(List ByteArray)->(List ByteArray)->Int->Option ((List ByteArray)× (List ByteArray))
 |0,_,_,_=>none
 |k+1,x4,x5,x6=>bif (decide (x6<(x4.length:Int)))then(bif decide (0<=x6)then(bif decide (x6<(x4.length:Int))then((Z44.F k (x4.getD ((x6:Int).toNat) (⟨#[]⟩:ByteArray))).bind λr2=>bif (!r2)then(bif decide (0<=x6)then(bif decide (x6<(x4.length:Int))then(bif room (x5.length+([(x4.getD ((x6:Int).toNat) (⟨#[]⟩:ByteArray))]:List ByteArray).length) .str then(Z23.l0 k x4 (x5++([(x4.getD ((x6:Int).toNat) (⟨#[]⟩:ByteArray))]:List ByteArray)) (IntKind.wrap .i64 (x6+1)))else none)else none)else none)else(Z23.l0 k x4 x5 (IntKind.wrap .i64 (x6+1))))else none)else none)else(some (x4,x5))
def Z23.F (k:Nat)(a0:ByteArray):Option ((List ByteArray)×Bool):=(Z5.F k a0).bind λr1=>(Z23.l0 k r1 ([]:List ByteArray) 0).bind λy3=>bif ((y3.2.length:Int)==0)then(bif (decide ((y3.1.length:Int)<2))then(some (y3.1,false))else(some (y3.1,true)))else(bif (decide ((y3.1.length:Int)<2))then(some (y3.1,false))else(some (y3.2,true)))
def Z23.C (k:Nat):Cal->Option CArm:=λc=>match c with
 |.f 30=>some (.p [.str] _ (λx=>Z5.F k x.1) (λr=>(.fr 9 .str r)))
 |.f 31=>some (.p [.str] _ (λx=>Z44.F k x.1) (λr=>(.t .bool r)))
 |_=>none
def Z23.sp0:List Sp:=[.own 4 1028 9 .str false true,.own 5 2048 9 .str false true,.t 6 (.int .i64)]
def Z23.sp0_0:List Sp:=[.own 4 1028 9 .str false true,.own 5 2048 9 .str false true]
def Z23.A0:LArm:=.one Z23.sp0 Z23.sp0_0 ((List ByteArray)× (List ByteArray)) (λk x=>Z23.l0 k x.1 x.2.1 x.2.2.1) (.exit 0) (λy=>(y.1,y.2,())) (λx=>(x.1,x.2.1))
def Z23.L:Nat->Option LArm:=λb=>match b with
 |0=>some Z23.A0
 |_=>none
theorem Z23.run (k:Nat)(a0:ByteArray):QH Q0 (Qf (Z23.C k)) (Qd 38 k Z23.L) Tryd.f18 [.t .str a0] (Xo (.fr 9 .str) (.t .bool))=Z23.F k a0:=by kernel_rfl
theorem Z23.step0 (k:Nat)(x4:List ByteArray)(x5:List ByteArray)(x6:Int):QN Q0 (Qf (Z23.C k)) (Qd 38 k Z23.L) 0 (Qp Tryd.f18 0) (J8 38 Z23.sp0 (x4,x5,x6,())) (Z23.A0.cont 38 k)=Z23.l0 (k+1) x4 x5 x6:=by kernel_rfl
theorem Z23.G (hE:EnvOk Tryd.prog Q0)(pv:Nat->Value)(k:Nat):∀cal A,Z23.C k cal=some A->Qj Tryd.prog Q0 pv cal A:=by
 intro cal A h
 unfold Z23.C at h
 split at h
 ·cases h;exact λx y hy=>Z5.good hE pv k x.1 hy
 ·cases h;exact λx y hy=>Z44.good hE pv k x.1 hy
 ·cases h
theorem Z23.good (hE:EnvOk Tryd.prog Q0)(pv:Nat->Value)(k:Nat)(a0:ByteArray){y:_}(h:Z23.F k a0=some y):Qa Tryd.prog Q0 pv (.f 18) (Qb [.str] (a0,())) (.tup [.fr 9 .str y.1,.t .bool y.2]):=
 Ql hE (t:=Z23.C) k (λk _=>Z23.G hE pv k) (f:=18) (fn:=Tryd.f18) (by kernel_rfl) rfl (by kernel_rfl) (by kernel_rfl) (lt:=Z23.L) (by kernel_rfl) (λb A h=>by
  unfold Z23.L at h;split at h
  ·cases h;exact⟨by kernel_rfl,by kernel_rfl,λ_=>rfl,λ_=>rfl⟩
  ·cases h) (λb A h=>by
  unfold Z23.L at h;split at h
  ·cases h;exact λk x=>Z23.step0 k x.1 x.2.1 x.2.2.1
  ·cases h) ((Z23.run k a0).trans h) (λr hr=>UM hr)
def Z45.F (a0:Int):Option (Bool):=bif (decide (a0 ≥ 65))then(bif (decide (a0<=90))then(some true)else(bif (decide (a0 ≥ 97))then(some (decide (a0<=122)))else(some false)))else(bif (decide (a0 ≥ 97))then(some (decide (a0<=122)))else(some false))
def Z45.C:Cal->Option CArm:=λc=>match c with
 |_=>none
theorem Z45.run (a0:Int):QH Q0 (Qf Z45.C) (Qd 17 0 (λ_=>none)) Tryd.f32 [.t (.int .u8) a0] (Qc (.t .bool))=Z45.F a0:=by kernel_rfl
theorem Z45.G (hE:EnvOk Tryd.prog Q0)(pv:Nat->Value):∀cal A,Z45.C cal=some A->Qj Tryd.prog Q0 pv cal A:=by
 intro cal A h
 unfold Z45.C at h
 cases h
theorem Z45.good (hE:EnvOk Tryd.prog Q0)(pv:Nat->Value)(a0:Int){y:_}(h:Z45.F a0=some y):Qa Tryd.prog Q0 pv (.f 32) (Qb [(.int .u8)] (a0,())) (.t .bool y):=
 Qi hE (Z45.G hE pv) (f:=32) (fn:=Tryd.f32) (by kernel_rfl) rfl (by kernel_rfl) (by kernel_rfl) ((Z45.run a0).trans h) (λr hr=>Q5 hr)
def Z1.l0:Nat->(List Abbr)->ByteArray->Int->Option (Sum Int ((List Abbr)×ByteArray))
 |0,_,_,_=>none
 |k+1,x0,x1,x5=>bif (decide (x5<(x1.size:Int)))then(bif decide (0<=x5)then(bif decide (x5<(x1.size:Int))then((Z45.F (bt x1 (x5:Int).toNat)).bind λr1=>bif (!r1)then(some (.inl (-1)))else(Z1.l0 k x0 x1 (IntKind.wrap .i64 (x5+1))))else none)else none)else(some (.inr (x0,x1)))
def Z1.l2:Nat->(List Abbr)->ByteArray->Int->Int->Option (Sum Int Int)
 |0,_,_,_,_=>none
 |k+1,x0,x6,x7,x8=>bif (decide (x8<(x0.length:Int)))then(bif decide (0<=x8)then(bif decide (x8<(x0.length:Int))then(bif (Qn ((x0.getD (x8:Int).toNat (Q8 .abbr)).word) x6)then(some (.inl x8))else((Z33.F ((x0.getD (x8:Int).toNat (Q8 .abbr)).word) 45).bind λr5=>bif (!Qn r5 ((x0.getD (x8:Int).toNat (Q8 .abbr)).word))then(bif (decide ((r5.size:Int)<=(x6.size:Int)))then(bif decide (0<=(r5.size:Int))then(bif decide ((r5.size:Int)<=(x6.size:Int))then(bif (Qn (x6.extract 0 ((r5.size:Int):Int).toNat) r5)then(bif (decide (x7<0))then(Z1.l2 k x0 x6 x8 (IntKind.wrap .i64 (x8+1)))else(bif decide (0<=x7)then(bif decide (x7<(x0.length:Int))then(bif (decide ((((x0.getD (x8:Int).toNat (Q8 .abbr)).word).size:Int) > (((x0.getD (x7:Int).toNat (Q8 .abbr)).word).size:Int)))then(Z1.l2 k x0 x6 x8 (IntKind.wrap .i64 (x8+1)))else(Z1.l2 k x0 x6 x7 (IntKind.wrap .i64 (x8+1))))else none)else none))else(Z1.l2 k x0 x6 x7 (IntKind.wrap .i64 (x8+1))))else none)else none)else(Z1.l2 k x0 x6 x7 (IntKind.wrap .i64 (x8+1))))else(Z1.l2 k x0 x6 x7 (IntKind.wrap .i64 (x8+1)))))else none)else none)else(some (.inr x7))
def Z1.F (k:Nat)(a0:List Abbr)(a1:ByteArray):Option (Int):=(Z1.l0 k a0 a1 0).bind λy2=>match y2 with|.inl z3=>some z3|.inr z3=>(Z10.F k z3.2).bind λr4=>(Z1.l2 k z3.1 r4 (-1) 0).bind λy6=>match y6 with|.inl z7=>some z7|.inr z7=>some z7
def Z1.C (k:Nat):Cal->Option CArm:=λc=>match c with
 |.f 32=>some (.p [(.int .u8)] _ (λx=>Z45.F x.1) (λr=>(.t .bool r)))
 |.f 33=>some (.p [.str] _ (λx=>Z10.F k x.1) (λr=>(.t .str r)))
 |.f 34=>some (.p [.str,(.int .u8)] _ (λx=>Z33.F x.1 x.2.1) (λr=>(.t .str r)))
 |_=>none
def Z1.sp0:List Sp:=[.t 0 (.sl .abbr),.t 1 .str,.t 5 (.int .i64)]
def Z1.sp0_0:List Sp:=[.t 4 (.int .i64)]
def Z1.sp0_1:List Sp:=[.t 0 (.sl .abbr),.t 1 .str]
def Z1.A0:LArm:=.two Z1.sp0 Z1.sp0_0 Z1.sp0_1 (Int) ((List Abbr)×ByteArray) (λk x=>Z1.l0 k x.1 x.2.1 x.2.2.1) .ret (.exit 0) (λy=>(y,())) (λx=>x.1) (λy=>(y.1,y.2,())) (λx=>(x.1,x.2.1))
def Z1.sp2:List Sp:=[.t 0 (.sl .abbr),.t 6 .str,.t 7 (.int .i64),.t 8 (.int .i64)]
def Z1.sp2_0:List Sp:=[.t 4 (.int .i64)]
def Z1.sp2_1:List Sp:=[.t 7 (.int .i64)]
def Z1.A2:LArm:=.two Z1.sp2 Z1.sp2_0 Z1.sp2_1 (Int) (Int) (λk x=>Z1.l2 k x.1 x.2.1 x.2.2.1 x.2.2.2.1) .ret (.exit 2) (λy=>(y,())) (λx=>x.1) (λy=>(y,())) (λx=>x.1)
def Z1.L:Nat->Option LArm:=λb=>match b with
 |0=>some Z1.A0
 |2=>some Z1.A2
 |_=>none
theorem Z1.run (k:Nat)(a0:List Abbr)(a1:ByteArray):QH Q0 (Qf (Z1.C k)) (Qd 76 k Z1.L) Tryd.f19 [.t (.sl .abbr) a0,.t .str a1] (Qc (.t (.int .i64)))=Z1.F k a0 a1:=by kernel_rfl
theorem Z1.step0 (k:Nat)(x0:List Abbr)(x1:ByteArray)(x5:Int):QN Q0 (Qf (Z1.C k)) (Qd 76 k Z1.L) 0 (Qp Tryd.f19 0) (J8 76 Z1.sp0 (x0,x1,x5,())) (Z1.A0.cont 76 k)=Z1.l0 (k+1) x0 x1 x5:=by kernel_rfl
theorem Z1.step2 (k:Nat)(x0:List Abbr)(x6:ByteArray)(x7:Int)(x8:Int):QN Q0 (Qf (Z1.C k)) (Qd 76 k Z1.L) 2 (Qp Tryd.f19 2) (J8 76 Z1.sp2 (x0,x6,x7,x8,())) (Z1.A2.cont 76 k)=Z1.l2 (k+1) x0 x6 x7 x8:=by kernel_rfl
theorem Z1.G (hE:EnvOk Tryd.prog Q0)(pv:Nat->Value)(k:Nat):∀cal A,Z1.C k cal=some A->Qj Tryd.prog Q0 pv cal A:=by
 intro cal A h
 unfold Z1.C at h
 split at h
 ·cases h;exact λx y hy=>Z45.good hE pv x.1 hy
 ·cases h;exact λx y hy=>Z10.good hE pv k x.1 hy
 ·cases h;exact λx y hy=>Z33.good hE pv x.1 x.2.1 hy
 ·cases h
theorem Z1.good (hE:EnvOk Tryd.prog Q0)(pv:Nat->Value)(k:Nat)(a0:List Abbr)(a1:ByteArray){y:_}(h:Z1.F k a0 a1=some y):Qa Tryd.prog Q0 pv (.f 19) (Qb [(.sl .abbr),.str] (a0,a1,())) (.t (.int .i64) y):=
 Ql hE (t:=Z1.C) k (λk _=>Z1.G hE pv k) (f:=19) (fn:=Tryd.f19) (by kernel_rfl) rfl (by kernel_rfl) (by kernel_rfl) (lt:=Z1.L) (by kernel_rfl) (λb A h=>by
  unfold Z1.L at h;split at h
  ·cases h;exact⟨by kernel_rfl,by kernel_rfl,by kernel_rfl,λ_=>rfl,λ_=>rfl,λ_=>rfl⟩
  ·cases h;exact⟨by kernel_rfl,by kernel_rfl,by kernel_rfl,λ_=>rfl,λ_=>rfl,λ_=>rfl⟩
  ·cases h) (λb A h=>by
  unfold Z1.L at h;split at h
  ·cases h;exact λk x=>Z1.step0 k x.1 x.2.1 x.2.2.1
  ·cases h;exact λk x=>Z1.step2 k x.1 x.2.1 x.2.2.1 x.2.2.2.1
  ·cases h) ((Z1.run k a0 a1).trans h) (λr hr=>Q5 hr)
def Z24.l0:Nat->(List Int)->Int->Int->Option ((List Int)×Int×Int)
 |0,_,_,_=>none
 |k+1,x0,x1,x5=>bif (decide (x5<(x0.length:Int)))then(bif decide (0<=x5)then(bif decide (x5<(x0.length:Int))then(bif (decide ((x0.getD (x5:Int).toNat 0)<x1))then(Z24.l0 k x0 x1 (IntKind.wrap .i64 (x5+1)))else(some (x0,x1,x5)))else none)else none)else(some (x0,x1,x5))
def Z24.F (k:Nat)(a0:List Int)(a1:Int):Option (List Int):=(Z24.l0 k a0 a1 0).bind λy1=>bif (decide (y1.2.2<(y1.1.length:Int)))then(bif decide (0<=y1.2.2)then(bif decide (y1.2.2<(y1.1.length:Int))then(bif ((y1.1.getD (y1.2.2:Int).toNat 0)==y1.2.1)then(some y1.1)else(bif decide (0<=y1.2.2)then(bif decide (y1.2.2<=(y1.1.length:Int))then(bif room (([]:List Int).length+(y1.1.take (y1.2.2:Int).toNat).length) (.int .i64)then(bif room ((([]:List Int)++(y1.1.take (y1.2.2:Int).toNat)).length+([y1.2.1]:List Int).length) (.int .i64)then(bif decide (0<=y1.2.2)then(bif decide (y1.2.2<=(y1.1.length:Int))then(bif room (((([]:List Int)++(y1.1.take (y1.2.2:Int).toNat))++([y1.2.1]:List Int)).length+(y1.1.drop (y1.2.2:Int).toNat).length) (.int .i64)then(some (((([]:List Int)++(y1.1.take (y1.2.2:Int).toNat))++([y1.2.1]:List Int))++(y1.1.drop (y1.2.2:Int).toNat)))else none)else none)else none)else none)else none)else none)else none))else none)else none)else(bif decide (0<=y1.2.2)then(bif decide (y1.2.2<=(y1.1.length:Int))then(bif room (([]:List Int).length+(y1.1.take (y1.2.2:Int).toNat).length) (.int .i64)then(bif room ((([]:List Int)++(y1.1.take (y1.2.2:Int).toNat)).length+([y1.2.1]:List Int).length) (.int .i64)then(bif decide (0<=y1.2.2)then(bif decide (y1.2.2<=(y1.1.length:Int))then(bif room (((([]:List Int)++(y1.1.take (y1.2.2:Int).toNat))++([y1.2.1]:List Int)).length+(y1.1.drop (y1.2.2:Int).toNat).length) (.int .i64)then(some (((([]:List Int)++(y1.1.take (y1.2.2:Int).toNat))++([y1.2.1]:List Int))++(y1.1.drop (y1.2.2:Int).toNat)))else none)else none)else none)else none)else none)else none)else none)
def Z24.C (k:Nat):Cal->Option CArm:=λc=>match c with
 |_=>none
def Z24.sp0:List Sp:=[.t 0 (.sl (.int .i64)),.t 1 (.int .i64),.t 5 (.int .i64)]
def Z24.sp0_0:List Sp:=[.t 0 (.sl (.int .i64)),.t 1 (.int .i64),.t 5 (.int .i64)]
def Z24.A0:LArm:=.one Z24.sp0 Z24.sp0_0 ((List Int)×Int×Int) (λk x=>Z24.l0 k x.1 x.2.1 x.2.2.1) (.exit 0) (λy=>(y.1,y.2.1,y.2.2,())) (λx=>(x.1,x.2.1,x.2.2.1))
def Z24.L:Nat->Option LArm:=λb=>match b with
 |0=>some Z24.A0
 |_=>none
theorem Z24.run (k:Nat)(a0:List Int)(a1:Int):QH Q0 (Qf (Z24.C k)) (Qd 45 k Z24.L) Tryd.f20 [.t (.sl (.int .i64)) a0,.t (.int .i64) a1] (Qc (.t (.sl (.int .i64))))=Z24.F k a0 a1:=by kernel_rfl
theorem Z24.step0 (k:Nat)(x0:List Int)(x1:Int)(x5:Int):QN Q0 (Qf (Z24.C k)) (Qd 45 k Z24.L) 0 (Qp Tryd.f20 0) (J8 45 Z24.sp0 (x0,x1,x5,())) (Z24.A0.cont 45 k)=Z24.l0 (k+1) x0 x1 x5:=by kernel_rfl
theorem Z24.G (hE:EnvOk Tryd.prog Q0)(pv:Nat->Value)(k:Nat):∀cal A,Z24.C k cal=some A->Qj Tryd.prog Q0 pv cal A:=by
 intro cal A h
 unfold Z24.C at h
 cases h
theorem Z24.good (hE:EnvOk Tryd.prog Q0)(pv:Nat->Value)(k:Nat)(a0:List Int)(a1:Int){y:_}(h:Z24.F k a0 a1=some y):Qa Tryd.prog Q0 pv (.f 20) (Qb [(.sl (.int .i64)),(.int .i64)] (a0,a1,())) (.t (.sl (.int .i64)) y):=
 Ql hE (t:=Z24.C) k (λk _=>Z24.G hE pv k) (f:=20) (fn:=Tryd.f20) (by kernel_rfl) rfl (by kernel_rfl) (by kernel_rfl) (lt:=Z24.L) (by kernel_rfl) (λb A h=>by
  unfold Z24.L at h;split at h
  ·cases h;exact⟨by kernel_rfl,by kernel_rfl,λ_=>rfl,λ_=>rfl⟩
  ·cases h) (λb A h=>by
  unfold Z24.L at h;split at h
  ·cases h;exact λk x=>Z24.step0 k x.1 x.2.1 x.2.2.1
  ·cases h) ((Z24.run k a0 a1).trans h) (λr hr=>Q5 hr)
def Z11.l0:Nat->(List Int)->Int->Int->Option (Sum Bool Unit)
 |0,_,_,_=>none
 |k+1,x0,x1,x5=>bif (decide (x5<(x0.length:Int)))then(bif decide (0<=x5)then(bif decide (x5<(x0.length:Int))then(bif ((x0.getD (x5:Int).toNat 0)==x1)then(some (.inl true))else(Z11.l0 k x0 x1 (IntKind.wrap .i64 (x5+1))))else none)else none)else(some (.inr ()))
def Z11.F (k:Nat)(a0:List Int)(a1:Int):Option (Bool):=(Z11.l0 k a0 a1 0).bind λy1=>match y1 with|.inl z2=>some z2|.inr z2=>some false
def Z11.C (k:Nat):Cal->Option CArm:=λc=>match c with
 |_=>none
def Z11.sp0:List Sp:=[.t 0 (.sl (.int .i64)),.t 1 (.int .i64),.t 5 (.int .i64)]
def Z11.sp0_0:List Sp:=[.t 4 .bool]
def Z11.sp0_1:List Sp:=[]
def Z11.A0:LArm:=.two Z11.sp0 Z11.sp0_0 Z11.sp0_1 (Bool) (Unit) (λk x=>Z11.l0 k x.1 x.2.1 x.2.2.1) .ret (.exit 0) (λy=>(y,())) (λx=>x.1) (λy=>()) (λx=>())
def Z11.L:Nat->Option LArm:=λb=>match b with
 |0=>some Z11.A0
 |_=>none
theorem Z11.run (k:Nat)(a0:List Int)(a1:Int):QH Q0 (Qf (Z11.C k)) (Qd 18 k Z11.L) Tryd.f21 [.t (.sl (.int .i64)) a0,.t (.int .i64) a1] (Qc (.t .bool))=Z11.F k a0 a1:=by kernel_rfl
theorem Z11.step0 (k:Nat)(x0:List Int)(x1:Int)(x5:Int):QN Q0 (Qf (Z11.C k)) (Qd 18 k Z11.L) 0 (Qp Tryd.f21 0) (J8 18 Z11.sp0 (x0,x1,x5,())) (Z11.A0.cont 18 k)=Z11.l0 (k+1) x0 x1 x5:=by kernel_rfl
theorem Z11.G (hE:EnvOk Tryd.prog Q0)(pv:Nat->Value)(k:Nat):∀cal A,Z11.C k cal=some A->Qj Tryd.prog Q0 pv cal A:=by
 intro cal A h
 unfold Z11.C at h
 cases h
theorem Z11.good (hE:EnvOk Tryd.prog Q0)(pv:Nat->Value)(k:Nat)(a0:List Int)(a1:Int){y:_}(h:Z11.F k a0 a1=some y):Qa Tryd.prog Q0 pv (.f 21) (Qb [(.sl (.int .i64)),(.int .i64)] (a0,a1,())) (.t .bool y):=
 Ql hE (t:=Z11.C) k (λk _=>Z11.G hE pv k) (f:=21) (fn:=Tryd.f21) (by kernel_rfl) rfl (by kernel_rfl) (by kernel_rfl) (lt:=Z11.L) (by kernel_rfl) (λb A h=>by
  unfold Z11.L at h;split at h
  ·cases h;exact⟨by kernel_rfl,by kernel_rfl,by kernel_rfl,λ_=>rfl,λ_=>rfl,λ_=>rfl⟩
  ·cases h) (λb A h=>by
  unfold Z11.L at h;split at h
  ·cases h;exact λk x=>Z11.step0 k x.1 x.2.1 x.2.2.1
  ·cases h) ((Z11.run k a0 a1).trans h) (λr hr=>Q5 hr)
def Z0.l2:Nat->(List Abbr)->(List ByteArray)->(List ByteArray)->(List Int)->Int->(List ByteArray)->Bool->Int->Option ((List Abbr)× (List ByteArray)× (List ByteArray)× (List Int)×Int)
 |0,_,_,_,_,_,_,_,_=>none
 |k+1,x0,x1,x6,x7,x8,x9,x10,x11=>bif (decide (x11<(x9.length:Int)))then(bif x10 then(bif decide (0<=x11)then(bif decide (x11<(x9.length:Int))then((Z1.F k x0 (x9.getD ((x11:Int).toNat) (⟨#[]⟩:ByteArray))).bind λr4=>bif (decide (r4 ≥ 0))then((Z24.F k x7 r4).bind λr5=>Z0.l2 k x0 x1 x6 r5 x8 x9 x10 (IntKind.wrap .i64 (x11+1)))else(Z0.l2 k x0 x1 x6 x7 x8 x9 x10 (IntKind.wrap .i64 (x11+1))))else none)else none)else(some (x0,x1,x6,x7,x8)))else(some (x0,x1,x6,x7,x8))
def Z0.l0:Nat->(List Abbr)->(List ByteArray)->(List ByteArray)->(List Int)->Int->Option ((List Abbr)× (List ByteArray)× (List Int))
 |0,_,_,_,_,_=>none
 |k+1,x0,x1,x6,x7,x8=>bif (decide (x8<(x1.length:Int)))then(bif decide (0<=x8)then(bif decide (x8<(x1.length:Int))then((Z23.F k (x1.getD (x8:Int).toNat (⟨#[]⟩:ByteArray))).bind λr3=>(Z0.l2 k x0 x1 x6 x7 x8 r3.1 r3.2 0).bind λy6=>Z0.l0 k y6.1 y6.2.1 y6.2.2.1 y6.2.2.2.1 (IntKind.wrap .i64 (y6.2.2.2.2+1)))else none)else none)else(some (x0,x6,x7))
def Z0.l4:Nat->(List Abbr)->(List ByteArray)->(List Int)->Int->Option ((List ByteArray))
 |0,_,_,_,_=>none
 |k+1,x0,x6,x7,x13=>bif (decide (x13<(x0.length:Int)))then((Z11.F k x7 x13).bind λr8=>bif (!r8)then(bif decide (0<=x13)then(bif decide (x13<(x0.length:Int))then(bif room (x6.length+([(x0.getD (x13:Int).toNat (Q8 .abbr)).word]:List ByteArray).length) .str then(Z0.l4 k x0 (x6++([(x0.getD (x13:Int).toNat (Q8 .abbr)).word]:List ByteArray)) x7 (IntKind.wrap .i64 (x13+1)))else none)else none)else none)else(Z0.l4 k x0 x6 x7 (IntKind.wrap .i64 (x13+1))))else(some x6)
def Z0.F (k:Nat)(a0:List Abbr)(a1:List ByteArray):Option ((List ByteArray)×Bool):=(Z3.F k a0).bind λr1=>bif (!r1)then(some (([]:List ByteArray),false))else((Z20.F k a1).bind λr2=>bif (!r2)then(some (([]:List ByteArray),false))else((Z0.l0 k a0 a1 ([]:List ByteArray) ([]:List Int) 0).bind λy7=>(Z0.l4 k y7.1 y7.2.1 y7.2.2 0).bind λy9=>some (y9,true)))
def Z0.C (k:Nat):Cal->Option CArm:=λc=>match c with
 |.f 16=>some (.p [(.sl .abbr)] _ (λx=>Z3.F k x.1) (λr=>(.t .bool r)))
 |.f 17=>some (.p [(.sl .str)] _ (λx=>Z20.F k x.1) (λr=>(.t .bool r)))
 |.f 18=>some (.p [.str] _ (λx=>Z23.F k x.1) (λr=>(.tup [.fr 9 .str r.1,.t .bool r.2])))
 |.f 19=>some (.p [(.sl .abbr),.str] _ (λx=>Z1.F k x.1 x.2.1) (λr=>(.t (.int .i64) r)))
 |.f 20=>some (.p [(.sl (.int .i64)),(.int .i64)] _ (λx=>Z24.F k x.1 x.2.1) (λr=>(.t (.sl (.int .i64)) r)))
 |.f 21=>some (.p [(.sl (.int .i64)),(.int .i64)] _ (λx=>Z11.F k x.1 x.2.1) (λr=>(.t .bool r)))
 |_=>none
def Z0.sp2:List Sp:=[.t 0 (.sl .abbr),.t 1 (.sl .str),.own 6 1024 9 .str false true,.t 7 (.sl (.int .i64)),.t 8 (.int .i64),.own 9 8208 9 .str false true,.t 10 .bool,.t 11 (.int .i64)]
def Z0.sp2_0:List Sp:=[.t 0 (.sl .abbr),.t 1 (.sl .str),.own 6 1024 9 .str false true,.t 7 (.sl (.int .i64)),.t 8 (.int .i64)]
def Z0.A2:LArm:=.one Z0.sp2 Z0.sp2_0 ((List Abbr)× (List ByteArray)× (List ByteArray)× (List Int)×Int) (λk x=>Z0.l2 k x.1 x.2.1 x.2.2.1 x.2.2.2.1 x.2.2.2.2.1 x.2.2.2.2.2.1 x.2.2.2.2.2.2.1 x.2.2.2.2.2.2.2.1) (.exit 2) (λy=>(y.1,y.2.1,y.2.2.1,y.2.2.2.1,y.2.2.2.2,())) (λx=>(x.1,x.2.1,x.2.2.1,x.2.2.2.1,x.2.2.2.2.1))
def Z0.sp0:List Sp:=[.t 0 (.sl .abbr),.t 1 (.sl .str),.own 6 1024 9 .str false true,.rd 7 (.int .i64),.t 8 (.int .i64)]
def Z0.sp0_0:List Sp:=[.t 0 (.sl .abbr),.own 6 1024 9 .str false true,.t 7 (.sl (.int .i64))]
def Z0.A0:LArm:=.one Z0.sp0 Z0.sp0_0 ((List Abbr)× (List ByteArray)× (List Int)) (λk x=>Z0.l0 k x.1 x.2.1 x.2.2.1 x.2.2.2.1 x.2.2.2.2.1) (.exit 0) (λy=>(y.1,y.2.1,y.2.2,())) (λx=>(x.1,x.2.1,x.2.2.1))
def Z0.sp4:List Sp:=[.t 0 (.sl .abbr),.own 6 1024 9 .str false true,.t 7 (.sl (.int .i64)),.t 13 (.int .i64)]
def Z0.sp4_0:List Sp:=[.own 6 1024 9 .str false true]
def Z0.A4:LArm:=.one Z0.sp4 Z0.sp4_0 ((List ByteArray)) (λk x=>Z0.l4 k x.1 x.2.1 x.2.2.1 x.2.2.2.1) (.exit 4) (λy=>(y,())) (λx=>x.1)
def Z0.L:Nat->Option LArm:=λb=>match b with
 |2=>some Z0.A2
 |0=>some Z0.A0
 |4=>some Z0.A4
 |_=>none
theorem Z0.run (k:Nat)(a0:List Abbr)(a1:List ByteArray):QH Q0 (Qf (Z0.C k)) (Qd 78 k Z0.L) Tryd.f6 [.t (.sl .abbr) a0,.t (.sl .str) a1] (Xo (.fr 9 .str) (.t .bool))=Z0.F k a0 a1:=by kernel_rfl
theorem Z0.step2 (k:Nat)(x0:List Abbr)(x1:List ByteArray)(x6:List ByteArray)(x7:List Int)(x8:Int)(x9:List ByteArray)(x10:Bool)(x11:Int):QN Q0 (Qf (Z0.C k)) (Qd 78 k Z0.L) 2 (Qp Tryd.f6 2) (J8 78 Z0.sp2 (x0,x1,x6,x7,x8,x9,x10,x11,())) (Z0.A2.cont 78 k)=Z0.l2 (k+1) x0 x1 x6 x7 x8 x9 x10 x11:=by kernel_rfl
theorem Z0.step0 (k:Nat)(x0:List Abbr)(x1:List ByteArray)(x6:List ByteArray)(x7:List Int)(x8:Int):QN Q0 (Qf (Z0.C k)) (Qd 78 k Z0.L) 0 (Qp Tryd.f6 0) (J8 78 Z0.sp0 (x0,x1,x6,x7,x8,())) (Z0.A0.cont 78 k)=Z0.l0 (k+1) x0 x1 x6 x7 x8:=by kernel_rfl
theorem Z0.step4 (k:Nat)(x0:List Abbr)(x6:List ByteArray)(x7:List Int)(x13:Int):QN Q0 (Qf (Z0.C k)) (Qd 78 k Z0.L) 4 (Qp Tryd.f6 4) (J8 78 Z0.sp4 (x0,x6,x7,x13,())) (Z0.A4.cont 78 k)=Z0.l4 (k+1) x0 x6 x7 x13:=by kernel_rfl
theorem Z0.G (hE:EnvOk Tryd.prog Q0)(pv:Nat->Value)(k:Nat):∀cal A,Z0.C k cal=some A->Qj Tryd.prog Q0 pv cal A:=by
 intro cal A h
 unfold Z0.C at h
 split at h
 ·cases h;exact λx y hy=>Z3.good hE pv k x.1 hy
 ·cases h;exact λx y hy=>Z20.good hE pv k x.1 hy
 ·cases h;exact λx y hy=>Z23.good hE pv k x.1 hy
 ·cases h;exact λx y hy=>Z1.good hE pv k x.1 x.2.1 hy
 ·cases h;exact λx y hy=>Z24.good hE pv k x.1 x.2.1 hy
 ·cases h;exact λx y hy=>Z11.good hE pv k x.1 x.2.1 hy
 ·cases h
theorem Z0.good (hE:EnvOk Tryd.prog Q0)(pv:Nat->Value)(k:Nat)(a0:List Abbr)(a1:List ByteArray){y:_}(h:Z0.F k a0 a1=some y):Qa Tryd.prog Q0 pv (.f 6) (Qb [(.sl .abbr),(.sl .str)] (a0,a1,())) (.tup [.fr 9 .str y.1,.t .bool y.2]):=
 Ql hE (t:=Z0.C) k (λk _=>Z0.G hE pv k) (f:=6) (fn:=Tryd.f6) (by kernel_rfl) rfl (by kernel_rfl) (by kernel_rfl) (lt:=Z0.L) (by kernel_rfl) (λb A h=>by
  unfold Z0.L at h;split at h
  ·cases h;exact⟨by kernel_rfl,by kernel_rfl,λ_=>rfl,λ_=>rfl⟩
  ·cases h;exact⟨by kernel_rfl,by kernel_rfl,λ_=>rfl,λ_=>rfl⟩
  ·cases h;exact⟨by kernel_rfl,by kernel_rfl,λ_=>rfl,λ_=>rfl⟩
  ·cases h) (λb A h=>by
  unfold Z0.L at h;split at h
  ·cases h;exact λk x=>Z0.step2 k x.1 x.2.1 x.2.2.1 x.2.2.2.1 x.2.2.2.2.1 x.2.2.2.2.2.1 x.2.2.2.2.2.2.1 x.2.2.2.2.2.2.2.1
  ·cases h;exact λk x=>Z0.step0 k x.1 x.2.1 x.2.2.1 x.2.2.2.1 x.2.2.2.2.1
  ·cases h;exact λk x=>Z0.step4 k x.1 x.2.1 x.2.2.1 x.2.2.2.1
  ·cases h) ((Z0.run k a0 a1).trans h) (λr hr=>UM hr)
def Z60.F (a0:Abbr):Option (Abbr):=some (⟨a0.word,a0.short⟩:Abbr)
def Z60.C:Cal->Option CArm:=λc=>match c with
 |_=>none
theorem Z60.run (a0:Abbr):QH Q0 (Qf Z60.C) (Qd 11 0 (λ_=>none)) Tryd.f22 [.t .abbr a0] (Qc (.t .abbr))=Z60.F a0:=by kernel_rfl
theorem Z60.G (hE:EnvOk Tryd.prog Q0)(pv:Nat->Value):∀cal A,Z60.C cal=some A->Qj Tryd.prog Q0 pv cal A:=by
 intro cal A h
 unfold Z60.C at h
 cases h
theorem Z60.good (hE:EnvOk Tryd.prog Q0)(pv:Nat->Value)(a0:Abbr){y:_}(h:Z60.F a0=some y):Qa Tryd.prog Q0 pv (.f 22) (Qb [.abbr] (a0,())) (.t .abbr y):=
 Qi hE (Z60.G hE pv) (f:=22) (fn:=Tryd.f22) (by kernel_rfl) rfl (by kernel_rfl) (by kernel_rfl) ((Z60.run a0).trans h) (λr hr=>Q5 hr)
def Z12.l0:Nat->(List Abbr)->(List Abbr)->Int->Option ((List Abbr))
 |0,_,_,_=>none
 |k+1,x0,x3,x4=>bif (decide (x4<(x0.length:Int)))then(bif decide (0<=x4)then(bif decide (x4<(x0.length:Int))then((Z60.F (x0.getD (x4:Int).toNat (Q8 .abbr))).bind λr1=>bif decide (0<=x4)then(bif decide (x4<(x3.length:Int))then(Z12.l0 k x0 (x3.set ((x4:Int).toNat) r1) (IntKind.wrap .i64 (x4+1)))else none)else none)else none)else none)else(some x3)
def Z12.F (k:Nat)(a0:List Abbr):Option (List Abbr):=bif ((a0.length:Int)==(a0.length:Int))then(bif decide (0<=(a0.length:Int))then(bif Nat.ble (((a0.length:Int):Int).toNat*nb .abbr) 140737488355328 then((Z12.l0 k a0 (List.replicate ((a0.length:Int):Int).toNat (Q8 .abbr)) 0).bind λy2=>some y2)else none)else none)else none
def Z12.C (k:Nat):Cal->Option CArm:=λc=>match c with
 |.f 22=>some (.p [.abbr] _ (λx=>Z60.F x.1) (λr=>(.t .abbr r)))
 |_=>none
def Z12.sp0:List Sp:=[.t 0 (.sl .abbr),.own 3 1032 45 .abbr false true,.t 4 (.int .i64)]
def Z12.sp0_0:List Sp:=[.own 3 1032 45 .abbr false true]
def Z12.A0:LArm:=.one Z12.sp0 Z12.sp0_0 ((List Abbr)) (λk x=>Z12.l0 k x.1 x.2.1 x.2.2.1) (.exit 0) (λy=>(y,())) (λx=>x.1)
def Z12.L:Nat->Option LArm:=λb=>match b with
 |0=>some Z12.A0
 |_=>none
theorem Z12.run (k:Nat)(a0:List Abbr):QH Q0 (Qf (Z12.C k)) (Qd 23 k Z12.L) Tryd.f7 [.t (.sl .abbr) a0] (Qc (.fr 45 .abbr))=Z12.F k a0:=by kernel_rfl
theorem Z12.step0 (k:Nat)(x0:List Abbr)(x3:List Abbr)(x4:Int):QN Q0 (Qf (Z12.C k)) (Qd 23 k Z12.L) 0 (Qp Tryd.f7 0) (J8 23 Z12.sp0 (x0,x3,x4,())) (Z12.A0.cont 23 k)=Z12.l0 (k+1) x0 x3 x4:=by kernel_rfl
theorem Z12.G (hE:EnvOk Tryd.prog Q0)(pv:Nat->Value)(k:Nat):∀cal A,Z12.C k cal=some A->Qj Tryd.prog Q0 pv cal A:=by
 intro cal A h
 unfold Z12.C at h
 split at h
 ·cases h;exact λx y hy=>Z60.good hE pv x.1 hy
 ·cases h
theorem Z12.good (hE:EnvOk Tryd.prog Q0)(pv:Nat->Value)(k:Nat)(a0:List Abbr){y:_}(h:Z12.F k a0=some y):Qa Tryd.prog Q0 pv (.f 7) (Qb [(.sl .abbr)] (a0,())) (.fr 45 .abbr y):=
 Ql hE (t:=Z12.C) k (λk _=>Z12.G hE pv k) (f:=7) (fn:=Tryd.f7) (by kernel_rfl) rfl (by kernel_rfl) (by kernel_rfl) (lt:=Z12.L) (by kernel_rfl) (λb A h=>by
  unfold Z12.L at h;split at h
  ·cases h;exact⟨by kernel_rfl,by kernel_rfl,λ_=>rfl,λ_=>rfl⟩
  ·cases h) (λb A h=>by
  unfold Z12.L at h;split at h
  ·cases h;exact λk x=>Z12.step0 k x.1 x.2.1 x.2.2.1
  ·cases h) ((Z12.run k a0).trans h) (λr hr=>Q5 hr)
def Z13.l0:Nat->(List ByteArray)->(List ByteArray)->Int->Option ((List ByteArray))
 |0,_,_,_=>none
 |k+1,x0,x3,x4=>bif (decide (x4<(x0.length:Int)))then(bif decide (0<=x4)then(bif decide (x4<(x0.length:Int))then(bif decide (0<=x4)then(bif decide (x4<(x3.length:Int))then(Z13.l0 k x0 (x3.set ((x4:Int).toNat) (x0.getD (x4:Int).toNat (⟨#[]⟩:ByteArray))) (IntKind.wrap .i64 (x4+1)))else none)else none)else none)else none)else(some x3)
def Z13.F (k:Nat)(a0:List ByteArray):Option (List ByteArray):=bif ((a0.length:Int)==(a0.length:Int))then(bif decide (0<=(a0.length:Int))then(bif Nat.ble (((a0.length:Int):Int).toNat*nb .str) 140737488355328 then((Z13.l0 k a0 (List.replicate ((a0.length:Int):Int).toNat (⟨#[]⟩:ByteArray)) 0).bind λy1=>some y1)else none)else none)else none
def Z13.C (k:Nat):Cal->Option CArm:=λc=>match c with
 |_=>none
def Z13.sp0:List Sp:=[.t 0 (.sl .str),.own 3 1032 9 .str false true,.t 4 (.int .i64)]
def Z13.sp0_0:List Sp:=[.own 3 1032 9 .str false true]
def Z13.A0:LArm:=.one Z13.sp0 Z13.sp0_0 ((List ByteArray)) (λk x=>Z13.l0 k x.1 x.2.1 x.2.2.1) (.exit 0) (λy=>(y,())) (λx=>x.1)
def Z13.L:Nat->Option LArm:=λb=>match b with
 |0=>some Z13.A0
 |_=>none
theorem Z13.run (k:Nat)(a0:List ByteArray):QH Q0 (Qf (Z13.C k)) (Qd 22 k Z13.L) Tryd.f8 [.t (.sl .str) a0] (Qc (.fr 9 .str))=Z13.F k a0:=by kernel_rfl
theorem Z13.step0 (k:Nat)(x0:List ByteArray)(x3:List ByteArray)(x4:Int):QN Q0 (Qf (Z13.C k)) (Qd 22 k Z13.L) 0 (Qp Tryd.f8 0) (J8 22 Z13.sp0 (x0,x3,x4,())) (Z13.A0.cont 22 k)=Z13.l0 (k+1) x0 x3 x4:=by kernel_rfl
theorem Z13.G (hE:EnvOk Tryd.prog Q0)(pv:Nat->Value)(k:Nat):∀cal A,Z13.C k cal=some A->Qj Tryd.prog Q0 pv cal A:=by
 intro cal A h
 unfold Z13.C at h
 cases h
theorem Z13.good (hE:EnvOk Tryd.prog Q0)(pv:Nat->Value)(k:Nat)(a0:List ByteArray){y:_}(h:Z13.F k a0=some y):Qa Tryd.prog Q0 pv (.f 8) (Qb [(.sl .str)] (a0,())) (.fr 9 .str y):=
 Ql hE (t:=Z13.C) k (λk _=>Z13.G hE pv k) (f:=8) (fn:=Tryd.f8) (by kernel_rfl) rfl (by kernel_rfl) (by kernel_rfl) (lt:=Z13.L) (by kernel_rfl) (λb A h=>by
  unfold Z13.L at h;split at h
  ·cases h;exact⟨by kernel_rfl,by kernel_rfl,λ_=>rfl,λ_=>rfl⟩
  ·cases h) (λb A h=>by
  unfold Z13.L at h;split at h
  ·cases h;exact λk x=>Z13.step0 k x.1 x.2.1 x.2.2.1
  ·cases h) ((Z13.run k a0).trans h) (λr hr=>Q5 hr)
def Z37.F (a0:ByteArray)(a1:ByteArray):Option (Bool):=bif (decide ((a0.size:Int) ≥ (a1.size:Int)))then(bif decide (0<=(IntKind.wrap .i64 ((a0.size:Int)-(a1.size:Int))))then(bif decide ((IntKind.wrap .i64 ((a0.size:Int)-(a1.size:Int)))<=(a0.size:Int))then(some (Qn (a0.extract ((IntKind.wrap .i64 ((a0.size:Int)-(a1.size:Int))):Int).toNat a0.size) a1))else none)else none)else(some false)
def Z37.C:Cal->Option CArm:=λc=>match c with
 |_=>none
theorem Z37.run (a0:ByteArray)(a1:ByteArray):QH Q0 (Qf Z37.C) (Qd 21 0 (λ_=>none)) Tryd.f64 [.t .str a0,.t .str a1] (Qc (.t .bool))=Z37.F a0 a1:=by kernel_rfl
theorem Z37.G (hE:EnvOk Tryd.prog Q0)(pv:Nat->Value):∀cal A,Z37.C cal=some A->Qj Tryd.prog Q0 pv cal A:=by
 intro cal A h
 unfold Z37.C at h
 cases h
theorem Z37.good (hE:EnvOk Tryd.prog Q0)(pv:Nat->Value)(a0:ByteArray)(a1:ByteArray){y:_}(h:Z37.F a0 a1=some y):Qa Tryd.prog Q0 pv (.f 64) (Qb [.str,.str] (a0,a1,())) (.t .bool y):=
 Qi hE (Z37.G hE pv) (f:=64) (fn:=Tryd.f64) (by kernel_rfl) rfl (by kernel_rfl) (by kernel_rfl) ((Z37.run a0 a1).trans h) (λr hr=>Q5 hr)
def Z55.F (a0:ByteArray)(a1:ByteArray):Option (ByteArray):=(Z37.F a0 a1).bind λr1=>bif r1 then(bif decide (0<=(IntKind.wrap .i64 ((a0.size:Int)-(a1.size:Int))))then(bif decide ((IntKind.wrap .i64 ((a0.size:Int)-(a1.size:Int)))<=(a0.size:Int))then(some (a0.extract 0 ((IntKind.wrap .i64 ((a0.size:Int)-(a1.size:Int))):Int).toNat))else none)else none)else(some a0)
def Z55.C:Cal->Option CArm:=λc=>match c with
 |.f 64=>some (.p [.str,.str] _ (λx=>Z37.F x.1 x.2.1) (λr=>(.t .bool r)))
 |_=>none
theorem Z55.run (a0:ByteArray)(a1:ByteArray):QH Q0 (Qf Z55.C) (Qd 16 0 (λ_=>none)) Tryd.f65 [.t .str a0,.t .str a1] (Qc (.t .str))=Z55.F a0 a1:=by kernel_rfl
theorem Z55.G (hE:EnvOk Tryd.prog Q0)(pv:Nat->Value):∀cal A,Z55.C cal=some A->Qj Tryd.prog Q0 pv cal A:=by
 intro cal A h
 unfold Z55.C at h
 split at h
 ·cases h;exact λx y hy=>Z37.good hE pv x.1 x.2.1 hy
 ·cases h
theorem Z55.good (hE:EnvOk Tryd.prog Q0)(pv:Nat->Value)(a0:ByteArray)(a1:ByteArray){y:_}(h:Z55.F a0 a1=some y):Qa Tryd.prog Q0 pv (.f 65) (Qb [.str,.str] (a0,a1,())) (.t .str y):=
 Qi hE (Z55.G hE pv) (f:=65) (fn:=Tryd.f65) (by kernel_rfl) rfl (by kernel_rfl) (by kernel_rfl) ((Z55.run a0 a1).trans h) (λr hr=>Q5 hr)
def Z46.F (a0:ByteArray)(a1:ByteArray):Option (ByteArray):=(Z55.F a0 a1).bind λr1=>some r1
def Z46.C:Cal->Option CArm:=λc=>match c with
 |.f 65=>some (.p [.str,.str] _ (λx=>Z55.F x.1 x.2.1) (λr=>(.t .str r)))
 |_=>none
theorem Z46.run (a0:ByteArray)(a1:ByteArray):QH Q0 (Qf Z46.C) (Qd 8 0 (λ_=>none)) Tryd.f59 [.t .str a0,.t .str a1] (Qc (.t .str))=Z46.F a0 a1:=by kernel_rfl
theorem Z46.G (hE:EnvOk Tryd.prog Q0)(pv:Nat->Value):∀cal A,Z46.C cal=some A->Qj Tryd.prog Q0 pv cal A:=by
 intro cal A h
 unfold Z46.C at h
 split at h
 ·cases h;exact λx y hy=>Z55.good hE pv x.1 x.2.1 hy
 ·cases h
theorem Z46.good (hE:EnvOk Tryd.prog Q0)(pv:Nat->Value)(a0:ByteArray)(a1:ByteArray){y:_}(h:Z46.F a0 a1=some y):Qa Tryd.prog Q0 pv (.f 59) (Qb [.str,.str] (a0,a1,())) (.t .str y):=
 Qi hE (Z46.G hE pv) (f:=59) (fn:=Tryd.f59) (by kernel_rfl) rfl (by kernel_rfl) (by kernel_rfl) ((Z46.run a0 a1).trans h) (λr hr=>Q5 hr)
def Z34.F (a0:Int):Option (Bool):=bif (decide (a0 ≥ 97))then(some (decide (a0<=122)))else(some false)
def Z34.C:Cal->Option CArm:=λc=>match c with
 |_=>none
theorem Z34.run (a0:Int):QH Q0 (Qf Z34.C) (Qd 9 0 (λ_=>none)) Tryd.f60 [.t (.int .u8) a0] (Qc (.t .bool))=Z34.F a0:=by kernel_rfl
theorem Z34.G (hE:EnvOk Tryd.prog Q0)(pv:Nat->Value):∀cal A,Z34.C cal=some A->Qj Tryd.prog Q0 pv cal A:=by
 intro cal A h
 unfold Z34.C at h
 cases h
theorem Z34.good (hE:EnvOk Tryd.prog Q0)(pv:Nat->Value)(a0:Int){y:_}(h:Z34.F a0=some y):Qa Tryd.prog Q0 pv (.f 60) (Qb [(.int .u8)] (a0,())) (.t .bool y):=
 Qi hE (Z34.G hE pv) (f:=60) (fn:=Tryd.f60) (by kernel_rfl) rfl (by kernel_rfl) (by kernel_rfl) ((Z34.run a0).trans h) (λr hr=>Q5 hr)
def Z47.F (a0:Int)(a1:Int)(a2:Int):Option (Bool):=bif (decide (a0 ≥ a1))then(some (decide (a0<=a2)))else(some false)
def Z47.C:Cal->Option CArm:=λc=>match c with
 |_=>none
theorem Z47.run (a0:Int)(a1:Int)(a2:Int):QH Q0 (Qf Z47.C) (Qd 15 0 (λ_=>none)) Tryd.f61 [.t (.int .i64) a0,.t (.int .i64) a1,.t (.int .i64) a2] (Qc (.t .bool))=Z47.F a0 a1 a2:=by kernel_rfl
theorem Z47.G (hE:EnvOk Tryd.prog Q0)(pv:Nat->Value):∀cal A,Z47.C cal=some A->Qj Tryd.prog Q0 pv cal A:=by
 intro cal A h
 unfold Z47.C at h
 cases h
theorem Z47.good (hE:EnvOk Tryd.prog Q0)(pv:Nat->Value)(a0:Int)(a1:Int)(a2:Int){y:_}(h:Z47.F a0 a1 a2=some y):Qa Tryd.prog Q0 pv (.f 61) (Qb [(.int .i64),(.int .i64),(.int .i64)] (a0,a1,a2,())) (.t .bool y):=
 Qi hE (Z47.G hE pv) (f:=61) (fn:=Tryd.f61) (by kernel_rfl) rfl (by kernel_rfl) (by kernel_rfl) ((Z47.run a0 a1 a2).trans h) (λr hr=>Q5 hr)
def Z14.l0:Nat->ByteArray->Int->Int->Int->Option (Sum Bool (ByteArray×Int×Int))
 |0,_,_,_,_=>none
 |k+1,x0,x1,x2,x9=>bif (decide (x9<(x0.size:Int)))then(bif decide (0<=x9)then(bif decide (x9<(x0.size:Int))then((Z34.F (bt x0 (x9:Int).toNat)).bind λr2=>bif (!r2)then(some (.inl false))else(Z14.l0 k x0 x1 x2 (IntKind.wrap .i64 (x9+1))))else none)else none)else(some (.inr (x0,x1,x2)))
def Z14.F (k:Nat)(a0:ByteArray)(a1:Int)(a2:Int)(a3:ByteArray):Option (Bool):=(Z46.F a0 a3).bind λr1=>(Z14.l0 k r1 a1 a2 0).bind λy3=>match y3 with|.inl z4=>some z4|.inr z4=>(Z47.F (z4.1.size:Int) z4.2.1 z4.2.2).bind λr5=>some r5
def Z14.C (k:Nat):Cal->Option CArm:=λc=>match c with
 |.f 59=>some (.p [.str,.str] _ (λx=>Z46.F x.1 x.2.1) (λr=>(.t .str r)))
 |.f 60=>some (.p [(.int .u8)] _ (λx=>Z34.F x.1) (λr=>(.t .bool r)))
 |.f 61=>some (.p [(.int .i64),(.int .i64),(.int .i64)] _ (λx=>Z47.F x.1 x.2.1 x.2.2.1) (λr=>(.t .bool r)))
 |_=>none
def Z14.sp0:List Sp:=[.t 0 .str,.t 1 (.int .i64),.t 2 (.int .i64),.t 9 (.int .i64)]
def Z14.sp0_0:List Sp:=[.t 8 .bool]
def Z14.sp0_1:List Sp:=[.t 0 .str,.t 1 (.int .i64),.t 2 (.int .i64)]
def Z14.A0:LArm:=.two Z14.sp0 Z14.sp0_0 Z14.sp0_1 (Bool) (ByteArray×Int×Int) (λk x=>Z14.l0 k x.1 x.2.1 x.2.2.1 x.2.2.2.1) .ret (.exit 0) (λy=>(y,())) (λx=>x.1) (λy=>(y.1,y.2.1,y.2.2,())) (λx=>(x.1,x.2.1,x.2.2.1))
def Z14.L:Nat->Option LArm:=λb=>match b with
 |0=>some Z14.A0
 |_=>none
theorem Z14.run (k:Nat)(a0:ByteArray)(a1:Int)(a2:Int)(a3:ByteArray):QH Q0 (Qf (Z14.C k)) (Qd 29 k Z14.L) Tryd.f49 [.t .str a0,.t (.int .i64) a1,.t (.int .i64) a2,.t .str a3] (Qc (.t .bool))=Z14.F k a0 a1 a2 a3:=by kernel_rfl
theorem Z14.step0 (k:Nat)(x0:ByteArray)(x1:Int)(x2:Int)(x9:Int):QN Q0 (Qf (Z14.C k)) (Qd 29 k Z14.L) 0 (Qp Tryd.f49 0) (J8 29 Z14.sp0 (x0,x1,x2,x9,())) (Z14.A0.cont 29 k)=Z14.l0 (k+1) x0 x1 x2 x9:=by kernel_rfl
theorem Z14.G (hE:EnvOk Tryd.prog Q0)(pv:Nat->Value)(k:Nat):∀cal A,Z14.C k cal=some A->Qj Tryd.prog Q0 pv cal A:=by
 intro cal A h
 unfold Z14.C at h
 split at h
 ·cases h;exact λx y hy=>Z46.good hE pv x.1 x.2.1 hy
 ·cases h;exact λx y hy=>Z34.good hE pv x.1 hy
 ·cases h;exact λx y hy=>Z47.good hE pv x.1 x.2.1 x.2.2.1 hy
 ·cases h
theorem Z14.good (hE:EnvOk Tryd.prog Q0)(pv:Nat->Value)(k:Nat)(a0:ByteArray)(a1:Int)(a2:Int)(a3:ByteArray){y:_}(h:Z14.F k a0 a1 a2 a3=some y):Qa Tryd.prog Q0 pv (.f 49) (Qb [.str,(.int .i64),(.int .i64),.str] (a0,a1,a2,a3,())) (.t .bool y):=
 Ql hE (t:=Z14.C) k (λk _=>Z14.G hE pv k) (f:=49) (fn:=Tryd.f49) (by kernel_rfl) rfl (by kernel_rfl) (by kernel_rfl) (lt:=Z14.L) (by kernel_rfl) (λb A h=>by
  unfold Z14.L at h;split at h
  ·cases h;exact⟨by kernel_rfl,by kernel_rfl,by kernel_rfl,λ_=>rfl,λ_=>rfl,λ_=>rfl⟩
  ·cases h) (λb A h=>by
  unfold Z14.L at h;split at h
  ·cases h;exact λk x=>Z14.step0 k x.1 x.2.1 x.2.2.1 x.2.2.2.1
  ·cases h) ((Z14.run k a0 a1 a2 a3).trans h) (λr hr=>Q5 hr)
def Z15.l0:Nat->(List Abbr)->(List Abbr)->Int->Int->Option (Sum Bool (List Abbr))
 |0,_,_,_,_=>none
 |k+1,x0,x5,x6,x7=>bif (decide (x7<x6))then(bif decide (0<=x7)then(bif decide (x7<(x5.length:Int))then((Z14.F k ((x5.getD (x7:Int).toNat (Q8 .abbr)).word) 2 15 (⟨#[45]⟩:ByteArray)).bind λr1=>bif (!r1)then(some (.inl false))else((Z14.F k ((x5.getD (x7:Int).toNat (Q8 .abbr)).short) 1 12 (⟨#[46]⟩:ByteArray)).bind λr2=>bif (!r2)then(some (.inl false))else(bif (decide (x7 > 0))then(bif decide (0<=(IntKind.wrap .i64 (x7-1)))then(bif decide ((IntKind.wrap .i64 (x7-1))<(x0.length:Int))then(bif (!ltS ((x0.getD ((IntKind.wrap .i64 (x7-1)):Int).toNat (Q8 .abbr)).word) ((x5.getD (x7:Int).toNat (Q8 .abbr)).word))then(some (.inl false))else(Z15.l0 k x0 x5 x6 (IntKind.wrap .i64 (x7+1))))else none)else none)else(Z15.l0 k x0 x5 x6 (IntKind.wrap .i64 (x7+1))))))else none)else none)else(some (.inr x0))
def Z15.F (k:Nat)(a0:List Abbr):Option (Bool):=(Z15.l0 k a0 a0 (a0.length:Int) 0).bind λy3=>match y3 with|.inl z4=>some z4|.inr z4=>some (decide ((z4.length:Int)<=15))
def Z15.C (k:Nat):Cal->Option CArm:=λc=>match c with
 |.f 49=>some (.p [.str,(.int .i64),(.int .i64),.str] _ (λx=>Z14.F k x.1 x.2.1 x.2.2.1 x.2.2.2.1) (λr=>(.t .bool r)))
 |_=>none
def Z15.sp0:List Sp:=[.t 0 (.sl .abbr),.t 5 (.sl .abbr),.t 6 (.int .i64),.t 7 (.int .i64)]
def Z15.sp0_0:List Sp:=[.t 2 .bool]
def Z15.sp0_1:List Sp:=[.t 0 (.sl .abbr)]
def Z15.A0:LArm:=.two Z15.sp0 Z15.sp0_0 Z15.sp0_1 (Bool) ((List Abbr)) (λk x=>Z15.l0 k x.1 x.2.1 x.2.2.1 x.2.2.2.1) .ret (.exit 0) (λy=>(y,())) (λx=>x.1) (λy=>(y,())) (λx=>x.1)
def Z15.L:Nat->Option LArm:=λb=>match b with
 |0=>some Z15.A0
 |_=>none
theorem Z15.run (k:Nat)(a0:List Abbr):QH Q0 (Qf (Z15.C k)) (Qd 41 k Z15.L) Tryd.f35 [.t (.sl .abbr) a0] (Qc (.t .bool))=Z15.F k a0:=by kernel_rfl
theorem Z15.step0 (k:Nat)(x0:List Abbr)(x5:List Abbr)(x6:Int)(x7:Int):QN Q0 (Qf (Z15.C k)) (Qd 41 k Z15.L) 0 (Qp Tryd.f35 0) (J8 41 Z15.sp0 (x0,x5,x6,x7,())) (Z15.A0.cont 41 k)=Z15.l0 (k+1) x0 x5 x6 x7:=by kernel_rfl
theorem Z15.G (hE:EnvOk Tryd.prog Q0)(pv:Nat->Value)(k:Nat):∀cal A,Z15.C k cal=some A->Qj Tryd.prog Q0 pv cal A:=by
 intro cal A h
 unfold Z15.C at h
 split at h
 ·cases h;exact λx y hy=>Z14.good hE pv k x.1 x.2.1 x.2.2.1 x.2.2.2.1 hy
 ·cases h
theorem Z15.good (hE:EnvOk Tryd.prog Q0)(pv:Nat->Value)(k:Nat)(a0:List Abbr){y:_}(h:Z15.F k a0=some y):Qa Tryd.prog Q0 pv (.f 35) (Qb [(.sl .abbr)] (a0,())) (.t .bool y):=
 Ql hE (t:=Z15.C) k (λk _=>Z15.G hE pv k) (f:=35) (fn:=Tryd.f35) (by kernel_rfl) rfl (by kernel_rfl) (by kernel_rfl) (lt:=Z15.L) (by kernel_rfl) (λb A h=>by
  unfold Z15.L at h;split at h
  ·cases h;exact⟨by kernel_rfl,by kernel_rfl,by kernel_rfl,λ_=>rfl,λ_=>rfl,λ_=>rfl⟩
  ·cases h) (λb A h=>by
  unfold Z15.L at h;split at h
  ·cases h;exact λk x=>Z15.step0 k x.1 x.2.1 x.2.2.1 x.2.2.2.1
  ·cases h) ((Z15.run k a0).trans h) (λr hr=>Q5 hr)
def Z62.F (a0:ByteArray)(a1:ByteArray):Option (ByteArray):=Q1l a0 a1
theorem Z62.good (hE:EnvOk Tryd.prog Q0)(pv:Nat->Value)(a0:ByteArray)(a1:ByteArray){y:_}(h:Z62.F a0 a1=some y):Qa Tryd.prog Q0 pv (.f 62) (Qb [.str,.str] (a0,a1,())) (.t .str y):=
 Q59 (fn:=Tryd.f62) (by kernel_rfl) rfl (by kernel_rfl) Tryd.strings_Trim_one h
def Z25.l0:Nat->ByteArray->Int->Option (Sum Bool ByteArray)
 |0,_,_=>none
 |k+1,x0,x3=>bif (decide (x3<(x0.size:Int)))then(bif decide (0<=x3)then(bif decide (x3<(x0.size:Int))then(bif (decide ((bt x0 (x3:Int).toNat)<32))then(some (.inl false))else(bif decide (0<=x3)then(bif decide (x3<(x0.size:Int))then(bif (decide ((bt x0 (x3:Int).toNat) > 126))then(some (.inl false))else(Z25.l0 k x0 (IntKind.wrap .i64 (x3+1))))else none)else none))else none)else none)else(some (.inr x0))
def Z25.F (k:Nat)(a0:ByteArray):Option (Bool):=(Z25.l0 k a0 0).bind λy1=>match y1 with|.inl z2=>some z2|.inr z2=>(Z62.F z2 (⟨#[32]⟩:ByteArray)).bind λr3=>some (Qn r3 z2)
def Z25.C (k:Nat):Cal->Option CArm:=λc=>match c with
 |.f 62=>some (.p [.str,.str] _ (λx=>Z62.F x.1 x.2.1) (λr=>(.t .str r)))
 |_=>none
def Z25.sp0:List Sp:=[.t 0 .str,.t 3 (.int .i64)]
def Z25.sp0_0:List Sp:=[.t 2 .bool]
def Z25.sp0_1:List Sp:=[.t 0 .str]
def Z25.A0:LArm:=.two Z25.sp0 Z25.sp0_0 Z25.sp0_1 (Bool) (ByteArray) (λk x=>Z25.l0 k x.1 x.2.1) .ret (.exit 0) (λy=>(y,())) (λx=>x.1) (λy=>(y,())) (λx=>x.1)
def Z25.L:Nat->Option LArm:=λb=>match b with
 |0=>some Z25.A0
 |_=>none
theorem Z25.run (k:Nat)(a0:ByteArray):QH Q0 (Qf (Z25.C k)) (Qd 24 k Z25.L) Tryd.f51 [.t .str a0] (Qc (.t .bool))=Z25.F k a0:=by kernel_rfl
theorem Z25.step0 (k:Nat)(x0:ByteArray)(x3:Int):QN Q0 (Qf (Z25.C k)) (Qd 24 k Z25.L) 0 (Qp Tryd.f51 0) (J8 24 Z25.sp0 (x0,x3,())) (Z25.A0.cont 24 k)=Z25.l0 (k+1) x0 x3:=by kernel_rfl
theorem Z25.G (hE:EnvOk Tryd.prog Q0)(pv:Nat->Value)(k:Nat):∀cal A,Z25.C k cal=some A->Qj Tryd.prog Q0 pv cal A:=by
 intro cal A h
 unfold Z25.C at h
 split at h
 ·cases h;exact λx y hy=>Z62.good hE pv x.1 x.2.1 hy
 ·cases h
theorem Z25.good (hE:EnvOk Tryd.prog Q0)(pv:Nat->Value)(k:Nat)(a0:ByteArray){y:_}(h:Z25.F k a0=some y):Qa Tryd.prog Q0 pv (.f 51) (Qb [.str] (a0,())) (.t .bool y):=
 Ql hE (t:=Z25.C) k (λk _=>Z25.G hE pv k) (f:=51) (fn:=Tryd.f51) (by kernel_rfl) rfl (by kernel_rfl) (by kernel_rfl) (lt:=Z25.L) (by kernel_rfl) (λb A h=>by
  unfold Z25.L at h;split at h
  ·cases h;exact⟨by kernel_rfl,by kernel_rfl,by kernel_rfl,λ_=>rfl,λ_=>rfl,λ_=>rfl⟩
  ·cases h) (λb A h=>by
  unfold Z25.L at h;split at h
  ·cases h;exact λk x=>Z25.step0 k x.1 x.2.1
  ·cases h) ((Z25.run k a0).trans h) (λr hr=>Q5 hr)
def Z48.F (k:Nat)(a0:ByteArray):Option (Bool):=bif (decide ((a0.size:Int)<=40))then((Z25.F k a0).bind λr1=>some r1)else(some false)
def Z48.C (k:Nat):Cal->Option CArm:=λc=>match c with
 |.f 51=>some (.p [.str] _ (λx=>Z25.F k x.1) (λr=>(.t .bool r)))
 |_=>none
theorem Z48.run (k:Nat)(a0:ByteArray):QH Q0 (Qf (Z48.C k)) (Qd 10 0 (λ_=>none)) Tryd.f38 [.t .str a0] (Qc (.t .bool))=Z48.F k a0:=by kernel_rfl
theorem Z48.G (hE:EnvOk Tryd.prog Q0)(pv:Nat->Value)(k:Nat):∀cal A,Z48.C k cal=some A->Qj Tryd.prog Q0 pv cal A:=by
 intro cal A h
 unfold Z48.C at h
 split at h
 ·cases h;exact λx y hy=>Z25.good hE pv k x.1 hy
 ·cases h
theorem Z48.good (hE:EnvOk Tryd.prog Q0)(pv:Nat->Value)(k:Nat)(a0:ByteArray){y:_}(h:Z48.F k a0=some y):Qa Tryd.prog Q0 pv (.f 38) (Qb [.str] (a0,())) (.t .bool y):=
 Qi hE (Z48.G hE pv k) (f:=38) (fn:=Tryd.f38) (by kernel_rfl) rfl (by kernel_rfl) (by kernel_rfl) ((Z48.run k a0).trans h) (λr hr=>Q5 hr)
def Z38.F (k:Nat)(a0:ByteArray):Option (Bool):=(Z48.F k a0).bind λr1=>some (!r1)
def Z38.C (k:Nat):Cal->Option CArm:=λc=>match c with
 |.f 38=>some (.p [.str] _ (λx=>Z48.F k x.1) (λr=>(.t .bool r)))
 |_=>none
theorem Z38.run (k:Nat)(a0:ByteArray):QH Q0 (Qf (Z38.C k)) (Qd 6 0 (λ_=>none)) Tryd.f37 [.t .str a0] (Qc (.t .bool))=Z38.F k a0:=by kernel_rfl
theorem Z38.G (hE:EnvOk Tryd.prog Q0)(pv:Nat->Value)(k:Nat):∀cal A,Z38.C k cal=some A->Qj Tryd.prog Q0 pv cal A:=by
 intro cal A h
 unfold Z38.C at h
 split at h
 ·cases h;exact λx y hy=>Z48.good hE pv k x.1 hy
 ·cases h
theorem Z38.good (hE:EnvOk Tryd.prog Q0)(pv:Nat->Value)(k:Nat)(a0:ByteArray){y:_}(h:Z38.F k a0=some y):Qa Tryd.prog Q0 pv (.f 37) (Qb [.str] (a0,())) (.t .bool y):=
 Qi hE (Z38.G hE pv k) (f:=37) (fn:=Tryd.f37) (by kernel_rfl) rfl (by kernel_rfl) (by kernel_rfl) ((Z38.run k a0).trans h) (λr hr=>Q5 hr)
def Z26.l0:Nat->(List ByteArray)->Int->Int->Option (Sum Int Unit)
 |0,_,_,_=>none
 |k+1,x0,x7,x8=>bif (decide (x8<x7))then(bif decide (0<=x8)then(bif decide (x8<(x0.length:Int))then((Z38.F k (x0.getD (x8:Int).toNat (⟨#[]⟩:ByteArray))).bind λr1=>bif r1 then(some (.inl x8))else(Z26.l0 k x0 x7 (IntKind.wrap .i64 (x8+1))))else none)else none)else(some (.inr ()))
def Z26.F (k:Nat)(a0:List ByteArray):Option (Int):=(Z26.l0 k a0 (a0.length:Int) 0).bind λy2=>match y2 with|.inl z3=>some z3|.inr z3=>some (-1)
def Z26.C (k:Nat):Cal->Option CArm:=λc=>match c with
 |.f 37=>some (.p [.str] _ (λx=>Z38.F k x.1) (λr=>(.t .bool r)))
 |_=>none
def Z26.sp0:List Sp:=[.t 0 (.sl .str),.con 1 (.clo 37),.t 7 (.int .i64),.t 8 (.int .i64)]
def Z26.sp0_0:List Sp:=[.t 4 (.int .i64)]
def Z26.sp0_1:List Sp:=[]
def Z26.A0:LArm:=.two Z26.sp0 Z26.sp0_0 Z26.sp0_1 (Int) (Unit) (λk x=>Z26.l0 k x.1 x.2.2.1 x.2.2.2.1) .ret (.exit 0) (λy=>(y,())) (λx=>x.1) (λy=>()) (λx=>())
def Z26.L:Nat->Option LArm:=λb=>match b with
 |0=>some Z26.A0
 |_=>none
theorem Z26.run (k:Nat)(a0:List ByteArray):QH Q0 (Qf (Z26.C k)) (Qd 19 k Z26.L) Tryd.f50 [.t (.sl .str) a0,.clo 37 []] (Qc (.t (.int .i64)))=Z26.F k a0:=by kernel_rfl
theorem Z26.step0 (k:Nat)(x0:List ByteArray)(x7:Int)(x8:Int):QN Q0 (Qf (Z26.C k)) (Qd 19 k Z26.L) 0 (Qp Tryd.f50 0) (J8 19 Z26.sp0 (x0,(),x7,x8,())) (Z26.A0.cont 19 k)=Z26.l0 (k+1) x0 x7 x8:=by kernel_rfl
theorem Z26.G (hE:EnvOk Tryd.prog Q0)(pv:Nat->Value)(k:Nat):∀cal A,Z26.C k cal=some A->Qj Tryd.prog Q0 pv cal A:=by
 intro cal A h
 unfold Z26.C at h
 split at h
 ·cases h;exact λx y hy=>Z38.good hE pv k x.1 hy
 ·cases h
theorem Z26.good (hE:EnvOk Tryd.prog Q0)(pv:Nat->Value)(k:Nat)(a0:List ByteArray){y:_}(h:Z26.F k a0=some y):Qa Tryd.prog Q0 pv (.f 50) (YH [.t (.sl .str),.clo 37 []] (a0,(()),())) (.t (.int .i64) y):=
 Ql hE (t:=Z26.C) k (λk _=>Z26.G hE pv k) (f:=50) (fn:=Tryd.f50) (by kernel_rfl) rfl (by kernel_rfl) (by kernel_rfl) (lt:=Z26.L) (by kernel_rfl) (λb A h=>by
  unfold Z26.L at h;split at h
  ·cases h;exact⟨by kernel_rfl,by kernel_rfl,by kernel_rfl,λ_=>rfl,λ_=>rfl,λ_=>rfl⟩
  ·cases h) (λb A h=>by
  unfold Z26.L at h;split at h
  ·cases h;exact λk x=>Z26.step0 k x.1 x.2.2.1 x.2.2.2.1
  ·cases h) ((Z26.run k a0).trans h) (λr hr=>Q5 hr)
def Z56.F (k:Nat)(a0:List ByteArray):Option (Bool):=(Z26.F k a0).bind λr1=>some (decide (r1 ≥ 0))
def Z56.C (k:Nat):Cal->Option CArm:=λc=>match c with
 |.f 50=>some (.q [.t (.sl .str),.clo 37 []] _ (λx=>Z26.F k x.1) (λr=>(.t (.int .i64) r)))
 |_=>none
theorem Z56.run (k:Nat)(a0:List ByteArray):QH Q0 (Qf (Z56.C k)) (Qd 9 0 (λ_=>none)) Tryd.f36 [.t (.sl .str) a0,.clo 37 []] (Qc (.t .bool))=Z56.F k a0:=by kernel_rfl
theorem Z56.G (hE:EnvOk Tryd.prog Q0)(pv:Nat->Value)(k:Nat):∀cal A,Z56.C k cal=some A->Qj Tryd.prog Q0 pv cal A:=by
 intro cal A h
 unfold Z56.C at h
 split at h
 ·cases h;exact λx y hy=>Z26.good hE pv k x.1 hy
 ·cases h
theorem Z56.good (hE:EnvOk Tryd.prog Q0)(pv:Nat->Value)(k:Nat)(a0:List ByteArray){y:_}(h:Z56.F k a0=some y):Qa Tryd.prog Q0 pv (.f 36) (YH [.t (.sl .str),.clo 37 []] (a0,(()),())) (.t .bool y):=
 Qi hE (Z56.G hE pv k) (f:=36) (fn:=Tryd.f36) (by kernel_rfl) rfl (by kernel_rfl) (by kernel_rfl) ((Z56.run k a0).trans h) (λr hr=>Q5 hr)
def Z49.F (k:Nat)(a0:List Abbr)(a1:List ByteArray):Option (Bool):=(Z15.F k a0).bind λr1=>bif r1 then(bif (decide ((a1.length:Int)<=20))then((Z56.F k a1).bind λr2=>some (!r2))else(some false))else(some false)
def Z49.C (k:Nat):Cal->Option CArm:=λc=>match c with
 |.f 35=>some (.p [(.sl .abbr)] _ (λx=>Z15.F k x.1) (λr=>(.t .bool r)))
 |.f 36=>some (.q [.t (.sl .str),.clo 37 []] _ (λx=>Z56.F k x.1) (λr=>(.t .bool r)))
 |_=>none
theorem Z49.run (k:Nat)(a0:List Abbr)(a1:List ByteArray):QH Q0 (Qf (Z49.C k)) (Qd 17 0 (λ_=>none)) Tryd.f23 [.t (.sl .abbr) a0,.t (.sl .str) a1] (Qc (.t .bool))=Z49.F k a0 a1:=by kernel_rfl
theorem Z49.G (hE:EnvOk Tryd.prog Q0)(pv:Nat->Value)(k:Nat):∀cal A,Z49.C k cal=some A->Qj Tryd.prog Q0 pv cal A:=by
 intro cal A h
 unfold Z49.C at h
 split at h
 ·cases h;exact λx y hy=>Z15.good hE pv k x.1 hy
 ·cases h;exact λx y hy=>Z56.good hE pv k x.1 hy
 ·cases h
theorem Z49.good (hE:EnvOk Tryd.prog Q0)(pv:Nat->Value)(k:Nat)(a0:List Abbr)(a1:List ByteArray){y:_}(h:Z49.F k a0 a1=some y):Qa Tryd.prog Q0 pv (.f 23) (Qb [(.sl .abbr),(.sl .str)] (a0,a1,())) (.t .bool y):=
 Qi hE (Z49.G hE pv k) (f:=23) (fn:=Tryd.f23) (by kernel_rfl) rfl (by kernel_rfl) (by kernel_rfl) ((Z49.run k a0 a1).trans h) (λr hr=>Q5 hr)
def Z63.F (a0:ByteArray)(a1:ByteArray):Option (List ByteArray):=Q1k a0 a1
theorem Z63.good (hE:EnvOk Tryd.prog Q0)(pv:Nat->Value)(a0:ByteArray)(a1:ByteArray){y:_}(h:Z63.F a0 a1=some y):Qa Tryd.prog Q0 pv (.f 52) (Qb [.str,.str] (a0,a1,())) (.fr 9 .str y):=
 Q58 (fn:=Tryd.f52) (by kernel_rfl) rfl (by kernel_rfl) (mx:=0) (by kernel_rfl) Tryd.strings_Split h
def Z35.F (a0:ByteArray):Option (Bool):=some (Qn a0 (⟨#[]⟩:ByteArray))
def Z35.C:Cal->Option CArm:=λc=>match c with
 |_=>none
theorem Z35.run (a0:ByteArray):QH Q0 (Qf Z35.C) (Qd 5 0 (λ_=>none)) Tryd.f53 [.t .str a0] (Qc (.t .bool))=Z35.F a0:=by kernel_rfl
theorem Z35.G (hE:EnvOk Tryd.prog Q0)(pv:Nat->Value):∀cal A,Z35.C cal=some A->Qj Tryd.prog Q0 pv cal A:=by
 intro cal A h
 unfold Z35.C at h
 cases h
theorem Z35.good (hE:EnvOk Tryd.prog Q0)(pv:Nat->Value)(a0:ByteArray){y:_}(h:Z35.F a0=some y):Qa Tryd.prog Q0 pv (.f 53) (Qb [.str] (a0,())) (.t .bool y):=
 Qi hE (Z35.G hE pv) (f:=53) (fn:=Tryd.f53) (by kernel_rfl) rfl (by kernel_rfl) (by kernel_rfl) ((Z35.run a0).trans h) (λr hr=>Q5 hr)
def Z27.l0:Nat->(List ByteArray)->Int->Int->Option (Sum Int Unit)
 |0,_,_,_=>none
 |k+1,x0,x7,x8=>bif (decide (x8<x7))then(bif decide (0<=x8)then(bif decide (x8<(x0.length:Int))then((Z35.F (x0.getD (x8:Int).toNat (⟨#[]⟩:ByteArray))).bind λr1=>bif r1 then(some (.inl x8))else(Z27.l0 k x0 x7 (IntKind.wrap .i64 (x8+1))))else none)else none)else(some (.inr ()))
def Z27.F (k:Nat)(a0:List ByteArray):Option (Int):=(Z27.l0 k a0 (a0.length:Int) 0).bind λy2=>match y2 with|.inl z3=>some z3|.inr z3=>some (-1)
def Z27.C (k:Nat):Cal->Option CArm:=λc=>match c with
 |.f 53=>some (.p [.str] _ (λx=>Z35.F x.1) (λr=>(.t .bool r)))
 |_=>none
def Z27.sp0:List Sp:=[.t 0 (.sl .str),.con 1 (.clo 53),.t 7 (.int .i64),.t 8 (.int .i64)]
def Z27.sp0_0:List Sp:=[.t 4 (.int .i64)]
def Z27.sp0_1:List Sp:=[]
def Z27.A0:LArm:=.two Z27.sp0 Z27.sp0_0 Z27.sp0_1 (Int) (Unit) (λk x=>Z27.l0 k x.1 x.2.2.1 x.2.2.2.1) .ret (.exit 0) (λy=>(y,())) (λx=>x.1) (λy=>()) (λx=>())
def Z27.L:Nat->Option LArm:=λb=>match b with
 |0=>some Z27.A0
 |_=>none
theorem Z27.run (k:Nat)(a0:List ByteArray):QH Q0 (Qf (Z27.C k)) (Qd 19 k Z27.L) Tryd.f50 [.t (.sl .str) a0,.clo 53 []] (Qc (.t (.int .i64)))=Z27.F k a0:=by kernel_rfl
theorem Z27.step0 (k:Nat)(x0:List ByteArray)(x7:Int)(x8:Int):QN Q0 (Qf (Z27.C k)) (Qd 19 k Z27.L) 0 (Qp Tryd.f50 0) (J8 19 Z27.sp0 (x0,(),x7,x8,())) (Z27.A0.cont 19 k)=Z27.l0 (k+1) x0 x7 x8:=by kernel_rfl
theorem Z27.G (hE:EnvOk Tryd.prog Q0)(pv:Nat->Value)(k:Nat):∀cal A,Z27.C k cal=some A->Qj Tryd.prog Q0 pv cal A:=by
 intro cal A h
 unfold Z27.C at h
 split at h
 ·cases h;exact λx y hy=>Z35.good hE pv x.1 hy
 ·cases h
theorem Z27.good (hE:EnvOk Tryd.prog Q0)(pv:Nat->Value)(k:Nat)(a0:List ByteArray){y:_}(h:Z27.F k a0=some y):Qa Tryd.prog Q0 pv (.f 50) (YH [.t (.sl .str),.clo 53 []] (a0,(()),())) (.t (.int .i64) y):=
 Ql hE (t:=Z27.C) k (λk _=>Z27.G hE pv k) (f:=50) (fn:=Tryd.f50) (by kernel_rfl) rfl (by kernel_rfl) (by kernel_rfl) (lt:=Z27.L) (by kernel_rfl) (λb A h=>by
  unfold Z27.L at h;split at h
  ·cases h;exact⟨by kernel_rfl,by kernel_rfl,by kernel_rfl,λ_=>rfl,λ_=>rfl,λ_=>rfl⟩
  ·cases h) (λb A h=>by
  unfold Z27.L at h;split at h
  ·cases h;exact λk x=>Z27.step0 k x.1 x.2.2.1 x.2.2.2.1
  ·cases h) ((Z27.run k a0).trans h) (λr hr=>Q5 hr)
def Z30.l0:Nat->(List ByteArray)->Int->Int->Option ((List ByteArray)×Int)
 |0,_,_,_=>none
 |k+1,x0,x5,x6=>bif (decide (x6<(x0.length:Int)))then(bif decide (0<=x6)then(bif decide (x6<(x0.length:Int))then((Z35.F (x0.getD ((x6:Int).toNat) (⟨#[]⟩:ByteArray))).bind λr2=>bif (!r2)then(bif decide (0<=x5)then(bif decide (x5<(x0.length:Int))then(Z30.l0 k (x0.set ((x5:Int).toNat) (x0.getD ((x6:Int).toNat) (⟨#[]⟩:ByteArray))) (IntKind.wrap .i64 (x5+1)) (IntKind.wrap .i64 (x6+1)))else none)else none)else(Z30.l0 k x0 x5 (IntKind.wrap .i64 (x6+1))))else none)else none)else(some (x0,x5))
def Z30.F (k:Nat)(a0:List ByteArray):Option (List ByteArray):=(Z27.F k a0).bind λr1=>bif (r1==(-1))then(some a0)else((Z30.l0 k a0 r1 (IntKind.wrap .i64 (r1+1))).bind λy3=>bif decide (0<=y3.2)then(bif decide (y3.2<=(y3.1.length:Int))then(bif decide (0<=y3.2)then(bif decide (y3.2<=((y3.1.take ((y3.2:Int).toNat)++List.replicate (y3.1.length-((y3.2:Int).toNat)) (⟨#[]⟩:ByteArray)).length:Int))then(some ((y3.1.take ((y3.2:Int).toNat)++List.replicate (y3.1.length-((y3.2:Int).toNat)) (⟨#[]⟩:ByteArray)).take (y3.2:Int).toNat))else none)else none)else none)else none)
def Z30.C (k:Nat):Cal->Option CArm:=λc=>match c with
 |.f 50=>some (.q [.t (.sl .str),.clo 53 []] _ (λx=>Z27.F k x.1) (λr=>(.t (.int .i64) r)))
 |.f 53=>some (.p [.str] _ (λx=>Z35.F x.1) (λr=>(.t .bool r)))
 |_=>none
def Z30.sp0:List Sp:=[.own 0 1099511627777 9 .str false true,.con 1 (.clo 53),.t 5 (.int .i64),.t 6 (.int .i64)]
def Z30.sp0_0:List Sp:=[.own 0 1099511627777 9 .str false true,.t 5 (.int .i64)]
def Z30.A0:LArm:=.one Z30.sp0 Z30.sp0_0 ((List ByteArray)×Int) (λk x=>Z30.l0 k x.1 x.2.2.1 x.2.2.2.1) (.exit 0) (λy=>(y.1,y.2,())) (λx=>(x.1,x.2.1))
def Z30.L:Nat->Option LArm:=λb=>match b with
 |0=>some Z30.A0
 |_=>none
theorem Z30.run (k:Nat)(a0:List ByteArray):Q1E Q0 (Qf (Z30.C k)) (Qd 42 k Z30.L) Tryd.f40 D2 (.fr 9 .str a0) [.clo 53 []] (DC 9 .str)=Z30.F k a0:=by kernel_rfl
theorem Z30.step0 (k:Nat)(x0:List ByteArray)(x5:Int)(x6:Int):QN Q0 (Qf (Z30.C k)) (Qd 42 k Z30.L) 0 (Qp Tryd.f40 0) (J8 42 Z30.sp0 (x0,(),x5,x6,())) (Z30.A0.cont 42 k)=Z30.l0 (k+1) x0 x5 x6:=by kernel_rfl
theorem Z30.G (hE:EnvOk Tryd.prog Q0)(pv:Nat->Value)(k:Nat):∀cal A,Z30.C k cal=some A->Qj Tryd.prog Q0 pv cal A:=by
 intro cal A h
 unfold Z30.C at h
 split at h
 ·cases h;exact λx y hy=>Z27.good hE pv k x.1 hy
 ·cases h;exact λx y hy=>Z35.good hE pv x.1 hy
 ·cases h
theorem Z30.good (hE:EnvOk Tryd.prog Q0)(pv:Nat->Value)(k:Nat)(a0:List ByteArray){y:_}(h:Z30.F k a0=some y):Ju Tryd.prog Q0 pv 40 (.fr 9 .str a0) (YH [.clo 53 []] ((()),())) (.mov 9 .str y):=
 Un hE (t:=Z30.C) k (λk _=>Z30.G hE pv k) (f:=40) (fn:=Tryd.f40) (by kernel_rfl) rfl (by kernel_rfl) (.inr rfl) (by kernel_rfl) (lt:=Z30.L) (by kernel_rfl) (λb A h=>by
  unfold Z30.L at h;split at h
  ·cases h;exact⟨by kernel_rfl,by kernel_rfl,λ_=>rfl,λ_=>rfl⟩
  ·cases h) (λb A h=>by
  unfold Z30.L at h;split at h
  ·cases h;exact λk x=>Z30.step0 k x.1 x.2.2.1 x.2.2.2.1
  ·cases h) ((Z30.run k a0).trans h) (λr hr=>GE hr)
def Z50.F (k:Nat)(a0:ByteArray):Option (List ByteArray):=(Z63.F a0 (⟨#[32]⟩:ByteArray)).bind λr1=>(Z30.F k r1).bind λr2=>some r2
def Z50.C (k:Nat):Cal->Option CArm:=λc=>match c with
 |.f 52=>some (.p [.str,.str] _ (λx=>Z63.F x.1 x.2.1) (λr=>(.fr 9 .str r)))
 |.f 40=>some (.mq (.fr 9 .str) [.clo 53 []] _ (λx0 x=>Z30.F k x0) (λr=>.mov 9 .str r))
 |_=>none
theorem Z50.run (k:Nat)(a0:ByteArray):QH Q0 (Qf (Z50.C k)) (Qd 6 0 (λ_=>none)) Tryd.f39 [.t .str a0] (Qc (.fr 9 .str))=Z50.F k a0:=by kernel_rfl
theorem Z50.G (hE:EnvOk Tryd.prog Q0)(pv:Nat->Value)(k:Nat):∀cal A,Z50.C k cal=some A->Qj Tryd.prog Q0 pv cal A:=by
 intro cal A h
 unfold Z50.C at h
 split at h
 ·cases h;exact λx y hy=>Z63.good hE pv x.1 x.2.1 hy
 ·cases h;exact⟨_,rfl,λx0 x y hy=>Z30.good hE pv k x0 hy⟩
 ·cases h
theorem Z50.good (hE:EnvOk Tryd.prog Q0)(pv:Nat->Value)(k:Nat)(a0:ByteArray){y:_}(h:Z50.F k a0=some y):Qa Tryd.prog Q0 pv (.f 39) (Qb [.str] (a0,())) (.fr 9 .str y):=
 Qi hE (Z50.G hE pv k) (f:=39) (fn:=Tryd.f39) (by kernel_rfl) rfl (by kernel_rfl) (by kernel_rfl) ((Z50.run k a0).trans h) (λr hr=>Q5 hr)
def Z64.F (a0:List ByteArray):Option (List ByteArray):=Q1m a0
theorem Z64.good (hE:EnvOk Tryd.prog Q0)(pv:Nat->Value)(a0:List ByteArray){y:_}(h:Z64.F a0=some y):Qa Tryd.prog Q0 pv (.f 41) (Qb [(.sl .str)] (a0,())) (.fr 9 .str y):=
 Q5a (fn:=Tryd.f41) (by kernel_rfl) rfl (by kernel_rfl) Tryd.slices_Clone_string Tryd.slices_Clone_string_nil Tryd.slices_Clone_string_zero h
def Z36.F (a0:Int):Option (Bool):=bif (decide (a0 ≥ 65))then(some (decide (a0<=90)))else(some false)
def Z36.C:Cal->Option CArm:=λc=>match c with
 |_=>none
theorem Z36.run (a0:Int):QH Q0 (Qf Z36.C) (Qd 9 0 (λ_=>none)) Tryd.f55 [.t (.int .u8) a0] (Qc (.t .bool))=Z36.F a0:=by kernel_rfl
theorem Z36.G (hE:EnvOk Tryd.prog Q0)(pv:Nat->Value):∀cal A,Z36.C cal=some A->Qj Tryd.prog Q0 pv cal A:=by
 intro cal A h
 unfold Z36.C at h
 cases h
theorem Z36.good (hE:EnvOk Tryd.prog Q0)(pv:Nat->Value)(a0:Int){y:_}(h:Z36.F a0=some y):Qa Tryd.prog Q0 pv (.f 55) (Qb [(.int .u8)] (a0,())) (.t .bool y):=
 Qi hE (Z36.G hE pv) (f:=55) (fn:=Tryd.f55) (by kernel_rfl) rfl (by kernel_rfl) (by kernel_rfl) ((Z36.run a0).trans h) (λr hr=>Q5 hr)
def Z8.l0:Nat->(List Int)->Int->Int->Option ((List Int))
 |0,_,_,_=>none
 |k+1,x3,x9,x10=>bif (decide (x10<x9))then(bif decide (0<=x10)then(bif decide (x10<(x3.length:Int))then((Z36.F (x3.getD ((x10:Int).toNat) 0)).bind λr1=>bif r1 then(bif decide (0<=x10)then(bif decide (x10<(x3.length:Int))then(Z8.l0 k (x3.set ((x10:Int).toNat) (IntKind.wrap .u8 ((IntKind.wrap .u8 ((x3.getD ((x10:Int).toNat) 0)+97))-65))) x9 (IntKind.wrap .i64 (x10+1)))else none)else none)else(Z8.l0 k x3 x9 (IntKind.wrap .i64 (x10+1))))else none)else none)else(some x3)
def Z8.F (k:Nat)(a0:ByteArray):Option (ByteArray):=bif Nat.ble a0.size 9223372036854775807 then((Z8.l0 k (Q9 a0) ((Q9 a0).length:Int) 0).bind λy2=>some (DI y2))else none
def Z8.C (k:Nat):Cal->Option CArm:=λc=>match c with
 |.f 55=>some (.p [(.int .u8)] _ (λx=>Z36.F x.1) (λr=>(.t .bool r)))
 |_=>none
def Z8.sp0:List Sp:=[.own 3 1028 5 (.int .u8) false false,.con 8 (.own 1028),.t 9 (.int .i64),.t 10 (.int .i64)]
def Z8.sp0_0:List Sp:=[.own 3 1028 5 (.int .u8) false false]
def Z8.A0:LArm:=.one Z8.sp0 Z8.sp0_0 ((List Int)) (λk x=>Z8.l0 k x.1 x.2.2.1 x.2.2.2.1) (.exit 0) (λy=>(y,())) (λx=>x.1)
def Z8.L:Nat->Option LArm:=λb=>match b with
 |0=>some Z8.A0
 |_=>none
theorem Z8.run (k:Nat)(a0:ByteArray):QH Q0 (Qf (Z8.C k)) (Qd 26 k Z8.L) Tryd.f44 [.t .str a0] (Qc (.t .str))=Z8.F k a0:=by kernel_rfl
theorem Z8.step0 (k:Nat)(x3:List Int)(x9:Int)(x10:Int):QN Q0 (Qf (Z8.C k)) (Qd 26 k Z8.L) 0 (Qp Tryd.f44 0) (J8 26 Z8.sp0 (x3,(),x9,x10,())) (Z8.A0.cont 26 k)=Z8.l0 (k+1) x3 x9 x10:=by kernel_rfl
theorem Z8.G (hE:EnvOk Tryd.prog Q0)(pv:Nat->Value)(k:Nat):∀cal A,Z8.C k cal=some A->Qj Tryd.prog Q0 pv cal A:=by
 intro cal A h
 unfold Z8.C at h
 split at h
 ·cases h;exact λx y hy=>Z36.good hE pv x.1 hy
 ·cases h
theorem Z8.good (hE:EnvOk Tryd.prog Q0)(pv:Nat->Value)(k:Nat)(a0:ByteArray){y:_}(h:Z8.F k a0=some y):Qa Tryd.prog Q0 pv (.f 44) (Qb [.str] (a0,())) (.t .str y):=
 Ql hE (t:=Z8.C) k (λk _=>Z8.G hE pv k) (f:=44) (fn:=Tryd.f44) (by kernel_rfl) rfl (by kernel_rfl) (by kernel_rfl) (lt:=Z8.L) (by kernel_rfl) (λb A h=>by
  unfold Z8.L at h;split at h
  ·cases h;exact⟨by kernel_rfl,by kernel_rfl,λ_=>rfl,λ_=>rfl⟩
  ·cases h) (λb A h=>by
  unfold Z8.L at h;split at h
  ·cases h;exact λk x=>Z8.step0 k x.1 x.2.2.1 x.2.2.2.1
  ·cases h) ((Z8.run k a0).trans h) (λr hr=>Q5 hr)
def Z32.F (k:Nat)(a0:ByteArray):Option (Bool):=(Z8.F k a0).bind λr1=>bif (Qn r1 (⟨#[97]⟩:ByteArray))then(bif (Qn r1 (⟨#[97]⟩:ByteArray))then(some true)else(some false))else(bif (Qn r1 (⟨#[97,110]⟩:ByteArray))then(bif (Qn r1 (⟨#[97,110]⟩:ByteArray))then(some true)else(some false))else(bif (Qn r1 (⟨#[97,110,100]⟩:ByteArray))then(bif (Qn r1 (⟨#[97,110,100]⟩:ByteArray))then(some true)else(some false))else(bif (Qn r1 (⟨#[102,111,114]⟩:ByteArray))then(bif (Qn r1 (⟨#[102,111,114]⟩:ByteArray))then(some true)else(some false))else(bif (Qn r1 (⟨#[105,110]⟩:ByteArray))then(bif (Qn r1 (⟨#[105,110]⟩:ByteArray))then(some true)else(some false))else(bif (Qn r1 (⟨#[111,102]⟩:ByteArray))then(bif (Qn r1 (⟨#[111,102]⟩:ByteArray))then(some true)else(some false))else(bif (Qn r1 (⟨#[111,110]⟩:ByteArray))then(bif (Qn r1 (⟨#[111,110]⟩:ByteArray))then(some true)else(some false))else(bif (Qn r1 (⟨#[116,104,101]⟩:ByteArray))then(some true)else(some false))))))))
def Z32.C (k:Nat):Cal->Option CArm:=λc=>match c with
 |.f 44=>some (.p [.str] _ (λx=>Z8.F k x.1) (λr=>(.t .str r)))
 |_=>none
theorem Z32.run (k:Nat)(a0:ByteArray):QH Q0 (Qf (Z32.C k)) (Qd 14 0 (λ_=>none)) Tryd.f42 [.t .str a0] (Qc (.t .bool))=Z32.F k a0:=by kernel_rfl
theorem Z32.G (hE:EnvOk Tryd.prog Q0)(pv:Nat->Value)(k:Nat):∀cal A,Z32.C k cal=some A->Qj Tryd.prog Q0 pv cal A:=by
 intro cal A h
 unfold Z32.C at h
 split at h
 ·cases h;exact λx y hy=>Z8.good hE pv k x.1 hy
 ·cases h
theorem Z32.good (hE:EnvOk Tryd.prog Q0)(pv:Nat->Value)(k:Nat)(a0:ByteArray){y:_}(h:Z32.F k a0=some y):Qa Tryd.prog Q0 pv (.f 42) (Qb [.str] (a0,())) (.t .bool y):=
 Qi hE (Z32.G hE pv k) (f:=42) (fn:=Tryd.f42) (by kernel_rfl) rfl (by kernel_rfl) (by kernel_rfl) ((Z32.run k a0).trans h) (λr hr=>Q5 hr)
def Z28.l0:Nat->(List ByteArray)->Int->Int->Option (Sum Int Unit)
 |0,_,_,_=>none
 |k+1,x0,x7,x8=>bif (decide (x8<x7))then(bif decide (0<=x8)then(bif decide (x8<(x0.length:Int))then((Z32.F k (x0.getD (x8:Int).toNat (⟨#[]⟩:ByteArray))).bind λr1=>bif r1 then(some (.inl x8))else(Z28.l0 k x0 x7 (IntKind.wrap .i64 (x8+1))))else none)else none)else(some (.inr ()))
def Z28.F (k:Nat)(a0:List ByteArray):Option (Int):=(Z28.l0 k a0 (a0.length:Int) 0).bind λy2=>match y2 with|.inl z3=>some z3|.inr z3=>some (-1)
def Z28.C (k:Nat):Cal->Option CArm:=λc=>match c with
 |.f 42=>some (.p [.str] _ (λx=>Z32.F k x.1) (λr=>(.t .bool r)))
 |_=>none
def Z28.sp0:List Sp:=[.t 0 (.sl .str),.con 1 (.clo 42),.t 7 (.int .i64),.t 8 (.int .i64)]
def Z28.sp0_0:List Sp:=[.t 4 (.int .i64)]
def Z28.sp0_1:List Sp:=[]
def Z28.A0:LArm:=.two Z28.sp0 Z28.sp0_0 Z28.sp0_1 (Int) (Unit) (λk x=>Z28.l0 k x.1 x.2.2.1 x.2.2.2.1) .ret (.exit 0) (λy=>(y,())) (λx=>x.1) (λy=>()) (λx=>())
def Z28.L:Nat->Option LArm:=λb=>match b with
 |0=>some Z28.A0
 |_=>none
theorem Z28.run (k:Nat)(a0:List ByteArray):QH Q0 (Qf (Z28.C k)) (Qd 19 k Z28.L) Tryd.f50 [.t (.sl .str) a0,.clo 42 []] (Qc (.t (.int .i64)))=Z28.F k a0:=by kernel_rfl
theorem Z28.step0 (k:Nat)(x0:List ByteArray)(x7:Int)(x8:Int):QN Q0 (Qf (Z28.C k)) (Qd 19 k Z28.L) 0 (Qp Tryd.f50 0) (J8 19 Z28.sp0 (x0,(),x7,x8,())) (Z28.A0.cont 19 k)=Z28.l0 (k+1) x0 x7 x8:=by kernel_rfl
theorem Z28.G (hE:EnvOk Tryd.prog Q0)(pv:Nat->Value)(k:Nat):∀cal A,Z28.C k cal=some A->Qj Tryd.prog Q0 pv cal A:=by
 intro cal A h
 unfold Z28.C at h
 split at h
 ·cases h;exact λx y hy=>Z32.good hE pv k x.1 hy
 ·cases h
theorem Z28.good (hE:EnvOk Tryd.prog Q0)(pv:Nat->Value)(k:Nat)(a0:List ByteArray){y:_}(h:Z28.F k a0=some y):Qa Tryd.prog Q0 pv (.f 50) (YH [.t (.sl .str),.clo 42 []] (a0,(()),())) (.t (.int .i64) y):=
 Ql hE (t:=Z28.C) k (λk _=>Z28.G hE pv k) (f:=50) (fn:=Tryd.f50) (by kernel_rfl) rfl (by kernel_rfl) (by kernel_rfl) (lt:=Z28.L) (by kernel_rfl) (λb A h=>by
  unfold Z28.L at h;split at h
  ·cases h;exact⟨by kernel_rfl,by kernel_rfl,by kernel_rfl,λ_=>rfl,λ_=>rfl,λ_=>rfl⟩
  ·cases h) (λb A h=>by
  unfold Z28.L at h;split at h
  ·cases h;exact λk x=>Z28.step0 k x.1 x.2.2.1 x.2.2.2.1
  ·cases h) ((Z28.run k a0).trans h) (λr hr=>Q5 hr)
def Z31.l0:Nat->(List ByteArray)->Int->Int->Option ((List ByteArray)×Int)
 |0,_,_,_=>none
 |k+1,x0,x5,x6=>bif (decide (x6<(x0.length:Int)))then(bif decide (0<=x6)then(bif decide (x6<(x0.length:Int))then((Z32.F k (x0.getD ((x6:Int).toNat) (⟨#[]⟩:ByteArray))).bind λr2=>bif (!r2)then(bif decide (0<=x5)then(bif decide (x5<(x0.length:Int))then(Z31.l0 k (x0.set ((x5:Int).toNat) (x0.getD ((x6:Int).toNat) (⟨#[]⟩:ByteArray))) (IntKind.wrap .i64 (x5+1)) (IntKind.wrap .i64 (x6+1)))else none)else none)else(Z31.l0 k x0 x5 (IntKind.wrap .i64 (x6+1))))else none)else none)else(some (x0,x5))
def Z31.F (k:Nat)(a0:List ByteArray):Option (List ByteArray):=(Z28.F k a0).bind λr1=>bif (r1==(-1))then(some a0)else((Z31.l0 k a0 r1 (IntKind.wrap .i64 (r1+1))).bind λy3=>bif decide (0<=y3.2)then(bif decide (y3.2<=(y3.1.length:Int))then(bif decide (0<=y3.2)then(bif decide (y3.2<=((y3.1.take ((y3.2:Int).toNat)++List.replicate (y3.1.length-((y3.2:Int).toNat)) (⟨#[]⟩:ByteArray)).length:Int))then(some ((y3.1.take ((y3.2:Int).toNat)++List.replicate (y3.1.length-((y3.2:Int).toNat)) (⟨#[]⟩:ByteArray)).take (y3.2:Int).toNat))else none)else none)else none)else none)
def Z31.C (k:Nat):Cal->Option CArm:=λc=>match c with
 |.f 50=>some (.q [.t (.sl .str),.clo 42 []] _ (λx=>Z28.F k x.1) (λr=>(.t (.int .i64) r)))
 |.f 42=>some (.p [.str] _ (λx=>Z32.F k x.1) (λr=>(.t .bool r)))
 |_=>none
def Z31.sp0:List Sp:=[.own 0 1099511627777 9 .str false true,.con 1 (.clo 42),.t 5 (.int .i64),.t 6 (.int .i64)]
def Z31.sp0_0:List Sp:=[.own 0 1099511627777 9 .str false true,.t 5 (.int .i64)]
def Z31.A0:LArm:=.one Z31.sp0 Z31.sp0_0 ((List ByteArray)×Int) (λk x=>Z31.l0 k x.1 x.2.2.1 x.2.2.2.1) (.exit 0) (λy=>(y.1,y.2,())) (λx=>(x.1,x.2.1))
def Z31.L:Nat->Option LArm:=λb=>match b with
 |0=>some Z31.A0
 |_=>none
theorem Z31.run (k:Nat)(a0:List ByteArray):Q1E Q0 (Qf (Z31.C k)) (Qd 42 k Z31.L) Tryd.f40 D2 (.fr 9 .str a0) [.clo 42 []] (DC 9 .str)=Z31.F k a0:=by kernel_rfl
theorem Z31.step0 (k:Nat)(x0:List ByteArray)(x5:Int)(x6:Int):QN Q0 (Qf (Z31.C k)) (Qd 42 k Z31.L) 0 (Qp Tryd.f40 0) (J8 42 Z31.sp0 (x0,(),x5,x6,())) (Z31.A0.cont 42 k)=Z31.l0 (k+1) x0 x5 x6:=by kernel_rfl
theorem Z31.G (hE:EnvOk Tryd.prog Q0)(pv:Nat->Value)(k:Nat):∀cal A,Z31.C k cal=some A->Qj Tryd.prog Q0 pv cal A:=by
 intro cal A h
 unfold Z31.C at h
 split at h
 ·cases h;exact λx y hy=>Z28.good hE pv k x.1 hy
 ·cases h;exact λx y hy=>Z32.good hE pv k x.1 hy
 ·cases h
theorem Z31.good (hE:EnvOk Tryd.prog Q0)(pv:Nat->Value)(k:Nat)(a0:List ByteArray){y:_}(h:Z31.F k a0=some y):Ju Tryd.prog Q0 pv 40 (.fr 9 .str a0) (YH [.clo 42 []] ((()),())) (.mov 9 .str y):=
 Un hE (t:=Z31.C) k (λk _=>Z31.G hE pv k) (f:=40) (fn:=Tryd.f40) (by kernel_rfl) rfl (by kernel_rfl) (.inr rfl) (by kernel_rfl) (lt:=Z31.L) (by kernel_rfl) (λb A h=>by
  unfold Z31.L at h;split at h
  ·cases h;exact⟨by kernel_rfl,by kernel_rfl,λ_=>rfl,λ_=>rfl⟩
  ·cases h) (λb A h=>by
  unfold Z31.L at h;split at h
  ·cases h;exact λk x=>Z31.step0 k x.1 x.2.2.1 x.2.2.2.1
  ·cases h) ((Z31.run k a0).trans h) (λr hr=>GE hr)
def Z39.F (k:Nat)(a0:ByteArray):Option ((List ByteArray)×Bool):=(Z50.F k a0).bind λr1=>bif (decide ((r1.length:Int)<=1))then(some (r1,false))else((Z64.F r1).bind λr2=>(Z31.F k r2).bind λr3=>bif ((r3.length:Int)==0)then(some (r1,true))else(some (r3,true)))
def Z39.C (k:Nat):Cal->Option CArm:=λc=>match c with
 |.f 39=>some (.p [.str] _ (λx=>Z50.F k x.1) (λr=>(.fr 9 .str r)))
 |.f 41=>some (.p [(.sl .str)] _ (λx=>Z64.F x.1) (λr=>(.fr 9 .str r)))
 |.f 40=>some (.mq (.fr 9 .str) [.clo 42 []] _ (λx0 x=>Z31.F k x0) (λr=>.mov 9 .str r))
 |_=>none
theorem Z39.run (k:Nat)(a0:ByteArray):QH Q0 (Qf (Z39.C k)) (Qd 20 0 (λ_=>none)) Tryd.f24 [.t .str a0] (Xo (.fr 9 .str) (.t .bool))=Z39.F k a0:=by kernel_rfl
theorem Z39.G (hE:EnvOk Tryd.prog Q0)(pv:Nat->Value)(k:Nat):∀cal A,Z39.C k cal=some A->Qj Tryd.prog Q0 pv cal A:=by
 intro cal A h
 unfold Z39.C at h
 split at h
 ·cases h;exact λx y hy=>Z50.good hE pv k x.1 hy
 ·cases h;exact λx y hy=>Z64.good hE pv x.1 hy
 ·cases h;exact⟨_,rfl,λx0 x y hy=>Z31.good hE pv k x0 hy⟩
 ·cases h
theorem Z39.good (hE:EnvOk Tryd.prog Q0)(pv:Nat->Value)(k:Nat)(a0:ByteArray){y:_}(h:Z39.F k a0=some y):Qa Tryd.prog Q0 pv (.f 24) (Qb [.str] (a0,())) (.tup [.fr 9 .str y.1,.t .bool y.2]):=
 Qi hE (Z39.G hE pv k) (f:=24) (fn:=Tryd.f24) (by kernel_rfl) rfl (by kernel_rfl) (by kernel_rfl) ((Z39.run k a0).trans h) (λr hr=>UM hr)
def Z51.F (a0:Int):Option (Bool):=(Z36.F a0).bind λr1=>bif r1 then(some true)else((Z34.F a0).bind λr2=>some r2)
def Z51.C:Cal->Option CArm:=λc=>match c with
 |.f 55=>some (.p [(.int .u8)] _ (λx=>Z36.F x.1) (λr=>(.t .bool r)))
 |.f 60=>some (.p [(.int .u8)] _ (λx=>Z34.F x.1) (λr=>(.t .bool r)))
 |_=>none
theorem Z51.run (a0:Int):QH Q0 (Qf Z51.C) (Qd 9 0 (λ_=>none)) Tryd.f54 [.t (.int .u8) a0] (Qc (.t .bool))=Z51.F a0:=by kernel_rfl
theorem Z51.G (hE:EnvOk Tryd.prog Q0)(pv:Nat->Value):∀cal A,Z51.C cal=some A->Qj Tryd.prog Q0 pv cal A:=by
 intro cal A h
 unfold Z51.C at h
 split at h
 ·cases h;exact λx y hy=>Z36.good hE pv x.1 hy
 ·cases h;exact λx y hy=>Z34.good hE pv x.1 hy
 ·cases h
theorem Z51.good (hE:EnvOk Tryd.prog Q0)(pv:Nat->Value)(a0:Int){y:_}(h:Z51.F a0=some y):Qa Tryd.prog Q0 pv (.f 54) (Qb [(.int .u8)] (a0,())) (.t .bool y):=
 Qi hE (Z51.G hE pv) (f:=54) (fn:=Tryd.f54) (by kernel_rfl) rfl (by kernel_rfl) (by kernel_rfl) ((Z51.run a0).trans h) (λr hr=>Q5 hr)
def Z21.l0:Nat->ByteArray->Int->Option (Sum Bool ByteArray)
 |0,_,_=>none
 |k+1,x0,x3=>bif (decide (x3<(x0.size:Int)))then(bif decide (0<=x3)then(bif decide (x3<(x0.size:Int))then((Z51.F (bt x0 (x3:Int).toNat)).bind λr1=>bif (!r1)then(some (.inl false))else(Z21.l0 k x0 (IntKind.wrap .i64 (x3+1))))else none)else none)else(some (.inr x0))
def Z21.F (k:Nat)(a0:ByteArray):Option (Bool):=(Z21.l0 k a0 0).bind λy2=>match y2 with|.inl z3=>some z3|.inr z3=>some (!Qn z3 (⟨#[]⟩:ByteArray))
def Z21.C (k:Nat):Cal->Option CArm:=λc=>match c with
 |.f 54=>some (.p [(.int .u8)] _ (λx=>Z51.F x.1) (λr=>(.t .bool r)))
 |_=>none
def Z21.sp0:List Sp:=[.t 0 .str,.t 3 (.int .i64)]
def Z21.sp0_0:List Sp:=[.t 2 .bool]
def Z21.sp0_1:List Sp:=[.t 0 .str]
def Z21.A0:LArm:=.two Z21.sp0 Z21.sp0_0 Z21.sp0_1 (Bool) (ByteArray) (λk x=>Z21.l0 k x.1 x.2.1) .ret (.exit 0) (λy=>(y,())) (λx=>x.1) (λy=>(y,())) (λx=>x.1)
def Z21.L:Nat->Option LArm:=λb=>match b with
 |0=>some Z21.A0
 |_=>none
theorem Z21.run (k:Nat)(a0:ByteArray):QH Q0 (Qf (Z21.C k)) (Qd 17 k Z21.L) Tryd.f43 [.t .str a0] (Qc (.t .bool))=Z21.F k a0:=by kernel_rfl
theorem Z21.step0 (k:Nat)(x0:ByteArray)(x3:Int):QN Q0 (Qf (Z21.C k)) (Qd 17 k Z21.L) 0 (Qp Tryd.f43 0) (J8 17 Z21.sp0 (x0,x3,())) (Z21.A0.cont 17 k)=Z21.l0 (k+1) x0 x3:=by kernel_rfl
theorem Z21.G (hE:EnvOk Tryd.prog Q0)(pv:Nat->Value)(k:Nat):∀cal A,Z21.C k cal=some A->Qj Tryd.prog Q0 pv cal A:=by
 intro cal A h
 unfold Z21.C at h
 split at h
 ·cases h;exact λx y hy=>Z51.good hE pv x.1 hy
 ·cases h
theorem Z21.good (hE:EnvOk Tryd.prog Q0)(pv:Nat->Value)(k:Nat)(a0:ByteArray){y:_}(h:Z21.F k a0=some y):Qa Tryd.prog Q0 pv (.f 43) (Qb [.str] (a0,())) (.t .bool y):=
 Ql hE (t:=Z21.C) k (λk _=>Z21.G hE pv k) (f:=43) (fn:=Tryd.f43) (by kernel_rfl) rfl (by kernel_rfl) (by kernel_rfl) (lt:=Z21.L) (by kernel_rfl) (λb A h=>by
  unfold Z21.L at h;split at h
  ·cases h;exact⟨by kernel_rfl,by kernel_rfl,by kernel_rfl,λ_=>rfl,λ_=>rfl,λ_=>rfl⟩
  ·cases h) (λb A h=>by
  unfold Z21.L at h;split at h
  ·cases h;exact λk x=>Z21.step0 k x.1 x.2.1
  ·cases h) ((Z21.run k a0).trans h) (λr hr=>Q5 hr)
def Z57.F (a0:ByteArray)(a1:ByteArray):Option (ByteArray×Bool):=(Z37.F a0 a1).bind λr1=>bif (!r1)then(some (a0,false))else(bif decide (0<=(IntKind.wrap .i64 ((a0.size:Int)-(a1.size:Int))))then(bif decide ((IntKind.wrap .i64 ((a0.size:Int)-(a1.size:Int)))<=(a0.size:Int))then(some ((a0.extract 0 ((IntKind.wrap .i64 ((a0.size:Int)-(a1.size:Int))):Int).toNat),true))else none)else none)
def Z57.C:Cal->Option CArm:=λc=>match c with
 |.f 64=>some (.p [.str,.str] _ (λx=>Z37.F x.1 x.2.1) (λr=>(.t .bool r)))
 |_=>none
theorem Z57.run (a0:ByteArray)(a1:ByteArray):QH Q0 (Qf Z57.C) (Qd 18 0 (λ_=>none)) Tryd.f56 [.t .str a0,.t .str a1] (Xo (.t .str) (.t .bool))=Z57.F a0 a1:=by kernel_rfl
theorem Z57.G (hE:EnvOk Tryd.prog Q0)(pv:Nat->Value):∀cal A,Z57.C cal=some A->Qj Tryd.prog Q0 pv cal A:=by
 intro cal A h
 unfold Z57.C at h
 split at h
 ·cases h;exact λx y hy=>Z37.good hE pv x.1 x.2.1 hy
 ·cases h
theorem Z57.good (hE:EnvOk Tryd.prog Q0)(pv:Nat->Value)(a0:ByteArray)(a1:ByteArray){y:_}(h:Z57.F a0 a1=some y):Qa Tryd.prog Q0 pv (.f 56) (Qb [.str,.str] (a0,a1,())) (.tup [.t .str y.1,.t .bool y.2]):=
 Qi hE (Z57.G hE pv) (f:=56) (fn:=Tryd.f56) (by kernel_rfl) rfl (by kernel_rfl) (by kernel_rfl) ((Z57.run a0 a1).trans h) (λr hr=>UM hr)
def Z52.F (a0:ByteArray)(a1:ByteArray):Option (ByteArray×Bool):=(Z57.F a0 a1).bind λr1=>some (r1.1,r1.2)
def Z52.C:Cal->Option CArm:=λc=>match c with
 |.f 56=>some (.p [.str,.str] _ (λx=>Z57.F x.1 x.2.1) (λr=>(.tup [.t .str r.1,.t .bool r.2])))
 |_=>none
theorem Z52.run (a0:ByteArray)(a1:ByteArray):QH Q0 (Qf Z52.C) (Qd 11 0 (λ_=>none)) Tryd.f45 [.t .str a0,.t .str a1] (Xo (.t .str) (.t .bool))=Z52.F a0 a1:=by kernel_rfl
theorem Z52.G (hE:EnvOk Tryd.prog Q0)(pv:Nat->Value):∀cal A,Z52.C cal=some A->Qj Tryd.prog Q0 pv cal A:=by
 intro cal A h
 unfold Z52.C at h
 split at h
 ·cases h;exact λx y hy=>Z57.good hE pv x.1 x.2.1 hy
 ·cases h
theorem Z52.good (hE:EnvOk Tryd.prog Q0)(pv:Nat->Value)(a0:ByteArray)(a1:ByteArray){y:_}(h:Z52.F a0 a1=some y):Qa Tryd.prog Q0 pv (.f 45) (Qb [.str,.str] (a0,a1,())) (.tup [.t .str y.1,.t .bool y.2]):=
 Qi hE (Z52.G hE pv) (f:=45) (fn:=Tryd.f45) (by kernel_rfl) rfl (by kernel_rfl) (by kernel_rfl) ((Z52.run a0 a1).trans h) (λr hr=>UM hr)
def Z58.F (a0:ByteArray)(a1:ByteArray):Option (Bool):=bif (decide ((a0.size:Int) ≥ (a1.size:Int)))then(bif decide (0<=(a1.size:Int))then(bif decide ((a1.size:Int)<=(a0.size:Int))then(some (Qn (a0.extract 0 ((a1.size:Int):Int).toNat) a1))else none)else none)else(some false)
def Z58.C:Cal->Option CArm:=λc=>match c with
 |_=>none
theorem Z58.run (a0:ByteArray)(a1:ByteArray):QH Q0 (Qf Z58.C) (Qd 18 0 (λ_=>none)) Tryd.f57 [.t .str a0,.t .str a1] (Qc (.t .bool))=Z58.F a0 a1:=by kernel_rfl
theorem Z58.G (hE:EnvOk Tryd.prog Q0)(pv:Nat->Value):∀cal A,Z58.C cal=some A->Qj Tryd.prog Q0 pv cal A:=by
 intro cal A h
 unfold Z58.C at h
 cases h
theorem Z58.good (hE:EnvOk Tryd.prog Q0)(pv:Nat->Value)(a0:ByteArray)(a1:ByteArray){y:_}(h:Z58.F a0 a1=some y):Qa Tryd.prog Q0 pv (.f 57) (Qb [.str,.str] (a0,a1,())) (.t .bool y):=
 Qi hE (Z58.G hE pv) (f:=57) (fn:=Tryd.f57) (by kernel_rfl) rfl (by kernel_rfl) (by kernel_rfl) ((Z58.run a0 a1).trans h) (λr hr=>Q5 hr)
def Z53.F (a0:ByteArray)(a1:ByteArray):Option (Bool):=(Z58.F a0 a1).bind λr1=>some r1
def Z53.C:Cal->Option CArm:=λc=>match c with
 |.f 57=>some (.p [.str,.str] _ (λx=>Z58.F x.1 x.2.1) (λr=>(.t .bool r)))
 |_=>none
theorem Z53.run (a0:ByteArray)(a1:ByteArray):QH Q0 (Qf Z53.C) (Qd 8 0 (λ_=>none)) Tryd.f46 [.t .str a0,.t .str a1] (Qc (.t .bool))=Z53.F a0 a1:=by kernel_rfl
theorem Z53.G (hE:EnvOk Tryd.prog Q0)(pv:Nat->Value):∀cal A,Z53.C cal=some A->Qj Tryd.prog Q0 pv cal A:=by
 intro cal A h
 unfold Z53.C at h
 split at h
 ·cases h;exact λx y hy=>Z58.good hE pv x.1 x.2.1 hy
 ·cases h
theorem Z53.good (hE:EnvOk Tryd.prog Q0)(pv:Nat->Value)(a0:ByteArray)(a1:ByteArray){y:_}(h:Z53.F a0 a1=some y):Qa Tryd.prog Q0 pv (.f 46) (Qb [.str,.str] (a0,a1,())) (.t .bool y):=
 Qi hE (Z53.G hE pv) (f:=46) (fn:=Tryd.f46) (by kernel_rfl) rfl (by kernel_rfl) (by kernel_rfl) ((Z53.run a0 a1).trans h) (λr hr=>Q5 hr)
def Z2.l0:Nat->(List Abbr)->ByteArray->Int->(List Abbr)->Int->Int->Option (Sum Int Int)
 |0,_,_,_,_,_,_=>none
 |k+1,x0,x5,x6,x16,x17,x18=>bif (decide (x18<x17))then(bif decide (0<=x18)then(bif decide (x18<(x16.length:Int))then(bif (Qn ((x16.getD (x18:Int).toNat (Q8 .abbr)).word) x5)then(some (.inl x18))else((Z52.F ((x16.getD (x18:Int).toNat (Q8 .abbr)).word) (⟨#[45]⟩:ByteArray)).bind λr3=>bif r3.2 then((Z53.F x5 r3.1).bind λr4=>bif r4 then(bif (decide (x6<0))then(Z2.l0 k x0 x5 x18 x16 x17 (IntKind.wrap .i64 (x18+1)))else(bif decide (0<=x6)then(bif decide (x6<(x0.length:Int))then(bif (decide ((((x16.getD (x18:Int).toNat (Q8 .abbr)).word).size:Int) > (((x0.getD (x6:Int).toNat (Q8 .abbr)).word).size:Int)))then(Z2.l0 k x0 x5 x18 x16 x17 (IntKind.wrap .i64 (x18+1)))else(Z2.l0 k x0 x5 x6 x16 x17 (IntKind.wrap .i64 (x18+1))))else none)else none))else(Z2.l0 k x0 x5 x6 x16 x17 (IntKind.wrap .i64 (x18+1))))else(Z2.l0 k x0 x5 x6 x16 x17 (IntKind.wrap .i64 (x18+1)))))else none)else none)else(some (.inr x6))
def Z2.F (k:Nat)(a0:List Abbr)(a1:ByteArray):Option (Int):=(Z21.F k a1).bind λr1=>bif (!r1)then(some (-1))else((Z8.F k a1).bind λr2=>(Z2.l0 k a0 r2 (-1) a0 (a0.length:Int) 0).bind λy5=>match y5 with|.inl z6=>some z6|.inr z6=>some z6)
def Z2.C (k:Nat):Cal->Option CArm:=λc=>match c with
 |.f 43=>some (.p [.str] _ (λx=>Z21.F k x.1) (λr=>(.t .bool r)))
 |.f 44=>some (.p [.str] _ (λx=>Z8.F k x.1) (λr=>(.t .str r)))
 |.f 45=>some (.p [.str,.str] _ (λx=>Z52.F x.1 x.2.1) (λr=>(.tup [.t .str r.1,.t .bool r.2])))
 |.f 46=>some (.p [.str,.str] _ (λx=>Z53.F x.1 x.2.1) (λr=>(.t .bool r)))
 |_=>none
def Z2.sp0:List Sp:=[.t 0 (.sl .abbr),.t 5 .str,.t 6 (.int .i64),.t 16 (.sl .abbr),.t 17 (.int .i64),.t 18 (.int .i64)]
def Z2.sp0_0:List Sp:=[.t 4 (.int .i64)]
def Z2.sp0_1:List Sp:=[.t 6 (.int .i64)]
def Z2.A0:LArm:=.two Z2.sp0 Z2.sp0_0 Z2.sp0_1 (Int) (Int) (λk x=>Z2.l0 k x.1 x.2.1 x.2.2.1 x.2.2.2.1 x.2.2.2.2.1 x.2.2.2.2.2.1) .ret (.exit 0) (λy=>(y,())) (λx=>x.1) (λy=>(y,())) (λx=>x.1)
def Z2.L:Nat->Option LArm:=λb=>match b with
 |0=>some Z2.A0
 |_=>none
theorem Z2.run (k:Nat)(a0:List Abbr)(a1:ByteArray):QH Q0 (Qf (Z2.C k)) (Qd 59 k Z2.L) Tryd.f25 [.t (.sl .abbr) a0,.t .str a1] (Qc (.t (.int .i64)))=Z2.F k a0 a1:=by kernel_rfl
theorem Z2.step0 (k:Nat)(x0:List Abbr)(x5:ByteArray)(x6:Int)(x16:List Abbr)(x17:Int)(x18:Int):QN Q0 (Qf (Z2.C k)) (Qd 59 k Z2.L) 0 (Qp Tryd.f25 0) (J8 59 Z2.sp0 (x0,x5,x6,x16,x17,x18,())) (Z2.A0.cont 59 k)=Z2.l0 (k+1) x0 x5 x6 x16 x17 x18:=by kernel_rfl
theorem Z2.G (hE:EnvOk Tryd.prog Q0)(pv:Nat->Value)(k:Nat):∀cal A,Z2.C k cal=some A->Qj Tryd.prog Q0 pv cal A:=by
 intro cal A h
 unfold Z2.C at h
 split at h
 ·cases h;exact λx y hy=>Z21.good hE pv k x.1 hy
 ·cases h;exact λx y hy=>Z8.good hE pv k x.1 hy
 ·cases h;exact λx y hy=>Z52.good hE pv x.1 x.2.1 hy
 ·cases h;exact λx y hy=>Z53.good hE pv x.1 x.2.1 hy
 ·cases h
theorem Z2.good (hE:EnvOk Tryd.prog Q0)(pv:Nat->Value)(k:Nat)(a0:List Abbr)(a1:ByteArray){y:_}(h:Z2.F k a0 a1=some y):Qa Tryd.prog Q0 pv (.f 25) (Qb [(.sl .abbr),.str] (a0,a1,())) (.t (.int .i64) y):=
 Ql hE (t:=Z2.C) k (λk _=>Z2.G hE pv k) (f:=25) (fn:=Tryd.f25) (by kernel_rfl) rfl (by kernel_rfl) (by kernel_rfl) (lt:=Z2.L) (by kernel_rfl) (λb A h=>by
  unfold Z2.L at h;split at h
  ·cases h;exact⟨by kernel_rfl,by kernel_rfl,by kernel_rfl,λ_=>rfl,λ_=>rfl,λ_=>rfl⟩
  ·cases h) (λb A h=>by
  unfold Z2.L at h;split at h
  ·cases h;exact λk x=>Z2.step0 k x.1 x.2.1 x.2.2.1 x.2.2.2.1 x.2.2.2.2.1 x.2.2.2.2.2.1
  ·cases h) ((Z2.run k a0 a1).trans h) (λr hr=>Q5 hr)
def Z61.F (k:Nat)(a0:List Abbr)(a1:List ByteArray):Option ((List ByteArray)×Bool):=(Z49.F k a0 a1).bind λr=>Q7y r a0 a1 (Z39.F k) (Z2.F k a0)
theorem Z61.good (hE:EnvOk Tryd.prog Q0)(pv:Nat->Value)(k:Nat)(a0:List Abbr)(a1:List ByteArray){y:_}(h:Z61.F k a0 a1=some y):Qa Tryd.prog Q0 pv (.f 9) (Qb [(.sl .abbr),(.sl .str)] (a0,a1,())) (.tup [.fr 9 .str y.1,.t .bool y.2]):=by
 unfold Z61.F at h
 cases hr:Z49.F k a0 a1 with
 |none=>rw[hr]at h;cases h
 |some r=>
  rw[hr]at h
  exact Q6I (Z49.good hE pv k a0 a1 hr) (λs p hs=>Z39.good hE pv k s hs) (λs i hs=>Z2.good hE pv k a0 s hs) h
def Z7.l0:Nat->(List ByteArray)->(List ByteArray)->Int->Option (Sum Bool Unit)
 |0,_,_,_=>none
 |k+1,x0,x1,x5=>bif (decide (x5<(x0.length:Int)))then(bif decide (0<=x5)then(bif decide (x5<(x0.length:Int))then(bif decide (0<=x5)then(bif decide (x5<(x1.length:Int))then(bif (!Qn (x0.getD (x5:Int).toNat (⟨#[]⟩:ByteArray)) (x1.getD (x5:Int).toNat (⟨#[]⟩:ByteArray)))then(some (.inl false))else(Z7.l0 k x0 x1 (IntKind.wrap .i64 (x5+1))))else none)else none)else none)else none)else(some (.inr ()))
def Z7.F (k:Nat)(a0:List ByteArray)(a1:List ByteArray):Option (Bool):=bif ((a0.length:Int) != (a1.length:Int))then(some false)else((Z7.l0 k a0 a1 0).bind λy1=>match y1 with|.inl z2=>some z2|.inr z2=>some true)
def Z7.C (k:Nat):Cal->Option CArm:=λc=>match c with
 |_=>none
def Z7.sp0:List Sp:=[.t 0 (.sl .str),.t 1 (.sl .str),.t 5 (.int .i64)]
def Z7.sp0_0:List Sp:=[.t 4 .bool]
def Z7.sp0_1:List Sp:=[]
def Z7.A0:LArm:=.two Z7.sp0 Z7.sp0_0 Z7.sp0_1 (Bool) (Unit) (λk x=>Z7.l0 k x.1 x.2.1 x.2.2.1) .ret (.exit 0) (λy=>(y,())) (λx=>x.1) (λy=>()) (λx=>())
def Z7.L:Nat->Option LArm:=λb=>match b with
 |0=>some Z7.A0
 |_=>none
theorem Z7.run (k:Nat)(a0:List ByteArray)(a1:List ByteArray):QH Q0 (Qf (Z7.C k)) (Qd 26 k Z7.L) Tryd.f10 [.t (.sl .str) a0,.t (.sl .str) a1] (Qc (.t .bool))=Z7.F k a0 a1:=by kernel_rfl
theorem Z7.step0 (k:Nat)(x0:List ByteArray)(x1:List ByteArray)(x5:Int):QN Q0 (Qf (Z7.C k)) (Qd 26 k Z7.L) 0 (Qp Tryd.f10 0) (J8 26 Z7.sp0 (x0,x1,x5,())) (Z7.A0.cont 26 k)=Z7.l0 (k+1) x0 x1 x5:=by kernel_rfl
theorem Z7.G (hE:EnvOk Tryd.prog Q0)(pv:Nat->Value)(k:Nat):∀cal A,Z7.C k cal=some A->Qj Tryd.prog Q0 pv cal A:=by
 intro cal A h
 unfold Z7.C at h
 cases h
theorem Z7.good (hE:EnvOk Tryd.prog Q0)(pv:Nat->Value)(k:Nat)(a0:List ByteArray)(a1:List ByteArray){y:_}(h:Z7.F k a0 a1=some y):Qa Tryd.prog Q0 pv (.f 10) (Qb [(.sl .str),(.sl .str)] (a0,a1,())) (.t .bool y):=
 Ql hE (t:=Z7.C) k (λk _=>Z7.G hE pv k) (f:=10) (fn:=Tryd.f10) (by kernel_rfl) rfl (by kernel_rfl) (by kernel_rfl) (lt:=Z7.L) (by kernel_rfl) (λb A h=>by
  unfold Z7.L at h;split at h
  ·cases h;exact⟨by kernel_rfl,by kernel_rfl,by kernel_rfl,λ_=>rfl,λ_=>rfl,λ_=>rfl⟩
  ·cases h) (λb A h=>by
  unfold Z7.L at h;split at h
  ·cases h;exact λk x=>Z7.step0 k x.1 x.2.1 x.2.2.1
  ·cases h) ((Z7.run k a0 a1).trans h) (λr hr=>Q5 hr)
def Z54.F (a0:Abbr)(a1:Abbr):Option (Bool):=bif (!Qn a0.word a1.word)then(some false)else(bif (!Qn a0.short a1.short)then(some false)else(some true))
def Z54.C:Cal->Option CArm:=λc=>match c with
 |_=>none
theorem Z54.run (a0:Abbr)(a1:Abbr):QH Q0 (Qf Z54.C) (Qd 15 0 (λ_=>none)) Tryd.f26 [.t .abbr a0,.t .abbr a1] (Qc (.t .bool))=Z54.F a0 a1:=by kernel_rfl
theorem Z54.G (hE:EnvOk Tryd.prog Q0)(pv:Nat->Value):∀cal A,Z54.C cal=some A->Qj Tryd.prog Q0 pv cal A:=by
 intro cal A h
 unfold Z54.C at h
 cases h
theorem Z54.good (hE:EnvOk Tryd.prog Q0)(pv:Nat->Value)(a0:Abbr)(a1:Abbr){y:_}(h:Z54.F a0 a1=some y):Qa Tryd.prog Q0 pv (.f 26) (Qb [.abbr,.abbr] (a0,a1,())) (.t .bool y):=
 Qi hE (Z54.G hE pv) (f:=26) (fn:=Tryd.f26) (by kernel_rfl) rfl (by kernel_rfl) (by kernel_rfl) ((Z54.run a0 a1).trans h) (λr hr=>Q5 hr)
def Z22.l0:Nat->(List Abbr)->(List Abbr)->Int->Option (Sum Bool Unit)
 |0,_,_,_=>none
 |k+1,x0,x1,x5=>bif (decide (x5<(x0.length:Int)))then(bif decide (0<=x5)then(bif decide (x5<(x0.length:Int))then(bif decide (0<=x5)then(bif decide (x5<(x1.length:Int))then((Z54.F (x0.getD (x5:Int).toNat (Q8 .abbr)) (x1.getD (x5:Int).toNat (Q8 .abbr))).bind λr1=>bif (!r1)then(some (.inl false))else(Z22.l0 k x0 x1 (IntKind.wrap .i64 (x5+1))))else none)else none)else none)else none)else(some (.inr ()))
def Z22.F (k:Nat)(a0:List Abbr)(a1:List Abbr):Option (Bool):=bif ((a0.length:Int) != (a1.length:Int))then(some false)else((Z22.l0 k a0 a1 0).bind λy2=>match y2 with|.inl z3=>some z3|.inr z3=>some true)
def Z22.C (k:Nat):Cal->Option CArm:=λc=>match c with
 |.f 26=>some (.p [.abbr,.abbr] _ (λx=>Z54.F x.1 x.2.1) (λr=>(.t .bool r)))
 |_=>none
def Z22.sp0:List Sp:=[.t 0 (.sl .abbr),.t 1 (.sl .abbr),.t 5 (.int .i64)]
def Z22.sp0_0:List Sp:=[.t 4 .bool]
def Z22.sp0_1:List Sp:=[]
def Z22.A0:LArm:=.two Z22.sp0 Z22.sp0_0 Z22.sp0_1 (Bool) (Unit) (λk x=>Z22.l0 k x.1 x.2.1 x.2.2.1) .ret (.exit 0) (λy=>(y,())) (λx=>x.1) (λy=>()) (λx=>())
def Z22.L:Nat->Option LArm:=λb=>match b with
 |0=>some Z22.A0
 |_=>none
theorem Z22.run (k:Nat)(a0:List Abbr)(a1:List Abbr):QH Q0 (Qf (Z22.C k)) (Qd 27 k Z22.L) Tryd.f11 [.t (.sl .abbr) a0,.t (.sl .abbr) a1] (Qc (.t .bool))=Z22.F k a0 a1:=by kernel_rfl
theorem Z22.step0 (k:Nat)(x0:List Abbr)(x1:List Abbr)(x5:Int):QN Q0 (Qf (Z22.C k)) (Qd 27 k Z22.L) 0 (Qp Tryd.f11 0) (J8 27 Z22.sp0 (x0,x1,x5,())) (Z22.A0.cont 27 k)=Z22.l0 (k+1) x0 x1 x5:=by kernel_rfl
theorem Z22.G (hE:EnvOk Tryd.prog Q0)(pv:Nat->Value)(k:Nat):∀cal A,Z22.C k cal=some A->Qj Tryd.prog Q0 pv cal A:=by
 intro cal A h
 unfold Z22.C at h
 split at h
 ·cases h;exact λx y hy=>Z54.good hE pv x.1 x.2.1 hy
 ·cases h
theorem Z22.good (hE:EnvOk Tryd.prog Q0)(pv:Nat->Value)(k:Nat)(a0:List Abbr)(a1:List Abbr){y:_}(h:Z22.F k a0 a1=some y):Qa Tryd.prog Q0 pv (.f 11) (Qb [(.sl .abbr),(.sl .abbr)] (a0,a1,())) (.t .bool y):=
 Ql hE (t:=Z22.C) k (λk _=>Z22.G hE pv k) (f:=11) (fn:=Tryd.f11) (by kernel_rfl) rfl (by kernel_rfl) (by kernel_rfl) (lt:=Z22.L) (by kernel_rfl) (λb A h=>by
  unfold Z22.L at h;split at h
  ·cases h;exact⟨by kernel_rfl,by kernel_rfl,by kernel_rfl,λ_=>rfl,λ_=>rfl,λ_=>rfl⟩
  ·cases h) (λb A h=>by
  unfold Z22.L at h;split at h
  ·cases h;exact λk x=>Z22.step0 k x.1 x.2.1 x.2.2.1
  ·cases h) ((Z22.run k a0 a1).trans h) (λr hr=>Q5 hr)
def Z4.l0:Nat->Int->ByteArray->Option (ByteArray)
 |0,_,_=>none
 |k+1,x0,x3=>bif (decide (x0 > 0))then(bif (10==0)then(none)else(bif Nat.ble ((DI ([(IntKind.wrap .u8 (IntKind.wrap .i64 (48+(Int.tmod x0 10))))]:List Int)).size+x3.size) 9223372036854775807 then(bif (10==0)then(none)else(Z4.l0 k (IntKind.wrap .i64 (Int.tdiv x0 10)) ((DI ([(IntKind.wrap .u8 (IntKind.wrap .i64 (48+(Int.tmod x0 10))))]:List Int))++x3)))else none))else(some x3)
def Z4.F (k:Nat)(a0:Int):Option (ByteArray):=bif (decide (a0<=0))then(some (⟨#[109,48]⟩:ByteArray))else((Z4.l0 k a0 (⟨#[]⟩:ByteArray)).bind λy1=>bif Nat.ble ((⟨#[109]⟩:ByteArray).size+y1.size) 9223372036854775807 then(some ((⟨#[109]⟩:ByteArray)++y1))else none)
def Z4.C (k:Nat):Cal->Option CArm:=λc=>match c with
 |_=>none
def Z4.sp0:List Sp:=[.t 0 (.int .i64),.t 3 .str]
def Z4.sp0_0:List Sp:=[.t 3 .str]
def Z4.A0:LArm:=.one Z4.sp0 Z4.sp0_0 (ByteArray) (λk x=>Z4.l0 k x.1 x.2.1) (.exit 0) (λy=>(y,())) (λx=>x.1)
def Z4.L:Nat->Option LArm:=λb=>match b with
 |0=>some Z4.A0
 |_=>none
theorem Z4.run (k:Nat)(a0:Int):QH Q0 (Qf (Z4.C k)) (Qd 20 k Z4.L) Tryd.f27 [.t (.int .i64) a0] (Qc (.t .str))=Z4.F k a0:=by kernel_rfl
theorem Z4.step0 (k:Nat)(x0:Int)(x3:ByteArray):QN Q0 (Qf (Z4.C k)) (Qd 20 k Z4.L) 0 (Qp Tryd.f27 0) (J8 20 Z4.sp0 (x0,x3,())) (Z4.A0.cont 20 k)=Z4.l0 (k+1) x0 x3:=by kernel_rfl
theorem Z4.G (hE:EnvOk Tryd.prog Q0)(pv:Nat->Value)(k:Nat):∀cal A,Z4.C k cal=some A->Qj Tryd.prog Q0 pv cal A:=by
 intro cal A h
 unfold Z4.C at h
 cases h
theorem Z4.good (hE:EnvOk Tryd.prog Q0)(pv:Nat->Value)(k:Nat)(a0:Int){y:_}(h:Z4.F k a0=some y):Qa Tryd.prog Q0 pv (.f 27) (Qb [(.int .i64)] (a0,())) (.t .str y):=
 Ql hE (t:=Z4.C) k (λk _=>Z4.G hE pv k) (f:=27) (fn:=Tryd.f27) (by kernel_rfl) rfl (by kernel_rfl) (by kernel_rfl) (lt:=Z4.L) (by kernel_rfl) (λb A h=>by
  unfold Z4.L at h;split at h
  ·cases h;exact⟨by kernel_rfl,by kernel_rfl,λ_=>rfl,λ_=>rfl⟩
  ·cases h) (λb A h=>by
  unfold Z4.L at h;split at h
  ·cases h;exact λk x=>Z4.step0 k x.1 x.2.1
  ·cases h) ((Z4.run k a0).trans h) (λr hr=>Q5 hr)
def Z29.l0:Nat->(List Abbr)->Int->Int->Option ((List Abbr)×Int)
 |0,_,_,_=>none
 |k+1,x0,x1,x5=>bif (decide (x5<(x0.length:Int)))then((Z4.F k x1).bind λr1=>bif decide (0<=x5)then(bif decide (x5<(x0.length:Int))then((Z4.F k (IntKind.wrap .i64 (x1+1))).bind λr2=>bif decide (0<=x5)then(bif decide (x5<((x0.set ((x5:Int).toNat) (⟨r1,(x0.getD ((x5:Int).toNat) (Q8 .abbr)).short⟩:Abbr)).length:Int))then(Z29.l0 k ((x0.set ((x5:Int).toNat) (⟨r1,(x0.getD ((x5:Int).toNat) (Q8 .abbr)).short⟩:Abbr)).set ((x5:Int).toNat) (⟨((x0.set ((x5:Int).toNat) (⟨r1,(x0.getD ((x5:Int).toNat) (Q8 .abbr)).short⟩:Abbr)).getD ((x5:Int).toNat) (Q8 .abbr)).word,r2⟩:Abbr)) (IntKind.wrap .i64 ((IntKind.wrap .i64 (x1+1))+1)) (IntKind.wrap .i64 (x5+1)))else none)else none)else none)else none)else(some (x0,x1))
def Z29.F (k:Nat)(a0:List Abbr)(a1:Int):Option ((List Abbr)×Int):=(Z29.l0 k a0 a1 0).bind λy3=>bif Nat.beq (y3.1).length a0.length then(some (y3.1,y3.2))else none
def Z29.C (k:Nat):Cal->Option CArm:=λc=>match c with
 |.f 27=>some (.p [(.int .i64)] _ (λx=>Z4.F k x.1) (λr=>(.t .str r)))
 |_=>none
def Z29.sp0:List Sp:=[.own 0 1099511627776 45 .abbr false true,.t 1 (.int .i64),.t 5 (.int .i64)]
def Z29.sp0_0:List Sp:=[.own 0 1099511627776 45 .abbr false true,.t 1 (.int .i64)]
def Z29.A0:LArm:=.one Z29.sp0 Z29.sp0_0 ((List Abbr)×Int) (λk x=>Z29.l0 k x.1 x.2.1 x.2.2.1) (.exit 0) (λy=>(y.1,y.2,())) (λx=>(x.1,x.2.1))
def Z29.L:Nat->Option LArm:=λb=>match b with
 |0=>some Z29.A0
 |_=>none
theorem Z29.run (k:Nat)(a0:List Abbr)(a1:Int):Q1E Q0 (Qf (Z29.C k)) (Qd 29 k Z29.L) Tryd.f12 Q6 (.fr 45 .abbr a0) [.t (.int .i64) a1] (Q48 (.fr 45 .abbr) (Qc (.t (.int .i64))))=Z29.F k a0 a1:=by kernel_rfl
theorem Z29.step0 (k:Nat)(x0:List Abbr)(x1:Int)(x5:Int):QN Q0 (Qf (Z29.C k)) (Qd 29 k Z29.L) 0 (Qp Tryd.f12 0) (J8 29 Z29.sp0 (x0,x1,x5,())) (Z29.A0.cont 29 k)=Z29.l0 (k+1) x0 x1 x5:=by kernel_rfl
theorem Z29.G (hE:EnvOk Tryd.prog Q0)(pv:Nat->Value)(k:Nat):∀cal A,Z29.C k cal=some A->Qj Tryd.prog Q0 pv cal A:=by
 intro cal A h
 unfold Z29.C at h
 split at h
 ·cases h;exact λx y hy=>Z4.good hE pv k x.1 hy
 ·cases h
theorem Z29.good (hE:EnvOk Tryd.prog Q0)(pv:Nat->Value)(k:Nat)(a0:List Abbr)(a1:Int){y:_}(h:Z29.F k a0 a1=some y):Ju Tryd.prog Q0 pv 12 (.fr 45 .abbr a0) (Qb [(.int .i64)] (a1,())) (.kep (.fr 45 .abbr y.1) (.t (.int .i64) y.2)):=
 Un hE (t:=Z29.C) k (λk _=>Z29.G hE pv k) (f:=12) (fn:=Tryd.f12) (by kernel_rfl) rfl (by kernel_rfl) (.inl rfl) (by kernel_rfl) (lt:=Z29.L) (by kernel_rfl) (λb A h=>by
  unfold Z29.L at h;split at h
  ·cases h;exact⟨by kernel_rfl,by kernel_rfl,λ_=>rfl,λ_=>rfl⟩
  ·cases h) (λb A h=>by
  unfold Z29.L at h;split at h
  ·cases h;exact λk x=>Z29.step0 k x.1 x.2.1 x.2.2.1
  ·cases h) ((Z29.run k a0 a1).trans h) (λr hr=>Q2o (λr y h=>Q5 h) hr)
def Z6.l0:Nat->(List ByteArray)->Int->Int->Option ((List ByteArray)×Int)
 |0,_,_,_=>none
 |k+1,x0,x1,x5=>bif (decide (x5<(x0.length:Int)))then((Z4.F k x1).bind λr1=>bif decide (0<=x5)then(bif decide (x5<(x0.length:Int))then(Z6.l0 k (x0.set ((x5:Int).toNat) r1) (IntKind.wrap .i64 (x1+1)) (IntKind.wrap .i64 (x5+1)))else none)else none)else(some (x0,x1))
def Z6.F (k:Nat)(a0:List ByteArray)(a1:Int):Option ((List ByteArray)×Int):=(Z6.l0 k a0 a1 0).bind λy2=>bif Nat.beq (y2.1).length a0.length then(some (y2.1,y2.2))else none
def Z6.C (k:Nat):Cal->Option CArm:=λc=>match c with
 |.f 27=>some (.p [(.int .i64)] _ (λx=>Z4.F k x.1) (λr=>(.t .str r)))
 |_=>none
def Z6.sp0:List Sp:=[.own 0 1099511627776 9 .str false true,.t 1 (.int .i64),.t 5 (.int .i64)]
def Z6.sp0_0:List Sp:=[.own 0 1099511627776 9 .str false true,.t 1 (.int .i64)]
def Z6.A0:LArm:=.one Z6.sp0 Z6.sp0_0 ((List ByteArray)×Int) (λk x=>Z6.l0 k x.1 x.2.1 x.2.2.1) (.exit 0) (λy=>(y.1,y.2,())) (λx=>(x.1,x.2.1))
def Z6.L:Nat->Option LArm:=λb=>match b with
 |0=>some Z6.A0
 |_=>none
theorem Z6.run (k:Nat)(a0:List ByteArray)(a1:Int):Q1E Q0 (Qf (Z6.C k)) (Qd 20 k Z6.L) Tryd.f13 Q6 (.fr 9 .str a0) [.t (.int .i64) a1] (Q48 (.fr 9 .str) (Qc (.t (.int .i64))))=Z6.F k a0 a1:=by kernel_rfl
theorem Z6.step0 (k:Nat)(x0:List ByteArray)(x1:Int)(x5:Int):QN Q0 (Qf (Z6.C k)) (Qd 20 k Z6.L) 0 (Qp Tryd.f13 0) (J8 20 Z6.sp0 (x0,x1,x5,())) (Z6.A0.cont 20 k)=Z6.l0 (k+1) x0 x1 x5:=by kernel_rfl
theorem Z6.G (hE:EnvOk Tryd.prog Q0)(pv:Nat->Value)(k:Nat):∀cal A,Z6.C k cal=some A->Qj Tryd.prog Q0 pv cal A:=by
 intro cal A h
 unfold Z6.C at h
 split at h
 ·cases h;exact λx y hy=>Z4.good hE pv k x.1 hy
 ·cases h
theorem Z6.good (hE:EnvOk Tryd.prog Q0)(pv:Nat->Value)(k:Nat)(a0:List ByteArray)(a1:Int){y:_}(h:Z6.F k a0 a1=some y):Ju Tryd.prog Q0 pv 13 (.fr 9 .str a0) (Qb [(.int .i64)] (a1,())) (.kep (.fr 9 .str y.1) (.t (.int .i64) y.2)):=
 Un hE (t:=Z6.C) k (λk _=>Z6.G hE pv k) (f:=13) (fn:=Tryd.f13) (by kernel_rfl) rfl (by kernel_rfl) (.inl rfl) (by kernel_rfl) (lt:=Z6.L) (by kernel_rfl) (λb A h=>by
  unfold Z6.L at h;split at h
  ·cases h;exact⟨by kernel_rfl,by kernel_rfl,λ_=>rfl,λ_=>rfl⟩
  ·cases h) (λb A h=>by
  unfold Z6.L at h;split at h
  ·cases h;exact λk x=>Z6.step0 k x.1 x.2.1 x.2.2.1
  ·cases h) ((Z6.run k a0 a1).trans h) (λr hr=>Q2o (λr y h=>Q5 h) hr)
def Z16.l0:Nat->(List ByteArray)->Int->Int->Option (Sum Int Int)
 |0,_,_,_=>none
 |k+1,x0,x1,x5=>bif (decide (x5<(x0.length:Int)))then(bif decide (0<=x5)then(bif decide (x5<(x0.length:Int))then((Z4.F k x1).bind λr1=>bif (!Qn (x0.getD (x5:Int).toNat (⟨#[]⟩:ByteArray)) r1)then(some (.inl (-1)))else(Z16.l0 k x0 (IntKind.wrap .i64 (x1+1)) (IntKind.wrap .i64 (x5+1))))else none)else none)else(some (.inr x1))
def Z16.F (k:Nat)(a0:List ByteArray)(a1:Int):Option (Int):=(Z16.l0 k a0 a1 0).bind λy2=>match y2 with|.inl z3=>some z3|.inr z3=>some z3
def Z16.C (k:Nat):Cal->Option CArm:=λc=>match c with
 |.f 27=>some (.p [(.int .i64)] _ (λx=>Z4.F k x.1) (λr=>(.t .str r)))
 |_=>none
def Z16.sp0:List Sp:=[.t 0 (.sl .str),.t 1 (.int .i64),.t 5 (.int .i64)]
def Z16.sp0_0:List Sp:=[.t 4 (.int .i64)]
def Z16.sp0_1:List Sp:=[.t 1 (.int .i64)]
def Z16.A0:LArm:=.two Z16.sp0 Z16.sp0_0 Z16.sp0_1 (Int) (Int) (λk x=>Z16.l0 k x.1 x.2.1 x.2.2.1) .ret (.exit 0) (λy=>(y,())) (λx=>x.1) (λy=>(y,())) (λx=>x.1)
def Z16.L:Nat->Option LArm:=λb=>match b with
 |0=>some Z16.A0
 |_=>none
theorem Z16.run (k:Nat)(a0:List ByteArray)(a1:Int):QH Q0 (Qf (Z16.C k)) (Qd 22 k Z16.L) Tryd.f14 [.t (.sl .str) a0,.t (.int .i64) a1] (Qc (.t (.int .i64)))=Z16.F k a0 a1:=by kernel_rfl
theorem Z16.step0 (k:Nat)(x0:List ByteArray)(x1:Int)(x5:Int):QN Q0 (Qf (Z16.C k)) (Qd 22 k Z16.L) 0 (Qp Tryd.f14 0) (J8 22 Z16.sp0 (x0,x1,x5,())) (Z16.A0.cont 22 k)=Z16.l0 (k+1) x0 x1 x5:=by kernel_rfl
theorem Z16.G (hE:EnvOk Tryd.prog Q0)(pv:Nat->Value)(k:Nat):∀cal A,Z16.C k cal=some A->Qj Tryd.prog Q0 pv cal A:=by
 intro cal A h
 unfold Z16.C at h
 split at h
 ·cases h;exact λx y hy=>Z4.good hE pv k x.1 hy
 ·cases h
theorem Z16.good (hE:EnvOk Tryd.prog Q0)(pv:Nat->Value)(k:Nat)(a0:List ByteArray)(a1:Int){y:_}(h:Z16.F k a0 a1=some y):Qa Tryd.prog Q0 pv (.f 14) (Qb [(.sl .str),(.int .i64)] (a0,a1,())) (.t (.int .i64) y):=
 Ql hE (t:=Z16.C) k (λk _=>Z16.G hE pv k) (f:=14) (fn:=Tryd.f14) (by kernel_rfl) rfl (by kernel_rfl) (by kernel_rfl) (lt:=Z16.L) (by kernel_rfl) (λb A h=>by
  unfold Z16.L at h;split at h
  ·cases h;exact⟨by kernel_rfl,by kernel_rfl,by kernel_rfl,λ_=>rfl,λ_=>rfl,λ_=>rfl⟩
  ·cases h) (λb A h=>by
  unfold Z16.L at h;split at h
  ·cases h;exact λk x=>Z16.step0 k x.1 x.2.1 x.2.2.1
  ·cases h) ((Z16.run k a0 a1).trans h) (λr hr=>Q5 hr)
def Z59.F (k:Nat)(a0:List Abbr)(a1:List ByteArray):Option (Bool):=(Z17.F k a0 1048576).bind λr1=>bif (decide (r1<0))then(some true)else((Z18.F k a1 r1).bind λr2=>bif (decide (r2<0))then(some true)else((Z12.F k a0).bind λr3=>(Z13.F k a1).bind λr4=>(Z0.F k r3 r4).bind λr5=>(Z12.F k a0).bind λr6=>(Z13.F k a1).bind λr7=>(Z61.F k r6 r7).bind λr8=>(Z7.F k r8.1 r5.1).bind λr9=>bif (!r9)then(some false)else(bif (!(r8.2==r5.2))then(some false)else((Z12.F k a0).bind λr10=>(Z22.F k r6 r10).bind λr11=>bif (!r11)then(some false)else((Z13.F k a1).bind λr12=>(Z7.F k r7 r12).bind λr13=>bif (!r13)then(some false)else((Z29.F k r6 1).bind λr14=>(Z6.F k r7 r14.2).bind λr15=>bif (decide (r15.2<0))then(some false)else((Z7.F k r8.1 r5.1).bind λr16=>bif (!r16)then(some false)else(bif (!(r8.2==r5.2))then(some false)else((Z6.F k r8.1 1).bind λr17=>(Z16.F k r17.1 1).bind λr18=>bif (decide (r18<0))then(some false)else(bif (r18 != r17.2)then(some false)else((Z12.F k a0).bind λr19=>(Z13.F k a1).bind λr20=>(Z61.F k r19 r20).bind λr21=>(Z7.F k r21.1 r5.1).bind λr22=>bif (!r22)then(some false)else(bif (!(r21.2==r5.2))then(some false)else((Z16.F k r17.1 1).bind λr23=>bif (decide (r23<0))then(some false)else(bif (r23 != r17.2)then(some false)else(some true)))))))))))))))
def Z59.C (k:Nat):Cal->Option CArm:=λc=>match c with
 |.f 4=>some (.p [(.sl .abbr),(.int .i64)] _ (λx=>Z17.F k x.1 x.2.1) (λr=>(.t (.int .i64) r)))
 |.f 5=>some (.p [(.sl .str),(.int .i64)] _ (λx=>Z18.F k x.1 x.2.1) (λr=>(.t (.int .i64) r)))
 |.f 7=>some (.p [(.sl .abbr)] _ (λx=>Z12.F k x.1) (λr=>(.fr 45 .abbr r)))
 |.f 8=>some (.p [(.sl .str)] _ (λx=>Z13.F k x.1) (λr=>(.fr 9 .str r)))
 |.f 6=>some (.p [(.sl .abbr),(.sl .str)] _ (λx=>Z0.F k x.1 x.2.1) (λr=>(.tup [.fr 9 .str r.1,.t .bool r.2])))
 |.f 9=>some (.p [(.sl .abbr),(.sl .str)] _ (λx=>Z61.F k x.1 x.2.1) (λr=>(.tup [.fr 9 .str r.1,.t .bool r.2])))
 |.f 10=>some (.p [(.sl .str),(.sl .str)] _ (λx=>Z7.F k x.1 x.2.1) (λr=>(.t .bool r)))
 |.f 11=>some (.p [(.sl .abbr),(.sl .abbr)] _ (λx=>Z22.F k x.1 x.2.1) (λr=>(.t .bool r)))
 |.f 12=>some (.m (.fr 45 .abbr) [(.int .i64)] _ (λx0 x=>Z29.F k x0 x.1) (λr=>.kep (.fr 45 .abbr r.1) (.t (.int .i64) r.2)))
 |.f 13=>some (.m (.fr 9 .str) [(.int .i64)] _ (λx0 x=>Z6.F k x0 x.1) (λr=>.kep (.fr 9 .str r.1) (.t (.int .i64) r.2)))
 |.f 14=>some (.p [(.sl .str),(.int .i64)] _ (λx=>Z16.F k x.1 x.2.1) (λr=>(.t (.int .i64) r)))
 |_=>none
theorem Z59.run (k:Nat)(a0:List Abbr)(a1:List ByteArray):QH Q0 (Qf (Z59.C k)) (Qd 119 0 (λ_=>none)) Tryd.f3 [.t (.sl .abbr) a0,.t (.sl .str) a1] (Qc (.t .bool))=Z59.F k a0 a1:=by kernel_rfl
theorem Z59.G (hE:EnvOk Tryd.prog Q0)(pv:Nat->Value)(k:Nat):∀cal A,Z59.C k cal=some A->Qj Tryd.prog Q0 pv cal A:=by
 intro cal A h
 unfold Z59.C at h
 split at h
 ·cases h;exact λx y hy=>Z17.good hE pv k x.1 x.2.1 hy
 ·cases h;exact λx y hy=>Z18.good hE pv k x.1 x.2.1 hy
 ·cases h;exact λx y hy=>Z12.good hE pv k x.1 hy
 ·cases h;exact λx y hy=>Z13.good hE pv k x.1 hy
 ·cases h;exact λx y hy=>Z0.good hE pv k x.1 x.2.1 hy
 ·cases h;exact λx y hy=>Z61.good hE pv k x.1 x.2.1 hy
 ·cases h;exact λx y hy=>Z7.good hE pv k x.1 x.2.1 hy
 ·cases h;exact λx y hy=>Z22.good hE pv k x.1 x.2.1 hy
 ·cases h;exact⟨_,rfl,λx0 x y hy=>Z29.good hE pv k x0 x.1 hy⟩
 ·cases h;exact⟨_,rfl,λx0 x y hy=>Z6.good hE pv k x0 x.1 hy⟩
 ·cases h;exact λx y hy=>Z16.good hE pv k x.1 x.2.1 hy
 ·cases h
theorem Z59.good (hE:EnvOk Tryd.prog Q0)(pv:Nat->Value)(k:Nat)(a0:List Abbr)(a1:List ByteArray){y:_}(h:Z59.F k a0 a1=some y):Qa Tryd.prog Q0 pv (.f 3) (Qb [(.sl .abbr),(.sl .str)] (a0,a1,())) (.t .bool y):=
 Qi hE (Z59.G hE pv k) (f:=3) (fn:=Tryd.f3) (by kernel_rfl) rfl (by kernel_rfl) (by kernel_rfl) ((Z59.run k a0 a1).trans h) (λr hr=>Q5 hr)
end Go.Proofs.YtlnhmbnbloakmaaDoor
end
section
/- Plain laws: abbreviations,their check. -/
namespace Go.Proofs.YtlnhmbnbloakmaaDoor
open Go.Gx
def szA (a:Abbr):Nat:=a.word.size+a.short.size
def KV (xs:List Abbr):Nat:=(xs.map szA).sum
theorem Q8b (a:Abbr)(l:Int)(hl:0<=l)(hl2:l<=1048576)(h:WF .abbr a):Z40.F a l=some (if l-szA a<0 then -1 else l-szA a):=by
 cases h with
 |abbr _ h1 h2=>
  have h1:=Q3q h1
  have h2:=Q3q h2
  unfold Z40.F szA
  by_cases c:l-(a.word.size:Int)<0
  ·simp(disch:=omega) only[wrap_in,Qe]
   rw[if_pos (by omega)]
  ·by_cases c2:l-(a.word.size:Int)-(a.short.size:Int)<0
   ·simp(disch:=omega) only[wrap_in,Qe,QB]
    rw[if_pos (by omega)]
   ·simp(disch:=omega) only[wrap_in,Qe,QB]
    rw[if_neg (by omega)]
    congr 1;omega
theorem getD_at {α:Type}{xs:List α}{i:Nat}(h:i<xs.length)(d:α):xs.getD i d=xs[i]:=by simp[List.getD,List.getElem?_eq_getElem h]
theorem Q4d (xs:List Abbr)(hw:WF (.sl .abbr) xs)(hlen:xs.length<=1048576):∀n i:Nat,i+n=xs.length->∀l:Int,0<=l->l<=1048576->
  Ev (λk=>Z17.l0 k xs l i) (if l-KV (xs.drop i)<0 then .inl (-1)else .inr (l-KV (xs.drop i)))
 |0,i,h,l,h0,h1=>by
  refine Ev.step (λk=>by rw[Z17.l0]) ?_
  simp(disch:=omega) only[QB]
  rw[List.drop_eq_nil_of_le (by omega)]
  simp only[KV,List.map_nil,List.sum_nil]
  rw[if_neg (by omega)]
  exact(Ev.pure _).eq (by congr 1;omega)
 |n+1,i,h,l,h0,h1=>by
  have hi:i<xs.length:=by omega
  have hwi:WF .abbr xs[i]:=by cases hw with|sl _ _ _ h=>exact h i hi
  have hd:KV (xs.drop i)=szA xs[i]+KV (xs.drop (i+1)):=by
   rw[List.drop_eq_getElem_cons hi];unfold KV;rw[List.map_cons,List.sum_cons]
  refine Ev.step (λk=>by rw[Z17.l0]) ?_
  simp(disch:=omega) only[Qe,Int.toNat_natCast,getD_at hi]
  refine Ev.bind0 (Q8b _ l h0 h1 hwi) ?_
  by_cases c:l-(szA xs[i]:Int)<0
  ·simp(disch:=omega) only[if_pos c,Qe]
   rw[if_pos (by omega)]
   exact Ev.pure _
  ·simp(disch:=omega) only[if_neg c,QB,wrap_in]
   have:=Q4d xs hw hlen n (i+1) (by omega) (l-szA xs[i]) (by omega) (by omega)
   refine this.eq ?_
   rw[hd]
   by_cases c2:l-(szA xs[i]:Int)-(KV (xs.drop (i+1)):Int)<0
   ·rw[if_pos c2,if_pos (by omega)]
   ·rw[if_neg c2,if_neg (by omega)];congr 1;omega
theorem Q6J {e:Ty}{xs:List (den e)}(h:WF (.sl e) xs):xs.length<=9223372036854775807:=by
 cases h with|sl _ _ h _=>exact maxLen_eq▸h
theorem Q7z (xs:List Abbr)(l:Int)(h0:0<=l)(h1:l<=1048576)(hw:WF (.sl .abbr) xs):∃r,Ev (λk=>Z17.F k xs l) r/\(0<=r->(xs.length:Int)+KV xs+r=l):=by
 have hl:xs.length<=9223372036854775807:=Q6J hw
 unfold Z17.F
 by_cases c:l-(xs.length:Int)<0
 ·simp(disch:=omega) only[wrap_in,Qe]
  exact⟨-1,Ev.pure _,λh=>by omega⟩
 ·simp(disch:=omega) only[wrap_in,QB]
  have:=Q4d xs hw (by omega) xs.length 0 (by omega) (l-xs.length) (by omega) (by omega)
  simp only[List.drop_zero]at this
  by_cases c2:l-(xs.length:Int)-(KV xs:Int)<0
  ·rw[if_pos c2]at this
   exact⟨-1,Ev.bind this (Ev.pure _),λh=>by omega⟩
  ·rw[if_neg c2]at this
   exact⟨l-(xs.length:Int)-(KV xs:Int),Ev.bind this (Ev.pure _),λh=>by omega⟩
theorem Q4e (xs:List Abbr)(hlen:xs.length<=1048576):∀n i:Nat,i+n=xs.length->∀ys:List Abbr,ys.length=xs.length->ys.take i=xs.take i->Ev (λk=>Z12.l0 k xs ys i) xs
 |0,i,h,ys,hy,ht=>by
  refine Ev.step (λk=>by rw[Z12.l0]) ?_
  simp(disch:=omega) only[QB]
  have:ys=xs:=by
   rw[List.take_of_length_le (by omega),List.take_of_length_le (by omega)]at ht
   exact ht
  rw[this];exact Ev.pure _
 |n+1,i,h,ys,hy,ht=>by
  have hi:i<xs.length:=by omega
  refine Ev.step (λk=>by rw[Z12.l0]) ?_
  simp(disch:=omega) only[Qe,Int.toNat_natCast,getD_at hi]
  refine Ev.bind0 (a:=xs[i]) rfl ?_
  simp(disch:=omega) only[Qe,wrap_in]
  have:=Q4e xs hlen n (i+1) (by omega) (ys.set i xs[i]) (by simpa using hy) (by
   rw[List.take_add_one,List.take_add_one,List.take_set_of_le (Nat.le_refl i),ht]
   simp[show i<ys.length by omega,hi])
  exact this
theorem Q7A (xs:List Abbr)(hlen:xs.length<=1048576):Ev (λk=>Z12.F k xs) xs:=by
 unfold Z12.F
 have hn:nb .abbr=32:=rfl
 simp(disch:=first|omega|(simp only[hn,Int.toNat_natCast];omega)) only[ceq,Qe,Q6C]
 refine Ev.bind (a:=xs) ?_ (Ev.pure _)
 exact Q4e xs hlen xs.length 0 (by omega) _ (by simp) (by simp)
theorem Q8c (a:Abbr):Z54.F a a=some true:=by
 unfold Z54.F
 simp only[Xc,Bool.not_true,cond_false]
theorem Q4f (xs:List Abbr)(hlen:xs.length<=1048576):∀n i:Nat,i+n=xs.length->Ev (λk=>Z22.l0 k xs xs i) (.inr ())
 |0,i,h=>by
  refine Ev.step (λk=>by rw[Z22.l0]) ?_
  simp(disch:=omega) only[QB]
  exact Ev.pure _
 |n+1,i,h=>by
  have hi:i<xs.length:=by omega
  refine Ev.step (λk=>by rw[Z22.l0]) ?_
  simp(disch:=omega) only[Qe,Int.toNat_natCast,getD_at hi]
  refine Ev.bind0 (Q8c _) ?_
  simp(disch:=omega) only[Bool.not_true,cond_false,wrap_in]
  exact Q4f xs hlen n (i+1) (by omega)
theorem Q7B (xs:List Abbr)(hlen:xs.length<=1048576):Ev (λk=>Z22.F k xs xs) true:=by
 unfold Z22.F
 simp(disch:=omega) only[Q7t]
 exact Ev.bind (Q4f xs hlen xs.length 0 (by omega)) (Ev.pure _)
def low (b:UInt8):Bool:=decide (97<=b.toNat)&&decide (b.toNat<=122)
def YQ (s:ByteArray)(b:Nat):ByteArray:=if 0<s.size/\bt s (s.size-1)=b then s.extract 0 (s.size-1)else s
theorem KW (s:ByteArray)(b:Nat):(YQ s b).size<=s.size:=by
 unfold YQ;split
 ·simp[ByteArray.size_extract]
 ·exact Nat.le_refl _
theorem Kv {s:ByteArray}:(!Qn s ⟨#[]⟩)=decide (0<s.size):=by
 rw[Q4b]
 have:L ⟨#[]⟩=[]:=rfl
 rw[this,<-Yk]
 cases L s<;>rfl
theorem Xy (s:ByteArray)(b:Nat)(h:s.size<=9223372036854775807):Z33.F s b=some (YQ s b):=by
 unfold Z33.F YQ
 rw[Kv]
 by_cases c:0<s.size
 ·simp(disch:=omega) only[Qe,wrap_in]
  rw[show((s.size:Int)-1).toNat=s.size-1 by omega]
  by_cases c2:bt s (s.size-1)=b
  ·simp(disch:=first|omega|exact c2) only[ceq]
   rw[if_pos ⟨c,c2⟩]
  ·simp(disch:=first|omega|exact c2) only[cne]
   rw[if_neg (λh=>c2 h.2)]
 ·simp(disch:=omega) only[QB]
  rw[if_neg (λh=>c h.1)]
theorem Q0K (s:ByteArray)(c:UInt8)(h:s.size<=9223372036854775807):Z37.F s ⟨#[c]⟩=some (decide (0<s.size)&&(bt s (s.size-1)==(c.toNat:Int))):=by
 unfold Z37.F
 have h1:(⟨#[c]⟩:ByteArray).size=1:=rfl
 rw[h1]
 by_cases hs:0<s.size
 ·simp(disch:=omega) only[Qe,wrap_in]
  rw[Q4b,JH,show((s.size:Int)-((1:Nat):Int)).toNat=s.size-1 by omega,List.take_of_length_le (by rw[Yk];omega),Q6D]
  congr 1
  have hl:s.size-1<(L s).length:=by rw[Yk];omega
  rw[List.drop_eq_getElem_cons hl,List.drop_eq_nil_of_le (by rw[Yk];omega),getD_at hl,decide_eq_true hs]
  show([(L s)[s.size-1]]==[c])=_
  rw[Bool.true_and]
  by_cases e:(L s)[s.size-1]=c
  ·rw[e];simp
  ·have:((L s)[s.size-1].toNat:Int)≠(c.toNat:Int):=λh=>e (UInt8.toNat_inj.1 (by omega))
   rw[show((((L s)[s.size-1]).toNat:Int)==(c.toNat:Int))=false by simpa using this]
   simpa using e
 ·simp(disch:=omega) only[QB]
  rw[decide_eq_false hs];rfl
theorem Q7C (s:ByteArray)(c:UInt8)(h:s.size<=9223372036854775807):Z46.F s ⟨#[c]⟩=some (YQ s c.toNat):=by
 unfold Z46.F Z55.F
 rw[Q0K s c h]
 have h1:(⟨#[c]⟩:ByteArray).size=1:=rfl
 rw[h1]
 unfold YQ
 simp only[Option.bind_some]
 by_cases hs:0<s.size
 ·simp(disch:=omega) only[Qe,wrap_in,decide_eq_true hs,Bool.true_and]
  rw[show((s.size:Int)-((1:Nat):Int)).toNat=s.size-1 by omega]
  by_cases c2:bt s (s.size-1)=c.toNat
  ·simp(disch:=first|omega|exact c2) only[ceq]
   rw[if_pos ⟨hs,c2⟩];rfl
  ·simp(disch:=first|omega|exact c2) only[cne]
   rw[if_neg (λh=>c2 h.2)];rfl
 ·rw[decide_eq_false hs,if_neg (λh=>hs h.1)];rfl
theorem Q4g (b:UInt8):low b=(decide ((b.toNat:Int) ≥ 97)&&decide ((b.toNat:Int)<=122)):=by
 unfold low
 congr 1<;>exact decide_eq_decide.2 (by omega)
theorem Q3t (b:UInt8):Z34.F (b.toNat:Int)=some (low b):=by
 unfold Z34.F
 rw[Q4g]
 cases decide ((b.toNat:Int) ≥ 97)<;>rfl
theorem Q8x (a b c:Int):Z41.F a b c=some (decide (a ≥ b)&&decide (a<=c)):=by
 unfold Z41.F
 cases decide (a ≥ b)<;>rfl
theorem Q5b (a b c:Int):Z47.F a b c=some (decide (a ≥ b)&&decide (a<=c)):=by
 unfold Z47.F
 cases decide (a ≥ b)<;>rfl
theorem Q2q {s:ByteArray}{i:Nat}(hi:i<s.size)(p:UInt8->Bool):((L s).drop i).all p=(p ((L s).getD i 0)&&((L s).drop (i+1)).all p):=by
 have hl:i<(L s).length:=by rw[Yk];exact hi
 rw[List.drop_eq_getElem_cons hl,getD_at hl];rfl
theorem Q2r (s:ByteArray)(hs:s.size<=9223372036854775806)(lo hi:Int):∀n i:Nat,i+n=s.size->Ev (λk=>Z14.l0 k s lo hi i) (if((L s).drop i).all low=true then .inr (s,lo,hi)else .inl false)
 |0,i,h=>by
  refine Ev.step (λk=>by rw[Z14.l0]) ?_
  simp(disch:=omega) only[QB]
  rw[List.drop_eq_nil_of_le (by rw[Yk];omega)]
  exact Ev.pure _
 |n+1,i,h=>by
  refine Ev.step (λk=>by rw[Z14.l0]) ?_
  simp(disch:=omega) only[Qe,Int.toNat_natCast,Q6D]
  refine Ev.bind0 (Q3t _) ?_
  rw[Q2q (by omega)]
  cases hlow:low ((L s).getD i 0)with
  |false=>simp only[Bool.not_false,cond_true,Bool.false_and];exact Ev.pure _
  |true=>
   simp(disch:=omega) only[Bool.not_true,cond_false,Bool.true_and,wrap_in]
   exact Q2r s hs lo hi n (i+1) (by omega)
theorem GI (s:ByteArray)(hs:s.size<=9223372036854775806)(lo hi:Int):∀n i:Nat,i+n=s.size->Ev (λk=>Z9.l0 k s lo hi i) (if((L s).drop i).all low=true then .inr (s,lo,hi)else .inl false)
 |0,i,h=>by
  refine Ev.step (λk=>by rw[Z9.l0]) ?_
  simp(disch:=omega) only[QB]
  rw[List.drop_eq_nil_of_le (by rw[Yk];omega)]
  exact Ev.pure _
 |n+1,i,h=>by
  refine Ev.step (λk=>by rw[Z9.l0]) ?_
  simp(disch:=omega) only[Qe,Int.toNat_natCast,Q6D]
  rw[Q2q (by omega),Q4g]
  generalize (((L s).getD i 0).toNat:Int)=b
  by_cases c:b<97
  ·simp(disch:=omega) only[Qe,KU,Bool.false_and];exact Ev.pure _
  ·by_cases c2:b > 122
   ·simp(disch:=omega) only[QB,Qe,Dq,KU,Bool.true_and,Bool.false_and];exact Ev.pure _
   ·simp(disch:=omega) only[QB,Dq,Bool.true_and,wrap_in]
    exact GI s hs lo hi n (i+1) (by omega)
def Y9 (s:ByteArray)(lo hi:Int)(b:Nat):Bool:=(L (YQ s b)).all low&&(decide ((((YQ s b).size:Nat):Int) ≥ lo)&&decide ((((YQ s b).size:Nat):Int)<=hi))
theorem GK (s:ByteArray)(lo hi:Int)(c:UInt8)(h:s.size<=9223372036854775806):Ev (λk=>Z14.F k s lo hi ⟨#[c]⟩) (Y9 s lo hi c.toNat):=by
 unfold Z14.F Y9
 refine Ev.bind0 (Q7C s c (by omega)) ?_
 have hc:=KW s c.toNat
 have:=Q2r (YQ s c.toNat) (by omega) lo hi (YQ s c.toNat).size 0 (by omega)
 rw[List.drop_zero]at this
 cases hall:(L (YQ s c.toNat)).all low with
 |true=>rw[hall]at this;exact Ev.bind this (Ev.bind0 (Q5b _ _ _) (Ev.pure _))
 |false=>rw[hall]at this;exact Ev.bind this (Ev.pure _)
theorem GL (s:ByteArray)(lo hi:Int)(h:s.size<=9223372036854775806):Ev (λk=>Z9.F k s lo hi) ((L s).all low&&(decide ((s.size:Int) ≥ lo)&&decide ((s.size:Int)<=hi))):=by
 unfold Z9.F
 have:=GI s h lo hi s.size 0 (by omega)
 rw[List.drop_zero]at this
 cases hall:(L s).all low with
 |true=>rw[hall]at this;exact Ev.bind this (Ev.bind0 (Q8x _ _ _) (Ev.pure _))
 |false=>rw[hall]at this;exact Ev.bind this (Ev.pure _)
def Q6K (a:Abbr):Bool:=Y9 a.word 2 15 45&&Y9 a.short 1 12 46
theorem Q1n (a:Abbr)(h1:a.word.size<=9223372036854775806)(h2:a.short.size<=9223372036854775806):Ev (λk=>Z42.F k a) (Q6K a):=by
 unfold Z42.F Q6K
 refine Ev.bind0 (Xy a.word 45 (by omega)) ?_
 have hc:=KW a.word 45
 refine Ev.bind (GL _ 2 15 (by omega)) ?_
 refine Ev.cond (λh=>?_) (λh=>?_)
 ·refine Ev.bind0 (Xy a.short 46 (by omega)) ?_
  have hc:=KW a.short 46
  refine(Ev.bind (GL _ 1 12 (by omega)) (Ev.pure _)).eq ?_
  show _=(Y9 a.word 2 15 45&&_)
  rw[show Y9 a.word 2 15 45=true from h,Bool.true_and];rfl
 ·rw[show Y9 a.word 2 15 45=false from h];exact Ev.pure _
def okA (xs:List Abbr)(i:Nat):Bool:=Q6K (xs.getD i (Q8 .abbr))&&(decide (i=0)||ltS (xs.getD (i-1) (Q8 .abbr)).word (xs.getD i (Q8 .abbr)).word)
def smalls (xs:List Abbr):Prop:=xs.length<=1048576/\∀a∈xs,a.word.size<=1048576/\a.short.size<=1048576
theorem Kw (xs:List Abbr)(hs:smalls xs):∀n i:Nat,i+n=xs.length->Ev (λk=>Z15.l0 k xs xs xs.length i) (if(List.range' i n).all (okA xs)=true then .inr xs else .inl false)
 |0,i,h=>by
  refine Ev.step (λk=>by rw[Z15.l0]) ?_
  simp(disch:=omega) only[QB]
  exact Ev.pure _
 |n+1,i,h=>by
  have hi:i<xs.length:=by omega
  obtain⟨hl,hx⟩:=hs
  obtain⟨h1,h2⟩:=hx _ (List.getElem_mem hi)
  rw[<-getD_at hi (Q8 .abbr)]at h1 h2
  rw[List.range'_succ,List.all_cons]
  refine Ev.step (λk=>by rw[Z15.l0]) ?_
  simp(disch:=omega) only[Qe,Int.toNat_natCast]
  refine Ev.bind (GK _ 2 15 45 (by omega)) ?_
  unfold okA Q6K
  cases hw:Y9 (xs.getD i (Q8 .abbr)).word 2 15 (45:UInt8).toNat with
  |false=>
   rw[show Y9 (xs.getD i (Q8 .abbr)).word 2 15 45=false from hw]
   exact Ev.pure _
  |true=>
   rw[show Y9 (xs.getD i (Q8 .abbr)).word 2 15 45=true from hw]
   simp only[Bool.not_true,cond_false,Bool.true_and]
   refine Ev.bind (GK _ 1 12 46 (by omega)) ?_
   cases hw2:Y9 (xs.getD i (Q8 .abbr)).short 1 12 (46:UInt8).toNat with
   |false=>
    rw[show Y9 (xs.getD i (Q8 .abbr)).short 1 12 46=false from hw2]
    exact Ev.pure _
   |true=>
    rw[show Y9 (xs.getD i (Q8 .abbr)).short 1 12 46=true from hw2]
    simp only[Bool.not_true,cond_false,Bool.true_and]
    have ih:=Kw xs ⟨hl,hx⟩ n (i+1) (by omega)
    by_cases c:i=0
    ·simp(disch:=omega) only[QB,wrap_in,Dq,Bool.true_or,Bool.true_and]
     exact ih
    ·simp(disch:=omega) only[Qe,wrap_in,KU,Bool.false_or]
     rw[show((i:Int)-1).toNat=i-1 by omega]
     cases ltS (xs.getD (i-1) (Q8 .abbr)).word (xs.getD i (Q8 .abbr)).word with
     |false=>exact Ev.pure _
     |true=>exact ih
theorem Kx (xs:List Abbr)(hs:smalls xs):∀n i:Nat,i+n=xs.length->∃r,Ev (λk=>Z3.l0 k xs i) r/\(r= .inl false\/r= .inr xs)/\(xs.length<=15->r=if(List.range' i n).all (okA xs)=true then .inr xs else .inl false)
 |0,i,h=>by
  refine⟨.inr xs,Ev.step (λk=>by rw[Z3.l0]) ?_,.inr rfl,λ_=>rfl⟩
  simp(disch:=omega) only[QB]
  exact Ev.pure _
 |n+1,i,h=>by
  have hi:i<xs.length:=by omega
  obtain⟨hl,hx⟩:=hs
  obtain⟨h1,h2⟩:=hx _ (List.getElem_mem hi)
  rw[<-getD_at hi (Q8 .abbr)]at h1 h2
  obtain⟨r,ih1,ih2,ih3⟩:=Kx xs ⟨hl,hx⟩ n (i+1) (by omega)
  rw[List.range'_succ,List.all_cons]
  by_cases c15:(i:Int)<=15
  ·have st:∀r,Ev (λk=>Z3.l0 k xs i) r ↔ Ev (λk=>Z3.l0 k xs i) r:=λ_=>Iff.rfl
   cases ho:Q6K (xs.getD i (Q8 .abbr))with
   |false=>
    refine⟨.inl false,Ev.step (λk=>by rw[Z3.l0]) ?_,.inl rfl,λ_=>by unfold okA;rw[ho];rfl⟩
    simp(disch:=omega) only[Qe,Int.toNat_natCast]
    exact Ev.bind (Q1n _ (by omega) (by omega)) (by rw[ho];exact Ev.pure _)
   |true=>
    by_cases c:i=0
    ·refine⟨r,Ev.step (λk=>by rw[Z3.l0]) ?_,ih2,λh15=>by rw[ih3 h15];unfold okA;rw[ho,decide_eq_true c];rfl⟩
     simp(disch:=omega) only[Qe,Int.toNat_natCast]
     refine Ev.bind (Q1n _ (by omega) (by omega)) ?_
     rw[ho]
     simp(disch:=omega) only[Bool.not_true,cond_false,QB,wrap_in]
     exact ih1
    ·cases hlt:ltS (xs.getD (i-1) (Q8 .abbr)).word (xs.getD i (Q8 .abbr)).word with
     |false=>
      refine⟨.inl false,Ev.step (λk=>by rw[Z3.l0]) ?_,.inl rfl,λ_=>by unfold okA;rw[ho,hlt,decide_eq_false c];rfl⟩
      simp(disch:=omega) only[Qe,Int.toNat_natCast]
      refine Ev.bind (Q1n _ (by omega) (by omega)) ?_
      rw[ho]
      simp(disch:=omega) only[Bool.not_true,cond_false,Qe,wrap_in]
      rw[show((i:Int)-1).toNat=i-1 by omega,hlt]
      exact Ev.pure _
     |true=>
      refine⟨r,Ev.step (λk=>by rw[Z3.l0]) ?_,ih2,λh15=>by rw[ih3 h15];unfold okA;rw[ho,hlt,decide_eq_false c];rfl⟩
      simp(disch:=omega) only[Qe,Int.toNat_natCast]
      refine Ev.bind (Q1n _ (by omega) (by omega)) ?_
      rw[ho]
      simp(disch:=omega) only[Bool.not_true,cond_false,Qe,wrap_in]
      rw[show((i:Int)-1).toNat=i-1 by omega,hlt]
      exact ih1
  ·refine⟨.inr xs,Ev.step (λk=>by rw[Z3.l0]) ?_,.inr rfl,λh15=>by omega⟩
   simp(disch:=omega) only[Qe,QB]
   exact Ev.pure _
def Uo (xs:List Abbr):Bool:=(List.range' 0 xs.length).all (okA xs)&&decide ((xs.length:Int)<=15)
theorem Q1o (xs:List Abbr)(hs:smalls xs):Ev (λk=>Z15.F k xs) (Uo xs):=by
 unfold Z15.F Uo
 have:=Kw xs hs xs.length 0 (by omega)
 cases hall:(List.range' 0 xs.length).all (okA xs)with
 |true=>rw[hall]at this;exact Ev.bind this (Ev.pure _)
 |false=>rw[hall]at this;exact Ev.bind this (Ev.pure _)
theorem Q1p (xs:List Abbr)(hs:smalls xs):Ev (λk=>Z3.F k xs) (Uo xs):=by
 unfold Z3.F Uo
 obtain⟨r,h1,h2,h3⟩:=Kx xs hs xs.length 0 (by omega)
 by_cases c:xs.length<=15
 ·have:=h3 c
  cases hall:(List.range' 0 xs.length).all (okA xs)with
  |true=>rw[this,hall]at h1;exact Ev.bind h1 (Ev.pure _)
  |false=>rw[this,hall]at h1;exact Ev.bind h1 (Ev.pure _)
 ·rw[decide_eq_false (show¬(xs.length:Int)<=15 by omega),Bool.and_false]
  rcases h2 with rfl|rfl
  ·exact Ev.bind h1 (Ev.pure _)
  ·exact Ev.bind h1 ((Ev.pure _).eq (decide_eq_false (by omega)))
theorem Q5c {xs:List Abbr}{r l:Int}(h:(xs.length:Int)+KV xs+r=l)(hr:0<=r)(hl:l<=1048576):smalls xs:=by
 refine⟨by omega,λa ha=>?_⟩
 have:szA a<=KV xs:=by
  unfold KV
  clear h
  induction xs with
  |nil=>cases ha
  |cons b l ih=>
   simp only[List.map_cons,List.sum_cons]
   rcases List.mem_cons.1 ha with rfl|h
   ·omega
   ·have:=ih h;omega
 unfold szA at this
 omega
end Go.Proofs.YtlnhmbnbloakmaaDoor
end
section
/- Plain laws: the short form of a word. -/
namespace Go.Proofs.YtlnhmbnbloakmaaDoor
open Go.Gx
theorem QK (s:ByteArray):(Q9 s).length=s.size:=by
 simp only[Q9,List.length_map,Array.length_toList];rfl
theorem GM (s:ByteArray):Q9 s=(L s).map λb=>(b.toNat:Int):=rfl
theorem U8 (s:ByteArray)(i:Nat)(h:i<(Q9 s).length):bt s i=(Q9 s)[i]:=by
 rw[Q6D]
 have h':i<(L s).length:=by simpa[GM]using h
 simp[GM,List.getD,h']
theorem Q2s (s:ByteArray)(i:Nat)(h:i<(Q9 s).length):0<=(Q9 s)[i]/\(Q9 s)[i]<=255:=by
 rw[<-U8 s i h];exact Q6E s i
def GN (b:Int):Bool:=(decide (65<=b)&&decide (b<=90))||(decide (97<=b)&&decide (b<=122))
theorem Q01 (b:Int):Z45.F b=some (GN b):=by
 unfold Z45.F GN
 simp only[ge_iff_le]
 cases decide (65<=b)<;>cases decide (b<=90)<;>cases decide (97<=b)<;>cases decide (b<=122)<;>rfl
theorem Q2t (b:Int):Z51.F b=some (GN b):=by
 unfold Z51.F Z36.F Z34.F GN
 simp only[ge_iff_le]
 cases decide (65<=b)<;>cases decide (b<=90)<;>cases decide (97<=b)<;>cases decide (b<=122)<;>rfl
theorem Q3u (b:Int):Z36.F b=some (decide (65<=b)&&decide (b<=90)):=by
 unfold Z36.F
 simp only[ge_iff_le]
 cases decide (65<=b)<;>rfl
def Ut (b:Int):Int:=bif decide (65<=b)&&decide (b<=90)then b+32 else b
theorem KX (b:Int):Z43.F b=some (Ut b):=by
 unfold Z43.F Ut
 simp only[ge_iff_le]
 by_cases h1:65<=b
 ·by_cases h2:b<=90
  ·have:IntKind.wrap .u8 (b+32)=b+32:=by rw[IntKind.wrap_u8];omega
   simp only[Dq h1,Dq h2,cond_true,Bool.and_self,this]
  ·simp only[Dq h1,KU h2,cond_true,cond_false,Bool.and_false]
 ·simp only[KU h1,cond_false,Bool.false_and]
def mix (s:ByteArray)(i:Nat):List Int:=((Q9 s).take i).map Ut++(Q9 s).drop i
theorem Q1q (s:ByteArray)(i:Nat):(mix s i).length=(Q9 s).length:=by
 unfold mix;simp;omega
theorem Q6L (s:ByteArray)(i:Nat)(h:i<(Q9 s).length):(mix s i).getD i 0=(Q9 s)[i]:=by
 unfold mix
 rw[List.getD_eq_getElem?_getD,List.getElem?_append_right (by simp;omega)]
 simp[Nat.min_eq_left (Nat.le_of_lt h),h]
theorem Q4h (s:ByteArray)(i:Nat)(h:i<(Q9 s).length):(mix s i).set i (Ut (Q9 s)[i])=mix s (i+1):=by
 unfold mix
 rw[List.set_append_right _ _ (by simp;omega)]
 simp only[List.length_map,List.length_take,Nat.min_eq_left (Nat.le_of_lt h),Nat.sub_self]
 rw[List.drop_eq_getElem_cons h,List.set_cons_zero,List.take_add_one,List.getElem?_eq_getElem h]
 simp only[Option.toList_some,List.map_append,List.map_cons,List.map_nil,List.append_assoc,List.cons_append,List.nil_append]
theorem Q6M (s:ByteArray)(i:Nat)(h:i<(Q9 s).length)(e:Ut (Q9 s)[i]=(Q9 s)[i]):mix s (i+1)=mix s i:=by
 rw[<-Q4h s i h,e]
 apply List.ext_getElem?
 intro j
 by_cases hj:i=j
 ·subst hj
  have:=Q6L s i h
  rw[List.getD_eq_getElem?_getD]at this
  rw[List.getElem?_set_self (by rw[Q1q];exact h)]
  rw[List.getElem?_eq_getElem (by rw[Q1q];exact h)]at this ⊢
  rw[<-this];rfl
 ·rw[List.getElem?_set_ne hj]
theorem Ky (s:ByteArray)(hs:s.size<=1048576):∀n i:Nat,i+n=s.size->Ev (λk=>Z10.l0 k s (((Q9 s).take i).map Ut) i) ((Q9 s).map Ut)
 |0,i,h=>by
  refine Ev.step (λk=>by rw[Z10.l0]) ?_
  simp(disch:=omega) only[QB]
  rw[List.take_of_length_le (by rw[QK];omega)]
  exact Ev.pure _
 |n+1,i,h=>by
  have hl:=QK s
  have hi:i<(Q9 s).length:=by omega
  refine Ev.step (λk=>by rw[Z10.l0]) ?_
  simp(disch:=omega) only[Qe,Int.toNat_natCast,U8 s i hi]
  refine Ev.bind0 (KX _) ?_
  have hr:room ((((Q9 s).take i).map Ut).length+([Ut (Q9 s)[i]]:List Int).length) (.int .u8)=true:=by
   unfold room
   rw[Nat.ble_eq]
   have:nb (.int .u8)=1:=rfl
   rw[this]
   simp;omega
  simp(disch:=omega) only[hr,cond_true,wrap_in]
  have e:((Q9 s).take i).map Ut++[Ut (Q9 s)[i]]=((Q9 s).take (i+1)).map Ut:=by
   rw[List.take_add_one,List.getElem?_eq_getElem hi]
   simp only[Option.toList_some,List.map_append,List.map_cons,List.map_nil]
  rw[e]
  exact Ky s hs n (i+1) (by omega)
theorem Q2u (s:ByteArray)(hs:s.size<=1048576):∀n i:Nat,i+n=s.size->Ev (λk=>Z8.l0 k (mix s i) s.size i) ((Q9 s).map Ut)
 |0,i,h=>by
  refine Ev.step (λk=>by rw[Z8.l0]) ?_
  simp(disch:=omega) only[QB]
  unfold mix
  rw[List.take_of_length_le (by rw[QK];omega),List.drop_eq_nil_of_le (by rw[QK];omega),List.append_nil]
  exact Ev.pure _
 |n+1,i,h=>by
  have hl:=QK s
  have hi:i<(Q9 s).length:=by omega
  have hm:=Q1q s i
  have ih:=Q2u s hs n (i+1) (by omega)
  have hb:=Q2s s i hi
  refine Ev.step (λk=>by rw[Z8.l0]) ?_
  simp(disch:=omega) only[Qe,Int.toNat_natCast,Q6L s i hi]
  refine Ev.bind0 (Q3u _) ?_
  cases hu:decide (65<=(Q9 s)[i])&&decide ((Q9 s)[i]<=90)with
  |true=>
   have hu':=hu
   simp only[Bool.and_eq_true,decide_eq_true_eq]at hu'
   have e:IntKind.wrap .u8 (IntKind.wrap .u8 ((Q9 s)[i]+97)-65)=Ut (Q9 s)[i]:=by
    unfold Ut
    rw[hu,cond_true,IntKind.wrap_u8,IntKind.wrap_u8];omega
   simp(disch:=omega) only[cond_true,Qe,e,Q4h s i hi,wrap_in]
   exact ih
  |false=>
   have e:Ut (Q9 s)[i]=(Q9 s)[i]:=by unfold Ut;rw[hu,cond_false]
   rw[Q6M s i hi e]at ih
   simp(disch:=omega) only[cond_false,wrap_in]
   exact ih
def GO (s:ByteArray):ByteArray:=DI ((Q9 s).map Ut)
theorem Up (s:ByteArray)(hs:s.size<=1048576):Ev (λk=>Z10.F k s) (GO s):=by
 unfold Z10.F
 exact Ev.bind (Ky s hs s.size 0 (by omega)) (Ev.pure _)
theorem GP (s:ByteArray)(hs:s.size<=1048576):Ev (λk=>Z8.F k s) (GO s):=by
 unfold Z8.F
 rw[QK]
 simp(disch:=omega) only[Q6C]
 have:=Q2u s hs s.size 0 (by omega)
 unfold mix at this
 rw[List.take_zero,List.map_nil,List.nil_append,List.drop_zero]at this
 exact Ev.bind this (Ev.pure _)
end Go.Proofs.YtlnhmbnbloakmaaDoor
end
section
/- Plain laws: the abbreviation of a word. -/
namespace Go.Proofs.YtlnhmbnbloakmaaDoor
open Go.Gx
theorem Xe {s:ByteArray}{i:Nat}(h:i<(Q9 s).length)(p:Int->Bool):((Q9 s).drop i).all p=(p (Q9 s)[i]&&((Q9 s).drop (i+1)).all p):=by
 rw[List.drop_eq_getElem_cons h];rfl
theorem Q2v (xs:List Abbr)(s:ByteArray)(hs:s.size<=1048576):∀n i:Nat,i+n=s.size->Ev (λk=>Z1.l0 k xs s i) (if((Q9 s).drop i).all GN=true then .inr (xs,s)else .inl (-1))
 |0,i,h=>by
  refine Ev.step (λk=>by rw[Z1.l0]) ?_
  simp(disch:=omega) only[QB]
  rw[List.drop_eq_nil_of_le (by rw[QK];omega)]
  exact Ev.pure _
 |n+1,i,h=>by
  have hl:=QK s
  have hi:i<(Q9 s).length:=by omega
  refine Ev.step (λk=>by rw[Z1.l0]) ?_
  simp(disch:=omega) only[Qe,Int.toNat_natCast,U8 s i hi]
  refine Ev.bind0 (Q01 _) ?_
  rw[Xe hi]
  cases GN (Q9 s)[i]with
  |false=>exact Ev.pure _
  |true=>
   simp(disch:=omega) only[Bool.not_true,cond_false,Bool.true_and,wrap_in]
   exact Q2v xs s hs n (i+1) (by omega)
theorem Q4i (s:ByteArray)(hs:s.size<=1048576):∀n i:Nat,i+n=s.size->Ev (λk=>Z21.l0 k s i) (if((Q9 s).drop i).all GN=true then .inr s else .inl false)
 |0,i,h=>by
  refine Ev.step (λk=>by rw[Z21.l0]) ?_
  simp(disch:=omega) only[QB]
  rw[List.drop_eq_nil_of_le (by rw[QK];omega)]
  exact Ev.pure _
 |n+1,i,h=>by
  have hl:=QK s
  have hi:i<(Q9 s).length:=by omega
  refine Ev.step (λk=>by rw[Z21.l0]) ?_
  simp(disch:=omega) only[Qe,Int.toNat_natCast,U8 s i hi]
  refine Ev.bind0 (Q2t _) ?_
  rw[Xe hi]
  cases GN (Q9 s)[i]with
  |false=>exact Ev.pure _
  |true=>
   simp(disch:=omega) only[Bool.not_true,cond_false,Bool.true_and,wrap_in]
   exact Q4i s hs n (i+1) (by omega)
theorem Q02 (s:ByteArray)(hs:s.size<=1048576):Ev (λk=>Z21.F k s) ((Q9 s).all GN&&decide (0<s.size)):=by
 unfold Z21.F
 have:=Q4i s hs s.size 0 (by omega)
 rw[List.drop_zero]at this
 cases h:(Q9 s).all GN with
 |true=>
  rw[h]at this
  refine Ev.bind this ?_
  simp only[Kv,Bool.true_and]
  exact Ev.pure _
 |false=>rw[h]at this;exact Ev.bind this (Ev.pure _)
def dash (s:ByteArray):Bool:=decide (0<s.size)&&(bt s (s.size-1)==((45:UInt8).toNat:Int))
theorem Q1r (s:ByteArray)(h:s.size<=9223372036854775807):Z52.F s ⟨#[45]⟩=some (YQ s 45,dash s):=by
 unfold Z52.F Z57.F
 rw[Q0K s 45 h]
 have h1:(⟨#[45]⟩:ByteArray).size=1:=rfl
 have h2:((45:UInt8).toNat:Int)=((45:Nat):Int):=rfl
 rw[h1]
 unfold YQ dash
 rw[h2]
 simp only[Option.bind_some]
 by_cases hs:0<s.size
 ·simp(disch:=omega) only[decide_eq_true hs,Bool.true_and]
  by_cases c2:bt s (s.size-1)=((45:Nat):Int)
  ·rw[show(bt s (s.size-1)==((45:Nat):Int))=true by simpa using c2,if_pos ⟨hs,c2⟩]
   simp(disch:=omega) only[Bool.not_true,cond_false,wrap_in,Qe]
   rw[show((s.size:Int)-((1:Nat):Int)).toNat=s.size-1 by omega];rfl
  ·rw[show(bt s (s.size-1)==((45:Nat):Int))=false by simpa using c2,if_neg (λh=>c2 h.2)]
   rfl
 ·rw[decide_eq_false hs,if_neg (λh=>hs h.1)];rfl
theorem KY (s:ByteArray):(!Qn (YQ s 45) s)=dash s:=by
 have h2:((45:UInt8).toNat:Int)=((45:Nat):Int):=rfl
 unfold YQ dash
 rw[h2]
 by_cases hs:0<s.size/\bt s (s.size-1)=((45:Nat):Int)
 ·rw[if_pos hs,decide_eq_true hs.1,show(bt s (s.size-1)==((45:Nat):Int))=true by simpa using hs.2]
  cases e:Qn (s.extract 0 (s.size-1)) s with
  |false=>rfl
  |true=>
   have:=congrArg ByteArray.size (GG.1 e)
   rw[ByteArray.size_extract]at this
   omega
 ·rw[if_neg hs,Xc]
  by_cases h3:0<s.size
  ·rw[show(bt s (s.size-1)==((45:Nat):Int))=false by simpa using λh=>hs ⟨h3,h⟩,Bool.and_false];rfl
  ·rw[decide_eq_false h3];rfl
theorem Q1s (s p:ByteArray):Z53.F s p=some (decide ((p.size:Int)<=(s.size:Int))&&Qn (s.extract 0 p.size) p):=by
 unfold Z53.F Z58.F
 by_cases c:(p.size:Int)<=(s.size:Int)
 ·simp(disch:=omega) only[Dq,cond_true,Int.toNat_natCast,Option.bind_some,Bool.true_and]
 ·simp(disch:=omega) only[KU,cond_false,Option.bind_some,Bool.false_and]
theorem Q6N (xs:List Abbr)(hs:smalls xs)(lw:ByteArray):∀n i:Nat,i+n=xs.length->∀best:Int,-1<=best->best<xs.length->
  ∃r,Ev (λk=>Z1.l2 k xs lw best i) r/\Ev (λk=>Z2.l0 k xs lw best xs xs.length i) r/\∀z,(r= .inl z\/r= .inr z)-> -1<=z/\z<xs.length
 |0,i,h,best,h1,h2=>by
  refine⟨.inr best,Ev.step (λk=>by rw[Z1.l2]) ?_,Ev.step (λk=>by rw[Z2.l0]) ?_,?_⟩
  ·simp(disch:=omega) only[QB];exact Ev.pure _
  ·simp(disch:=omega) only[QB];exact Ev.pure _
  ·rintro z (hz|hz)<;>cases hz;exact⟨h1,h2⟩
 |n+1,i,h,best,h1,h2=>by
  have hi:i<xs.length:=by omega
  have hlen:=hs.1
  have hw:=(hs.2 _ (List.getElem_mem hi)).1
  have ih:=Q6N xs hs lw n (i+1) (by omega)
  have cut:Z33.F xs[i].word 45=some (YQ xs[i].word 45):=Xy xs[i].word 45 (by omega)
  have cuts:=Q1r xs[i].word (by omega)
  have hp:=Q1s lw (YQ xs[i].word 45)
  cases e:Qn xs[i].word lw with
  |true=>
   refine⟨.inl i,Ev.step (λk=>by rw[Z1.l2]) ?_,Ev.step (λk=>by rw[Z2.l0]) ?_,?_⟩
   ·simp(disch:=omega) only[Qe,Int.toNat_natCast,getD_at hi,e,cond_true];exact Ev.pure _
   ·simp(disch:=omega) only[Qe,Int.toNat_natCast,getD_at hi,e,cond_true];exact Ev.pure _
   ·rintro z (hz|hz)<;>cases hz;omega
  |false=>
   cases hd:dash xs[i].word with
   |false=>
    obtain⟨r,r1,r2,r3⟩:=ih best h1 h2
    refine⟨r,Ev.step (λk=>by rw[Z1.l2]) ?_,Ev.step (λk=>by rw[Z2.l0]) ?_,r3⟩
    ·simp(disch:=omega) only[Qe,Int.toNat_natCast,getD_at hi,e,cond_false]
     refine Ev.bind0 cut ?_
     simp(disch:=omega) only[KY,hd,cond_false,wrap_in]
     exact r1
    ·simp(disch:=omega) only[Qe,Int.toNat_natCast,getD_at hi,e,cond_false]
     refine Ev.bind0 cuts ?_
     simp(disch:=omega) only[hd,cond_false,wrap_in]
     exact r2
   |true=>
    by_cases c:((YQ xs[i].word 45).size:Int)<=(lw.size:Int)
    ·cases hq:Qn (lw.extract 0 (YQ xs[i].word 45).size) (YQ xs[i].word 45)with
     |false=>
      obtain⟨r,r1,r2,r3⟩:=ih best h1 h2
      refine⟨r,Ev.step (λk=>by rw[Z1.l2]) ?_,Ev.step (λk=>by rw[Z2.l0]) ?_,r3⟩
      ·simp(disch:=omega) only[Qe,Int.toNat_natCast,getD_at hi,e,cond_false]
       refine Ev.bind0 cut ?_
       simp(disch:=omega) only[KY,hd,cond_true,cond_false,Qe,Int.toNat_natCast,hq,wrap_in]
       exact r1
      ·simp(disch:=omega) only[Qe,Int.toNat_natCast,getD_at hi,e,cond_false]
       refine Ev.bind0 cuts ?_
       simp(disch:=omega) only[hd,cond_true]
       refine Ev.bind0 hp ?_
       simp(disch:=omega) only[hq,Bool.and_false,cond_false,wrap_in]
       exact r2
     |true=>
      by_cases hb:best<0
      ·obtain⟨r,r1,r2,r3⟩:=ih i (by omega) (by omega)
       refine⟨r,Ev.step (λk=>by rw[Z1.l2]) ?_,Ev.step (λk=>by rw[Z2.l0]) ?_,r3⟩
       ·simp(disch:=omega) only[Qe,Int.toNat_natCast,getD_at hi,e,cond_false]
        refine Ev.bind0 cut ?_
        simp(disch:=omega) only[KY,hd,cond_true,cond_false,Qe,Int.toNat_natCast,hq,wrap_in]
        exact r1
       ·simp(disch:=omega) only[Qe,Int.toNat_natCast,getD_at hi,e,cond_false]
        refine Ev.bind0 cuts ?_
        simp(disch:=omega) only[hd,cond_true]
        refine Ev.bind0 hp ?_
        rw[hq,decide_eq_true c]
        simp(disch:=omega) only[Bool.and_self,cond_true,Qe,wrap_in]
        exact r2
      ·have hb':best.toNat<xs.length:=by omega
       by_cases hz:(xs[i].word.size:Int) > (xs[best.toNat].word.size:Int)
       ·obtain⟨r,r1,r2,r3⟩:=ih i (by omega) (by omega)
        refine⟨r,Ev.step (λk=>by rw[Z1.l2]) ?_,Ev.step (λk=>by rw[Z2.l0]) ?_,r3⟩
        ·simp(disch:=omega) only[Qe,Int.toNat_natCast,getD_at hi,e,cond_false]
         refine Ev.bind0 cut ?_
         simp(disch:=omega) only[KY,hd,cond_true,cond_false,Qe,QB,Int.toNat_natCast,hq,wrap_in,getD_at hb']
         exact r1
        ·simp(disch:=omega) only[Qe,Int.toNat_natCast,getD_at hi,e,cond_false]
         refine Ev.bind0 cuts ?_
         simp(disch:=omega) only[hd,cond_true]
         refine Ev.bind0 hp ?_
         rw[hq,decide_eq_true c]
         simp(disch:=omega) only[Bool.and_self,cond_true,Qe,QB,wrap_in,getD_at hb']
         exact r2
       ·obtain⟨r,r1,r2,r3⟩:=ih best h1 h2
        refine⟨r,Ev.step (λk=>by rw[Z1.l2]) ?_,Ev.step (λk=>by rw[Z2.l0]) ?_,r3⟩
        ·simp(disch:=omega) only[Qe,Int.toNat_natCast,getD_at hi,e,cond_false]
         refine Ev.bind0 cut ?_
         simp(disch:=omega) only[KY,hd,cond_true,cond_false,Qe,QB,Int.toNat_natCast,hq,wrap_in,getD_at hb']
         exact r1
        ·simp(disch:=omega) only[Qe,Int.toNat_natCast,getD_at hi,e,cond_false]
         refine Ev.bind0 cuts ?_
         simp(disch:=omega) only[hd,cond_true]
         refine Ev.bind0 hp ?_
         rw[hq,decide_eq_true c]
         simp(disch:=omega) only[Bool.and_self,cond_true,Qe,QB,wrap_in,getD_at hb']
         exact r2
    ·obtain⟨r,r1,r2,r3⟩:=ih best h1 h2
     refine⟨r,Ev.step (λk=>by rw[Z1.l2]) ?_,Ev.step (λk=>by rw[Z2.l0]) ?_,r3⟩
     ·simp(disch:=omega) only[Qe,Int.toNat_natCast,getD_at hi,e,cond_false]
      refine Ev.bind0 cut ?_
      simp(disch:=omega) only[KY,hd,cond_true,QB,wrap_in]
      exact r1
     ·simp(disch:=omega) only[Qe,Int.toNat_natCast,getD_at hi,e,cond_false]
      refine Ev.bind0 cuts ?_
      simp(disch:=omega) only[hd,cond_true]
      refine Ev.bind0 hp ?_
      rw[decide_eq_false c]
      simp(disch:=omega) only[Bool.false_and,cond_false,wrap_in]
      exact r2
theorem found (xs:List Abbr)(hs:smalls xs)(s:ByteArray)(h0:0<s.size)(h1:s.size<=1048576):∃z:Int,Ev (λk=>Z1.F k xs s) z/\Ev (λk=>Z2.F k xs s) z/\ -1<=z/\z<xs.length:=by
 unfold Z1.F Z2.F
 have e1:=Q2v xs s h1 s.size 0 (by omega)
 have e2:=Q02 s h1
 rw[List.drop_zero]at e1
 cases ha:(Q9 s).all GN with
 |false=>
  rw[ha]at e1 e2
  refine⟨-1,Ev.bind e1 (Ev.pure _),Ev.bind e2 (Ev.pure _),by omega,by omega⟩
 |true=>
  rw[ha,decide_eq_true h0]at e2
  rw[ha]at e1
  obtain⟨r,r1,r2,r3⟩:=Q6N xs hs (GO s) xs.length 0 (by omega) (-1) (by omega) (by omega)
  cases r with
  |inl z=>exact⟨z,Ev.bind e1 (Ev.bind (Up s h1) (Ev.bind r1 (Ev.pure _))),Ev.bind e2 (Ev.bind (GP s h1) (Ev.bind r2 (Ev.pure _))),r3 z (.inl rfl)⟩
  |inr z=>exact⟨z,Ev.bind e1 (Ev.bind (Up s h1) (Ev.bind r1 (Ev.pure _))),Ev.bind e2 (Ev.bind (GP s h1) (Ev.bind r2 (Ev.pure _))),r3 z (.inr rfl)⟩
end Go.Proofs.YtlnhmbnbloakmaaDoor
end
section
/- Plain laws: the pieces of a text between spaces. -/
namespace Go.Proofs.YtlnhmbnbloakmaaDoor
open Go.Gx
theorem Q2w (s t:ByteArray):(s++t).size=s.size+t.size:=by
 rw[<-Yk,Q6F,List.length_append,Yk,Yk]
theorem Q6O (s:ByteArray)(st a:Nat):(s.extract st s.size).extract a (s.extract st s.size).size=s.extract (st+a) s.size:=by
 apply Q2p
 have e:(L s).take s.size=L s:=List.take_of_length_le (Nat.le_refl _)
 rw[JH,JH s (st+a),<-Yk (s.extract st s.size),JH,List.take_length,List.drop_drop,e]
theorem Q6P (s:ByteArray)(st i:Nat)(h:st<=i)(hi:i<=s.size):(s.extract st s.size).extract 0 (i-st)=s.extract st i:=by
 apply Q2p
 rw[JH,JH,JH,List.drop_zero,List.take_of_length_le (show(L s).length<=s.size from Nat.le_refl _),List.drop_take]
def sp:ByteArray:=⟨#[32]⟩
theorem Q8d {l:List UInt8}{c:UInt8}{i:Nat}(h:l[i]? =some c)(hn:∀j,j<i->l[j]? ≠some c):Lib.indexByte l c=i:=by
 have hg:=Lib.indexByte_ge l c
 by_cases e:Lib.indexByte l c= -1
 ·exact absurd h (Lib.indexByte_none e i)
 ·obtain⟨o,ho⟩:∃o:Nat,Lib.indexByte l c=o:=⟨(Lib.indexByte l c).toNat,by omega⟩
  obtain⟨h1,h2⟩:=Lib.indexByte_some ho
  rcases Nat.lt_trichotomy o i with h3|h3|h3
  ·exact absurd h1 (hn o h3)
  ·rw[ho,h3]
  ·exact absurd h (h2 i h3)
theorem Q7D {l:List UInt8}{c:UInt8}(hn:∀j:Nat,l[j]? ≠some c):Lib.indexByte l c= -1:=by
 have hg:=Lib.indexByte_ge l c
 by_cases e:Lib.indexByte l c= -1
 ·exact e
 ·obtain⟨o,ho⟩:∃o:Nat,Lib.indexByte l c=o:=⟨(Lib.indexByte l c).toNat,by omega⟩
  exact absurd (Lib.indexByte_some ho).1 (hn o)
theorem Q0L (s:ByteArray):Lib.indexB s sp=Lib.indexByte (L s) 32:=Lib.one s sp rfl
theorem Q3v (s:ByteArray)(st j:Nat):(L (s.extract st s.size))[j]? =(L s)[st+j]?:=by
 rw[JH,List.take_of_length_le (show(L s).length<=s.size from Nat.le_refl _),List.getElem?_drop]
def JI (s:ByteArray)(st:Nat):List ByteArray:=Lib.splitB sp 0 (Lib.countB (s.extract st s.size) sp) (s.extract st s.size)
theorem Q5d (s:ByteArray)(st:Nat)(h:∀j,st<=j->(L s)[j]? ≠some 32):JI s st=[s.extract st s.size]:=by
 unfold JI
 rw[Lib.countB_miss _ _ ((Q0L _).trans (Q7D λj=>by rw[Q3v];exact h _ (by omega)))]
 rfl
theorem Q5e (s:ByteArray)(st i:Nat)(h1:st<=i)(hi:i<s.size)(hb:(L s)[i]? =some 32)(h:∀j,st<=j->j<i->(L s)[j]? ≠some 32):JI s st=s.extract st i::JI s (i+1):=by
 have e:Lib.indexB (s.extract st s.size) sp=((i-st:Nat):Int):=(Q0L _).trans (Q8d (by rw[Q3v,show st+(i-st)=i by omega];exact hb) λj hj=>by rw[Q3v];exact h _ (by omega) (by omega))
 have e1:sp.size=1:=rfl
 unfold JI
 rw[Lib.countB_hit _ _ _ (by rw[e1];exact Nat.le_refl _) e,Nat.add_comm 1,Lib.splitB_hit _ _ _ _ _ e,Nat.add_zero,Q6P s st i h1 (by omega),e1,Q6O,show st+(i-st+1)=i+1 by omega]
theorem sub_self (s:ByteArray):s.extract 0 s.size=s:=by
 apply Q2p
 rw[JH,List.take_of_length_le (show(L s).length<=s.size from Nat.le_refl _),List.drop_zero]
def words (s:ByteArray):List ByteArray:=Lib.splitB sp 0 (Lib.countB s sp) s
theorem Q3w (s:ByteArray):JI s 0=words s:=by unfold JI words;rw[sub_self]
theorem Q6Q (s:ByteArray)(hs:s.size<=4000):Z63.F s ⟨#[32]⟩=some (words s):=by
 unfold Z63.F Q1k
 rw[Nat.ble_eq_true_of_le (by omega)]
 rfl
theorem Dk:∀(k:Nat) (s:ByteArray),∀x∈Lib.splitB sp 0 k s,x.size<=s.size
 |0,s,x,hx=>by
  rw[Lib.splitB_zero]at hx
  simp only[List.mem_singleton]at hx
  rw[hx];exact Nat.le_refl _
 |k+1,s,x,hx=>by
  unfold Lib.splitB at hx
  split at hx
  ·simp only[List.mem_singleton]at hx
   rw[hx];exact Nat.le_refl _
  ·rcases List.mem_cons.1 hx with rfl|hx
   ·rw[ByteArray.size_extract];omega
   ·have:=Dk k _ x hx
    rw[ByteArray.size_extract]at this
    omega
theorem Q0M (s:ByteArray):1<=(words s).length/\(words s).length<=s.size+1:=by
 unfold words
 have h1:1<=sp.size:=Nat.le_refl 1
 rw[Lib.splitB_all sp h1 0 _ s rfl]
 have:=Lib.countB_le sp h1 s.size s (Nat.le_refl _)
 omega
end Go.Proofs.YtlnhmbnbloakmaaDoor
end
section
/- Plain laws: slices.IndexFunc,slices.DeleteFunc,as they are printed for a function value. -/
namespace Go.Gx
section
variable {α:Type} {d:α} {p:α->Bool} {q:Nat->α->Option Bool} {xs:List α}
theorem KZ {α:Type}{xs:List α}{i:Nat}(h:i<xs.length)(d:α):xs.getD i d=xs[i]:=by simp[List.getD,List.getElem?_eq_getElem h]
theorem Q6R {l0:Nat->List α->Int->Int->Option (Sum Int Unit)}(H:∀k x0 x7 x8,l0 (k+1) x0 x7 x8=bif (decide (x8<x7))then(bif decide (0<=x8)then(bif decide (x8<(x0.length:Int))then((q k (x0.getD (x8:Int).toNat d)).bind λr1=>bif r1 then(some (.inl x8))else(l0 k x0 x7 (IntKind.wrap .i64 (x8+1))))else none)else none)else(some (.inr ())))
  (hq:∀x,x∈xs->Ev (λk=>q k x) (p x)) (hl:xs.length<=4611686018427387904):∀n i:Nat,i+n=xs.length->(∀x∈xs.take i,p x=false)->
  ∃r,Ev (λk=>l0 k xs xs.length i) r/\((r= .inr ()/\∀x∈xs,p x=false)\/∃j:Nat,r= .inl j/\j<xs.length/\p (xs.getD j d)=true/\∀x∈xs.take j,p x=false)
 |0,i,h,ht=>by
  refine⟨.inr (),Ev.step (λk=>by rw[H]) ?_,.inl ⟨rfl,by rw[List.take_of_length_le (by omega)]at ht;exact ht⟩⟩
  simp(disch:=omega) only[QB]
  exact Ev.pure _
 |n+1,i,h,ht=>by
  have hi:i<xs.length:=by omega
  cases hp:p xs[i]with
  |true=>
   refine⟨.inl i,Ev.step (λk=>by rw[H]) ?_,.inr ⟨i,rfl,hi,by rw[KZ hi,hp],ht⟩⟩
   simp(disch:=omega) only[Qe,Int.toNat_natCast,KZ hi]
   refine Ev.bind (hq _ (List.getElem_mem hi)) ?_
   rw[hp]
   exact Ev.pure _
  |false=>
   obtain⟨r,h1,h2⟩:=Q6R H hq hl n (i+1) (by omega) (by
    intro x hx
    rw[List.take_add_one,List.getElem?_eq_getElem hi]at hx
    rcases List.mem_append.1 hx with hx|hx
    ·exact ht x hx
    ·simp only[Option.toList_some,List.mem_singleton]at hx
     rw[hx,hp])
   refine⟨r,Ev.step (λk=>by rw[H]) ?_,h2⟩
   simp(disch:=omega) only[Qe,Int.toNat_natCast,KZ hi]
   refine Ev.bind (hq _ (List.getElem_mem hi)) ?_
   rw[hp]
   simp(disch:=omega) only[cond_false,wrap_in]
   exact h1
theorem Q3x {l0:Nat->List α->Int->Int->Option (Sum Int Unit)}(H:∀k x0 x7 x8,l0 (k+1) x0 x7 x8=bif (decide (x8<x7))then(bif decide (0<=x8)then(bif decide (x8<(x0.length:Int))then((q k (x0.getD (x8:Int).toNat d)).bind λr1=>bif r1 then(some (.inl x8))else(l0 k x0 x7 (IntKind.wrap .i64 (x8+1))))else none)else none)else(some (.inr ())))
  (hq:∀x,x∈xs->Ev (λk=>q k x) (p x)) (hl:xs.length<=4611686018427387904) {F:Nat->List α->Option Int} (HF:∀k a0,F k a0=(l0 k a0 (a0.length:Int) 0).bind λy2=>match y2 with|.inl z3=>some z3|.inr z3=>some (-1)) :
  ∃r,Ev (λk=>F k xs) r/\((r= -1/\∀x∈xs,p x=false)\/∃j:Nat,r=j/\j<xs.length/\p (xs.getD j d)=true/\∀x∈xs.take j,p x=false):=by
 obtain⟨r,h1,h2⟩:=Q6R H hq hl xs.length 0 (by omega) (λx hx=>by simp at hx)
 rcases h2 with⟨rfl,h2⟩|⟨j,rfl,h2⟩
 ·exact⟨-1,Ev.congr (Ev.bind h1 (Ev.pure _)) (λk=>HF k xs),.inl ⟨rfl,h2⟩⟩
 ·exact⟨j,Ev.congr (Ev.bind h1 (Ev.pure _)) (λk=>HF k xs),.inr ⟨j,rfl,h2⟩⟩
theorem Q3y {l0:Nat->List α->Int->Int->Option (List α×Int)}(H:∀k x0 x5 x6,l0 (k+1) x0 x5 x6=bif (decide (x6<(x0.length:Int)))then(bif decide (0<=x6)then(bif decide (x6<(x0.length:Int))then((q k (x0.getD ((x6:Int).toNat) d)).bind λr2=>bif (!r2)then(bif decide (0<=x5)then(bif decide (x5<(x0.length:Int))then(l0 k (x0.set ((x5:Int).toNat) (x0.getD ((x6:Int).toNat) d)) (IntKind.wrap .i64 (x5+1)) (IntKind.wrap .i64 (x6+1)))else none)else none)else(l0 k x0 x5 (IntKind.wrap .i64 (x6+1))))else none)else none)else(some (x0,x5)))
  (hq:∀x,x∈xs->Ev (λk=>q k x) (p x)) (hl:xs.length<=4611686018427387904):∀n j:Nat,j+n=xs.length->∀(ys:List α) (i:Nat),ys.length=xs.length->i<=j->ys.drop j=xs.drop j->
  ∃zs,∃i':Nat,Ev (λk=>l0 k ys i j) (zs,(i':Int))/\i'<=xs.length/\zs.length=xs.length/\zs.take i'=ys.take i++(xs.drop j).filter λx=> !p x
 |0,j,h,ys,i,hy,hij,hd=>by
  refine⟨ys,i,Ev.step (λk=>by rw[H]) ?_,by omega,hy,?_⟩
  ·simp(disch:=omega) only[QB]
   exact Ev.pure _
  ·rw[List.drop_eq_nil_of_le (by omega),List.filter_nil,List.append_nil]
 |n+1,j,h,ys,i,hy,hij,hd=>by
  have hj:j<xs.length:=by omega
  have hj':j<ys.length:=by omega
  have hx:ys[j]=xs[j]:=by
   have h0:=congrArg (·[0]?) hd
   simpa[hj,hj']using h0
  have hd1:ys.drop (j+1)=xs.drop (j+1):=by
   have:=congrArg (List.drop 1) hd
   simpa[List.drop_drop]using this
  cases hp:p xs[j]with
  |true=>
   obtain⟨zs,i',h1,h2,h3,h4⟩:=Q3y H hq hl n (j+1) (by omega) ys i hy (by omega) hd1
   refine⟨zs,i',Ev.step (λk=>by rw[H]) ?_,h2,h3,?_⟩
   ·simp(disch:=omega) only[Qe,Int.toNat_natCast,KZ hj',hx]
    refine Ev.bind (hq _ (List.getElem_mem hj)) ?_
    rw[hp]
    simp(disch:=omega) only[Bool.not_true,cond_false,wrap_in]
    exact h1
   ·rw[h4,List.drop_eq_getElem_cons hj,List.filter_cons_of_neg (by rw[hp];decide)]
  |false=>
   obtain⟨zs,i',h1,h2,h3,h4⟩:=Q3y H hq hl n (j+1) (by omega) (ys.set i xs[j]) (i+1) (by simpa using hy) (by omega) (by rw[List.drop_set_of_lt (by omega)];exact hd1)
   refine⟨zs,i',Ev.step (λk=>by rw[H]) ?_,h2,h3,?_⟩
   ·simp(disch:=omega) only[Qe,Int.toNat_natCast,KZ hj',hx]
    refine Ev.bind (hq _ (List.getElem_mem hj)) ?_
    rw[hp]
    simp(disch:=omega) only[Bool.not_false,cond_true,Qe,Int.toNat_natCast,wrap_in]
    exact h1
   ·rw[h4,List.drop_eq_getElem_cons hj,List.filter_cons_of_pos (by rw[hp];decide),List.take_add_one,List.take_set_of_le (Nat.le_refl i)]
    have:(ys.set i xs[j])[i]? =some xs[j]:=by rw[List.getElem?_set_self (by omega)]
    rw[this]
    simp
theorem Q0N {l0:Nat->List α->Int->Int->Option (List α×Int)}(H:∀k x0 x5 x6,l0 (k+1) x0 x5 x6=bif (decide (x6<(x0.length:Int)))then(bif decide (0<=x6)then(bif decide (x6<(x0.length:Int))then((q k (x0.getD ((x6:Int).toNat) d)).bind λr2=>bif (!r2)then(bif decide (0<=x5)then(bif decide (x5<(x0.length:Int))then(l0 k (x0.set ((x5:Int).toNat) (x0.getD ((x6:Int).toNat) d)) (IntKind.wrap .i64 (x5+1)) (IntKind.wrap .i64 (x6+1)))else none)else none)else(l0 k x0 x5 (IntKind.wrap .i64 (x6+1))))else none)else none)else(some (x0,x5)))
  (hq:∀x,x∈xs->Ev (λk=>q k x) (p x)) (hl:xs.length<=4611686018427387904) {I F:Nat->List α->Option _} {e:α}
  (hI:∃r:Int,Ev (λk=>I k xs) r/\((r= -1/\∀x∈xs,p x=false)\/∃j:Nat,r=j/\j<xs.length/\p (xs.getD j d)=true/\∀x∈xs.take j,p x=false))
  (HF:∀k a0,F k a0=(I k a0).bind λr1=>bif (r1==(-1))then(some a0)else((l0 k a0 r1 (IntKind.wrap .i64 (r1+1))).bind λy3=>bif decide (0<=y3.2)then(bif decide (y3.2<=(y3.1.length:Int))then(bif decide (0<=y3.2)then(bif decide (y3.2<=((y3.1.take ((y3.2:Int).toNat)++List.replicate (y3.1.length-((y3.2:Int).toNat)) e).length:Int))then(some ((y3.1.take ((y3.2:Int).toNat)++List.replicate (y3.1.length-((y3.2:Int).toNat)) e).take (y3.2:Int).toNat))else none)else none)else none)else none)) :
  Ev (λk=>F k xs) (xs.filter λx=> !p x):=by
 obtain⟨r,h1,h2⟩:=hI
 refine Ev.congr (?_:Ev _ _) (λk=>HF k xs)
 refine Ev.bind h1 ?_
 rcases h2 with⟨rfl,h2⟩|⟨j,rfl,hj,hp,h2⟩
 ·have:(xs.filter λx=> !p x)=xs:=List.filter_eq_self.2 λx hx=>by rw[h2 x hx];rfl
  rw[this]
  exact Ev.pure _
 ·obtain⟨zs,i',h3,h4,h5,h6⟩:=Q3y H hq hl (xs.length-(j+1)) (j+1) (by omega) xs j rfl (by omega) rfl
  rw[KZ hj]at hp
  have hz:zs.take i'=xs.filter λx=> !p x:=by
   rw[h6]
   conv=>rhs;rw[<-List.take_append_drop j xs,List.filter_append,List.drop_eq_getElem_cons hj,List.filter_cons_of_neg (by rw[hp];decide)]
   congr 1
   exact(List.filter_eq_self.2 λx hx=>by rw[h2 x hx];rfl).symm
  simp(disch:=omega) only[cne,wrap_in]
  refine Ev.bind h3 ?_
  have e1:((zs.take i'++List.replicate (zs.length-i') e)).length=zs.length:=by simp;omega
  simp(disch:=(try simp only[Int.toNat_natCast,e1]);omega) only[Qe,Int.toNat_natCast,e1]
  rw[List.take_append_of_le_length (by simp;omega),List.take_take,Nat.min_self,hz]
  exact Ev.pure _
end
end Go.Gx
end
section
/- Plain laws: texts,their words,their abbreviation. -/
namespace Go.Proofs.YtlnhmbnbloakmaaDoor
open Go.Gx
theorem GQ {α:Type}(p:α->Bool):∀l:List α,l.dropWhile p=l ↔ (∀a,l.head?=some a->p a=false)
 |[]=>by simp
 |a::l=>by
  have hl:(l.dropWhile p).length<=l.length:=(List.dropWhile_sublist p).length_le
  cases h:p a with
  |true=>
   rw[List.dropWhile_cons_of_pos h]
   constructor
   ·intro e
    have:=congrArg List.length e
    simp at this
    omega
   ·intro e
    have:=e a rfl
    rw[h]at this;cases this
  |false=>
   rw[List.dropWhile_cons_of_neg (by rw[h];exact Bool.noConfusion)]
   simp[h]
theorem Q3z (l:List UInt8)(c:UInt8):Lib.trimB l c=l ↔ l.head?≠some c/\l.getLast?≠some c:=by
 unfold Lib.trimB Lib.trimLeftB Lib.trimRightB
 have h1:∀m:List UInt8,m.dropWhile (· ==c)=m ↔ m.head?≠some c:=λm=>by
  rw[GQ]
  constructor
  ·intro h e;have:=h c e;simp at this
  ·intro h a e
   have:a≠c:=λe'=>h (e'▸e)
   simpa using this
 constructor
 ·intro h
  have h2:((l.reverse.dropWhile (· ==c)).reverse).length<=l.length:=by
   have:=(List.dropWhile_sublist (p:=(· ==c)) (l:=l.reverse)).length_le
   simpa using this
  have h3:=(List.dropWhile_sublist (p:=(· ==c)) (l:=(l.reverse.dropWhile (· ==c)).reverse))
  have h4:(l.reverse.dropWhile (· ==c)).reverse=l:=by
   have h5:(l.reverse.dropWhile (· ==c)).reverse.length=l.length:=by
    have:=h3.length_le
    rw[h]at this
    omega
   have h6:l.reverse.dropWhile (· ==c)=l.reverse:=(List.dropWhile_sublist (p:=(· ==c)) (l:=l.reverse)).eq_of_length (by simpa using h5)
   rw[h6,List.reverse_reverse]
  rw[h4]at h
  refine⟨(h1 l).1 h,?_⟩
  have h6:l.reverse.dropWhile (· ==c)=l.reverse:=by rw[<-List.reverse_inj,h4,List.reverse_reverse]
  have:=(h1 _).1 h6
  simpa using this
 ·rintro⟨ha,hb⟩
  have h6:l.reverse.dropWhile (· ==c)=l.reverse:=(h1 _).2 (by simpa using hb)
  rw[h6,List.reverse_reverse]
  exact(h1 l).2 ha
def vis (lo b:Int):Bool:=decide (lo<=b)&&decide (b<=126)
theorem Q4j {s:ByteArray}{i:Nat}(hi:i<s.size):bt s i=32 ↔ (L s)[i]? =some 32:=by
 have hi':i<(L s).length:=hi
 have hbt:bt s i=((L s)[i].toNat:Int):=by rw[Q6D,getD_at hi']
 rw[List.getElem?_eq_getElem hi',hbt]
 have:(32:UInt8).toNat=32:=rfl
 constructor
 ·intro h
  congr 1
  apply UInt8.toNat_inj.1
  omega
 ·intro h
  rw[Option.some.inj h];rfl
def Q7E (s:ByteArray):Bool:=(decide (s.size=0))||(bt s 0 != 32&&bt s (s.size-1) != 32)
theorem Q5f (s:ByteArray)(hs:s.size<=1048576):Z62.F s ⟨#[32]⟩=some ⟨(Lib.trimB (L s) 32).toArray⟩:=by
 unfold Z62.F Q1l
 rw[Nat.ble_eq_true_of_le (by omega)]
 rfl
theorem Q7F (s:ByteArray):Qn ⟨(Lib.trimB (L s) 32).toArray⟩ s=Q7E s:=by
 rw[Bool.eq_iff_iff,GG]
 have h1:(⟨(Lib.trimB (L s) 32).toArray⟩:ByteArray)=s ↔ Lib.trimB (L s) 32=L s:=by
  constructor
  ·intro h
   have:=congrArg L h
   rwa [Q8v]at this
  ·intro h
   apply Q2p
   rw[Q8v,h]
 rw[h1,Q3z]
 unfold Q7E
 by_cases hz:s.size=0
 ·have:L s=[]:=List.eq_nil_of_length_eq_zero hz
  rw[this]
  simp[hz]
 ·have h2:(L s).head?=(L s)[0]?:=List.head?_eq_getElem?
  have h3:(L s).getLast?=(L s)[s.size-1]?:=by rw[List.getLast?_eq_getElem?];rfl
  rw[h2,h3,Bool.or_eq_true,decide_eq_true_eq,Bool.and_eq_true,bne_iff_ne,bne_iff_ne,Ne,Ne,Ne,Ne,Q4j (by omega),Q4j (by omega)]
  simp[hz]
theorem Dl (s:ByteArray)(hs:s.size<=1048576):∀n i:Nat,i+n=s.size->Ev (λk=>Z19.l0 k s i) (if((Q9 s).drop i).all (vis 32)=true then .inr s else .inl false)
 |0,i,h=>by
  refine Ev.step (λk=>by rw[Z19.l0]) ?_
  simp(disch:=omega) only[QB]
  rw[List.drop_eq_nil_of_le (by rw[QK];omega)]
  exact Ev.pure _
 |n+1,i,h=>by
  have hl:=QK s
  have hi:i<(Q9 s).length:=by omega
  refine Ev.step (λk=>by rw[Z19.l0]) ?_
  simp(disch:=omega) only[Qe,Int.toNat_natCast,U8 s i hi]
  rw[Xe hi]
  unfold vis
  by_cases c1:(Q9 s)[i]<32
  ·simp(disch:=omega) only[Qe,KU,Bool.false_and];exact Ev.pure _
  ·by_cases c2:(Q9 s)[i] > 126
   ·simp(disch:=omega) only[Qe,QB,KU,Bool.and_false,Bool.false_and];exact Ev.pure _
   ·simp(disch:=omega) only[Qe,QB,Dq,Bool.and_self,Bool.true_and,wrap_in]
    exact Dl s hs n (i+1) (by omega)
theorem GR (s:ByteArray)(hs:s.size<=1048576):∀n i:Nat,i+n=s.size->Ev (λk=>Z25.l0 k s i) (if((Q9 s).drop i).all (vis 32)=true then .inr s else .inl false)
 |0,i,h=>by
  refine Ev.step (λk=>by rw[Z25.l0]) ?_
  simp(disch:=omega) only[QB]
  rw[List.drop_eq_nil_of_le (by rw[QK];omega)]
  exact Ev.pure _
 |n+1,i,h=>by
  have hl:=QK s
  have hi:i<(Q9 s).length:=by omega
  refine Ev.step (λk=>by rw[Z25.l0]) ?_
  simp(disch:=omega) only[Qe,Int.toNat_natCast,U8 s i hi]
  rw[Xe hi]
  unfold vis
  by_cases c1:(Q9 s)[i]<32
  ·simp(disch:=omega) only[Qe,KU,Bool.false_and];exact Ev.pure _
  ·by_cases c2:(Q9 s)[i] > 126
   ·simp(disch:=omega) only[Qe,QB,KU,Bool.and_false,Bool.false_and];exact Ev.pure _
   ·simp(disch:=omega) only[Qe,QB,Dq,Bool.and_self,Bool.true_and,wrap_in]
    exact GR s hs n (i+1) (by omega)
def Yl (s:ByteArray):Bool:=decide (s.size<=40)&&((Q9 s).all (vis 32)&&Q7E s)
theorem Q2x (s:ByteArray):Ev (λk=>Z19.F k s) (Yl s):=by
 unfold Z19.F Yl
 by_cases c:(s.size:Int) > 40
 ·simp(disch:=omega) only[Qe,KU,Bool.false_and]
  exact Ev.pure _
 ·simp(disch:=omega) only[QB,Dq,Bool.true_and]
  have:=Dl s (by omega) s.size 0 (by omega)
  rw[List.drop_zero]at this
  cases h:(Q9 s).all (vis 32)with
  |false=>rw[h]at this;exact Ev.bind this (Ev.pure _)
  |true=>
   rw[h]at this
   refine Ev.bind (a:=.inr s) this ?_
   dsimp only
   have he:Qn s ⟨#[]⟩=decide (s.size=0):=by
    rw[<-Bool.not_not (b:=Qn s ⟨#[]⟩),Kv]
    by_cases hz:s.size=0
    ·simp[hz]
    ·rw[decide_eq_true (by omega:0<s.size),decide_eq_false hz];rfl
   rw[he]
   unfold Q7E
   by_cases hz:s.size=0
   ·rw[decide_eq_true hz];exact Ev.pure _
   ·rw[decide_eq_false hz]
    simp(disch:=omega) only[cond_false,cond_true,Qe,wrap_in]
    rw[show((s.size:Int)-1).toNat=s.size-1 by omega,show(0:Int).toNat=0 from rfl,Bool.false_or,Bool.true_and]
    cases (bt s 0 != 32)with
    |true=>exact Ev.pure _
    |false=>exact Ev.pure _
theorem Q5g (s:ByteArray):Ev (λk=>Z48.F k s) (Yl s):=by
 unfold Z48.F Yl
 by_cases c:(s.size:Int)<=40
 ·simp(disch:=omega) only[Qe,Dq,Bool.true_and]
  refine Ev.bind ?_ (Ev.pure _)
  unfold Z25.F
  have:=GR s (by omega) s.size 0 (by omega)
  rw[List.drop_zero]at this
  cases h:(Q9 s).all (vis 32)with
  |false=>rw[h]at this;exact Ev.bind this (Ev.pure _)
  |true=>
   rw[h]at this
   refine Ev.bind (a:=.inr s) this ?_
   dsimp only
   refine Ev.bind0 (Q5f s (by omega)) ?_
   simp only[Q7F,Bool.true_and]
   exact Ev.pure _
 ·simp(disch:=omega) only[QB,KU,Bool.false_and]
  exact Ev.pure _
def pos (s:ByteArray):Bool:=decide (0<s.size)
def kw (s:ByteArray):List ByteArray:=(words s).filter pos
theorem ext_size {s:ByteArray}{a b:Nat}(h:a<=b)(hb:b<=s.size):(s.extract a b).size=b-a:=by
 rw[ByteArray.size_extract];omega
theorem Q1t {n:Nat}(h:n<=8192):room n .str=true:=by
 unfold room
 rw[Nat.ble_eq]
 have:nb .str=16:=rfl
 rw[this]
 omega
theorem Q2y (s:ByteArray)(a b:Nat)(hab:a<=b)(hb:b<=s.size)(l:List ByteArray):(s.extract a b::l).filter pos=(if a<b then[s.extract a b]else[])++l.filter pos:=by
 rw[List.filter_cons]
 unfold pos
 rw[ext_size hab hb]
 by_cases c:a<b
 ·rw[if_pos c,decide_eq_true (by omega)];rfl
 ·rw[if_neg c,decide_eq_false (by omega)];rfl
theorem Yr (s:ByteArray)(hs:s.size<=4000):∀n i:Nat,i+n=s.size->∀st:Nat,st<=i->(∀j,st<=j->j<i->(L s)[j]? ≠some 32)->∀acc:List ByteArray,acc.length<=i->Ev (λk=>Z5.l0 k s acc st i) (acc++(JI s st).filter pos)
 |0,i,h,st,h1,hn,acc,ha=>by
  have e:JI s st=[s.extract st s.size]:=Q5d s st λj hj=>by
   by_cases hj2:j<i
   ·exact hn j hj hj2
   ·rw[List.getElem?_eq_none (by rw[Yk];omega)];exact λh=>by cases h
  rw[e,Q2y s st s.size (by omega) (Nat.le_refl _),List.filter_nil,List.append_nil]
  have fin:∀acc',Ev (λk=>Z5.l0 k s acc' ((i:Int)+1) ((i:Int)+1)) acc':=λacc'=>by
   refine Ev.step (λk=>by rw[Z5.l0]) ?_
   simp(disch:=omega) only[QB]
   exact Ev.pure _
  refine Ev.step (λk=>by rw[Z5.l0]) ?_
  by_cases c:st<i
  ·rw[if_pos (by omega)]
   have hr:∀x:ByteArray,room (acc.length+([x]:List ByteArray).length) .str=true:=λx=>Q1t (by simp;omega)
   simp(disch:=omega) only[Qe,ceq,Int.toNat_natCast,hr,cond_true,wrap_in]
   rw[show i=s.size by omega]
   have:=fin (acc++[s.extract st s.size])
   rw[show i=s.size by omega]at this
   exact this
  ·rw[if_neg (by omega),List.append_nil]
   simp(disch:=omega) only[Qe,QB,ceq,wrap_in]
   exact fin acc
 |n+1,i,h,st,h1,hn,acc,ha=>by
  have hi:i<s.size:=by omega
  refine Ev.step (λk=>by rw[Z5.l0]) ?_
  by_cases c:bt s i=32
  ·rw[Q5e s st i h1 hi ((Q4j hi).1 c) hn,Q2y s st i h1 (by omega)]
   by_cases c2:st<i
   ·have hr:∀x:ByteArray,room (acc.length+([x]:List ByteArray).length) .str=true:=λx=>Q1t (by simp;omega)
    rw[if_pos c2,<-List.append_assoc]
    simp(disch:=first|exact c|omega) only[Qe,cne,ceq,Int.toNat_natCast,hr,cond_true,wrap_in]
    exact Yr s hs n (i+1) (by omega) (i+1) (Nat.le_refl _) (λj h1 h2=>by omega) (acc++[s.extract st i]) (by simp;omega)
   ·rw[if_neg c2,List.nil_append]
    simp(disch:=first|exact c|omega) only[Qe,QB,cne,ceq,Int.toNat_natCast,wrap_in]
    exact Yr s hs n (i+1) (by omega) (i+1) (Nat.le_refl _) (λj h1 h2=>by omega) acc (by omega)
  ·simp(disch:=first|exact c|omega) only[Qe,cne,Int.toNat_natCast,wrap_in]
   exact Yr s hs n (i+1) (by omega) st (by omega) (λj h3 h4=>by
    rcases Nat.lt_or_ge j i with h5|h5
    ·exact hn j h3 h5
    ·obtain rfl:j=i:=by omega
     exact λe=>c ((Q4j hi).2 e)) acc (by omega)
theorem Q1u (s:ByteArray)(hs:s.size<=4000):Ev (λk=>Z5.F k s) (kw s):=by
 unfold Z5.F
 have:=Yr s hs s.size 0 (by omega) 0 (Nat.le_refl _) (λj h1 h2=>by omega) [] (Nat.le_refl _)
 rw[Q3w,List.nil_append]at this
 exact Ev.bind this (Ev.pure _)
theorem Q6S:(λx:ByteArray=> !Qn x ⟨#[]⟩)=pos:=by
 funext x
 rw[Kv];rfl
theorem Q3A (s:ByteArray)(hs:s.size<=4000):Ev (λk=>Z50.F k s) (kw s):=by
 unfold Z50.F
 refine Ev.bind0 (Q6Q s hs) (Ev.bind (a:=kw s) ?_ (Ev.pure _))
 have hlen:=(Q0M s).2
 have hq:∀x,x∈words s->Ev (λk=>(λ(_:Nat) (x:ByteArray)=>Z35.F x) k x) (Qn x ⟨#[]⟩):=λx _=>Ev.const rfl
 have:=Q0N (d:=(⟨#[]⟩:ByteArray)) (p:=λx=>Qn x ⟨#[]⟩) (q:=λ_ x=>Z35.F x) (xs:=words s) (l0:=Z30.l0) (λk x0 x5 x6=>by rw[Z30.l0]) hq (by omega) (I:=Z27.F) (F:=Z30.F)
  (Q3x (d:=(⟨#[]⟩:ByteArray)) (p:=λx=>Qn x ⟨#[]⟩) (q:=λ_ x=>Z35.F x) (l0:=Z27.l0) (λk x0 x7 x8=>by rw[Z27.l0]) hq (by omega) (λk a0=>rfl)) (λk a0=>rfl)
 rw[Q6S]at this
 exact this
def om (s:ByteArray):Bool:=Qn (GO s) ⟨#[97]⟩||(Qn (GO s) ⟨#[97,110]⟩||(Qn (GO s) ⟨#[97,110,100]⟩||(Qn (GO s) ⟨#[102,111,114]⟩||(Qn (GO s) ⟨#[105,110]⟩||(Qn (GO s) ⟨#[111,102]⟩||(Qn (GO s) ⟨#[111,110]⟩||Qn (GO s) ⟨#[116,104,101]⟩))))))
theorem cb1 (c:Bool):(bif c then some true else some false)=some c:=by cases c<;>rfl
theorem cb2 (c d:Bool):(bif c then some c else some d)=some (c||d):=by cases c<;>rfl
theorem Q6T (s:ByteArray)(hs:s.size<=1048576):Ev (λk=>Z44.F k s) (om s):=by
 unfold Z44.F om
 refine Ev.bind (Up s hs) ?_
 simp only[cb1,cb2]
 exact Ev.pure _
theorem Q3B (s:ByteArray)(hs:s.size<=1048576):Ev (λk=>Z32.F k s) (om s):=by
 unfold Z32.F om
 refine Ev.bind (GP s hs) ?_
 simp only[cb1,cb2]
 exact Ev.pure _
theorem GT (s:ByteArray):∀x∈kw s,0<x.size/\x.size<=s.size:=λx hx=>by
 obtain⟨h1,h2⟩:=List.mem_filter.1 hx
 exact⟨by simpa[pos]using h2,Dk _ _ x h1⟩
theorem Q3C (s:ByteArray):(kw s).length<=s.size+1:=Nat.le_trans (List.length_filter_le _ _) (Q0M s).2
theorem Q1v (W:List ByteArray)(hW:∀x∈W,x.size<=4000)(hl:W.length<=4001):∀n i:Nat,i+n=W.length->∀acc:List ByteArray,acc.length<=i->Ev (λk=>Z23.l0 k W acc i) (W,acc++(W.drop i).filter λx=> !om x)
 |0,i,h,acc,ha=>by
  refine Ev.step (λk=>by rw[Z23.l0]) ?_
  simp(disch:=omega) only[QB]
  rw[List.drop_eq_nil_of_le (by omega),List.filter_nil,List.append_nil]
  exact Ev.pure _
 |n+1,i,h,acc,ha=>by
  have hi:i<W.length:=by omega
  refine Ev.step (λk=>by rw[Z23.l0]) ?_
  simp(disch:=omega) only[Qe,Int.toNat_natCast,getD_at hi]
  have:=hW _ (List.getElem_mem hi)
  refine Ev.bind (Q6T _ (by omega)) ?_
  rw[List.drop_eq_getElem_cons hi,List.filter_cons]
  cases ho:om W[i]with
  |true=>
   simp(disch:=omega) only[Bool.not_true,cond_false,wrap_in,Bool.false_eq_true,if_false]
   exact Q1v W hW hl n (i+1) (by omega) acc (by omega)
  |false=>
   have hr:room (acc.length+([W[i]]:List ByteArray).length) .str=true:=Q1t (by simp;omega)
   simp(disch:=omega) only[Bool.not_false,cond_true,Qe,hr,wrap_in,if_true]
   have:=Q1v W hW hl n (i+1) (by omega) (acc++[W[i]]) (by simp;omega)
   rw[List.append_assoc]at this
   exact this
def UN (s:ByteArray):List ByteArray×Bool:=if(kw s).length<=1 then(kw s,false)else if((kw s).filter λx=> !om x).length=0 then(kw s,true)else((kw s).filter λx=> !om x,true)
theorem Q2z (s:ByteArray)(hs:s.size<=40):Ev (λk=>Z23.F k s) (UN s):=by
 unfold Z23.F
 have hW:=GT s
 have hl:=Q3C s
 have h2:=Q1v (kw s) (λx hx=>by have:=(hW x hx).2;omega) (by omega) (kw s).length 0 (by omega) [] (Nat.le_refl _)
 rw[List.drop_zero,List.nil_append]at h2
 refine Ev.bind (Q1u s (by omega)) (Ev.bind h2 ?_)
 unfold UN
 by_cases c1:(kw s).length<=1
 ·rw[if_pos c1]
  by_cases c2:(((kw s).filter λx=> !om x).length:Int)=0
  ·simp(disch:=omega) only[ceq,Qe];exact Ev.pure _
  ·simp(disch:=omega) only[cne,Qe];exact Ev.pure _
 ·rw[if_neg c1]
  by_cases c2:((kw s).filter λx=> !om x).length=0
  ·rw[if_pos c2]
   simp(disch:=omega) only[ceq,QB];exact Ev.pure _
  ·rw[if_neg c2]
   simp(disch:=omega) only[cne,QB];exact Ev.pure _
theorem Q7G (s:ByteArray)(hs:s.size<=40):Ev (λk=>Z39.F k s) (UN s):=by
 unfold Z39.F UN
 have hW:=GT s
 have hl:=Q3C s
 refine Ev.bind (Q3A s (by omega)) ?_
 by_cases c1:(kw s).length<=1
 ·rw[if_pos c1]
  simp(disch:=omega) only[Qe]
  exact Ev.pure _
 ·rw[if_neg c1]
  simp(disch:=omega) only[QB]
  have hc:Z64.F (kw s)=some (kw s):=by
   unfold Z64.F Q1m
   rw[Nat.ble_eq_true_of_le (by omega)]
   rfl
  refine Ev.bind0 hc ?_
  have hq:∀x,x∈kw s->Ev (λk=>Z32.F k x) (om x):=λx hx=>Q3B x (by have:=(hW x hx).2;omega)
  refine Ev.bind (Q0N (d:=(⟨#[]⟩:ByteArray)) (p:=om) (q:=Z32.F) (xs:=kw s) (l0:=Z31.l0) (λk x0 x5 x6=>by rw[Z31.l0]) hq (by omega) (I:=Z28.F) (F:=Z31.F)
   (Q3x (d:=(⟨#[]⟩:ByteArray)) (p:=om) (q:=Z32.F) (l0:=Z28.l0) (λk x0 x7 x8=>by rw[Z28.l0]) hq (by omega) (λk a0=>rfl)) (λk a0=>rfl)) ?_
  by_cases c2:((kw s).filter λx=> !om x).length=0
  ·rw[if_pos c2]
   simp(disch:=omega) only[ceq];exact Ev.pure _
  ·rw[if_neg c2]
   simp(disch:=omega) only[cne];exact Ev.pure _
theorem Q3D (s:ByteArray):(∀x∈(UN s).1,0<x.size/\x.size<=s.size)/\(UN s).1.length<=s.size+1:=by
 have hW:=GT s
 have hl:=Q3C s
 have hf:=List.length_filter_le (λx=> !om x) (kw s)
 unfold UN
 split
 ·exact⟨hW,hl⟩
 ·split
  ·exact⟨hW,hl⟩
  ·exact⟨λx hx=>hW x (List.mem_filter.1 hx).1,by show((kw s).filter λx=> !om x).length<=_;omega⟩
end Go.Proofs.YtlnhmbnbloakmaaDoor
end
section
/- Plain laws: a text,abbreviated. -/
namespace Go.Proofs.YtlnhmbnbloakmaaDoor
open Go.Gx
def ms {α:Type}(f:α->α)(W:List α)(i:Nat):List α:=(W.take i).map f++W.drop i
section
variable {α:Type} (f:α->α) (W:List α)
end
end Go.Proofs.YtlnhmbnbloakmaaDoor
end
section
/- Plain laws: lists of titles. -/
namespace Go.Proofs.YtlnhmbnbloakmaaDoor
open Go.Gx
def YI (ts:List ByteArray):Bool:=ts.all Yl&&decide (ts.length<=20)
theorem Q2A {ts:List ByteArray}(h:YI ts=true):(∀t∈ts,Yl t=true)/\ts.length<=20:=by
 unfold YI at h
 rw[Bool.and_eq_true,decide_eq_true_eq,List.all_eq_true]at h
 exact h
theorem Xk (ts:List ByteArray)(hl:ts.length<=1048576):∀n i:Nat,i+n=ts.length->Ev (λk=>Z20.l0 k ts i) (if(ts.drop i).all Yl=true then .inr ts else .inl false)
 |0,i,h=>by
  refine Ev.step (λk=>by rw[Z20.l0]) ?_
  simp(disch:=omega) only[QB]
  rw[List.drop_eq_nil_of_le (by omega)]
  exact Ev.pure _
 |n+1,i,h=>by
  have hi:i<ts.length:=by omega
  refine Ev.step (λk=>by rw[Z20.l0]) ?_
  simp(disch:=omega) only[Qe,Int.toNat_natCast,getD_at hi]
  refine Ev.bind (Q2x _) ?_
  rw[List.drop_eq_getElem_cons hi,List.all_cons]
  cases Yl ts[i]with
  |false=>exact Ev.pure _
  |true=>
   simp(disch:=omega) only[Bool.not_true,cond_false,Bool.true_and,wrap_in]
   exact Xk ts hl n (i+1) (by omega)
theorem Q03 (ts:List ByteArray)(hl:ts.length<=1048576):Ev (λk=>Z20.F k ts) (YI ts):=by
 unfold Z20.F YI
 have:=Xk ts hl ts.length 0 (by omega)
 rw[List.drop_zero]at this
 cases h:ts.all Yl with
 |false=>rw[h]at this;exact Ev.bind this (Ev.pure _)
 |true=>
  rw[h]at this
  refine Ev.bind this ((Ev.pure _).eq ?_)
  rw[Bool.true_and]
  exact decide_eq_decide.2 (by omega)
theorem Q1w (xs:List Abbr)(hs:smalls xs)(ts:List ByteArray)(hl:ts.length<=1048576):Ev (λk=>Z49.F k xs ts) (Uo xs&&YI ts):=by
 have v2:=Q1o xs hs
 unfold Z49.F YI
 cases hv:Uo xs with
 |false=>rw[hv]at v2;exact Ev.bind v2 (Ev.pure _)
 |true=>
  rw[hv]at v2
  refine Ev.bind v2 ?_
  simp only[cond_true,Bool.true_and]
  by_cases c:ts.length<=20
  ·simp(disch:=omega) only[Qe,Dq,Bool.and_true]
   have hq:∀x,x∈ts->Ev (λk=>Z38.F k x) (!Yl x):=λx _=>by
    unfold Z38.F
    exact Ev.bind (Q5g x) (Ev.pure _)
   obtain⟨r,h1,h2⟩:=Q3x (d:=(⟨#[]⟩:ByteArray)) (p:=λx=> !Yl x) (q:=Z38.F) (xs:=ts) (l0:=Z26.l0) (λk x0 x7 x8=>by rw[Z26.l0]) hq (by omega) (F:=Z26.F) (λk a0=>rfl)
   refine Ev.bind (a:=!ts.all Yl) ?_ ?_
   ·unfold Z56.F
    refine Ev.bind h1 ((Ev.pure _).eq ?_)
    rcases h2 with⟨rfl,h2⟩|⟨j,rfl,hj,hp,_⟩
    ·have:ts.all Yl=true:=List.all_eq_true.2 λx hx=>by have:=h2 x hx;simpa using this
     rw[this];rfl
    ·have:ts.all Yl=false:=by
      rw[List.all_eq_false]
      refine⟨ts[j],List.getElem_mem hj,?_⟩
      rw[getD_at hj]at hp
      simpa using hp
     rw[this,decide_eq_true (by omega)];rfl
   ·rw[Bool.not_not];exact Ev.pure _
  ·simp(disch:=omega) only[QB,KU,Bool.and_false]
   exact Ev.pure _
end Go.Proofs.YtlnhmbnbloakmaaDoor
end
section
/- Plain laws: the abbreviations that no title uses,both ways. -/
namespace Go.Proofs.YtlnhmbnbloakmaaDoor
open Go.Gx
theorem Q3E {n:Nat}(h:n<=1000000):room n (.int .i64)=true:=by
 unfold room
 rw[Nat.ble_eq]
 have:nb (.int .i64)=8:=rfl
 rw[this]
 omega
theorem Q6U (l:List Int)(v:Int)(hl:l.length<=1048576):∀n i:Nat,i+n=l.length->∃j:Nat,j<=l.length/\Ev (λk=>Z24.l0 k l v i) (l,v,(j:Int))
 |0,i,h=>by
  refine⟨i,by omega,Ev.step (λk=>by rw[Z24.l0]) ?_⟩
  simp(disch:=omega) only[QB]
  exact Ev.pure _
 |n+1,i,h=>by
  have hi:i<l.length:=by omega
  by_cases c:l[i]<v
  ·obtain⟨j,h1,h2⟩:=Q6U l v hl n (i+1) (by omega)
   refine⟨j,h1,Ev.step (λk=>by rw[Z24.l0]) ?_⟩
   simp(disch:=omega) only[Qe,Int.toNat_natCast,getD_at hi,wrap_in]
   exact h2
  ·refine⟨i,by omega,Ev.step (λk=>by rw[Z24.l0]) ?_⟩
   simp(disch:=omega) only[Qe,QB,Int.toNat_natCast,getD_at hi,wrap_in]
   exact Ev.pure _
theorem Q8e (l:List Int)(v:Int)(hl:l.length<=900000):∃r,Ev (λk=>Z24.F k l v) r/\(∀x,x∈r ↔ x=v\/x∈l)/\r.length<=l.length+1:=by
 obtain⟨j,hj,h1⟩:=Q6U l v (by omega) l.length 0 (by omega)
 have r1:room (([]:List Int).length+(l.take j).length) (.int .i64)=true:=Q3E (by simp;omega)
 have r2:room ((([]:List Int)++l.take j).length+([v]:List Int).length) (.int .i64)=true:=Q3E (by simp;omega)
 have r3:room (((([]:List Int)++l.take j)++([v]:List Int)).length+(l.drop j).length) (.int .i64)=true:=Q3E (by simp;omega)
 have hm:∀x,x∈(([]:List Int)++l.take j)++[v]++l.drop j ↔ x=v\/x∈l:=λx=>by
  have e:x∈l ↔ x∈l.take j\/x∈l.drop j:=by
   conv=>lhs;rw[<-List.take_append_drop j l]
   exact List.mem_append
  rw[e]
  simp only[List.nil_append,List.mem_append,List.mem_singleton]
  constructor
  ·rintro((h|h)|h)
   ·exact .inr (.inl h)
   ·exact .inl h
   ·exact .inr (.inr h)
  ·rintro(h|h|h)
   ·exact .inl (.inr h)
   ·exact .inl (.inl h)
   ·exact .inr h
 have hln:((([]:List Int)++l.take j)++[v]++l.drop j).length<=l.length+1:=by simp;omega
 unfold Z24.F
 by_cases c:j<l.length
 ·by_cases c2:l[j]=v
  ·refine⟨l,Ev.bind h1 ?_,λx=>?_,by omega⟩
   ·simp(disch:=omega) only[Qe,Int.toNat_natCast,getD_at c,ceq]
    exact Ev.pure _
   ·constructor
    ·exact .inr
    ·rintro(rfl|h)
     ·rw[<-c2];exact List.getElem_mem c
     ·exact h
  ·refine⟨_,Ev.bind h1 ?_,hm,hln⟩
   simp(disch:=omega) only[Qe,Int.toNat_natCast,getD_at c,cne,r1,r2,r3,cond_true]
   exact Ev.pure _
 ·refine⟨_,Ev.bind h1 ?_,hm,hln⟩
  simp(disch:=omega) only[QB,Qe,Int.toNat_natCast,r1,r2,r3,cond_true]
  exact Ev.pure _
theorem Q6V (xs:List Int)(v:Int)(hl:xs.length<=1048576):∀n i:Nat,i+n=xs.length->Ev (λk=>Z11.l0 k xs v i) (if v∈xs.drop i then .inl true else .inr ())
 |0,i,h=>by
  have hd:xs.drop i=[]:=List.drop_eq_nil_of_le (by omega)
  rw[hd]
  refine Ev.step (λk=>by rw[Z11.l0]) ?_
  simp(disch:=omega) only[QB]
  exact(Ev.pure _).eq (by simp)
 |n+1,i,h=>by
  have hi:i<xs.length:=by omega
  have hd:xs.drop i=xs[i]::xs.drop (i+1):=List.drop_eq_getElem_cons hi
  have h1:=Q6V xs v hl n (i+1) (by omega)
  by_cases hv:xs[i]=v
  ·have hm:v∈xs.drop i:=by rw[hd,hv];exact List.mem_cons_self
   refine Ev.step (λk=>by rw[Z11.l0]) ?_
   rw[if_pos hm]
   simp(disch:=omega) only[Qe,Int.toNat_natCast,getD_at hi,ceq]
   exact Ev.pure _
  ·have hm:v∈xs.drop i ↔ v∈xs.drop (i+1):=by
    rw[hd,List.mem_cons]
    exact⟨λh=>h.resolve_left λe=>hv e.symm,.inr⟩
   refine Ev.step (λk=>by rw[Z11.l0]) ?_
   simp(disch:=omega) only[Qe,Int.toNat_natCast,getD_at hi,cne,wrap_in]
   exact h1.eq (by simp only[hm])
theorem Q7H (xs:List Int)(v:Int)(hl:xs.length<=1048576):Ev (λk=>Z11.F k xs v) (decide (v∈xs)):=by
 have h1:=Q6V xs v hl xs.length 0 (by omega)
 rw[List.drop_zero]at h1
 unfold Z11.F
 by_cases hv:v∈xs
 ·rw[if_pos hv]at h1
  rw[decide_eq_true hv]
  exact Ev.bind h1 (Ev.pure _)
 ·rw[if_neg hv]at h1
  rw[decide_eq_false hv]
  exact Ev.bind h1 (Ev.pure _)
def Q2B (l m:List Int):Prop:=∀j:Int,0<=j->(j∈l ↔ j∈m)
theorem GU (xs:List Abbr)(hs:smalls xs)(ts acc:List ByteArray)(t:Int)(W:List ByteArray)(hW:∀x∈W,0<x.size/\x.size<=1048576)(hl:W.length<=8192):∀n i:Nat,i+n=W.length->∀l m:List Int,Q2B l m->l.length<=m.length->m.length+n<=800000->
  ∃l' m',Ev (λk=>Z0.l2 k xs ts acc l t W true i) (xs,ts,acc,l',t)/\Ev (λk=>uW (Z2.F k xs) (W.drop i) m) m'/\Q2B l' m'/\l'.length<=m'.length/\m'.length<=m.length+n
 |0,i,h,l,m,h1,h2,h3=>by
  rw[List.drop_eq_nil_of_le (by omega)]
  refine⟨l,m,Ev.step (λk=>by rw[Z0.l2]) ?_,Ev.pure _,h1,h2,by omega⟩
  simp(disch:=omega) only[QB]
  exact Ev.pure _
 |n+1,i,h,l,m,h1,h2,h3=>by
  have hi:i<W.length:=by omega
  obtain⟨w1,w2⟩:=hW _ (List.getElem_mem hi)
  obtain⟨z,z1,z2,z3,z4⟩:=found xs hs W[i] w1 w2
  have hz:(Lit.int .i64 z).wf=true:=by
   have e1:IntKind.i64.min= -9223372036854775808:=by decide
   have e2:IntKind.i64.max=9223372036854775807:=by decide
   have:=hs.1
   simp only[Lit.wf,e1,e2,Bool.and_eq_true,decide_eq_true_eq]
   omega
  have hb:Nat.ble m.length 1000000=true:=Nat.ble_eq_true_of_le (by omega)
  rw[List.drop_eq_getElem_cons hi]
  by_cases c:0<=z
  ·obtain⟨r,p1,p2,p3⟩:=Q8e l z (by omega)
   obtain⟨l',m',q1,q2,q3,q4,q5⟩:=GU xs hs ts acc t W hW hl n (i+1) (by omega) r (z::m) (λj hj=>by rw[p2,List.mem_cons,h1 j hj]) (by simp;omega) (by simp;omega)
   refine⟨l',m',Ev.step (λk=>by rw[Z0.l2]) ?_,?_,q3,q4,by simp at q5;omega⟩
   ·simp(disch:=omega) only[Qe,Int.toNat_natCast,getD_at hi,cond_true]
    refine Ev.bind z1 ?_
    rw[decide_eq_true (show z ≥ 0 from c)]
    simp only[cond_true]
    refine Ev.bind p1 ?_
    simp(disch:=omega) only[wrap_in]
    exact q1
   ·unfold uW
    simp only[hb,cond_true]
    refine Ev.bind z2 ?_
    simp only[hz,cond_true]
    exact q2
  ·obtain⟨l',m',q1,q2,q3,q4,q5⟩:=GU xs hs ts acc t W hW hl n (i+1) (by omega) l (z::m) (λj hj=>by rw[List.mem_cons,h1 j hj];exact⟨.inr,λh=>h.resolve_left (by omega)⟩) (by simp;omega) (by simp;omega)
   refine⟨l',m',Ev.step (λk=>by rw[Z0.l2]) ?_,?_,q3,q4,by simp at q5;omega⟩
   ·simp(disch:=omega) only[Qe,Int.toNat_natCast,getD_at hi,cond_true]
    refine Ev.bind z1 ?_
    rw[decide_eq_false (show¬z ≥ 0 from c)]
    simp(disch:=omega) only[cond_false,wrap_in]
    exact q1
   ·unfold uW
    simp only[hb,cond_true]
    refine Ev.bind z2 ?_
    simp only[hz,cond_true]
    exact q2
theorem D1 (xs:List Abbr)(hs:smalls xs)(ts:List ByteArray)(ht:∀t∈ts,Yl t=true)(hl:ts.length<=20):∀n i:Nat,i+n=ts.length->∀l m:List Int,Q2B l m->l.length<=m.length->m.length<=100*i->
  ∃l' m',Ev (λk=>Z0.l0 k xs ts [] l i) (xs,[],l')/\Ev (λk=>uT (Z39.F k) (Z2.F k xs) (ts.drop i) m) m'/\Q2B l' m'/\l'.length<=2000
 |0,i,h,l,m,h1,h2,h3=>by
  rw[List.drop_eq_nil_of_le (by omega)]
  refine⟨l,m,Ev.step (λk=>by rw[Z0.l0]) ?_,Ev.pure _,h1,by omega⟩
  simp(disch:=omega) only[QB]
  exact Ev.pure _
 |n+1,i,h,l,m,h1,h2,h3=>by
  have hi:i<ts.length:=by omega
  have hti:=ht _ (List.getElem_mem hi)
  have hsz:ts[i].size<=40:=by
   unfold Yl at hti
   rw[Bool.and_eq_true,decide_eq_true_eq]at hti
   exact hti.1
  have k1:=Q2z ts[i] hsz
  have k2:=Q7G ts[i] hsz
  obtain⟨k3,k4⟩:=Q3D ts[i]
  rw[List.drop_eq_getElem_cons hi]
  cases hb:(UN ts[i]).2 with
  |true=>
   obtain⟨l',m',q1,q2,q3,q4,q5⟩:=GU xs hs ts [] (i:Int) (UN ts[i]).1 (λx hx=>by have:=k3 x hx;omega) (by omega) (UN ts[i]).1.length 0 (by omega) l m h1 h2 (by omega)
   rw[List.drop_zero]at q2
   obtain⟨l2,m2,r1,r2,r3,r4⟩:=D1 xs hs ts ht hl n (i+1) (by omega) l' m' q3 q4 (by omega)
   refine⟨l2,m2,Ev.step (λk=>by rw[Z0.l0]) ?_,?_,r3,r4⟩
   ·simp(disch:=omega) only[Qe,Int.toNat_natCast,getD_at hi]
    refine Ev.bind k1 ?_
    rw[hb]
    refine Ev.bind q1 ?_
    simp(disch:=omega) only[wrap_in]
    exact r1
   ·unfold uT
    refine Ev.bind k2 ?_
    rw[hb]
    exact Ev.bind q2 r2
  |false=>
   obtain⟨l2,m2,r1,r2,r3,r4⟩:=D1 xs hs ts ht hl n (i+1) (by omega) l m h1 h2 (by omega)
   refine⟨l2,m2,Ev.step (λk=>by rw[Z0.l0]) ?_,?_,r3,r4⟩
   ·simp(disch:=omega) only[Qe,Int.toNat_natCast,getD_at hi]
    refine Ev.bind k1 ?_
    rw[hb]
    refine Ev.bind (a:=(xs,ts,[],l,(i:Int))) (Ev.step (λk=>by rw[Z0.l2]) ?_) ?_
    ·cases hd:decide ((0:Int)<((UN ts[i]).1.length:Int))with
     |true=>simp only[cond_true,cond_false];exact Ev.pure _
     |false=>simp only[cond_false];exact Ev.pure _
    ·simp(disch:=omega) only[wrap_in]
     exact r1
   ·unfold uT
    refine Ev.bind k2 ?_
    rw[hb]
    exact Ev.bind (Ev.pure _) r2
theorem Q3F (xs:List Abbr)(hx:xs.length<=15)(l m:List Int)(hS:Q2B l m)(hl:l.length<=2000):∀n i:Nat,i+n=xs.length->∀acc:List ByteArray,acc.length<=i->
  Ev (λk=>Z0.l4 k xs acc l i) (acc++uO i (xs.drop i) m)
 |0,i,h,acc,ha=>by
  rw[List.drop_eq_nil_of_le (by omega)]
  refine Ev.step (λk=>by rw[Z0.l4]) ?_
  simp(disch:=omega) only[QB]
  exact(Ev.pure _).eq (by simp[uO])
 |n+1,i,h,acc,ha=>by
  have hi:i<xs.length:=by omega
  have h1:=Q7H l (i:Int) (by omega)
  have hr:∀z:ByteArray,room (acc.length+([z]:List ByteArray).length) .str=true:=λz=>Q1t (by simp;omega)
  have ec:m.contains (i:Int)=decide ((i:Int)∈l):=by
   rw[show decide ((i:Int)∈l)=decide ((i:Int)∈m) by simp only[hS _ (Int.natCast_nonneg i)]]
   exact List.contains_eq_mem _ _
  rw[List.drop_eq_getElem_cons hi]
  refine Ev.step (λk=>by rw[Z0.l4]) ?_
  simp(disch:=omega) only[Qe,Int.toNat_natCast,getD_at hi]
  refine Ev.bind h1 ?_
  unfold uO
  rw[ec]
  cases decide ((i:Int)∈l)with
  |true=>
   simp(disch:=omega) only[Bool.not_true,cond_false,cond_true,wrap_in]
   exact Q3F xs hx l m hS hl n (i+1) (by omega) acc (by omega)
  |false=>
   simp(disch:=omega) only[Bool.not_false,cond_false,cond_true,wrap_in,hr]
   have:=Q3F xs hx l m hS hl n (i+1) (by omega) (acc++[xs[i].word]) (by simp;omega)
   rw[List.append_assoc]at this
   exact this
theorem Q6W:∀(xs:List Abbr) (i:Int) (m:List Int),(uO i xs m).length<=xs.length
 |[],_,_=>Nat.le_refl _
 |a::l,i,m=>by
  have:=Q6W l (i+1) m
  unfold uO
  cases m.contains i<;>simp<;>omega
theorem Q5h (xs:List Abbr)(hs:smalls xs)(ts:List ByteArray)(hl:ts.length<=1048576):∃r b,Ev (λk=>Z0.F k xs ts) (r,b)/\Ev (λk=>Z61.F k xs ts) (r,b)/\r.length<=15/\(Uo xs=true->YI ts=true->b=true/\∃m,r=uO 0 xs m/\Ev (λk=>uT (Z39.F k) (Z2.F k xs) ts []) m):=by
 have v1:=Q1p xs hs
 have t1:=Q03 ts hl
 have v2:=Q1w xs hs ts hl
 unfold Z0.F Z61.F
 cases hv:Uo xs with
 |false=>
  rw[hv]at v1 v2
  exact⟨_,_,Ev.bind v1 (Ev.pure _),Ev.bind v2 (Ev.pure _),by simp,λh=>by cases h⟩
 |true=>
  rw[hv]at v1 v2
  cases ht:YI ts with
  |false=>
   rw[ht]at t1 v2
   exact⟨_,_,Ev.bind v1 (Ev.bind t1 (Ev.pure _)),Ev.bind v2 (Ev.pure _),by simp,λ_ h=>by cases h⟩
  |true=>
   rw[ht]at t1 v2
   obtain⟨h1,h2⟩:=Q2A ht
   have hx:xs.length<=15:=by
    unfold Uo at hv
    rw[Bool.and_eq_true,decide_eq_true_eq]at hv
    omega
   obtain⟨l,m,r1,r2,r3,r4⟩:=D1 xs hs ts h1 h2 ts.length 0 (by omega) [] [] (λ_ _=>Iff.rfl) (Nat.le_refl _) (by simp)
   rw[List.drop_zero]at r2
   have o1:=Q3F xs hx l m r3 r4 xs.length 0 (by omega) [] (Nat.le_refl _)
   rw[List.drop_zero,List.nil_append]at o1
   refine⟨uO 0 xs m,true,Ev.bind v1 (Ev.bind t1 (Ev.bind r1 (Ev.bind o1 (Ev.pure _)))),Ev.bind v2 ?_,by have:=Q6W xs 0 m;omega,λ_ _=>⟨rfl,m,rfl,r2⟩⟩
   unfold Q7y
   rw[show Nat.ble xs.length 1000000=true from Nat.ble_eq_true_of_le (by omega)]
   exact Ev.bind r2 (Ev.pure _)
end Go.Proofs.YtlnhmbnbloakmaaDoor
end
section
/- Plain laws: sizes,copies,equality,marks of lists of texts and of numbers. -/
namespace Go.Proofs.YtlnhmbnbloakmaaDoor
open Go.Gx
def Q04 (xs:List ByteArray):Nat:=(xs.map ByteArray.size).sum
theorem Q6X (xs:List ByteArray)(hw:WF (.sl .str) xs)(hlen:xs.length<=1048576):∀n i:Nat,i+n=xs.length->∀l:Int,0<=l->l<=1048576->
  Ev (λk=>Z18.l0 k xs l i) (if l-Q04 (xs.drop i)<0 then .inl (-1)else .inr (l-Q04 (xs.drop i)))
 |0,i,h,l,h0,h1=>by
  refine Ev.step (λk=>by rw[Z18.l0]) ?_
  simp(disch:=omega) only[QB]
  rw[List.drop_eq_nil_of_le (by omega)]
  simp only[Q04,List.map_nil,List.sum_nil]
  rw[if_neg (by omega)]
  exact(Ev.pure _).eq (by congr 1;omega)
 |n+1,i,h,l,h0,h1=>by
  have hi:i<xs.length:=by omega
  have hwi:xs[i].size<=9223372036854775807:=by cases hw with|sl _ _ _ h=>exact Q3q (h i hi)
  have hd:Q04 (xs.drop i)=xs[i].size+Q04 (xs.drop (i+1)):=by
   rw[List.drop_eq_getElem_cons hi];unfold Q04;rw[List.map_cons,List.sum_cons]
  refine Ev.step (λk=>by rw[Z18.l0]) ?_
  simp(disch:=omega) only[Qe,Int.toNat_natCast,getD_at hi]
  by_cases c:l-(xs[i].size:Int)<0
  ·simp(disch:=omega) only[wrap_in,Qe]
   rw[if_pos (by omega)]
   exact Ev.pure _
  ·simp(disch:=omega) only[wrap_in,QB]
   have:=Q6X xs hw hlen n (i+1) (by omega) (l-xs[i].size) (by omega) (by omega)
   refine this.eq ?_
   rw[hd]
   by_cases c2:l-(xs[i].size:Int)-(Q04 (xs.drop (i+1)):Int)<0
   ·rw[if_pos c2,if_pos (by omega)]
   ·rw[if_neg c2,if_neg (by omega)];congr 1;omega
theorem Q8f (xs:List ByteArray)(l:Int)(h0:0<=l)(h1:l<=1048576)(hw:WF (.sl .str) xs):∃r,Ev (λk=>Z18.F k xs l) r/\(0<=r->(xs.length:Int)+Q04 xs+r=l):=by
 have hl:xs.length<=9223372036854775807:=Q6J hw
 unfold Z18.F
 by_cases c:l-(xs.length:Int)<0
 ·simp(disch:=omega) only[wrap_in,Qe]
  exact⟨-1,Ev.pure _,λh=>by omega⟩
 ·simp(disch:=omega) only[wrap_in,QB]
  have:=Q6X xs hw (by omega) xs.length 0 (by omega) (l-xs.length) (by omega) (by omega)
  simp only[List.drop_zero]at this
  by_cases c2:l-(xs.length:Int)-(Q04 xs:Int)<0
  ·rw[if_pos c2]at this
   exact⟨-1,Ev.bind this (Ev.pure _),λh=>by omega⟩
  ·rw[if_neg c2]at this
   exact⟨l-(xs.length:Int)-(Q04 xs:Int),Ev.bind this (Ev.pure _),λh=>by omega⟩
theorem Q6Y (xs:List ByteArray)(hlen:xs.length<=1048576):∀n i:Nat,i+n=xs.length->∀ys:List ByteArray,ys.length=xs.length->ys.take i=xs.take i->Ev (λk=>Z13.l0 k xs ys i) xs
 |0,i,h,ys,hy,ht=>by
  refine Ev.step (λk=>by rw[Z13.l0]) ?_
  simp(disch:=omega) only[QB]
  have:ys=xs:=by
   rw[List.take_of_length_le (by omega),List.take_of_length_le (by omega)]at ht
   exact ht
  rw[this];exact Ev.pure _
 |n+1,i,h,ys,hy,ht=>by
  have hi:i<xs.length:=by omega
  refine Ev.step (λk=>by rw[Z13.l0]) ?_
  simp(disch:=omega) only[Qe,Int.toNat_natCast,getD_at hi,wrap_in]
  exact Q6Y xs hlen n (i+1) (by omega) (ys.set i xs[i]) (by simpa using hy) (by
   rw[List.take_add_one,List.take_add_one,List.take_set_of_le (Nat.le_refl i),ht]
   simp[show i<ys.length by omega,hi])
theorem Q8g (xs:List ByteArray)(hlen:xs.length<=1048576):Ev (λk=>Z13.F k xs) xs:=by
 unfold Z13.F
 have hn:nb .str=16:=rfl
 simp(disch:=first|omega|(simp only[hn,Int.toNat_natCast];omega)) only[ceq,Qe,Q6C]
 exact Ev.bind (a:=xs) (Q6Y xs hlen xs.length 0 (by omega) _ (by simp) (by simp)) (Ev.pure _)
theorem Q6Z (xs:List ByteArray)(hlen:xs.length<=1048576):∀n i:Nat,i+n=xs.length->Ev (λk=>Z7.l0 k xs xs i) (.inr ())
 |0,i,h=>by
  refine Ev.step (λk=>by rw[Z7.l0]) ?_
  simp(disch:=omega) only[QB]
  exact Ev.pure _
 |n+1,i,h=>by
  refine Ev.step (λk=>by rw[Z7.l0]) ?_
  simp(disch:=omega) only[Qe,Int.toNat_natCast,Xc,Bool.not_true,cond_false,wrap_in]
  exact Q6Z xs hlen n (i+1) (by omega)
theorem Q1x (xs:List ByteArray)(hlen:xs.length<=1048576):Ev (λk=>Z7.F k xs xs) true:=by
 unfold Z7.F
 simp(disch:=omega) only[Q7t]
 exact Ev.bind (Q6Z xs hlen xs.length 0 (by omega)) (Ev.pure _)
theorem Q2C:∀n:Nat,n<=2097152->∀s:ByteArray,s.size+n<=9223372036854775806->∃r,Ev (λk=>Z4.l0 k (n:Int) s) r/\r.size<=s.size+n:=λn=>by
 induction n using Nat.strongRecOn with
 |ind n ih=>
  intro hn s hs
  by_cases c:n=0
  ·refine⟨s,Ev.step (λk=>by rw[Z4.l0]) ?_,by omega⟩
   simp(disch:=omega) only[QB]
   exact Ev.pure _
  ·have ed:Int.tdiv (n:Int) 10=((n / 10:Nat):Int):=by
    rw[Int.tdiv_eq_ediv_of_nonneg (by omega)];omega
   have e1:∀v:Int,(DI ([v]:List Int)).size=1:=λv=>rfl
   obtain⟨r,r1,r2⟩:=ih (n / 10) (by omega) (by omega) (DI ([IntKind.wrap .u8 (IntKind.wrap .i64 (48+Int.tmod (n:Int) 10))]:List Int)++s) (by rw[Q2w,e1];omega)
   rw[Q2w,e1]at r2
   refine⟨r,Ev.step (λk=>by rw[Z4.l0]) ?_,by omega⟩
   have w1:IntKind.wrap .i64 (Int.tdiv (n:Int) 10)=((n / 10:Nat):Int):=by rw[ed,wrap_in (by omega) (by omega)]
   have hz:((10:Nat)==0)=false:=rfl
   rw[w1,hz]
   simp only[cond_false]
   simp(disch:=(try simp only[e1]);omega) only[Qe,Q6C]
   exact r1
theorem Q2D (n:Nat)(hn:n<=2097152):∃r,Ev (λk=>Z4.F k (n:Int)) r:=by
 unfold Z4.F
 by_cases c:n=0
 ·refine⟨⟨#[109,48]⟩,?_⟩
  simp(disch:=omega) only[Qe]
  exact Ev.pure _
 ·obtain⟨r,r1,r2⟩:=Q2C n hn ⟨#[]⟩ (by rw[show(⟨#[]⟩:ByteArray).size=0 from rfl];omega)
  have e0:(⟨#[]⟩:ByteArray).size=0:=rfl
  have e1:(⟨#[109]⟩:ByteArray).size=1:=rfl
  refine⟨⟨#[109]⟩++r,?_⟩
  simp(disch:=omega) only[QB]
  refine Ev.bind r1 ?_
  simp(disch:=omega) only[e1,Q6C]
  exact Ev.pure _
open Classical in
noncomputable def mt (n:Nat):ByteArray:=if h:∃r,Ev (λk=>Z4.F k (n:Int)) r then h.choose else⟨#[]⟩
theorem Q2E (n:Nat)(hn:n<=2097152):Ev (λk=>Z4.F k (n:Int)) (mt n):=by
 have h:=Q2D n hn
 unfold mt
 rw[dif_pos h]
 exact h.choose_spec
noncomputable def marks (i:Nat):List ByteArray:=(List.range i).map λj=>mt (j+1)
theorem Ya (i:Nat):(marks i).length=i:=by simp[marks]
theorem Q4k (xs:List ByteArray)(hlen:xs.length<=1048576):∀n i:Nat,i+n=xs.length->Ev (λk=>Z6.l0 k (marks i++xs.drop i) ((1+i:Nat):Int) i) (marks xs.length,((1+xs.length:Nat):Int))
 |0,i,h=>by
  have hl:(marks i++xs.drop i).length=xs.length:=by rw[List.length_append,Ya,List.length_drop];omega
  refine Ev.step (λk=>by rw[Z6.l0]) ?_
  simp(disch:=omega) only[QB]
  rw[List.drop_eq_nil_of_le (by omega),List.append_nil,show i=xs.length by omega]
  exact Ev.pure _
 |n+1,i,h=>by
  have hi:i<xs.length:=by omega
  have hl:(marks i++xs.drop i).length=xs.length:=by rw[List.length_append,Ya,List.length_drop];omega
  refine Ev.step (λk=>by rw[Z6.l0]) ?_
  simp(disch:=omega) only[Qe,Int.toNat_natCast]
  refine Ev.bind (Q2E (1+i) (by omega)) ?_
  have e:(marks i++xs.drop i).set i (mt (1+i))=marks (i+1)++xs.drop (i+1):=by
   rw[List.set_append_right _ _ (by rw[Ya];exact Nat.le_refl _),Ya,Nat.sub_self,List.drop_eq_getElem_cons hi,List.set_cons_zero]
   unfold marks
   rw[List.range_succ,List.map_append,List.append_assoc,Nat.add_comm 1]
   rfl
  simp(disch:=omega) only[wrap_in,e]
  rw[show(((1+i:Nat):Int)+1)=((1+(i+1):Nat):Int) by omega]
  exact Q4k xs hlen n (i+1) (by omega)
theorem Q7I (xs:List ByteArray)(hlen:xs.length<=1048576):Ev (λk=>Z6.F k xs 1) (marks xs.length,((1+xs.length:Nat):Int)):=by
 unfold Z6.F
 refine Ev.bind (Q4k xs hlen xs.length 0 (by omega)) ?_
 rw[show Nat.beq (marks xs.length,((1+xs.length:Nat):Int)).1.length xs.length=true by rw[Nat.beq_eq];exact Ya _]
 exact Ev.pure _
theorem Q4l (m:Nat)(hlen:m<=1048576):∀n i:Nat,i+n=m->Ev (λk=>Z16.l0 k (marks m) ((1+i:Nat):Int) i) (.inr ((1+m:Nat):Int))
 |0,i,h=>by
  have hl:=Ya m
  refine Ev.step (λk=>by rw[Z16.l0]) ?_
  simp(disch:=omega) only[QB]
  rw[show i=m by omega]
  exact Ev.pure _
 |n+1,i,h=>by
  have hl:=Ya m
  have hi:i<(marks m).length:=by omega
  have e:(marks m)[i]=mt (1+i):=by simp[marks,Nat.add_comm]
  refine Ev.step (λk=>by rw[Z16.l0]) ?_
  simp(disch:=omega) only[Qe,Int.toNat_natCast,getD_at hi,e]
  refine Ev.bind (Q2E (1+i) (by omega)) ?_
  simp(disch:=omega) only[Xc,Bool.not_true,cond_false,wrap_in]
  rw[show(((1+i:Nat):Int)+1)=((1+(i+1):Nat):Int) by omega]
  exact Q4l m hlen n (i+1) (by omega)
theorem Q4m (m:Nat)(hlen:m<=1048576):Ev (λk=>Z16.F k (marks m) 1) ((1+m:Nat):Int):=by
 unfold Z16.F
 exact Ev.bind (Q4l m hlen m 0 (by omega)) (Ev.pure _)
theorem Q2F (m:Nat)(hlen:m<=1048576):∀n i:Nat,i+n=m->∀(ys:List ByteArray) (z:Nat),ys.length=m->z+n<=2097153->EvP (λk=>Z6.l0 k ys z i) λr=>r.1.length=m/\r.2=((z+n:Nat):Int)
 |0,i,h,ys,z,hy,hz=>by
  refine EvP.step (λk=>by rw[Z6.l0]) ?_
  simp(disch:=omega) only[QB]
  exact EvP.pure _ ⟨hy,rfl⟩
 |n+1,i,h,ys,z,hy,hz=>by
  refine EvP.step (λk=>by rw[Z6.l0]) ?_
  simp(disch:=omega) only[Qe,Int.toNat_natCast]
  refine EvP.of (Q2E z (by omega)) ?_
  simp(disch:=omega) only[wrap_in,Qe]
  have:=Q2F m hlen n (i+1) (by omega) (ys.set i (mt z)) (z+1) (by simpa using hy) (by omega)
  refine EvP.mono this λr hr=>⟨hr.1,by rw[hr.2];omega⟩
theorem Q70 (xs:List ByteArray)(hlen:xs.length<=1048576)(z:Nat)(hz:z+xs.length<=2097153):EvP (λk=>Z6.F k xs z) λr=>r.2=((z+xs.length:Nat):Int):=by
 unfold Z6.F
 refine EvP.bind (Q2F xs.length hlen xs.length 0 (by omega) xs z rfl hz) λr hr=>?_
 rw[show Nat.beq r.1.length xs.length=true by rw[Nat.beq_eq];exact hr.1]
 exact EvP.pure _ hr.2
end Go.Proofs.YtlnhmbnbloakmaaDoor
end
section
/- Plain laws: marks of abbreviations. -/
namespace Go.Proofs.YtlnhmbnbloakmaaDoor
open Go.Gx
theorem Q0O (m:Nat)(hlen:m<=1048576):∀n i:Nat,i+n=m->∀(ys:List Abbr) (z:Nat),ys.length=m->z+2*n<=2097153->EvP (λk=>Z29.l0 k ys z i) λr=>r.1.length=m/\r.2=((z+2*n:Nat):Int)
 |0,i,h,ys,z,hy,hz=>by
  refine EvP.step (λk=>by rw[Z29.l0]) ?_
  simp(disch:=omega) only[QB]
  exact EvP.pure _ ⟨hy,rfl⟩
 |n+1,i,h,ys,z,hy,hz=>by
  refine EvP.step (λk=>by rw[Z29.l0]) ?_
  simp(disch:=omega) only[Qe,Int.toNat_natCast]
  refine EvP.of (Q2E z (by omega)) ?_
  simp(disch:=omega) only[wrap_in,Qe]
  have e:((z:Int)+1)=((z+1:Nat):Int):=by omega
  rw[e]
  refine EvP.of (Q2E (z+1) (by omega)) ?_
  simp(disch:=(try simp only[List.length_set]);omega) only[wrap_in,Qe]
  have:=Q0O m hlen n (i+1) (by omega) ((ys.set i ⟨mt z,(ys.getD i (Q8 .abbr)).short⟩).set i ⟨((ys.set i ⟨mt z,(ys.getD i (Q8 .abbr)).short⟩).getD i (Q8 .abbr)).word,mt (z+1)⟩) (z+1+1) (by simpa using hy) (by omega)
  exact EvP.mono this λr hr=>⟨hr.1,by rw[hr.2];omega⟩
theorem Q5i (xs:List Abbr)(hlen:xs.length<=1048576):EvP (λk=>Z29.F k xs 1) λr=>r.2=((1+2*xs.length:Nat):Int):=by
 unfold Z29.F
 refine EvP.bind (Q0O xs.length hlen xs.length 0 (by omega) xs 1 rfl (by omega)) λr hr=>?_
 rw[show Nat.beq r.1.length xs.length=true by rw[Nat.beq_eq];exact hr.1]
 exact EvP.pure _ hr.2
end Go.Proofs.YtlnhmbnbloakmaaDoor
end
section
/- The plain law of UnusedAbbreviations. -/
namespace Go.Proofs.YtlnhmbnbloakmaaDoor
open Go.Gx
theorem Q3G (xs:List Abbr)(ts:List ByteArray)(hw:WF (.sl .abbr) xs)(hwt:WF (.sl .str) ts):∃k,Z59.F k xs ts=some true:=by
 refine Ev.get (?_:Ev (λk=>Z59.F k xs ts) true)
 unfold Z59.F
 obtain⟨r,h1,h2⟩:=Q7z xs 1048576 (by omega) (by omega) hw
 refine Ev.bind h1 ?_
 by_cases c:r<0
 ·simp(disch:=omega) only[Qe]
  exact Ev.pure _
 simp(disch:=omega) only[QB]
 obtain⟨r',h3,h4⟩:=Q8f ts r (by omega) (by have:=h2 (by omega);omega) hwt
 refine Ev.bind h3 ?_
 by_cases c':r'<0
 ·simp(disch:=omega) only[Qe]
  exact Ev.pure _
 simp(disch:=omega) only[QB]
 have e1:=h2 (by omega)
 have e2:=h4 (by omega)
 have hs:=Q5c e1 (by omega) (by omega)
 have hlt:ts.length<=1048576:=by omega
 obtain⟨v,b,v1,v2,v3,_⟩:=Q5h xs hs ts hlt
 have ta:=Q7A xs hs.1
 have tt:=Q8g ts hlt
 refine Ev.bind ta (Ev.bind tt (Ev.bind v1 (Ev.bind ta (Ev.bind tt (Ev.bind v2 (Ev.bind (Q1x v (by omega)) ?_))))))
 simp only[beq_self_eq_true,Bool.not_true,cond_false]
 refine Ev.bind ta (Ev.bind (Q7B xs hs.1) ?_)
 simp only[Bool.not_true,cond_false]
 refine Ev.bind tt (Ev.bind (Q1x ts hlt) ?_)
 simp only[Bool.not_true,cond_false]
 obtain⟨m1,m2,m3⟩:=Q5i xs hs.1
 refine Ev.bind m2 ?_
 rw[m3]
 obtain⟨n1,n2,n3⟩:=Q70 ts hlt (1+2*xs.length) (by omega)
 refine Ev.bind n2 ?_
 rw[n3]
 simp(disch:=omega) only[QB]
 refine Ev.bind (Q1x v (by omega)) ?_
 simp only[beq_self_eq_true,Bool.not_true,cond_false]
 refine Ev.bind (Q7I v (by omega)) (Ev.bind (Q4m v.length (by omega)) ?_)
 simp(disch:=omega) only[QB,Q7t]
 refine Ev.bind ta (Ev.bind tt (Ev.bind v2 (Ev.bind (Q1x v (by omega)) ?_)))
 simp only[beq_self_eq_true,Bool.not_true,cond_false]
 refine Ev.bind (Q4m v.length (by omega)) ?_
 simp(disch:=omega) only[QB,Q7t]
 exact Ev.pure _
end Go.Proofs.YtlnhmbnbloakmaaDoor
end
section
/- The law FnExactUnusedAbbreviations returns true for every input,the listed package variables being as the program's text lays it: the card. -/
namespace Go.Proofs.YtlnhmbnbloakmaaDoor
open Go.Gx Go.RowKit Go.ChangeShapes Go.WideShapes Go.ChangeAt
theorem fnExactUnusedAbbreviations_own:ownKnob Tryd.prog.godebug=none:=by kernel_rfl
set_option maxRecDepth 100000 in
theorem fnExactUnusedAbbreviations_contract (H:Type)(enc:TypeId×Value->H)(W:World)(base:Nat)(args:Array Value)(ds gs:List (DataW H))(before:List MemPlace)
  (Yj:∀(j:Nat) t v,Tryd.f3.params[j]? =some t->args[j]? =some v->Value.okWide Tryd.prog W .any base t v)
  (hW:DataW.Whole enc Tryd.prog Tryd.f3.params.toList Rows.fnExactUnusedAbbreviationsSpec.vars false W args.toList ds gs before) (hsh:W.ShapedOpen Tryd.prog) :
  Calls Tryd.prog 3 args W λe W'=>∃v,e= .returned v/\Rows.fnExactUnusedAbbreviationsSpec.post enc Tryd.prog Tryd.f3 false true false false W args v W':=by
 have hgs:gs=[]:=by
  obtain⟨p,q,_,hV,_⟩:=hW
  exact(trodVars_none hV).1
 subst hgs
 have hds:∃d1 d2,ds=[d1,d2]:=by
  obtain⟨p,q,hA,_⟩:=hW
  obtain⟨_,_,d1,e0,_,_,_,rfl,_,_,h0⟩:=trodAll_cons hA
  obtain⟨_,_,d2,e1,_,_,_,rfl,_,_,h1⟩:=trodAll_cons h0
  obtain⟨_,rfl,_⟩:=trodAll_nil h1
  exact⟨d1,d2,rfl⟩
 obtain⟨d1,d2,rfl⟩:=hds
 have hgl:Qq Q0 (λ_=>undef) (Lt W) W:=by
  refine Qq.mk0 (λg b h=>(by cases h)) (λg hg=>?_)
  have hg':giT g=true:=hg
  unfold giT at hg'
  split at hg'
  ·obtain⟨m,hm⟩:=cell_of_shapedOpen_int (P:=Tryd.prog) (g:=0) (t:=3) (zero:=#[.int .i64 0]) hsh (of_decide_eq_true (by kernel_rfl)) (by kernel_rfl) rfl (by kernel_rfl) (by kernel_rfl) (by kernel_rfl)
   exact⟨World.block_lt_of_cell? _ _ hm,m,hm⟩
  ·cases hg'
 refine Q1j (τs:=[(.sl .abbr),(.sl .str)]) (r:=.t .bool true) Q7R (by kernel_rfl) rfl (by kernel_rfl) (by kernel_rfl) rfl (by kernel_rfl) (by kernel_rfl) (λt ht=>?_) rfl (λx hx=>by
   obtain⟨k,hk⟩:=Q3G x.1 x.2.1 hx.1 hx.2.1
   exact Z59.good Q7R _ k _ _ hk) rfl Yj hW hgl (λq hq W' _=>?_)
 ·have:t∈[22,23]:=ht
  simp only[List.mem_cons,List.not_mem_nil,or_false]at this
  rcases this with rfl|rfl<;>exact⟨by kernel_rfl,Nat.le_of_ble_eq_true (by kernel_rfl)⟩
 ·obtain⟨_,rfl⟩:=trodVars_none hq
  exact rfl
set_option maxRecDepth 100000 in
noncomputable def fnExactUnusedAbbreviations_world (os:Os):World:=
 {World.holding Tryd.prog os ⟨#[],#[],[]⟩with heap:=(((World.holding Tryd.prog os ⟨#[],#[],[]⟩).heap.modify 2 fun
   |.cells _ t frozen=>.cells #[.int .u8 128,.int .u8 191,.int .u8 160,.int .u8 191,.int .u8 128,.int .u8 159,.int .u8 144,.int .u8 191,.int .u8 128,.int .u8 143,.int .u8 0,.int .u8 0,.int .u8 0,.int .u8 0,.int .u8 0,.int .u8 0,.int .u8 0,.int .u8 0,.int .u8 0,.int .u8 0,.int .u8 0,.int .u8 0,.int .u8 0,.int .u8 0,.int .u8 0,.int .u8 0,.int .u8 0,.int .u8 0,.int .u8 0,.int .u8 0,.int .u8 0,.int .u8 0] t frozen
   |o=>o).modify 1 fun
   |.cells _ t frozen=>.cells (Pinned.utf8FirstZ.map λ(n:Nat)=>Value.int .u8 (n:Int)).toArray t frozen
   |o=>o)}
theorem fnExactUnusedAbbreviations_met (os:Os):laidMet Tryd.prog Rows.fnExactUnusedAbbreviationsRow.laid ((fnExactUnusedAbbreviations_world os).forCall (λ_ _=>0) ⟨#[],#[.slice none 0 0,.slice none 0 0],[]⟩).memory:=
 laidMet_of_run' 8 (by kernel_rfl) (by kernel_rfl)
theorem fnExactUnusedAbbreviations_reads (os:Os){H:Type}(enc:TypeId×Value->H):∃places,DataW.whole enc Tryd.prog ((fnExactUnusedAbbreviations_world os).forCall (λ_ _=>0) ⟨#[],#[.slice none 0 0,.slice none 0 0],[]⟩).memory Tryd.f3.params.toList Rows.fnExactUnusedAbbreviationsSpec.vars false #[.slice none 0 0,.slice none 0 0].toList 8=some ([.nil,.nil],[],places):=
 ⟨[],by kernel_rfl⟩
set_option maxRecDepth 100000 in
theorem fnExactUnusedAbbreviations_lifted (os:Os)(started:os.Started)(H:Type)(enc:TypeId×Value->H)(F:Stop.Interp) :
  ReturnsInHanded {} Tryd.checked os 3 .any ((OpenSpec.ofChange Rows.fnExactUnusedAbbreviationsSpec).preRow enc Tryd.prog Tryd.f3 Rows.fnExactUnusedAbbreviationsRow.domain false Rows.fnExactUnusedAbbreviationsRow.laid) (((OpenSpec.ofChange Rows.fnExactUnusedAbbreviationsSpec).at F).post enc Tryd.prog Tryd.f3 false true false false):=by
 obtain⟨places,hx⟩:=fnExactUnusedAbbreviations_reads os enc
 refine returnsInHanded_of_row (C:=Tryd.checked) (s:=OpenSpec.ofChange Rows.fnExactUnusedAbbreviationsSpec) fnExactUnusedAbbreviations_own started (by kernel_rfl) (by kernel_rfl)
  (witness_row_at (enc:=enc) (C:=Tryd.checked) false (fnExactUnusedAbbreviations_world os) #[.slice none 0 0,.slice none 0 0] rfl (by kernel_rfl) (by kernel_rfl) (by kernel_rfl)
   (OpenSpec.preRow_of_cond 8 hx (by kernel_rfl) (λk hk=>by cases hk) (by kernel_rfl) (fnExactUnusedAbbreviations_met os))) ?_
 intro W base args ds gs before Yj hW _ _ _ _ hsh _
 exact fnExactUnusedAbbreviations_contract H enc W base args ds gs before Yj hW hsh
theorem fnExactUnusedAbbreviations_said:Rows.FnExactUnusedAbbreviationsSaid:=
 OpenClaim.holds_of_cond 3 Tryd.f3 rfl rfl rfl rfl rfl rfl rfl ⟨rfl,rfl,rfl,rfl,rfl⟩ rfl rfl rfl rfl rfl (by kernel_rfl) (by kernel_rfl) (by kernel_rfl)
  (of_decide_eq_true (by kernel_rfl)) (by unfold Func.isWrapper;first|(rw[if_pos (by decide+kernel)];kernel_rfl)|(rw[if_neg (by decide+kernel)];exact⟨rfl,rfl⟩))
  (λos started H enc _ F=>by rw[OpenClaim.pre_eq_preRow];exact fnExactUnusedAbbreviations_lifted os started H enc F)
theorem fnExactUnusedAbbreviations_plain (f:FuncId)(fn:Func)(hf:Tryd.pinned.checked.prog.funcNamed "loop.example/g00896/laws.FnExactUnusedAbbreviations" =some f)(hfn:Tryd.pinned.checked.prog.funcs[f]? =some fn) :
  false=Tryd.pinned.checked.prog.looks []/\∀(j:Nat) t,fn.params[j]? =some t->Tryd.pinned.checked.prog.wantsStandIn t=false:=by
 obtain rfl:f=3:=(Option.some.inj ((show Tryd.prog.funcNamed "loop.example/g00896/laws.FnExactUnusedAbbreviations" =some 3 by kernel_rfl).symm.trans hf)).symm
 obtain rfl:fn=Tryd.f3:=(Option.some.inj ((show Tryd.prog.funcs[3]? =some Tryd.f3 by kernel_rfl).symm.trans hfn)).symm
 refine⟨by kernel_rfl,λj t ht=>?_⟩
 have ht':t∈[22,23]:=by simpa using Array.mem_of_getElem? (show(#[22,23]:Array Nat)[j]? =some t from ht)
 simp only[List.mem_cons,List.not_mem_nil,or_false]at ht'
 rcases ht' with rfl|rfl
 ·exact(show Tryd.prog.wantsStandIn 22=false by kernel_rfl)
 ·exact(show Tryd.prog.wantsStandIn 23=false by kernel_rfl)
theorem FnExactUnusedAbbreviations_holds:Rows.FnExactUnusedAbbreviationsCardSaid:=
 Claim7.holds_tied_plain_at .later [] _ _ _ _ fnExactUnusedAbbreviations_said (λ_ h=>by cases h) (by kernel_rfl) (λ_ h=>by cases h) fnExactUnusedAbbreviations_row_tie rfl ⟨rfl,rfl⟩ (by kernel_rfl) rfl fnExactUnusedAbbreviations_plain (by kernel_rfl)
#print axioms FnExactUnusedAbbreviations_holds
end Go.Proofs.YtlnhmbnbloakmaaDoor
end
