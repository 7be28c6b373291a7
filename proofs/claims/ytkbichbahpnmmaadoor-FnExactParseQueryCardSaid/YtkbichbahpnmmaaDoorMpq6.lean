/- The law FnExactParseQuery returns true for every input,the listed package variables being as the program's text lays it: the card. -/
import Derived.Test.YtkbichbahpnmmaaDoorMpq3
import Derived.Shelf.Vars
import Derived.Below
import Derived.Lib.IndexMore
import Derived.Lib.Split
import Derived.Lib.SplitLaws
import Derived.Lib.Repeat
import Derived.Deep.Draws
import Derived.Lib.Join
import Derived.Lib.SlTrimSet
import Derived.Lib.IndexAny
import Derived.Lib.TrimByte
import Derived.Laws.AppendOwn
import Derived.Test.YtkbichbahpnmmaaDoorMpq4
import Derived.Lib.ItoaNum
import Derived.Sort.Grow
import Derived.Shelf.Strings.IndexAny
import Derived.Shelf.Strings.IndexAnyAll
import Derived.Shelf.Small.Utf8
import Derived.Laws.RangeAny
import Derived.WalkMore
import Derived.Shelf.RegionOpenPlain
import Derived.Lib.SpaceUEq
import Derived.Lib.QuoteLoop
import Derived.Lib.TrimUEq
import Derived.Test.YtkbichbahpnmmaaDoorMpq5
import Derived.Test.YtkbichbahpnmmaaDoorProg
import Derived.KernelRfl
import Derived.Lib.IndexBytes
import Derived.Test.YtkbichbahpnmmaaDoorCards
import Derived.Test.YtkbichbahpnmmaaDoorTie
import Derived.WalkKit
import Derived.ProofKit
import Derived.OpenShut
import Derived.Deep.DeepHandedRow
import Derived.Lib.LaidTab
set_option linter.unusedVariables false
set_option linter.unusedSimpArgs false
set_option maxRecDepth 100000
section
namespace Go.Gx
open Go.RowKit Go.Lib
theorem Q2P {P:Program}{f:FuncId}{fn:Func}{c:Code}(hf:P.funcs[f]? =some fn)(hb:fn.body=some c)(hname:(fn.name== "runtime.NumGoroutine")=false){args:Array Value}{w:World}{R:Value->World->Prop}
  (h:Calls P f args w λe w'=>∃v,e= .returned v/\R v w'):Goes P f args w R:=by
 have hcall:(callFunc f args).run P w= .ok (.enter f args) w:=by
  have hn':fn.name≠ "runtime.NumGoroutine":=by simpa using hname
  simp[callFunc,hf,hn',hb]
 unfold Goes
 rw[hcall]
 exact h
theorem Q2Q {S:Nat->Prop}{w:World}{pv:Nat->Value}{vs:List Value}(h:J1 S w pv [] vs):vs=[]:=List.eq_nil_of_length_eq_zero h.1
theorem Q5r {S:Nat->Prop}{w:World}{pv:Nat->Value}{a:AV}{al:List AV}{vs:List Value}(h:J1 S w pv (a::al) vs):∃cs vs',AR S w (λ_=>none) (λ_=>none) pv a cs/\vs=valOf a cs::vs'/\J1 S w pv al vs':=by
 match vs,h with
 |[],h=>cases h.1
 |v::vs',⟨h1,h2⟩=>
  obtain⟨cs,hc,rfl⟩:=h2 0 a v rfl rfl
  exact⟨cs,vs',hc,rfl,by simpa using h1,λi b u hb hu=>h2 (i+1) b u (by simpa using hb) (by simpa using hu)⟩
theorem KW {S:Nat->Prop}{w:World}{pv:Nat->Value}{s:ByteArray}{al:List AV}{vs:List Value}(h:J1 S w pv (.t .str s::al) vs):∃vs',vs= .string s::vs'/\J1 S w pv al vs':=by
 obtain⟨cs,vs',hc,rfl,h'⟩:=Q5r h
 cases hc with|t _ _ _ hc=>cases hc;exact⟨vs',rfl,h'⟩
section
variable {P:Program} {E:Env} {pv:Nat->Value} {f:FuncId} {fn:Func} {c:Code}
theorem Q6Q (hf:P.funcs[f]? =some fn)(hb:fn.body=some c)(hname:(fn.name== "runtime.NumGoroutine")=false){args:List AV}{τ:Ty}{y:den τ}{v:Value}(hy:∀S w,∃cs,CR S w τ y cs/\v=valOf (.t τ y) cs)
  (h:∀S w vs,(∀b,S b->b<w.heap.size)->Qo E pv S w->J1 S w pv args vs->Calls P f vs.toArray w λe w'=>e= .returned v/\Below w.heap.size w w'):Qd P E pv (.f f) args (.t τ y):=by
 intro S w vs hS hgl hargs
 refine Q2P hf hb hname ((h S w vs hS hgl hargs).mono λe w' ⟨he,hbl⟩=>⟨v,he,hbl,S,λb hb=>hb,λb hb=>.inl hb,?_⟩)
 obtain⟨cs,hc,rfl⟩:=hy S w'
 exact⟨none,.plain _ _ (.t _ _ _ hc)⟩
end
def Q7v (s sep:ByteArray):Option (ByteArray×ByteArray×Bool):=bif Nat.ble s.size 4294967280 then some (⟨(Lib.cut s.data.toList sep.data.toList).1.toArray⟩,⟨(Lib.cut s.data.toList sep.data.toList).2.1.toArray⟩,(Lib.cut s.data.toList sep.data.toList).2.2)else none
theorem Q2R (w:World)(n:Nat):Below w.heap.size w (w.drewN n):=⟨rfl,rfl,rfl,Nat.le_refl _,λ_ _=>rfl⟩
theorem Q7w {P:Program}{E:Env}{pv:Nat->Value}{f:FuncId}{fn:Func}{c:Code}(hf:P.funcs[f]? =some fn)(hb:fn.body=some c)(hname:(fn.name== "runtime.NumGoroutine")=false){mx:Nat}(hmx:E.gi mx=true)
  (hc:∀(s sep:ByteArray) (m:Int) (w:World),s.size<4294967281->w.cell? ⟨mx,0,none⟩=some (.int .i64 m)->Calls P f #[.string s,.string sep] w λe w'=>
   e= .returned (.tuple #[.string ⟨(Lib.cut s.data.toList sep.data.toList).1.toArray⟩,.string ⟨(Lib.cut s.data.toList sep.data.toList).2.1.toArray⟩,.bool (Lib.cut s.data.toList sep.data.toList).2.2])/\∃n,w'=w.drewN n)
  {s sep:ByteArray} {y:ByteArray×ByteArray×Bool} (h:Q7v s sep=some y):Qd P E pv (.f f) (Q9 [.str,.str] (s,sep,())) (.tup [.t .str y.1,.t .str y.2.1,.t .bool y.2.2]):=by
 unfold Q7v at h
 cases hs:Nat.ble s.size 4294967280 with
 |false=>rw[hs]at h;cases h
 |true=>
  rw[hs]at h
  cases h
  intro S w vs hS hgl ha
  obtain⟨_,rfl,ha1⟩:=KW ha
  obtain⟨_,rfl,ha2⟩:=KW ha1
  obtain rfl:=Q2Q ha2
  obtain⟨_,m,hm⟩:=hgl.2.1 mx hmx
  refine Q2P hf hb hname ((hc s sep m w (Nat.lt_succ_of_le (Nat.le_of_ble_eq_true hs)) hm).mono λe w' ⟨he,n,hw⟩=>⟨_,he,hw▸Q2R w n,S,λb hb=>hb,λb hb=>.inl hb,?_⟩)
  refine⟨[.string _,.string _,.bool _],[none,none,none],rfl,rfl,rfl,λi r v g h1 h2 h3=>?_,λi j g hne h1=>?_⟩
  ·match i,h1,h2,h3 with
   |0,h1,h2,h3=>cases h1;cases h2;cases h3;exact .plain _ _ (.t _ _ _ (.str _))
   |1,h1,h2,h3=>cases h1;cases h2;cases h3;exact .plain _ _ (.t _ _ _ (.str _))
   |2,h1,h2,h3=>cases h1;cases h2;cases h3;exact .plain _ _ (.t _ _ _ (.bool _))
   |n+3,h1,_,_=>simp at h1
  ·match i,h1 with
   |0,h1=>cases h1
   |1,h1=>cases h1
   |2,h1=>cases h1
   |n+3,h1=>simp at h1
end Go.Gx
end
section
/- A library function by its contract: strconv.Itoa. -/
namespace Go.Gx
end Go.Gx
end
section
/- strings.IndexAny for a blank and a closing bracket,at texts of any bytes: the library's own text is walked. -/
namespace Go.GxIdx
open Go.Shelf Go.RowKit Go.Lib Go.Proofs
variable {P:Program} {ρ:Ren}
theorem Q0j (w:World)(s:ByteArray)(i:Nat):Below w.heap.size w (w.iter s i):=(Below.refl _ w).alloc (Nat.le_refl _) _
set_option maxHeartbeats 8000000 in
set_option maxRecDepth 1000000 in
theorem Q2S (L:Lays.n152 P ρ)(w:World) :
  Calls P (ρ.f 152) #[.string ⟨#[32,41]⟩,.int .i32 65533] w λe w'=>e= .returned (.int .i64 (-1))/\Below w.heap.size w w':=by
 have t3:=L.t3;have a3:=L.a3;have z3:=L.z3;have v3:=L.v3
 have t4:=L.t4;have a4:=L.a4;have z4:=L.z4;have v4:=L.v4
 have t5:=L.t5;have a5:=L.a5;have z5:=L.z5;have v5:=L.v5
 have t9:=L.t9;have a9:=L.a9;have z9:=L.z9;have v9:=L.v9
 have t21:=L.t21;have a21:=L.a21;have z21:=L.z21;have v21:=L.v21
 go_enter L.f152,Body.n152_ntmps ρ
 go_wp2
 go_loopg [5,6] 2 (λg _ _ wx=>∃i:Nat,i+g=2/\wx=w.iter ⟨#[32,41]⟩ i)
 case atStart=>exact⟨0,by omega,rfl⟩
 case round=>
  obtain⟨i,hig,rfl⟩:=hrel
  cases gk with
  |zero=>
   obtain rfl:i=2:=by omega
   have hnx:=run_next_end (P:=P) w ⟨#[32,41]⟩ 2
   go_wp2
   go_ret
   exact⟨rfl,Q0j _ _ _⟩
  |succ g=>
   have hi:i=0\/i=1:=by omega
   rcases hi with rfl|rfl
   ·have hnx:∀ty,(Instr.next (.pointer (some ⟨w.heap.size,0,none⟩)) true ty).run P (w.iter ⟨#[32,41]⟩ 0)= .ok (.tuple #[.bool true,.int .i64 (0:Nat),.int .i32 32]) (w.iter ⟨#[32,41]⟩ 1):=λty=>run_next_ascii (P:=P) w ⟨#[32,41]⟩ 0 ty (by decide) (by decide)
    go_wp2
    go_roundg g
    case measure=>omega
    case rel=>exact⟨1,by omega,rfl⟩
   ·have hnx:∀ty,(Instr.next (.pointer (some ⟨w.heap.size,0,none⟩)) true ty).run P (w.iter ⟨#[32,41]⟩ 1)= .ok (.tuple #[.bool true,.int .i64 (1:Nat),.int .i32 41]) (w.iter ⟨#[32,41]⟩ 2):=λty=>run_next_ascii (P:=P) w ⟨#[32,41]⟩ 1 ty (by decide) (by decide)
    go_wp2
    go_roundg g
    case measure=>omega
    case rel=>exact⟨2,by omega,rfl⟩
set_option maxHeartbeats 8000000 in
set_option maxRecDepth 1000000 in
theorem Q5s (L:Lays.n152 P ρ)(r:Int)(w:World)(h128:128<=r)(hne:r≠65533)(hv:Lib.validRune r=true)(rs:ByteArray)(hrs:Utf8.encode r=rs)(hsz:3<=rs.size)(hsz2:rs.size<=4) :
  Calls P (ρ.f 152) #[.string ⟨#[32,41]⟩,.int .i32 r] w λe w'=>e= .returned (.int .i64 (-1))/\Below w.heap.size w w':=by
 have h0:0<=r:=by omega
 have h1:¬r<128:=by omega
 have h2:(r==65533)=false:=by simpa using hne
 have t3:=L.t3;have a3:=L.a3;have z3:=L.z3;have v3:=L.v3
 have t4:=L.t4;have a4:=L.a4;have z4:=L.z4;have v4:=L.v4
 have t5:=L.t5;have a5:=L.a5;have z5:=L.z5;have v5:=L.v5
 have t9:=L.t9;have a9:=L.a9;have z9:=L.z9;have v9:=L.v9
 have t21:=L.t21;have a21:=L.a21;have z21:=L.z21;have v21:=L.v21
 have e119:∀args w,(callFunc (ρ.f 119) args).run P w= .ok (.enter (ρ.f 119) args) w:=enters_of L.f119 (by kernel_rfl) rfl
 go_enter L.f152,Body.n152_ntmps ρ
 go_wp2_with (go_at_fn (ρ.f 119);refine(Any.utf8_ValidRune {L with} _ _).mono ?_;rintro e w' ⟨rfl,hw⟩;rw[hw,hv])
 go_step3
 go_wp2
 go_loopg [9,10,11,12] 1 (λg s9 s10 s11 s12 wx=>s9= .int .i64 ((rs.size:Int)-1)/\wx=w)
 case atStart=>exact⟨rfl,rfl⟩
 case round=>
  obtain⟨rfl,rfl⟩:=hrel
  have hlt:¬((rs.size:Int)-1<2):=by omega
  go_wp2
  go_ret
  exact⟨rfl,Below.refl _ _⟩
set_option maxHeartbeats 8000000 in
set_option maxRecDepth 1000000 in
theorem Q5t (L:Lays.n152 P ρ)(r:Int)(w:World)(h128:128<=r)(hne:r≠65533)(hv:Lib.validRune r=true)(a b:UInt8)(hrs:Utf8.encode r=⟨#[a,b]⟩)(hb:128<=b.toNat) :
  Calls P (ρ.f 152) #[.string ⟨#[32,41]⟩,.int .i32 r] w λe w'=>e= .returned (.int .i64 (-1))/\Below w.heap.size w w':=by
 have h0:0<=r:=by omega
 have h1:¬r<128:=by omega
 have h2:(r==65533)=false:=by simpa using hne
 have mixed:=L.mixed
 have t3:=L.t3;have a3:=L.a3;have z3:=L.z3;have v3:=L.v3
 have t4:=L.t4;have a4:=L.a4;have z4:=L.z4;have v4:=L.v4
 have t5:=L.t5;have a5:=L.a5;have z5:=L.z5;have v5:=L.v5
 have t9:=L.t9;have a9:=L.a9;have z9:=L.z9;have v9:=L.v9
 have t21:=L.t21;have a21:=L.a21;have z21:=L.z21;have v21:=L.v21
 have e119:∀args w,(callFunc (ρ.f 119) args).run P w= .ok (.enter (ρ.f 119) args) w:=enters_of L.f119 (by kernel_rfl) rfl
 have e137:∀args w,(callFunc (ρ.f 137) args).run P w= .ok (.enter (ρ.f 137) args) w:=enters_of L.f137 (by kernel_rfl) rfl
 go_enter L.f152,Body.n152_ntmps ρ
 go_wp2_with (go_at_fn (ρ.f 119);refine(Any.utf8_ValidRune {L with} _ _).mono ?_;rintro e w' ⟨rfl,hw⟩;rw[hw,hv])
 go_step3
 go_wp2
 go_loopg [9,10,11,12] 1 (λg s9 s10 s11 s12 wx=>s9= .int .i64 1/\wx=w)
 case atStart=>exact⟨rfl,rfl⟩
 case round=>
  obtain⟨rfl,rfl⟩:=hrel
  have hz1:1<(⟨#[32,41]⟩:ByteArray).size:=by show 1<2;omega
  have hz2:1<(⟨#[a,b]⟩:ByteArray).size:=by show 1<2;omega
  have hbn:((((⟨#[32,41]⟩:ByteArray)[1]'hz1).toNat:Int) != (((⟨#[a,b]⟩:ByteArray)[1]'hz2).toNat:Int))=true:=by
   have e1:((⟨#[32,41]⟩:ByteArray)[1]'hz1).toNat=41:=rfl
   have e2:((⟨#[a,b]⟩:ByteArray)[1]'hz2).toNat=b.toNat:=rfl
   rw[e1,e2]
   simp only[bne_iff_ne,ne_eq]
   omega
  have hib:Lib.indexByte ((⟨#[32,41]⟩:ByteArray).extract 2 2).data.toList b= -1:=rfl
  go_wp2
  go_step3
  go_wp2
  go_region_o
  all_goals go_wp2
  all_goals go_region_with_o (go_at_fn (ρ.f 137);refine(Any.strings_IndexByte {L with} _ _ _).mono ?_;rintro e w' ⟨rfl,hw⟩;rw[hw])
  all_goals go_wp2
  all_goals simp only[Exit.noGoto,Exit.inBlock,Exit.then]
  all_goals go_ret
  all_goals (subst_vars;exact⟨rfl,((Below.refl _ _).drew).drew⟩)
theorem Q8q (n:Nat)(h1:128<=n)(h2:n<2048):∃a b:UInt8,Utf8.encode (n:Int)=⟨#[a,b]⟩/\128<=b.toNat:=by
 have hv:Utf8.valid (n:Int)=true:=by
  unfold Utf8.valid
  simp only[Bool.or_eq_true,Bool.and_eq_true,decide_eq_true_eq]
  omega
 have a1:¬n<128:=by omega
 refine⟨UInt8.ofNat (192+n / 64),UInt8.ofNat (128+n % 64),?_,?_⟩
 ·simp[Utf8.encode,hv,a1,h2]
 ·rw[UInt8.toNat_ofNat'];omega
theorem Q8r (n:Nat)(h1:2048<=n):3<=(Utf8.encode (n:Int)).size/\(Utf8.encode (n:Int)).size<=4:=by
 unfold Utf8.encode
 cases hv:Utf8.valid (n:Int)with
 |true=>
  simp only[if_true,Int.toNat_natCast]
  rw[if_neg (by omega),if_neg (by omega)]
  split<;>simp[ByteArray.size]
 |false=>
  simp only[Bool.false_eq_true,if_false,Utf8.runeError]
  exact⟨by decide,by decide⟩
theorem Q2T (n:Nat)(hv:n<55296\/(57343<n/\n<=1114111)):Lib.validRune (n:Int)=true:=by
 simp only[Lib.validRune,decide_eq_true_eq]
 omega
theorem Q1O (L:Lays.n152 P ρ)(n:Nat)(w:World)(h128:128<=n)(hv:n<55296\/(57343<n/\n<=1114111)) :
  Calls P (ρ.f 152) #[.string ⟨#[32,41]⟩,.int .i32 n] w λe w'=>e= .returned (.int .i64 (-1))/\Below w.heap.size w w':=by
 by_cases h:n=65533
 ·subst h;exact Q2S L w
 ·by_cases h2:n<2048
  ·obtain⟨a,b,e,hb⟩:=Q8q n h128 h2
   exact Q5t L n w (by omega) (by omega) (Q2T n hv) a b e hb
  ·obtain⟨e1,e2⟩:=Q8r n (by omega)
   exact Q5s L n w (by omega) (by omega) (Q2T n hv) _ rfl e1 e2
theorem getD_get! (s:ByteArray)(i:Nat)(h:i<s.size):(s.get! i)=s[i]:=by
 simp[ByteArray.get!,getElem!_pos,h]
 rfl
theorem Q7x (s:ByteArray)(i:Nat)(hi:i<s.size)(hx:128<=(s[i]'hi).toNat)(hno:Lib.NoAny s.data.toList [32,41] i) :
  Lib.NoAny s.data.toList [32,41] (i+(Utf8.decode s i).2)/\i+(Utf8.decode s i).2<=s.size:=by
 have hc:=decodeN_conts (s.size-i) (s.get! i).toNat (s.get! (i+1)).toNat (s.get! (i+2)).toNat (s.get! (i+3)).toNat
 rw[<-decode_at]at hc
 have hw:(Utf8.decode s i).2<=s.size-i:=by rw[decode_at];exact decodeN_width_le _ _ _ _ _ (by omega)
 refine⟨λj b hj hb=>?_,by omega⟩
 by_cases c:j<i
 ·exact hno j b c hb
 ·have hjs:j<s.size:=by omega
  have e:s[j]'hjs=b:=by
   have:=Lib.data_getElem? s j hjs
   rw[hb]at this
   exact(Option.some.inj this).symm
  have hb128:128<=b.toNat:=by
   rw[<-e]
   have hg:=getD_get! s j hjs
   rw[<-hg]
   have hd:j=i\/j=i+1\/j=i+2\/j=i+3:=by omega
   rcases hd with rfl|rfl|rfl|rfl
   ·rw[getD_get! s _ hjs];exact hx
   ·have:=(hc.1 (by omega)).1;omega
   ·have:=(hc.2.1 (by omega)).1;omega
   ·have:=(hc.2.2.1 (by omega)).1;omega
  cases hk:([32,41]:List UInt8).contains b with
  |false=>rfl
  |true=>
   exfalso
   simp only[List.contains_cons,List.contains_nil,Bool.or_false,Bool.or_eq_true,beq_iff_eq]at hk
   rcases hk with rfl|rfl<;>exact absurd hb128 (by decide)
def XN (W:World)(b:Nat)(s:ByteArray)(pos:Nat):World:={W with heap:=W.heap.setIfInBounds b (.stringIter s pos)}
theorem Q0k {W:World}{b:Nat}{s s':ByteArray}{pos pos':Nat}(h:W.heap[b]? =some (.stringIter s' pos')):(XN W b s pos).heap[b]? =some (.stringIter s pos):=by
 have hb:b<W.heap.size:=(Array.getElem?_eq_some_iff.1 h).1
 show(W.heap.setIfInBounds b _)[b]? =_
 simp[Array.getElem?_setIfInBounds,hb]
theorem Q0l (W:World)(b:Nat)(s:ByteArray)(pos:Nat):(XN W b s pos).heap.size=W.heap.size:=by
 show(W.heap.setIfInBounds b _).size=_
 simp
theorem DR {B b:Nat}{w W:World}(h:Below B w W)(hb:B<=b)(s:ByteArray)(pos:Nat):Below B w (XN W b s pos):=
 h.trans ⟨rfl,rfl,rfl,Nat.le_of_eq (Q0l W b s pos).symm,λk hk=>by
  show(W.heap.setIfInBounds b _)[k]? =_
  rw[Array.getElem?_setIfInBounds,if_neg (by omega)]⟩
theorem run_next_at (W:World)(b:Nat)(s:ByteArray)(pos:Nat)(ty:TypeId)(hb:W.heap[b]? =some (.stringIter s pos))(h:pos<s.size) :
  (Instr.next (.pointer (some ⟨b,0,none⟩)) true ty).run P W= .ok (.tuple #[.bool true,.int .i64 pos,.int .i32 (Utf8.decode s pos).1]) (XN W b s (pos+(Utf8.decode s pos).2)):=by
 simp only[Instr.next,getObj,setObj,Sem.run_bind,Sem.run,hb,Result.andThen,h,if_true,XN]
 simp[goInt,Sem.run,hb]
theorem Q0w (W:World)(b:Nat)(s:ByteArray)(pos:Nat)(ty:TypeId)(hb:W.heap[b]? =some (.stringIter s pos))(h:¬pos<s.size) :
  (Instr.next (.pointer (some ⟨b,0,none⟩)) true ty).run P W= .ok (.tuple #[.bool false]) W:=by
 simp[Instr.next,getObj,Sem.run,hb,h]
set_option maxHeartbeats 8000000 in
set_option maxRecDepth 1000000 in
theorem Q1P (L:Lays.n153 P ρ)(s chars:ByteArray)(w:World)(hch:chars=⟨#[32,41]⟩)(h8:s.size<=8) :
  Calls P (ρ.f 153) #[.string s,.string chars] w λe w'=>e= .returned (.int .i64 (Lib.indexAny s.data.toList [32,41]))/\Below w.heap.size w w':=by
 have hcl:chars.data.toList=[32,41]:=by rw[hch]
 have h2:chars.size=2:=by rw[hch];rfl
 have hir:∀(n:Nat) (w:World),128<=n->(n<55296\/(57343<n/\n<=1114111))->Calls P (ρ.f 152) #[.string chars,.int .i32 n] w λe w'=>e= .returned (.int .i64 (-1))/\Below w.heap.size w w':=by
  intro n w a b
  rw[hch]
  exact Q1O {L with} n w a b
 clear hch
 have hemp:chars.toList.isEmpty=false:=by
  rw[Lib.toList_data,hcl];rfl
 have hn1:((chars.size:Int)==1)=false:=beq_eq_false_iff_ne.2 (by omega)
 have h8z:decide ((8:Int)<(s.size:Int))=false:=decide_eq_false (by omega)
 have t3:=L.t3;have a3:=L.a3;have z3:=L.z3;have v3:=L.v3
 have t4:=L.t4;have a4:=L.a4;have z4:=L.z4;have v4:=L.v4
 have t5:=L.t5;have a5:=L.a5;have z5:=L.z5;have v5:=L.v5
 have t9:=L.t9;have a9:=L.a9;have z9:=L.z9;have v9:=L.v9
 have t21:=L.t21;have a21:=L.a21;have z21:=L.z21;have v21:=L.v21
 have e152:∀args w,(callFunc (ρ.f 152) args).run P w= .ok (.enter (ρ.f 152) args) w:=enters_of L.f152 (by kernel_rfl) rfl
 have e226:∀args w,(callFunc (ρ.f 226) args).run P w= .ok (.enter (ρ.f 226) args) w:=enters_of L.f226 (by kernel_rfl) rfl
 have Hcl:Aside (chars.data.toList=[32,41]):=hcl
 clear hcl
 go_enter L.f153,Body.n153_ntmps ρ
 go_wp2_with (go_at_fn (ρ.f 226);refine(Any.strings_shouldUseASCIISet {L with} _ _).mono ?_;rintro e w' ⟨rfl,hw⟩;rw[hw,h8z])
 go_loopg [9,10] s.size (λg _ _ wx=>∃i:Nat,i+g=s.size/\wx.heap[w.heap.size]? =some (.stringIter s i)/\Below w.heap.size w wx/\Lib.NoAny s.data.toList [32,41] i)
 case atStart=>exact⟨0,by omega,World.iter_heap _ _ _,Q0j _ _ _,Lib.NoAny.zero _ _⟩
 case round=>
  obtain⟨i,hig,hit,hbl,hno⟩:=hrel
  have HN:Aside (Lib.NoAny s.data.toList [32,41] i):=hno
  have HB:Aside (Below w.heap.size w wr):=hbl
  have HI:Aside (wr.heap[w.heap.size]? =some (.stringIter s i)):=hit
  clear hno hbl
  cases gk with
  |zero=>
   obtain rfl:i=s.size:=by omega
   have hnx:=λty=>Q0w (P:=P) wr w.heap.size s s.size ty hit (by omega)
   go_wp2
   go_ret
   exact⟨by rw[Lib.indexAny_none (by rw[<-Lib.size_eq];exact HN.out)];rfl,HB.out⟩
  |succ g=>
   have hi:i<s.size:=by omega
   have hbsz:w.heap.size<wr.heap.size:=(Array.getElem?_eq_some_iff.1 hit).1
   by_cases hx:(s[i]'hi).toNat<128
   ·obtain⟨x,hxe⟩:∃x:UInt8,s[i]'hi=x:=⟨_,rfl⟩
    have hxl:s.data.toList[i]? =some x:=by rw[<-hxe];exact Lib.data_getElem? s i hi
    have hx128:x.toNat<128:=by rw[<-hxe];exact hx
    have hnx:=λty=>run_next_at (P:=P) wr w.heap.size s i ty hit hi
    rw[decode_ascii s i hi hx,hxe]at hnx
    have Hx:Aside (s.data.toList[i]? =some x):=hxl
    have HB2:Aside (Below w.heap.size w (XN wr w.heap.size s (i+1))):=DR HB.out (Nat.le_refl _) _ _
    have HI2:Aside ((XN wr w.heap.size s (i+1)).heap[w.heap.size]? =some (.stringIter s (i+1))):=Q0k hit
    clear hxl hxe hit hx
    have hcon:=Lib.contains_iff_indexByte chars.data.toList x
    have hback:((x.toNat:Int)).toNat.toUInt8=x:=by simp
    rw[Hcl.out]at hcon
    have Hcl2:Aside (Lib.indexByte chars.data.toList x=Lib.indexByte [32,41] x):=by rw[Hcl.out];rfl
    cases hin:([32,41]:List UInt8).contains x
    ·rw[hin]at hcon
     have hlt:¬((0:Int)<=Lib.indexByte chars.data.toList x):=by rw[Hcl2.out];exact of_decide_eq_false hcon.symm
     clear hcon
     go_wp2_with (go_at_fn (ρ.f 152);refine(Any.strings_IndexRune_ascii {L with} _ _ _ (by omega) (by omega)).mono ?_;rintro e w' ⟨rfl,hw⟩;rw[hw,hback])
     go_roundg g
     case measure=>omega
     case rel=>exact⟨i+1,by omega,HI2.out,HB2.out,HN.out.succ Hx.out hin⟩
    ·rw[hin]at hcon
     have hge:(0:Int)<=Lib.indexByte chars.data.toList x:=by rw[Hcl2.out];exact of_decide_eq_true hcon.symm
     clear hcon
     go_wp2_with (go_at_fn (ρ.f 152);refine(Any.strings_IndexRune_ascii {L with} _ _ _ (by omega) (by omega)).mono ?_;rintro e w' ⟨rfl,hw⟩;rw[hw,hback])
     go_ret
     exact⟨by rw[Lib.indexAny_hit HN.out Hx.out hin];rfl,HB2.out⟩
   ·have hh:=decode_high s i hi (by omega)
    have hs:=Q7x s i hi (by omega) HN.out
    have hv:=decodeN_valid (s.size-i) (s.get! i).toNat (s.get! (i+1)).toNat (s.get! (i+2)).toNat (s.get! (i+3)).toNat (UInt8.toNat_lt _)
    rw[<-decode_at]at hv
    have hnx:=λty=>run_next_at (P:=P) wr w.heap.size s i ty hit hi
    obtain⟨n,hn⟩:∃n,(Utf8.decode s i).1=n:=⟨_,rfl⟩
    obtain⟨d,hd⟩:∃d,(Utf8.decode s i).2=d:=⟨_,rfl⟩
    rw[hn]at hh hv hnx
    rw[hd]at hh hs hnx
    have HS:Aside (Lib.NoAny s.data.toList [32,41] (i+d)):=hs.1
    have hsz:=hs.2
    have HV:Aside (n<55296\/(57343<n/\n<=1114111)):=hv
    have hn128:=hh.1
    have hd1:=hh.2
    have HB2:Aside (Below w.heap.size w (XN wr w.heap.size s (i+d))):=DR HB.out (Nat.le_refl _) _ _
    have HI2:Aside ((XN wr w.heap.size s (i+d)).heap[w.heap.size]? =some (.stringIter s (i+d))):=Q0k hit
    have HZ:Aside (w.heap.size<(XN wr w.heap.size s (i+d)).heap.size):=by rw[Q0l];exact hbsz
    clear hs hv hh hit hn hd hx
    go_wp2_with (go_at_fn (ρ.f 152);refine(hir n _ hn128 HV.out).mono ?_;rintro e w' ⟨rfl,hw⟩)
    go_roundg (g+1-d)
    case measure=>omega
    case rel=>exact⟨i+d,by omega,(hw.block _ HZ.out).trans HI2.out,HB2.out.trans (hw.mono (Nat.le_of_lt HZ.out)),HS.out⟩
theorem idxAny_laid (L:Lays.n153 P ρ)(h116:(P.info? (ρ.t 116)).map (λi=>(i.zero,i.size))=some (some (.agg (Array.replicate 256 (.bool false))),256))(s:ByteArray)(w:World)(hs:s.size<4294967281) :
  Calls P (ρ.f 153) #[.string s,.string ⟨#[32,41]⟩] w λe w'=>e= .returned (.int .i64 (Lib.indexAny s.data.toList [32,41]))/\Below w.heap.size w w':=by
 by_cases h8:s.size<=8
 ·exact Q1P L s _ w rfl h8
 ·refine(Any.strings_IndexAny_long L (zero_of_info h116).1 (zero_of_info h116).2 s ⟨#[32,41]⟩ w (by decide) (by omega) hs (by decide) (λj b hj=>?_)).mono ?_
  ·have:b∈([32,41]:List UInt8):=List.mem_of_getElem? hj
   simp only[List.mem_cons,List.not_mem_nil,or_false]at this
   rcases this with rfl|rfl<;>decide
  ·rintro e w' ⟨he,rfl⟩
   exact⟨he,((Below.refl _ w).alloc (Nat.le_refl _) _).alloc (by simp) _⟩
end Go.GxIdx
namespace Go.Gx
open Go.RowKit Go.Proofs
def UP (s cs:ByteArray):Option Int:=bif Nat.ble s.size 4294967280&&Qk cs ⟨#[32,41]⟩then some (Lib.indexAny s.data.toList [32,41])else none
theorem Q0x {P:Program}{E:Env}{pv:Nat->Value}{f:FuncId}{fn:Func}{c:Code}(hf:P.funcs[f]? =some fn)(hb:fn.body=some c)(hname:(fn.name== "runtime.NumGoroutine")=false)
  (hc:∀(s:ByteArray) (w:World),s.size<4294967281->Calls P f #[.string s,.string ⟨#[32,41]⟩] w λe w'=>e= .returned (.int .i64 (Lib.indexAny s.data.toList [32,41]))/\Below w.heap.size w w')
  {s cs:ByteArray} {y:Int} (h:UP s cs=some y):Qd P E pv (.f f) (Q9 [.str,.str] (s,cs,())) (.t (.int .i64) y):=by
 unfold UP at h
 cases hs:Nat.ble s.size 4294967280&&Qk cs ⟨#[32,41]⟩with
 |false=>rw[hs]at h;cases h
 |true=>
  rw[hs]at h
  cases h
  rw[Bool.and_eq_true]at hs
  obtain rfl:cs=⟨#[32,41]⟩:=YO.1 hs.2
  refine Q6Q hf hb hname (v:=.int .i64 _) (λS w=>⟨_,.int _ _,rfl⟩) λS w vs hS hgl ha=>?_
  obtain⟨_,rfl,ha1⟩:=KW ha
  obtain⟨_,rfl,ha2⟩:=KW ha1
  obtain rfl:=Q2Q ha2
  exact hc s w (Nat.lt_succ_of_le (Nat.le_of_ble_eq_true hs.1))
end Go.Gx
end
section
namespace Go.Proofs.YtkbichbahpnmmaaDoor
open Go.Gx
def tyT (t:Nat):Option Ty:=match t with
 |2=>some (.int .i64)
 |3=>some (.int .i64)
 |4=>some .bool
 |5=>some (.int .u8)
 |9=>some .str
 |10=>some .str
 |11=>some .str
 |21=>some (.int .i32)
 |22=>some (.sl .query)
 |24=>some .query
 |26=>some (.sl .query)
 |28=>some .query
 |37=>some (.sl .str)
 |71=>some (.int .u64)
 |72=>some (.sl (.int .u8))
 |76=>some (.arr 256 .bool)
 |80=>some (.int .i64)
 |88=>some (.int .u32)
 |90=>some (.int .u64)
 |93=>some (.arr 8 .str)
 |98=>some (.int .u64)
 |119=>some (.int .u8)
 |_=>none
def elT (t:Nat):Nat:=match t with
 |22=>24
 |26=>28
 |37=>9
 |72=>5
 |_=>0
def mdT (f:Nat):Bool:=match f with
 |18=>true
 |27=>true
 |34=>true
 |35=>true
 |47=>true
 |60=>true
 |_=>false
def XH:List ByteArray:=[⟨#[97,117,116,104,111,114,115]⟩,⟨#[101,100,105,116,111,114,115]⟩,⟨#[116,105,116,108,101]⟩,⟨#[99,111,110,116,97,105,110,101,114]⟩,⟨#[112,117,98,108,105,115,104,101,114]⟩,⟨#[100,97,116,101]⟩,⟨#[118,111,108,117,109,101]⟩,⟨#[112,97,103,101,115]⟩]
def glT (g:Nat):Option AV:=match g with
 |0=>some (.t (.arr 8 .str) XH)
 |_=>none
def giT (g:Nat):Bool:=match g with
 |1=>true
 |_=>false
def dmT (f:Nat):Bool:=match f with
 |11=>true
 |18=>true
 |27=>true
 |_=>false
def pmT (f:Nat):Bool:=match f with
 |8=>true
 |_=>false
def tmX (f:Nat):Bool:=match f with
 |14=>true
 |_=>false
def tmT (f:Nat):Bool:=match f with
 |14=>true
 |30=>true
 |_=>false
def vmT (f:Nat):Bool:=match f with
 |_=>false
def Q8F (f:Nat):Bool:=match f with
 |18=>true
 |27=>true
 |34=>true
 |35=>true
 |47=>true
 |60=>true
 |_=>false
def Q1:Env:={ty:=tyT,el:=elT,gl:=glT,md:=mdT,gi:=giT,dm:=dmT,pm:=pmT,tm:=tmX}
def Ur:Env:={ty:=tyT,el:=elT,gl:=glT,md:=Q8F,gi:=giT,tm:=tmT,vm:=vmT,tr:=true}
theorem Q3T:∀T τ,Q1.ty T=some τ->TyOk Tryd.prog Q1 T τ:=λT τ h=>by
 dsimp only[Q1,tyT]at h
 split at h<;>first
  |(cases h;done)
  |(cases h;exact Q4a (by kernel_rfl) (by kernel_rfl))
theorem Q0m:EnvOk Tryd.prog Q1:=⟨Q3T,by kernel_rfl,λT h=>by
 dsimp only[Q1,tyT]at h
 split at h<;>first
  |(cases h;done)
  |exact Q4t Q3T rfl (by kernel_rfl) (by kernel_rfl) (by kernel_rfl),λT h=>by
 dsimp only[Q1,tyT]at h
 split at h<;>first
  |(cases h;done)
  |exact Q4u Q3T rfl (by kernel_rfl) (by kernel_rfl) (by kernel_rfl)⟩
theorem Q1Q:∀T τ,Ur.ty T=some τ->TyOk Tryd.prog Ur T τ:=λT τ h=>by
 dsimp only[Ur,tyT]at h
 split at h<;>first
  |(cases h;done)
  |(cases h;exact Q4a (by kernel_rfl) (by kernel_rfl))
theorem Q8a:EnvOk Tryd.prog Ur:=⟨Q1Q,by kernel_rfl,λT h=>by
 dsimp only[Ur,tyT]at h
 split at h<;>first
  |(cases h;done)
  |exact Q4t Q1Q rfl (by kernel_rfl) (by kernel_rfl) (by kernel_rfl),λT h=>by
 dsimp only[Ur,tyT]at h
 split at h<;>first
  |(cases h;done)
  |exact Q4u Q1Q rfl (by kernel_rfl) (by kernel_rfl) (by kernel_rfl)⟩
mutual
def Z15.F:Nat->Query->Query->Option (Bool)
 |0,_,_=>none
 |k+1,a0,a1=>bif (a0.op != a1.op)then(some false)else(bif (!Qk a0.field a1.field)then(some false)else(bif (!Qk a0.word a1.word)then(some false)else((Z8.F k a0.parts a1.parts).bind λr1=>bif (!r1)then(some false)else(some true))))
def Z8.F:Nat->(List Query)->(List Query)->Option (Bool)
 |0,_,_=>none
 |k+1,a0,a1=>bif ((a0.length:Int) != (a1.length:Int))then(some false)else((Z8.l0 k a0 a1 0).bind λy2=>match y2 with|.inl z3=>some z3|.inr z3=>some true)
def Z8.l0:Nat->(List Query)->(List Query)->Int->Option (Sum Bool Unit)
 |0,_,_,_=>none
 |k+1,x0,x1,x5=>bif (decide (x5<(x0.length:Int)))then(bif decide (0<=x5)then(bif decide (x5<(x0.length:Int))then(bif decide (0<=x5)then(bif decide (x5<(x1.length:Int))then((Z15.F k (x0.getD (x5:Int).toNat (Q7 .query)) (x1.getD (x5:Int).toNat (Q7 .query))).bind λr1=>bif (!r1)then(some (.inl false))else(Z8.l0 k x0 x1 (IntKind.wrap .i64 (x5+1))))else none)else none)else none)else none)else(some (.inr ()))
end
def Z15.C (k:Nat):Cal->Option CArm:=λc=>match c with
 |.f 26=>some (.p [(.sl .query),(.sl .query)] _ (λx=>Z8.F k x.1 x.2.1) (λr=>(.t .bool r)))
 |_=>none
theorem Z15.run (k:Nat)(a0:Query)(a1:Query):JC Q1 (QE (Z15.C k)) (Qw 26 0 (λ_=>none)) Tryd.f10 [.t .query a0,.t .query a1] (QJ (.t .bool))=Z15.F (k+1) a0 a1:=by kernel_rfl
def Z8.C (k:Nat):Cal->Option CArm:=λc=>match c with
 |.f 10=>some (.p [.query,.query] _ (λx=>Z15.F k x.1 x.2.1) (λr=>(.t .bool r)))
 |_=>none
def Z8.sp0:List Sp:=[.t 0 (.sl .query),.t 1 (.sl .query),.t 5 (.int .i64)]
def Z8.sp0_0:List Sp:=[.t 4 .bool]
def Z8.sp0_1:List Sp:=[]
def Z8.A0:LArm:=.two Z8.sp0 Z8.sp0_0 Z8.sp0_1 (Bool) (Unit) (λk x=>Z8.l0 k x.1 x.2.1 x.2.2.1) .ret (.exit 0) (λy=>(y,())) (λx=>x.1) (λy=>()) (λx=>())
def Z8.L:Nat->Option LArm:=λb=>match b with
 |0=>some Z8.A0
 |_=>none
theorem Z8.run (k:Nat)(a0:List Query)(a1:List Query):JC Q1 (QE (Z8.C k)) (Qw 27 k Z8.L) Tryd.f26 [.t (.sl .query) a0,.t (.sl .query) a1] (QJ (.t .bool))=Z8.F (k+1) a0 a1:=by kernel_rfl
theorem Z8.step0 (k:Nat)(x0:List Query)(x1:List Query)(x5:Int):Jp Q1 (QE (Z8.C k)) (Qw 27 k Z8.L) 0 (Ja Tryd.f26 0) (YF 27 Z8.sp0 (x0,x1,x5,())) (Z8.A0.cont 27 k)=Z8.l0 (k+1) x0 x1 x5:=by kernel_rfl
def Z15.Gd (pv:Nat->Value)(k:Nat):Prop:=(∀(a0:Query) (a1:Query) {y:_},Z15.F k a0 a1=some y->Qd Tryd.prog Q1 pv (.f 10) (Q9 [.query,.query] (a0,a1,())) (.t .bool y))/\(∀(a0:List Query) (a1:List Query) {y:_},Z8.F k a0 a1=some y->Qd Tryd.prog Q1 pv (.f 26) (Q9 [(.sl .query),(.sl .query)] (a0,a1,())) (.t .bool y))
theorem Z15.G (hE:EnvOk Tryd.prog Q1)(pv:Nat->Value)(k:Nat)(hI:Z15.Gd pv k):∀cal A,Z15.C k cal=some A->QB Tryd.prog Q1 pv cal A:=by
 intro cal A h
 unfold Z15.C at h
 split at h
 ·cases h;exact λx y hy=>hI.2 x.1 x.2.1 hy
 ·cases h
theorem Z15.gd (hE:EnvOk Tryd.prog Q1)(pv:Nat->Value)(k:Nat)(hI:∀k',k'<=k->Z15.Gd pv k')(a0:Query)(a1:Query){y:_}(h:Z15.F (k+1) a0 a1=some y):Qd Tryd.prog Q1 pv (.f 10) (Q9 [.query,.query] (a0,a1,())) (.t .bool y):=
 Qr hE (Z15.G hE pv k (hI k (Nat.le_refl k))) (f:=10) (fn:=Tryd.f10) (by kernel_rfl) rfl (by kernel_rfl) (by kernel_rfl) ((Z15.run k a0 a1).trans h) (λr hr=>Qn hr)
theorem Z8.G (hE:EnvOk Tryd.prog Q1)(pv:Nat->Value)(k:Nat)(hI:Z15.Gd pv k):∀cal A,Z8.C k cal=some A->QB Tryd.prog Q1 pv cal A:=by
 intro cal A h
 unfold Z8.C at h
 split at h
 ·cases h;exact λx y hy=>hI.1 x.1 x.2.1 hy
 ·cases h
theorem Z8.gd (hE:EnvOk Tryd.prog Q1)(pv:Nat->Value)(k:Nat)(hI:∀k',k'<=k->Z15.Gd pv k')(a0:List Query)(a1:List Query){y:_}(h:Z8.F (k+1) a0 a1=some y):Qd Tryd.prog Q1 pv (.f 26) (Q9 [(.sl .query),(.sl .query)] (a0,a1,())) (.t .bool y):=
 Ji hE (t:=Z8.C) k (λk hk=>Z8.G hE pv k (hI k hk)) (f:=26) (fn:=Tryd.f26) (by kernel_rfl) rfl (by kernel_rfl) (by kernel_rfl) (lt:=Z8.L) (by kernel_rfl) (λb A h=>by
  unfold Z8.L at h;split at h
  ·cases h;exact⟨by kernel_rfl,by kernel_rfl,by kernel_rfl,λ_=>rfl,λ_=>rfl,λ_=>rfl⟩
  ·cases h) (λb A h=>by
  unfold Z8.L at h;split at h
  ·cases h;exact λk x=>Z8.step0 k x.1 x.2.1 x.2.2.1
  ·cases h) ((Z8.run k a0 a1).trans h) (λr hr=>Qn hr)
theorem Z15.all (hE:EnvOk Tryd.prog Q1)(pv:Nat->Value):∀k k',k'<=k->Z15.Gd pv k':=by
 intro k
 induction k with
 |zero=>
  intro k' hk
  obtain rfl:k'=0:=by omega
  exact⟨λ_ _ y h=>(by cases (show(none:Option _)=some y from h)),λ_ _ y h=>(by cases (show(none:Option _)=some y from h))⟩
 |succ k ih=>
  intro k' hk
  rcases Nat.lt_or_ge k' (k+1)with hlt|hge
  ·exact ih k' (by omega)
  ·obtain rfl:k'=k+1:=by omega
   exact⟨λa0 a1 y h=>Z15.gd hE pv k ih a0 a1 h,λa0 a1 y h=>Z8.gd hE pv k ih a0 a1 h⟩
theorem Z15.good (hE:EnvOk Tryd.prog Q1)(pv:Nat->Value)(k:Nat)(a0:Query)(a1:Query){y:_}(h:Z15.F k a0 a1=some y):Qd Tryd.prog Q1 pv (.f 10) (Q9 [.query,.query] (a0,a1,())) (.t .bool y):=
 (Z15.all hE pv k k (Nat.le_refl k)).1 a0 a1 h
def Z6.l0:Nat->Int->ByteArray->Option (ByteArray)
 |0,_,_=>none
 |k+1,x0,x3=>bif (decide (x0 > 0))then(bif (10==0)then(none)else(bif Nat.ble ((Q1X ([(IntKind.wrap .u8 (IntKind.wrap .i64 (48+(Int.tmod x0 10))))]:List Int)).size+x3.size) 9223372036854775807 then(bif (10==0)then(none)else(Z6.l0 k (IntKind.wrap .i64 (Int.tdiv x0 10)) ((Q1X ([(IntKind.wrap .u8 (IntKind.wrap .i64 (48+(Int.tmod x0 10))))]:List Int))++x3)))else none))else(some x3)
def Z6.F (k:Nat)(a0:Int):Option (ByteArray):=bif (decide (a0<=0))then(some (⟨#[109,48]⟩:ByteArray))else((Z6.l0 k a0 (⟨#[]⟩:ByteArray)).bind λy1=>bif Nat.ble ((⟨#[109]⟩:ByteArray).size+y1.size) 9223372036854775807 then(some ((⟨#[109]⟩:ByteArray)++y1))else none)
def Z6.C (k:Nat):Cal->Option CArm:=λc=>match c with
 |_=>none
def Z6.sp0:List Sp:=[.t 0 (.int .i64),.t 3 .str]
def Z6.sp0_0:List Sp:=[.t 3 .str]
def Z6.A0:LArm:=.one Z6.sp0 Z6.sp0_0 (ByteArray) (λk x=>Z6.l0 k x.1 x.2.1) (.exit 0) (λy=>(y,())) (λx=>x.1)
def Z6.L:Nat->Option LArm:=λb=>match b with
 |0=>some Z6.A0
 |_=>none
theorem Z6.run (k:Nat)(a0:Int):JC Q1 (QE (Z6.C k)) (Qw 20 k Z6.L) Tryd.f36 [.t (.int .i64) a0] (QJ (.t .str))=Z6.F k a0:=by kernel_rfl
theorem Z6.step0 (k:Nat)(x0:Int)(x3:ByteArray):Jp Q1 (QE (Z6.C k)) (Qw 20 k Z6.L) 0 (Ja Tryd.f36 0) (YF 20 Z6.sp0 (x0,x3,())) (Z6.A0.cont 20 k)=Z6.l0 (k+1) x0 x3:=by kernel_rfl
theorem Z6.G (hE:EnvOk Tryd.prog Q1)(pv:Nat->Value)(k:Nat):∀cal A,Z6.C k cal=some A->QB Tryd.prog Q1 pv cal A:=by
 intro cal A h
 unfold Z6.C at h
 cases h
theorem Z6.good (hE:EnvOk Tryd.prog Q1)(pv:Nat->Value)(k:Nat)(a0:Int){y:_}(h:Z6.F k a0=some y):Qd Tryd.prog Q1 pv (.f 36) (Q9 [(.int .i64)] (a0,())) (.t .str y):=
 Ji hE (t:=Z6.C) k (λk _=>Z6.G hE pv k) (f:=36) (fn:=Tryd.f36) (by kernel_rfl) rfl (by kernel_rfl) (by kernel_rfl) (lt:=Z6.L) (by kernel_rfl) (λb A h=>by
  unfold Z6.L at h;split at h
  ·cases h;exact⟨by kernel_rfl,by kernel_rfl,λ_=>rfl,λ_=>rfl⟩
  ·cases h) (λb A h=>by
  unfold Z6.L at h;split at h
  ·cases h;exact λk x=>Z6.step0 k x.1 x.2.1
  ·cases h) ((Z6.run k a0).trans h) (λr hr=>Qn hr)
mutual
def Z2.F:Nat->(List Query)->Int->Option (Int)
 |0,_,_=>none
 |k+1,a0,a1=>(Z2.l0 k a0 a1 0).bind λy4=>match y4 with|.inl z5=>some z5|.inr z5=>some z5
def Z2.l0:Nat->(List Query)->Int->Int->Option (Sum Int Int)
 |0,_,_,_=>none
 |k+1,x0,x1,x5=>bif (decide (x5<(x0.length:Int)))then(bif decide (0<=x5)then(bif decide (x5<(x0.length:Int))then(bif (((x0.getD (x5:Int).toNat (Q7 .query)).op) != x1)then(some (.inl (-1)))else(bif decide (0<=x5)then(bif decide (x5<(x0.length:Int))then((Z6.F k (IntKind.wrap .i64 (x1+1))).bind λr1=>bif (!Qk ((x0.getD (x5:Int).toNat (Q7 .query)).field) r1)then(some (.inl (-1)))else(bif decide (0<=x5)then(bif decide (x5<(x0.length:Int))then((Z6.F k (IntKind.wrap .i64 ((IntKind.wrap .i64 (x1+1))+1))).bind λr2=>bif (!Qk ((x0.getD (x5:Int).toNat (Q7 .query)).word) r2)then(some (.inl (-1)))else(bif decide (0<=x5)then(bif decide (x5<(x0.length:Int))then((Z2.F k ((x0.getD (x5:Int).toNat (Q7 .query)).parts) (IntKind.wrap .i64 ((IntKind.wrap .i64 ((IntKind.wrap .i64 (x1+1))+1))+1))).bind λr3=>bif (decide (r3<0))then(some (.inl (-1)))else(Z2.l0 k x0 r3 (IntKind.wrap .i64 (x5+1))))else none)else none))else none)else none))else none)else none))else none)else none)else(some (.inr x1))
end
def Z2.C (k:Nat):Cal->Option CArm:=λc=>match c with
 |.f 36=>some (.p [(.int .i64)] _ (λx=>Z6.F k x.1) (λr=>(.t .str r)))
 |.f 28=>some (.p [(.sl .query),(.int .i64)] _ (λx=>Z2.F k x.1 x.2.1) (λr=>(.t (.int .i64) r)))
 |_=>none
def Z2.sp0:List Sp:=[.t 0 (.sl .query),.t 1 (.int .i64),.t 5 (.int .i64)]
def Z2.sp0_0:List Sp:=[.t 4 (.int .i64)]
def Z2.sp0_1:List Sp:=[.t 1 (.int .i64)]
def Z2.A0:LArm:=.two Z2.sp0 Z2.sp0_0 Z2.sp0_1 (Int) (Int) (λk x=>Z2.l0 k x.1 x.2.1 x.2.2.1) .ret (.exit 0) (λy=>(y,())) (λx=>x.1) (λy=>(y,())) (λx=>x.1)
def Z2.L:Nat->Option LArm:=λb=>match b with
 |0=>some Z2.A0
 |_=>none
theorem Z2.run (k:Nat)(a0:List Query)(a1:Int):JC Q1 (QE (Z2.C k)) (Qw 51 k Z2.L) Tryd.f28 [.t (.sl .query) a0,.t (.int .i64) a1] (QJ (.t (.int .i64)))=Z2.F (k+1) a0 a1:=by kernel_rfl
theorem Z2.step0 (k:Nat)(x0:List Query)(x1:Int)(x5:Int):Jp Q1 (QE (Z2.C k)) (Qw 51 k Z2.L) 0 (Ja Tryd.f28 0) (YF 51 Z2.sp0 (x0,x1,x5,())) (Z2.A0.cont 51 k)=Z2.l0 (k+1) x0 x1 x5:=by kernel_rfl
def Z2.Gd (pv:Nat->Value)(k:Nat):Prop:=(∀(a0:List Query) (a1:Int) {y:_},Z2.F k a0 a1=some y->Qd Tryd.prog Q1 pv (.f 28) (Q9 [(.sl .query),(.int .i64)] (a0,a1,())) (.t (.int .i64) y))
theorem Z2.G (hE:EnvOk Tryd.prog Q1)(pv:Nat->Value)(k:Nat)(hI:Z2.Gd pv k):∀cal A,Z2.C k cal=some A->QB Tryd.prog Q1 pv cal A:=by
 intro cal A h
 unfold Z2.C at h
 split at h
 ·cases h;exact λx y hy=>Z6.good hE pv k x.1 hy
 ·cases h;exact λx y hy=>hI x.1 x.2.1 hy
 ·cases h
theorem Z2.gd (hE:EnvOk Tryd.prog Q1)(pv:Nat->Value)(k:Nat)(hI:∀k',k'<=k->Z2.Gd pv k')(a0:List Query)(a1:Int){y:_}(h:Z2.F (k+1) a0 a1=some y):Qd Tryd.prog Q1 pv (.f 28) (Q9 [(.sl .query),(.int .i64)] (a0,a1,())) (.t (.int .i64) y):=
 Ji hE (t:=Z2.C) k (λk hk=>Z2.G hE pv k (hI k hk)) (f:=28) (fn:=Tryd.f28) (by kernel_rfl) rfl (by kernel_rfl) (by kernel_rfl) (lt:=Z2.L) (by kernel_rfl) (λb A h=>by
  unfold Z2.L at h;split at h
  ·cases h;exact⟨by kernel_rfl,by kernel_rfl,by kernel_rfl,λ_=>rfl,λ_=>rfl,λ_=>rfl⟩
  ·cases h) (λb A h=>by
  unfold Z2.L at h;split at h
  ·cases h;exact λk x=>Z2.step0 k x.1 x.2.1 x.2.2.1
  ·cases h) ((Z2.run k a0 a1).trans h) (λr hr=>Qn hr)
theorem Z2.all (hE:EnvOk Tryd.prog Q1)(pv:Nat->Value):∀k k',k'<=k->Z2.Gd pv k':=by
 intro k
 induction k with
 |zero=>
  intro k' hk
  obtain rfl:k'=0:=by omega
  exact λ_ _ y h=>by cases (show(none:Option _)=some y from h)
 |succ k ih=>
  intro k' hk
  rcases Nat.lt_or_ge k' (k+1)with hlt|hge
  ·exact ih k' (by omega)
  ·obtain rfl:k'=k+1:=by omega
   exact λa0 a1 y h=>Z2.gd hE pv k ih a0 a1 h
theorem Z2.good (hE:EnvOk Tryd.prog Q1)(pv:Nat->Value)(k:Nat)(a0:List Query)(a1:Int){y:_}(h:Z2.F k a0 a1=some y):Qd Tryd.prog Q1 pv (.f 28) (Q9 [(.sl .query),(.int .i64)] (a0,a1,())) (.t (.int .i64) y):=
 (Z2.all hE pv k k (Nat.le_refl k)) a0 a1 h
def Z18.F (k:Nat)(a0:Query)(a1:Int):Option (Int):=(Z2.F k a0.parts a1).bind λr1=>bif (decide (r1<0))then(some (-1))else(some r1)
def Z18.C (k:Nat):Cal->Option CArm:=λc=>match c with
 |.f 28=>some (.p [(.sl .query),(.int .i64)] _ (λx=>Z2.F k x.1 x.2.1) (λr=>(.t (.int .i64) r)))
 |_=>none
theorem Z18.run (k:Nat)(a0:Query)(a1:Int):JC Q1 (QE (Z18.C k)) (Qw 12 0 (λ_=>none)) Tryd.f12 [.t .query a0,.t (.int .i64) a1] (QJ (.t (.int .i64)))=Z18.F k a0 a1:=by kernel_rfl
theorem Z18.G (hE:EnvOk Tryd.prog Q1)(pv:Nat->Value)(k:Nat):∀cal A,Z18.C k cal=some A->QB Tryd.prog Q1 pv cal A:=by
 intro cal A h
 unfold Z18.C at h
 split at h
 ·cases h;exact λx y hy=>Z2.good hE pv k x.1 x.2.1 hy
 ·cases h
theorem Z18.good (hE:EnvOk Tryd.prog Q1)(pv:Nat->Value)(k:Nat)(a0:Query)(a1:Int){y:_}(h:Z18.F k a0 a1=some y):Qd Tryd.prog Q1 pv (.f 12) (Q9 [.query,(.int .i64)] (a0,a1,())) (.t (.int .i64) y):=
 Qr hE (Z18.G hE pv k) (f:=12) (fn:=Tryd.f12) (by kernel_rfl) rfl (by kernel_rfl) (by kernel_rfl) ((Z18.run k a0 a1).trans h) (λr hr=>Qn hr)
def Z19.F (a0:Int):Option (Bool):=bif (decide (a0 ≥ 48))then(some (decide (a0<=57)))else(some false)
def Z19.C:Cal->Option CArm:=λc=>match c with
 |_=>none
theorem Z19.run (a0:Int):JC Q1 (QE Z19.C) (Qw 9 0 (λ_=>none)) Tryd.f53 [.t (.int .u8) a0] (QJ (.t .bool))=Z19.F a0:=by kernel_rfl
theorem Z19.G (hE:EnvOk Tryd.prog Q1)(pv:Nat->Value):∀cal A,Z19.C cal=some A->QB Tryd.prog Q1 pv cal A:=by
 intro cal A h
 unfold Z19.C at h
 cases h
theorem Z19.good (hE:EnvOk Tryd.prog Q1)(pv:Nat->Value)(a0:Int){y:_}(h:Z19.F a0=some y):Qd Tryd.prog Q1 pv (.f 53) (Q9 [(.int .u8)] (a0,())) (.t .bool y):=
 Qr hE (Z19.G hE pv) (f:=53) (fn:=Tryd.f53) (by kernel_rfl) rfl (by kernel_rfl) (by kernel_rfl) ((Z19.run a0).trans h) (λr hr=>Qn hr)
def Z17.F (a0:Int):Option (Bool):=bif (decide (a0 ≥ 97))then(bif (decide (a0<=122))then(some true)else((Z19.F a0).bind λr1=>some r1))else((Z19.F a0).bind λr2=>some r2)
def Z17.C:Cal->Option CArm:=λc=>match c with
 |.f 53=>some (.p [(.int .u8)] _ (λx=>Z19.F x.1) (λr=>(.t .bool r)))
 |_=>none
theorem Z17.run (a0:Int):JC Q1 (QE Z17.C) (Qw 13 0 (λ_=>none)) Tryd.f42 [.t (.int .u8) a0] (QJ (.t .bool))=Z17.F a0:=by kernel_rfl
theorem Z17.G (hE:EnvOk Tryd.prog Q1)(pv:Nat->Value):∀cal A,Z17.C cal=some A->QB Tryd.prog Q1 pv cal A:=by
 intro cal A h
 unfold Z17.C at h
 split at h
 ·cases h;exact λx y hy=>Z19.good hE pv x.1 hy
 ·cases h
theorem Z17.good (hE:EnvOk Tryd.prog Q1)(pv:Nat->Value)(a0:Int){y:_}(h:Z17.F a0=some y):Qd Tryd.prog Q1 pv (.f 42) (Q9 [(.int .u8)] (a0,())) (.t .bool y):=
 Qr hE (Z17.G hE pv) (f:=42) (fn:=Tryd.f42) (by kernel_rfl) rfl (by kernel_rfl) (by kernel_rfl) ((Z17.run a0).trans h) (λr hr=>Qn hr)
def Z22.F (a0:Int)(a1:Int)(a2:Int):Option (Bool):=bif (decide (a0 ≥ a1))then(some (decide (a0<=a2)))else(some false)
def Z22.C:Cal->Option CArm:=λc=>match c with
 |_=>none
theorem Z22.run (a0:Int)(a1:Int)(a2:Int):JC Q1 (QE Z22.C) (Qw 15 0 (λ_=>none)) Tryd.f89 [.t (.int .i64) a0,.t (.int .i64) a1,.t (.int .i64) a2] (QJ (.t .bool))=Z22.F a0 a1 a2:=by kernel_rfl
theorem Z22.G (hE:EnvOk Tryd.prog Q1)(pv:Nat->Value):∀cal A,Z22.C cal=some A->QB Tryd.prog Q1 pv cal A:=by
 intro cal A h
 unfold Z22.C at h
 cases h
theorem Z22.good (hE:EnvOk Tryd.prog Q1)(pv:Nat->Value)(a0:Int)(a1:Int)(a2:Int){y:_}(h:Z22.F a0 a1 a2=some y):Qd Tryd.prog Q1 pv (.f 89) (Q9 [(.int .i64),(.int .i64),(.int .i64)] (a0,a1,a2,())) (.t .bool y):=
 Qr hE (Z22.G hE pv) (f:=89) (fn:=Tryd.f89) (by kernel_rfl) rfl (by kernel_rfl) (by kernel_rfl) ((Z22.run a0 a1 a2).trans h) (λr hr=>Qn hr)
def Z10.l0:Nat->ByteArray->Int->Option (Sum Bool ByteArray)
 |0,_,_=>none
 |k+1,x0,x3=>bif (decide (x3<(x0.size:Int)))then(bif decide (0<=x3)then(bif decide (x3<(x0.size:Int))then((Z17.F (bt x0 (x3:Int).toNat)).bind λr1=>bif (!r1)then(some (.inl false))else(Z10.l0 k x0 (IntKind.wrap .i64 (x3+1))))else none)else none)else(some (.inr x0))
def Z10.F (k:Nat)(a0:ByteArray):Option (Bool):=(Z10.l0 k a0 0).bind λy2=>match y2 with|.inl z3=>some z3|.inr z3=>(Z22.F (z3.size:Int) 1 15).bind λr4=>bif r4 then(bif (!Qk z3 (⟨#[110,111,116]⟩:ByteArray))then(bif (!Qk z3 (⟨#[97,110,100]⟩:ByteArray))then(some (!Qk z3 (⟨#[111,114]⟩:ByteArray)))else(some false))else(some false))else(some false)
def Z10.C (k:Nat):Cal->Option CArm:=λc=>match c with
 |.f 42=>some (.p [(.int .u8)] _ (λx=>Z17.F x.1) (λr=>(.t .bool r)))
 |.f 89=>some (.p [(.int .i64),(.int .i64),(.int .i64)] _ (λx=>Z22.F x.1 x.2.1 x.2.2.1) (λr=>(.t .bool r)))
 |_=>none
def Z10.sp0:List Sp:=[.t 0 .str,.t 3 (.int .i64)]
def Z10.sp0_0:List Sp:=[.t 2 .bool]
def Z10.sp0_1:List Sp:=[.t 0 .str]
def Z10.A0:LArm:=.two Z10.sp0 Z10.sp0_0 Z10.sp0_1 (Bool) (ByteArray) (λk x=>Z10.l0 k x.1 x.2.1) .ret (.exit 0) (λy=>(y,())) (λx=>x.1) (λy=>(y,())) (λx=>x.1)
def Z10.L:Nat->Option LArm:=λb=>match b with
 |0=>some Z10.A0
 |_=>none
theorem Z10.run (k:Nat)(a0:ByteArray):JC Q1 (QE (Z10.C k)) (Qw 30 k Z10.L) Tryd.f71 [.t .str a0] (QJ (.t .bool))=Z10.F k a0:=by kernel_rfl
theorem Z10.step0 (k:Nat)(x0:ByteArray)(x3:Int):Jp Q1 (QE (Z10.C k)) (Qw 30 k Z10.L) 0 (Ja Tryd.f71 0) (YF 30 Z10.sp0 (x0,x3,())) (Z10.A0.cont 30 k)=Z10.l0 (k+1) x0 x3:=by kernel_rfl
theorem Z10.G (hE:EnvOk Tryd.prog Q1)(pv:Nat->Value)(k:Nat):∀cal A,Z10.C k cal=some A->QB Tryd.prog Q1 pv cal A:=by
 intro cal A h
 unfold Z10.C at h
 split at h
 ·cases h;exact λx y hy=>Z17.good hE pv x.1 hy
 ·cases h;exact λx y hy=>Z22.good hE pv x.1 x.2.1 x.2.2.1 hy
 ·cases h
theorem Z10.good (hE:EnvOk Tryd.prog Q1)(pv:Nat->Value)(k:Nat)(a0:ByteArray){y:_}(h:Z10.F k a0=some y):Qd Tryd.prog Q1 pv (.f 71) (Q9 [.str] (a0,())) (.t .bool y):=
 Ji hE (t:=Z10.C) k (λk _=>Z10.G hE pv k) (f:=71) (fn:=Tryd.f71) (by kernel_rfl) rfl (by kernel_rfl) (by kernel_rfl) (lt:=Z10.L) (by kernel_rfl) (λb A h=>by
  unfold Z10.L at h;split at h
  ·cases h;exact⟨by kernel_rfl,by kernel_rfl,by kernel_rfl,λ_=>rfl,λ_=>rfl,λ_=>rfl⟩
  ·cases h) (λb A h=>by
  unfold Z10.L at h;split at h
  ·cases h;exact λk x=>Z10.step0 k x.1 x.2.1
  ·cases h) ((Z10.run k a0).trans h) (λr hr=>Qn hr)
def Z35.F:Option (List ByteArray):=some ([(⟨#[97,117,116,104,111,114,115]⟩:ByteArray),(⟨#[101,100,105,116,111,114,115]⟩:ByteArray),(⟨#[116,105,116,108,101]⟩:ByteArray),(⟨#[99,111,110,116,97,105,110,101,114]⟩:ByteArray),(⟨#[112,117,98,108,105,115,104,101,114]⟩:ByteArray),(⟨#[100,97,116,101]⟩:ByteArray),(⟨#[118,111,108,117,109,101]⟩:ByteArray),(⟨#[112,97,103,101,115]⟩:ByteArray)]:List ByteArray)
def Z35.C:Cal->Option CArm:=λc=>match c with
 |_=>none
theorem Z35.run:JC Q1 (QE Z35.C) (Qw 2 0 (λ_=>none)) Tryd.f90 [] (QJ (.fr 9 .str))=Z35.F:=by kernel_rfl
theorem Z35.G (hE:EnvOk Tryd.prog Q1)(pv:Nat->Value):∀cal A,Z35.C cal=some A->QB Tryd.prog Q1 pv cal A:=by
 intro cal A h
 unfold Z35.C at h
 cases h
theorem Z35.good (hE:EnvOk Tryd.prog Q1)(pv:Nat->Value){y:_}(h:Z35.F=some y):Qd Tryd.prog Q1 pv (.f 90) (Q9 [] (())) (.fr 9 .str y):=
 Qr hE (Z35.G hE pv) (f:=90) (fn:=Tryd.f90) (by kernel_rfl) rfl (by kernel_rfl) (by kernel_rfl) ((Z35.run).trans h) (λr hr=>Qn hr)
def Z11.l0:Nat->ByteArray->(List ByteArray)->Int->Option (Sum Bool ByteArray)
 |0,_,_,_=>none
 |k+1,x0,x3,x4=>bif (decide (x4<(x3.length:Int)))then(bif decide (0<=x4)then(bif decide (x4<(x3.length:Int))then(bif (Qk (x3.getD ((x4:Int).toNat) (⟨#[]⟩:ByteArray)) x0)then(some (.inl true))else(Z11.l0 k x0 x3 (IntKind.wrap .i64 (x4+1))))else none)else none)else(some (.inr x0))
def Z11.F (k:Nat)(a0:ByteArray):Option (Bool):=(Z35.F).bind λr1=>(Z11.l0 k a0 r1 0).bind λy2=>match y2 with|.inl z3=>some z3|.inr z3=>some (Qk z3 (⟨#[]⟩:ByteArray))
def Z11.C (k:Nat):Cal->Option CArm:=λc=>match c with
 |.f 90=>some (.p [] _ (λx=>Z35.F) (λr=>(.fr 9 .str r)))
 |_=>none
def Z11.sp0:List Sp:=[.t 0 .str,.own 3 1024 9 .str false true,.t 4 (.int .i64)]
def Z11.sp0_0:List Sp:=[.t 2 .bool]
def Z11.sp0_1:List Sp:=[.t 0 .str]
def Z11.A0:LArm:=.two Z11.sp0 Z11.sp0_0 Z11.sp0_1 (Bool) (ByteArray) (λk x=>Z11.l0 k x.1 x.2.1 x.2.2.1) .ret (.exit 0) (λy=>(y,())) (λx=>x.1) (λy=>(y,())) (λx=>x.1)
def Z11.L:Nat->Option LArm:=λb=>match b with
 |0=>some Z11.A0
 |_=>none
theorem Z11.run (k:Nat)(a0:ByteArray):JC Q1 (QE (Z11.C k)) (Qw 20 k Z11.L) Tryd.f72 [.t .str a0] (QJ (.t .bool))=Z11.F k a0:=by kernel_rfl
theorem Z11.step0 (k:Nat)(x0:ByteArray)(x3:List ByteArray)(x4:Int):Jp Q1 (QE (Z11.C k)) (Qw 20 k Z11.L) 0 (Ja Tryd.f72 0) (YF 20 Z11.sp0 (x0,x3,x4,())) (Z11.A0.cont 20 k)=Z11.l0 (k+1) x0 x3 x4:=by kernel_rfl
theorem Z11.G (hE:EnvOk Tryd.prog Q1)(pv:Nat->Value)(k:Nat):∀cal A,Z11.C k cal=some A->QB Tryd.prog Q1 pv cal A:=by
 intro cal A h
 unfold Z11.C at h
 split at h
 ·cases h;exact λx y hy=>Z35.good hE pv hy
 ·cases h
theorem Z11.good (hE:EnvOk Tryd.prog Q1)(pv:Nat->Value)(k:Nat)(a0:ByteArray){y:_}(h:Z11.F k a0=some y):Qd Tryd.prog Q1 pv (.f 72) (Q9 [.str] (a0,())) (.t .bool y):=
 Ji hE (t:=Z11.C) k (λk _=>Z11.G hE pv k) (f:=72) (fn:=Tryd.f72) (by kernel_rfl) rfl (by kernel_rfl) (by kernel_rfl) (lt:=Z11.L) (by kernel_rfl) (λb A h=>by
  unfold Z11.L at h;split at h
  ·cases h;exact⟨by kernel_rfl,by kernel_rfl,by kernel_rfl,λ_=>rfl,λ_=>rfl,λ_=>rfl⟩
  ·cases h) (λb A h=>by
  unfold Z11.L at h;split at h
  ·cases h;exact λk x=>Z11.step0 k x.1 x.2.1 x.2.2.1
  ·cases h) ((Z11.run k a0).trans h) (λr hr=>Qn hr)
def Z23.F (k:Nat)(a0:Query):Option (Bool):=bif (a0.op==1)then((Z10.F k a0.word).bind λr1=>bif r1 then((Z11.F k a0.field).bind λr2=>bif r2 then(some ((a0.parts.length:Int)==0))else(some false))else(some false))else(bif (a0.op==2)then(bif (Qk a0.word (⟨#[]⟩:ByteArray))then(bif (Qk a0.field (⟨#[]⟩:ByteArray))then(some ((a0.parts.length:Int)==1))else(some false))else(some false))else(bif (a0.op==3)then(bif (a0.op==3)then(bif (Qk a0.word (⟨#[]⟩:ByteArray))then(bif (Qk a0.field (⟨#[]⟩:ByteArray))then(some ((a0.parts.length:Int)==2))else(some false))else(some false))else(some false))else(bif (a0.op==4)then(bif (Qk a0.word (⟨#[]⟩:ByteArray))then(bif (Qk a0.field (⟨#[]⟩:ByteArray))then(some ((a0.parts.length:Int)==2))else(some false))else(some false))else(some false))))
def Z23.C (k:Nat):Cal->Option CArm:=λc=>match c with
 |.f 71=>some (.p [.str] _ (λx=>Z10.F k x.1) (λr=>(.t .bool r)))
 |.f 72=>some (.p [.str] _ (λx=>Z11.F k x.1) (λr=>(.t .bool r)))
 |_=>none
theorem Z23.run (k:Nat)(a0:Query):JC Q1 (QE (Z23.C k)) (Qw 54 0 (λ_=>none)) Tryd.f49 [.t .query a0] (QJ (.t .bool))=Z23.F k a0:=by kernel_rfl
theorem Z23.G (hE:EnvOk Tryd.prog Q1)(pv:Nat->Value)(k:Nat):∀cal A,Z23.C k cal=some A->QB Tryd.prog Q1 pv cal A:=by
 intro cal A h
 unfold Z23.C at h
 split at h
 ·cases h;exact λx y hy=>Z10.good hE pv k x.1 hy
 ·cases h;exact λx y hy=>Z11.good hE pv k x.1 hy
 ·cases h
theorem Z23.good (hE:EnvOk Tryd.prog Q1)(pv:Nat->Value)(k:Nat)(a0:Query){y:_}(h:Z23.F k a0=some y):Qd Tryd.prog Q1 pv (.f 49) (Q9 [.query] (a0,())) (.t .bool y):=
 Qr hE (Z23.G hE pv k) (f:=49) (fn:=Tryd.f49) (by kernel_rfl) rfl (by kernel_rfl) (by kernel_rfl) ((Z23.run k a0).trans h) (λr hr=>Qn hr)
mutual
def Z3.F:Nat->Query->Option (Bool)
 |0,_=>none
 |k+1,a0=>(Z23.F k a0).bind λr1=>bif (!r1)then(some false)else((Z3.l0 k a0 0).bind λy3=>match y3 with|.inl z4=>some z4|.inr z4=>some true)
def Z3.l0:Nat->Query->Int->Option (Sum Bool Unit)
 |0,_,_=>none
 |k+1,x1,x3=>bif (decide (x3<(x1.parts.length:Int)))then(bif decide (0<=x3)then(bif decide (x3<(x1.parts.length:Int))then((Z3.F k (x1.parts.getD (x3:Int).toNat (Q7 .query))).bind λr2=>bif (!r2)then(some (.inl false))else(Z3.l0 k x1 (IntKind.wrap .i64 (x3+1))))else none)else none)else(some (.inr ()))
end
def Z3.C (k:Nat):Cal->Option CArm:=λc=>match c with
 |.f 49=>some (.p [.query] _ (λx=>Z23.F k x.1) (λr=>(.t .bool r)))
 |.f 37=>some (.p [.query] _ (λx=>Z3.F k x.1) (λr=>(.t .bool r)))
 |_=>none
def Z3.sp0:List Sp:=[.boxT 1 0 .query,.t 3 (.int .i64)]
def Z3.sp0_0:List Sp:=[.t 2 .bool]
def Z3.sp0_1:List Sp:=[]
def Z3.A0:LArm:=.two Z3.sp0 Z3.sp0_0 Z3.sp0_1 (Bool) (Unit) (λk x=>Z3.l0 k x.1 x.2.1) .ret (.exit 0) (λy=>(y,())) (λx=>x.1) (λy=>()) (λx=>())
def Z3.L:Nat->Option LArm:=λb=>match b with
 |0=>some Z3.A0
 |_=>none
theorem Z3.run (k:Nat)(a0:Query):JC Q1 (QE (Z3.C k)) (Qw 21 k Z3.L) Tryd.f37 [.t .query a0] (QJ (.t .bool))=Z3.F (k+1) a0:=by kernel_rfl
theorem Z3.step0 (k:Nat)(x1:Query)(x3:Int):Jp Q1 (QE (Z3.C k)) (Qw 21 k Z3.L) 0 (Ja Tryd.f37 0) (YF 21 Z3.sp0 (x1,x3,())) (Z3.A0.cont 21 k)=Z3.l0 (k+1) x1 x3:=by kernel_rfl
def Z3.Gd (pv:Nat->Value)(k:Nat):Prop:=(∀(a0:Query) {y:_},Z3.F k a0=some y->Qd Tryd.prog Q1 pv (.f 37) (Q9 [.query] (a0,())) (.t .bool y))
theorem Z3.G (hE:EnvOk Tryd.prog Q1)(pv:Nat->Value)(k:Nat)(hI:Z3.Gd pv k):∀cal A,Z3.C k cal=some A->QB Tryd.prog Q1 pv cal A:=by
 intro cal A h
 unfold Z3.C at h
 split at h
 ·cases h;exact λx y hy=>Z23.good hE pv k x.1 hy
 ·cases h;exact λx y hy=>hI x.1 hy
 ·cases h
theorem Z3.gd (hE:EnvOk Tryd.prog Q1)(pv:Nat->Value)(k:Nat)(hI:∀k',k'<=k->Z3.Gd pv k')(a0:Query){y:_}(h:Z3.F (k+1) a0=some y):Qd Tryd.prog Q1 pv (.f 37) (Q9 [.query] (a0,())) (.t .bool y):=
 Ji hE (t:=Z3.C) k (λk hk=>Z3.G hE pv k (hI k hk)) (f:=37) (fn:=Tryd.f37) (by kernel_rfl) rfl (by kernel_rfl) (by kernel_rfl) (lt:=Z3.L) (by kernel_rfl) (λb A h=>by
  unfold Z3.L at h;split at h
  ·cases h;exact⟨by kernel_rfl,by kernel_rfl,by kernel_rfl,λ_=>rfl,λ_=>rfl,λ_=>rfl⟩
  ·cases h) (λb A h=>by
  unfold Z3.L at h;split at h
  ·cases h;exact λk x=>Z3.step0 k x.1 x.2.1
  ·cases h) ((Z3.run k a0).trans h) (λr hr=>Qn hr)
theorem Z3.all (hE:EnvOk Tryd.prog Q1)(pv:Nat->Value):∀k k',k'<=k->Z3.Gd pv k':=by
 intro k
 induction k with
 |zero=>
  intro k' hk
  obtain rfl:k'=0:=by omega
  exact λ_ y h=>by cases (show(none:Option _)=some y from h)
 |succ k ih=>
  intro k' hk
  rcases Nat.lt_or_ge k' (k+1)with hlt|hge
  ·exact ih k' (by omega)
  ·obtain rfl:k'=k+1:=by omega
   exact λa0 y h=>Z3.gd hE pv k ih a0 h
theorem Z3.good (hE:EnvOk Tryd.prog Q1)(pv:Nat->Value)(k:Nat)(a0:Query){y:_}(h:Z3.F k a0=some y):Qd Tryd.prog Q1 pv (.f 37) (Q9 [.query] (a0,())) (.t .bool y):=
 (Z3.all hE pv k k (Nat.le_refl k)) a0 h
mutual
def Z5.F:Nat->Query->Option (Int)
 |0,_=>none
 |k+1,a0=>(Z5.l0 k a0 1 0).bind λy2=>some y2
def Z5.l0:Nat->Query->Int->Int->Option (Int)
 |0,_,_,_=>none
 |k+1,x1,x3,x4=>bif (decide (x4<(x1.parts.length:Int)))then(bif decide (0<=x4)then(bif decide (x4<(x1.parts.length:Int))then((Z5.F k (x1.parts.getD (x4:Int).toNat (Q7 .query))).bind λr1=>Z5.l0 k x1 (IntKind.wrap .i64 (x3+r1)) (IntKind.wrap .i64 (x4+1)))else none)else none)else(some x3)
end
def Z5.C (k:Nat):Cal->Option CArm:=λc=>match c with
 |.f 38=>some (.p [.query] _ (λx=>Z5.F k x.1) (λr=>(.t (.int .i64) r)))
 |_=>none
def Z5.sp0:List Sp:=[.boxT 1 0 .query,.t 3 (.int .i64),.t 4 (.int .i64)]
def Z5.sp0_0:List Sp:=[.t 3 (.int .i64)]
def Z5.A0:LArm:=.one Z5.sp0 Z5.sp0_0 (Int) (λk x=>Z5.l0 k x.1 x.2.1 x.2.2.1) (.exit 0) (λy=>(y,())) (λx=>x.1)
def Z5.L:Nat->Option LArm:=λb=>match b with
 |0=>some Z5.A0
 |_=>none
theorem Z5.run (k:Nat)(a0:Query):JC Q1 (QE (Z5.C k)) (Qw 21 k Z5.L) Tryd.f38 [.t .query a0] (QJ (.t (.int .i64)))=Z5.F (k+1) a0:=by kernel_rfl
theorem Z5.step0 (k:Nat)(x1:Query)(x3:Int)(x4:Int):Jp Q1 (QE (Z5.C k)) (Qw 21 k Z5.L) 0 (Ja Tryd.f38 0) (YF 21 Z5.sp0 (x1,x3,x4,())) (Z5.A0.cont 21 k)=Z5.l0 (k+1) x1 x3 x4:=by kernel_rfl
def Z5.Gd (pv:Nat->Value)(k:Nat):Prop:=(∀(a0:Query) {y:_},Z5.F k a0=some y->Qd Tryd.prog Q1 pv (.f 38) (Q9 [.query] (a0,())) (.t (.int .i64) y))
theorem Z5.G (hE:EnvOk Tryd.prog Q1)(pv:Nat->Value)(k:Nat)(hI:Z5.Gd pv k):∀cal A,Z5.C k cal=some A->QB Tryd.prog Q1 pv cal A:=by
 intro cal A h
 unfold Z5.C at h
 split at h
 ·cases h;exact λx y hy=>hI x.1 hy
 ·cases h
theorem Z5.gd (hE:EnvOk Tryd.prog Q1)(pv:Nat->Value)(k:Nat)(hI:∀k',k'<=k->Z5.Gd pv k')(a0:Query){y:_}(h:Z5.F (k+1) a0=some y):Qd Tryd.prog Q1 pv (.f 38) (Q9 [.query] (a0,())) (.t (.int .i64) y):=
 Ji hE (t:=Z5.C) k (λk hk=>Z5.G hE pv k (hI k hk)) (f:=38) (fn:=Tryd.f38) (by kernel_rfl) rfl (by kernel_rfl) (by kernel_rfl) (lt:=Z5.L) (by kernel_rfl) (λb A h=>by
  unfold Z5.L at h;split at h
  ·cases h;exact⟨by kernel_rfl,by kernel_rfl,λ_=>rfl,λ_=>rfl⟩
  ·cases h) (λb A h=>by
  unfold Z5.L at h;split at h
  ·cases h;exact λk x=>Z5.step0 k x.1 x.2.1 x.2.2.1
  ·cases h) ((Z5.run k a0).trans h) (λr hr=>Qn hr)
theorem Z5.all (hE:EnvOk Tryd.prog Q1)(pv:Nat->Value):∀k k',k'<=k->Z5.Gd pv k':=by
 intro k
 induction k with
 |zero=>
  intro k' hk
  obtain rfl:k'=0:=by omega
  exact λ_ y h=>by cases (show(none:Option _)=some y from h)
 |succ k ih=>
  intro k' hk
  rcases Nat.lt_or_ge k' (k+1)with hlt|hge
  ·exact ih k' (by omega)
  ·obtain rfl:k'=k+1:=by omega
   exact λa0 y h=>Z5.gd hE pv k ih a0 h
theorem Z5.good (hE:EnvOk Tryd.prog Q1)(pv:Nat->Value)(k:Nat)(a0:Query){y:_}(h:Z5.F k a0=some y):Qd Tryd.prog Q1 pv (.f 38) (Q9 [.query] (a0,())) (.t (.int .i64) y):=
 (Z5.all hE pv k k (Nat.le_refl k)) a0 h
def Z24.F (k:Nat)(a0:Query):Option (Bool):=(Z3.F k a0).bind λr1=>bif r1 then((Z5.F k a0).bind λr2=>some (decide (r2<=15)))else(some false)
def Z24.C (k:Nat):Cal->Option CArm:=λc=>match c with
 |.f 37=>some (.p [.query] _ (λx=>Z3.F k x.1) (λr=>(.t .bool r)))
 |.f 38=>some (.p [.query] _ (λx=>Z5.F k x.1) (λr=>(.t (.int .i64) r)))
 |_=>none
theorem Z24.run (k:Nat)(a0:Query):JC Q1 (QE (Z24.C k)) (Qw 10 0 (λ_=>none)) Tryd.f21 [.t .query a0] (QJ (.t .bool))=Z24.F k a0:=by kernel_rfl
theorem Z24.G (hE:EnvOk Tryd.prog Q1)(pv:Nat->Value)(k:Nat):∀cal A,Z24.C k cal=some A->QB Tryd.prog Q1 pv cal A:=by
 intro cal A h
 unfold Z24.C at h
 split at h
 ·cases h;exact λx y hy=>Z3.good hE pv k x.1 hy
 ·cases h;exact λx y hy=>Z5.good hE pv k x.1 hy
 ·cases h
theorem Z24.good (hE:EnvOk Tryd.prog Q1)(pv:Nat->Value)(k:Nat)(a0:Query){y:_}(h:Z24.F k a0=some y):Qd Tryd.prog Q1 pv (.f 21) (Q9 [.query] (a0,())) (.t .bool y):=
 Qr hE (Z24.G hE pv k) (f:=21) (fn:=Tryd.f21) (by kernel_rfl) rfl (by kernel_rfl) (by kernel_rfl) ((Z24.run k a0).trans h) (λr hr=>Qn hr)
def Z16.F (a0:ByteArray)(a1:Int)(a2:ByteArray):Option (Bool):=bif (decide ((IntKind.wrap .i64 (a1+(a2.size:Int)))<=(a0.size:Int)))then(bif decide (0<=(IntKind.wrap .i64 (a1+(a2.size:Int))))then(bif decide ((IntKind.wrap .i64 (a1+(a2.size:Int)))<=(a0.size:Int))then(bif decide (0<=a1)then(bif decide (a1<=(IntKind.wrap .i64 (a1+(a2.size:Int))))then(some (Qk (a0.extract (a1:Int).toNat ((IntKind.wrap .i64 (a1+(a2.size:Int))):Int).toNat) a2))else none)else none)else none)else none)else(some false)
def Z16.C:Cal->Option CArm:=λc=>match c with
 |_=>none
theorem Z16.run (a0:ByteArray)(a1:Int)(a2:ByteArray):JC Q1 (QE Z16.C) (Qw 25 0 (λ_=>none)) Tryd.f41 [.t .str a0,.t (.int .i64) a1,.t .str a2] (QJ (.t .bool))=Z16.F a0 a1 a2:=by kernel_rfl
theorem Z16.G (hE:EnvOk Tryd.prog Q1)(pv:Nat->Value):∀cal A,Z16.C cal=some A->QB Tryd.prog Q1 pv cal A:=by
 intro cal A h
 unfold Z16.C at h
 cases h
theorem Z16.good (hE:EnvOk Tryd.prog Q1)(pv:Nat->Value)(a0:ByteArray)(a1:Int)(a2:ByteArray){y:_}(h:Z16.F a0 a1 a2=some y):Qd Tryd.prog Q1 pv (.f 41) (Q9 [.str,(.int .i64),.str] (a0,a1,a2,())) (.t .bool y):=
 Qr hE (Z16.G hE pv) (f:=41) (fn:=Tryd.f41) (by kernel_rfl) rfl (by kernel_rfl) (by kernel_rfl) ((Z16.run a0 a1 a2).trans h) (λr hr=>Qn hr)
mutual
def Z0.F:Nat->ByteArray->Int->Option (Query×Int)
 |0,_,_=>none
 |k+1,a0,a1=>(Z16.F a0 a1 (⟨#[110,111,116,32]⟩:ByteArray)).bind λr1=>bif r1 then((Z0.F k a0 (IntKind.wrap .i64 (a1+4))).bind λr2=>some ((Query.mk 2 (⟨#[]⟩:ByteArray) (⟨#[]⟩:ByteArray) ([r2.1]:List Query)),r2.2))else((Z16.F a0 a1 (⟨#[40]⟩:ByteArray)).bind λr3=>bif r3 then((Z0.F k a0 (IntKind.wrap .i64 (a1+1))).bind λr4=>bif (decide (r4.2 ≥ 0))then((Z16.F a0 r4.2 (⟨#[32,111,114,32]⟩:ByteArray)).bind λr5=>bif r5 then((Z0.F k a0 (IntKind.wrap .i64 (r4.2+4))).bind λr6=>bif (decide (r6.2<0))then(some ((Query.mk 0 (⟨#[]⟩:ByteArray) (⟨#[]⟩:ByteArray) ([]:List Query)),(-1)))else((Z16.F a0 r6.2 (⟨#[41]⟩:ByteArray)).bind λr7=>bif (!r7)then(some ((Query.mk 0 (⟨#[]⟩:ByteArray) (⟨#[]⟩:ByteArray) ([]:List Query)),(-1)))else(some ((Query.mk 4 (⟨#[]⟩:ByteArray) (⟨#[]⟩:ByteArray) ([r4.1,r6.1]:List Query)),(IntKind.wrap .i64 (r6.2+1))))))else(bif (decide (r4.2<0))then(some ((Query.mk 0 (⟨#[]⟩:ByteArray) (⟨#[]⟩:ByteArray) ([]:List Query)),(-1)))else((Z16.F a0 r4.2 (⟨#[32,97,110,100,32]⟩:ByteArray)).bind λr8=>bif (!r8)then(some ((Query.mk 0 (⟨#[]⟩:ByteArray) (⟨#[]⟩:ByteArray) ([]:List Query)),(-1)))else((Z0.F k a0 (IntKind.wrap .i64 (r4.2+5))).bind λr9=>bif (decide (r9.2<0))then(some ((Query.mk 0 (⟨#[]⟩:ByteArray) (⟨#[]⟩:ByteArray) ([]:List Query)),(-1)))else((Z16.F a0 r9.2 (⟨#[41]⟩:ByteArray)).bind λr10=>bif (!r10)then(some ((Query.mk 0 (⟨#[]⟩:ByteArray) (⟨#[]⟩:ByteArray) ([]:List Query)),(-1)))else(some ((Query.mk 3 (⟨#[]⟩:ByteArray) (⟨#[]⟩:ByteArray) ([r4.1,r9.1]:List Query)),(IntKind.wrap .i64 (r9.2+1)))))))))else(bif (decide (r4.2<0))then(some ((Query.mk 0 (⟨#[]⟩:ByteArray) (⟨#[]⟩:ByteArray) ([]:List Query)),(-1)))else((Z16.F a0 r4.2 (⟨#[32,97,110,100,32]⟩:ByteArray)).bind λr11=>bif (!r11)then(some ((Query.mk 0 (⟨#[]⟩:ByteArray) (⟨#[]⟩:ByteArray) ([]:List Query)),(-1)))else((Z0.F k a0 (IntKind.wrap .i64 (r4.2+5))).bind λr12=>bif (decide (r12.2<0))then(some ((Query.mk 0 (⟨#[]⟩:ByteArray) (⟨#[]⟩:ByteArray) ([]:List Query)),(-1)))else((Z16.F a0 r12.2 (⟨#[41]⟩:ByteArray)).bind λr13=>bif (!r13)then(some ((Query.mk 0 (⟨#[]⟩:ByteArray) (⟨#[]⟩:ByteArray) ([]:List Query)),(-1)))else(some ((Query.mk 3 (⟨#[]⟩:ByteArray) (⟨#[]⟩:ByteArray) ([r4.1,r12.1]:List Query)),(IntKind.wrap .i64 (r12.2+1)))))))))else((Z0.l1 k a0 a1 0 (⟨#[]⟩:ByteArray) (⟨#[]⟩:ByteArray) ([]:List Query) 0 (⟨#[]⟩:ByteArray) (⟨#[]⟩:ByteArray) ([]:List Query) a1).bind λy15=>bif (y15.2.2.2.2.2.2.2.2.2.2==y15.2.1)then(some ((Query.mk y15.2.2.2.2.2.2.1 y15.2.2.2.2.2.2.2.1 y15.2.2.2.2.2.2.2.2.1 y15.2.2.2.2.2.2.2.2.2.1),(-1)))else((Z16.F y15.1 y15.2.2.2.2.2.2.2.2.2.2 (⟨#[58]⟩:ByteArray)).bind λr16=>bif (!r16)then(bif decide (0<=y15.2.2.2.2.2.2.2.2.2.2)then(bif decide (y15.2.2.2.2.2.2.2.2.2.2<=(y15.1.size:Int))then(bif decide (0<=y15.2.1)then(bif decide (y15.2.1<=y15.2.2.2.2.2.2.2.2.2.2)then(some ((Query.mk 1 (⟨#[]⟩:ByteArray) (y15.1.extract (y15.2.1:Int).toNat (y15.2.2.2.2.2.2.2.2.2.2:Int).toNat) ([]:List Query)),y15.2.2.2.2.2.2.2.2.2.2))else none)else none)else none)else none)else((Z0.l3 k y15.1 y15.2.1 y15.2.2.1 y15.2.2.2.1 y15.2.2.2.2.1 y15.2.2.2.2.2.1 y15.2.2.2.2.2.2.2.2.2.2 (IntKind.wrap .i64 (y15.2.2.2.2.2.2.2.2.2.2+1))).bind λy18=>bif decide (0<=y18.2.2.2.2.2.2.1)then(bif decide (y18.2.2.2.2.2.2.1<=(y18.1.size:Int))then(bif decide (0<=y18.2.1)then(bif decide (y18.2.1<=y18.2.2.2.2.2.2.1)then(bif decide (0<=y18.2.2.2.2.2.2.2)then(bif decide (y18.2.2.2.2.2.2.2<=(y18.1.size:Int))then(bif decide (0<=(IntKind.wrap .i64 (y18.2.2.2.2.2.2.1+1)))then(bif decide ((IntKind.wrap .i64 (y18.2.2.2.2.2.2.1+1))<=y18.2.2.2.2.2.2.2)then(some ((Query.mk 1 (y18.1.extract (y18.2.1:Int).toNat (y18.2.2.2.2.2.2.1:Int).toNat) (y18.1.extract ((IntKind.wrap .i64 (y18.2.2.2.2.2.2.1+1)):Int).toNat (y18.2.2.2.2.2.2.2:Int).toNat) ([]:List Query)),y18.2.2.2.2.2.2.2))else none)else none)else none)else none)else none)else none)else none)else none))))
def Z0.l1:Nat->ByteArray->Int->Int->ByteArray->ByteArray->(List Query)->Int->ByteArray->ByteArray->(List Query)->Int->Option (ByteArray×Int×Int×ByteArray×ByteArray× (List Query)×Int×ByteArray×ByteArray× (List Query)×Int)
 |0,_,_,_,_,_,_,_,_,_,_,_=>none
 |k+1,x0,x1,x4_0,x4_1,x4_2,x4_3,x6_0,x6_1,x6_2,x6_3,x15=>bif (decide (x15<(x0.size:Int)))then(bif decide (0<=x15)then(bif decide (x15<(x0.size:Int))then((Z17.F (bt x0 (x15:Int).toNat)).bind λr14=>bif r14 then(Z0.l1 k x0 x1 x4_0 x4_1 x4_2 x4_3 x6_0 x6_1 x6_2 x6_3 (IntKind.wrap .i64 (x15+1)))else(some (x0,x1,x4_0,x4_1,x4_2,x4_3,x6_0,x6_1,x6_2,x6_3,x15)))else none)else none)else(some (x0,x1,x4_0,x4_1,x4_2,x4_3,x6_0,x6_1,x6_2,x6_3,x15))
def Z0.l3:Nat->ByteArray->Int->Int->ByteArray->ByteArray->(List Query)->Int->Int->Option (ByteArray×Int×Int×ByteArray×ByteArray× (List Query)×Int×Int)
 |0,_,_,_,_,_,_,_,_=>none
 |k+1,x0,x1,x4_0,x4_1,x4_2,x4_3,x15,x16=>bif (decide (x16<(x0.size:Int)))then(bif decide (0<=x16)then(bif decide (x16<(x0.size:Int))then((Z17.F (bt x0 (x16:Int).toNat)).bind λr17=>bif r17 then(Z0.l3 k x0 x1 x4_0 x4_1 x4_2 x4_3 x15 (IntKind.wrap .i64 (x16+1)))else(some (x0,x1,x4_0,x4_1,x4_2,x4_3,x15,x16)))else none)else none)else(some (x0,x1,x4_0,x4_1,x4_2,x4_3,x15,x16))
end
def Z0.C (k:Nat):Cal->Option CArm:=λc=>match c with
 |.f 41=>some (.p [.str,(.int .i64),.str] _ (λx=>Z16.F x.1 x.2.1 x.2.2.1) (λr=>(.t .bool r)))
 |.f 29=>some (.p [.str,(.int .i64)] _ (λx=>Z0.F k x.1 x.2.1) (λr=>(.tup [.t .query r.1,.t (.int .i64) r.2])))
 |.f 42=>some (.p [(.int .u8)] _ (λx=>Z17.F x.1) (λr=>(.t .bool r)))
 |_=>none
def Z0.sp1:List Sp:=[.t 0 .str,.t 1 (.int .i64),.boxF 4 0 .query [.t (.int .i64),.t .str,.t .str,.t (.sl .query)],.boxF 6 1028 .query [.t (.int .i64),.t .str,.t .str,.t (.sl .query)],.t 15 (.int .i64)]
def Z0.sp1_0:List Sp:=[.t 0 .str,.t 1 (.int .i64),.boxF 4 0 .query [.t (.int .i64),.t .str,.t .str,.t (.sl .query)],.boxF 6 1028 .query [.t (.int .i64),.t .str,.t .str,.t (.sl .query)],.t 15 (.int .i64)]
def Z0.A1:LArm:=.one Z0.sp1 Z0.sp1_0 (ByteArray×Int×Int×ByteArray×ByteArray× (List Query)×Int×ByteArray×ByteArray× (List Query)×Int) (λk x=>Z0.l1 k x.1 x.2.1 x.2.2.1.1 x.2.2.1.2.1 x.2.2.1.2.2.1 x.2.2.1.2.2.2.1 x.2.2.2.1.1 x.2.2.2.1.2.1 x.2.2.2.1.2.2.1 x.2.2.2.1.2.2.2.1 x.2.2.2.2.1) (.exit 1) (λy=>(y.1,y.2.1,(y.2.2.1,y.2.2.2.1,y.2.2.2.2.1,y.2.2.2.2.2.1,()),(y.2.2.2.2.2.2.1,y.2.2.2.2.2.2.2.1,y.2.2.2.2.2.2.2.2.1,y.2.2.2.2.2.2.2.2.2.1,()),y.2.2.2.2.2.2.2.2.2.2,())) (λx=>(x.1,x.2.1,x.2.2.1.1,x.2.2.1.2.1,x.2.2.1.2.2.1,x.2.2.1.2.2.2.1,x.2.2.2.1.1,x.2.2.2.1.2.1,x.2.2.2.1.2.2.1,x.2.2.2.1.2.2.2.1,x.2.2.2.2.1))
def Z0.sp3:List Sp:=[.t 0 .str,.t 1 (.int .i64),.boxF 4 0 .query [.t (.int .i64),.t .str,.t .str,.t (.sl .query)],.t 15 (.int .i64),.t 16 (.int .i64)]
def Z0.sp3_0:List Sp:=[.t 0 .str,.t 1 (.int .i64),.boxF 4 0 .query [.t (.int .i64),.t .str,.t .str,.t (.sl .query)],.t 15 (.int .i64),.t 16 (.int .i64)]
def Z0.A3:LArm:=.one Z0.sp3 Z0.sp3_0 (ByteArray×Int×Int×ByteArray×ByteArray× (List Query)×Int×Int) (λk x=>Z0.l3 k x.1 x.2.1 x.2.2.1.1 x.2.2.1.2.1 x.2.2.1.2.2.1 x.2.2.1.2.2.2.1 x.2.2.2.1 x.2.2.2.2.1) (.exit 3) (λy=>(y.1,y.2.1,(y.2.2.1,y.2.2.2.1,y.2.2.2.2.1,y.2.2.2.2.2.1,()),y.2.2.2.2.2.2.1,y.2.2.2.2.2.2.2,())) (λx=>(x.1,x.2.1,x.2.2.1.1,x.2.2.1.2.1,x.2.2.1.2.2.1,x.2.2.1.2.2.2.1,x.2.2.2.1,x.2.2.2.2.1))
def Z0.L:Nat->Option LArm:=λb=>match b with
 |1=>some Z0.A1
 |3=>some Z0.A3
 |_=>none
theorem Z0.run (k:Nat)(a0:ByteArray)(a1:Int):JC Q1 (QE (Z0.C k)) (Qw 136 k Z0.L) Tryd.f29 [.t .str a0,.t (.int .i64) a1] (XU (.t .query) (.t (.int .i64)))=Z0.F (k+1) a0 a1:=by kernel_rfl
theorem Z0.step1 (k:Nat)(x0:ByteArray)(x1:Int)(x4_0:Int)(x4_1:ByteArray)(x4_2:ByteArray)(x4_3:List Query)(x6_0:Int)(x6_1:ByteArray)(x6_2:ByteArray)(x6_3:List Query)(x15:Int):Jp Q1 (QE (Z0.C k)) (Qw 136 k Z0.L) 1 (Ja Tryd.f29 1) (YF 136 Z0.sp1 (x0,x1,(x4_0,x4_1,x4_2,x4_3,()),(x6_0,x6_1,x6_2,x6_3,()),x15,())) (Z0.A1.cont 136 k)=Z0.l1 (k+1) x0 x1 x4_0 x4_1 x4_2 x4_3 x6_0 x6_1 x6_2 x6_3 x15:=by kernel_rfl
theorem Z0.step3 (k:Nat)(x0:ByteArray)(x1:Int)(x4_0:Int)(x4_1:ByteArray)(x4_2:ByteArray)(x4_3:List Query)(x15:Int)(x16:Int):Jp Q1 (QE (Z0.C k)) (Qw 136 k Z0.L) 3 (Ja Tryd.f29 3) (YF 136 Z0.sp3 (x0,x1,(x4_0,x4_1,x4_2,x4_3,()),x15,x16,())) (Z0.A3.cont 136 k)=Z0.l3 (k+1) x0 x1 x4_0 x4_1 x4_2 x4_3 x15 x16:=by kernel_rfl
def Z0.Gd (pv:Nat->Value)(k:Nat):Prop:=(∀(a0:ByteArray) (a1:Int) {y:_},Z0.F k a0 a1=some y->Qd Tryd.prog Q1 pv (.f 29) (Q9 [.str,(.int .i64)] (a0,a1,())) (.tup [.t .query y.1,.t (.int .i64) y.2]))
theorem Z0.G (hE:EnvOk Tryd.prog Q1)(pv:Nat->Value)(k:Nat)(hI:Z0.Gd pv k):∀cal A,Z0.C k cal=some A->QB Tryd.prog Q1 pv cal A:=by
 intro cal A h
 unfold Z0.C at h
 split at h
 ·cases h;exact λx y hy=>Z16.good hE pv x.1 x.2.1 x.2.2.1 hy
 ·cases h;exact λx y hy=>hI x.1 x.2.1 hy
 ·cases h;exact λx y hy=>Z17.good hE pv x.1 hy
 ·cases h
theorem Z0.gd (hE:EnvOk Tryd.prog Q1)(pv:Nat->Value)(k:Nat)(hI:∀k',k'<=k->Z0.Gd pv k')(a0:ByteArray)(a1:Int){y:_}(h:Z0.F (k+1) a0 a1=some y):Qd Tryd.prog Q1 pv (.f 29) (Q9 [.str,(.int .i64)] (a0,a1,())) (.tup [.t .query y.1,.t (.int .i64) y.2]):=
 Ji hE (t:=Z0.C) k (λk hk=>Z0.G hE pv k (hI k hk)) (f:=29) (fn:=Tryd.f29) (by kernel_rfl) rfl (by kernel_rfl) (by kernel_rfl) (lt:=Z0.L) (by kernel_rfl) (λb A h=>by
  unfold Z0.L at h;split at h
  ·cases h;exact⟨by kernel_rfl,by kernel_rfl,λ_=>rfl,λ_=>rfl⟩
  ·cases h;exact⟨by kernel_rfl,by kernel_rfl,λ_=>rfl,λ_=>rfl⟩
  ·cases h) (λb A h=>by
  unfold Z0.L at h;split at h
  ·cases h;exact λk x=>Z0.step1 k x.1 x.2.1 x.2.2.1.1 x.2.2.1.2.1 x.2.2.1.2.2.1 x.2.2.1.2.2.2.1 x.2.2.2.1.1 x.2.2.2.1.2.1 x.2.2.2.1.2.2.1 x.2.2.2.1.2.2.2.1 x.2.2.2.2.1
  ·cases h;exact λk x=>Z0.step3 k x.1 x.2.1 x.2.2.1.1 x.2.2.1.2.1 x.2.2.1.2.2.1 x.2.2.1.2.2.2.1 x.2.2.2.1 x.2.2.2.2.1
  ·cases h) ((Z0.run k a0 a1).trans h) (λr hr=>Xl hr)
theorem Z0.all (hE:EnvOk Tryd.prog Q1)(pv:Nat->Value):∀k k',k'<=k->Z0.Gd pv k':=by
 intro k
 induction k with
 |zero=>
  intro k' hk
  obtain rfl:k'=0:=by omega
  exact λ_ _ y h=>by cases (show(none:Option _)=some y from h)
 |succ k ih=>
  intro k' hk
  rcases Nat.lt_or_ge k' (k+1)with hlt|hge
  ·exact ih k' (by omega)
  ·obtain rfl:k'=k+1:=by omega
   exact λa0 a1 y h=>Z0.gd hE pv k ih a0 a1 h
theorem Z0.good (hE:EnvOk Tryd.prog Q1)(pv:Nat->Value)(k:Nat)(a0:ByteArray)(a1:Int){y:_}(h:Z0.F k a0 a1=some y):Qd Tryd.prog Q1 pv (.f 29) (Q9 [.str,(.int .i64)] (a0,a1,())) (.tup [.t .query y.1,.t (.int .i64) y.2]):=
 (Z0.all hE pv k k (Nat.le_refl k)) a0 a1 h
def Z25.F (k:Nat)(a0:ByteArray):Option (Query×Bool):=bif (decide ((a0.size:Int) > 400))then(some ((Query.mk 0 (⟨#[]⟩:ByteArray) (⟨#[]⟩:ByteArray) ([]:List Query)),false))else((Z0.F k a0 0).bind λr1=>bif (r1.2 != (a0.size:Int))then(some ((Query.mk 0 (⟨#[]⟩:ByteArray) (⟨#[]⟩:ByteArray) ([]:List Query)),false))else((Z24.F k r1.1).bind λr2=>bif (!r2)then(some ((Query.mk 0 (⟨#[]⟩:ByteArray) (⟨#[]⟩:ByteArray) ([]:List Query)),false))else(some (r1.1,true))))
def Z25.C (k:Nat):Cal->Option CArm:=λc=>match c with
 |.f 29=>some (.p [.str,(.int .i64)] _ (λx=>Z0.F k x.1 x.2.1) (λr=>(.tup [.t .query r.1,.t (.int .i64) r.2])))
 |.f 21=>some (.p [.query] _ (λx=>Z24.F k x.1) (λr=>(.t .bool r)))
 |_=>none
theorem Z25.run (k:Nat)(a0:ByteArray):JC Q1 (QE (Z25.C k)) (Qw 26 0 (λ_=>none)) Tryd.f13 [.t .str a0] (XU (.t .query) (.t .bool))=Z25.F k a0:=by kernel_rfl
theorem Z25.G (hE:EnvOk Tryd.prog Q1)(pv:Nat->Value)(k:Nat):∀cal A,Z25.C k cal=some A->QB Tryd.prog Q1 pv cal A:=by
 intro cal A h
 unfold Z25.C at h
 split at h
 ·cases h;exact λx y hy=>Z0.good hE pv k x.1 x.2.1 hy
 ·cases h;exact λx y hy=>Z24.good hE pv k x.1 hy
 ·cases h
theorem Z25.good (hE:EnvOk Tryd.prog Q1)(pv:Nat->Value)(k:Nat)(a0:ByteArray){y:_}(h:Z25.F k a0=some y):Qd Tryd.prog Q1 pv (.f 13) (Q9 [.str] (a0,())) (.tup [.t .query y.1,.t .bool y.2]):=
 Qr hE (Z25.G hE pv k) (f:=13) (fn:=Tryd.f13) (by kernel_rfl) rfl (by kernel_rfl) (by kernel_rfl) ((Z25.run k a0).trans h) (λr hr=>Xl hr)
def Z26.F (a0:Int):Option (Bool):=bif (decide (a0 ≥ 97))then(some (decide (a0<=122)))else(some false)
def Z26.C:Cal->Option CArm:=λc=>match c with
 |_=>none
theorem Z26.run (a0:Int):JC Q1 (QE Z26.C) (Qw 9 0 (λ_=>none)) Tryd.f73 [.t (.int .u8) a0] (QJ (.t .bool))=Z26.F a0:=by kernel_rfl
theorem Z26.G (hE:EnvOk Tryd.prog Q1)(pv:Nat->Value):∀cal A,Z26.C cal=some A->QB Tryd.prog Q1 pv cal A:=by
 intro cal A h
 unfold Z26.C at h
 cases h
theorem Z26.good (hE:EnvOk Tryd.prog Q1)(pv:Nat->Value)(a0:Int){y:_}(h:Z26.F a0=some y):Qd Tryd.prog Q1 pv (.f 73) (Q9 [(.int .u8)] (a0,())) (.t .bool y):=
 Qr hE (Z26.G hE pv) (f:=73) (fn:=Tryd.f73) (by kernel_rfl) rfl (by kernel_rfl) (by kernel_rfl) ((Z26.run a0).trans h) (λr hr=>Qn hr)
def Z27.F (a0:Int):Option (Bool):=bif (decide (a0 ≥ 48))then(some (decide (a0<=57)))else(some false)
def Z27.C:Cal->Option CArm:=λc=>match c with
 |_=>none
theorem Z27.run (a0:Int):JC Q1 (QE Z27.C) (Qw 9 0 (λ_=>none)) Tryd.f74 [.t (.int .u8) a0] (QJ (.t .bool))=Z27.F a0:=by kernel_rfl
theorem Z27.G (hE:EnvOk Tryd.prog Q1)(pv:Nat->Value):∀cal A,Z27.C cal=some A->QB Tryd.prog Q1 pv cal A:=by
 intro cal A h
 unfold Z27.C at h
 cases h
theorem Z27.good (hE:EnvOk Tryd.prog Q1)(pv:Nat->Value)(a0:Int){y:_}(h:Z27.F a0=some y):Qd Tryd.prog Q1 pv (.f 74) (Q9 [(.int .u8)] (a0,())) (.t .bool y):=
 Qr hE (Z27.G hE pv) (f:=74) (fn:=Tryd.f74) (by kernel_rfl) rfl (by kernel_rfl) (by kernel_rfl) ((Z27.run a0).trans h) (λr hr=>Qn hr)
def Z28.F (a0:Int)(a1:Int)(a2:Int):Option (Bool):=bif (decide (a0 ≥ a1))then(some (decide (a0<=a2)))else(some false)
def Z28.C:Cal->Option CArm:=λc=>match c with
 |_=>none
theorem Z28.run (a0:Int)(a1:Int)(a2:Int):JC Q1 (QE Z28.C) (Qw 15 0 (λ_=>none)) Tryd.f75 [.t (.int .i64) a0,.t (.int .i64) a1,.t (.int .i64) a2] (QJ (.t .bool))=Z28.F a0 a1 a2:=by kernel_rfl
theorem Z28.G (hE:EnvOk Tryd.prog Q1)(pv:Nat->Value):∀cal A,Z28.C cal=some A->QB Tryd.prog Q1 pv cal A:=by
 intro cal A h
 unfold Z28.C at h
 cases h
theorem Z28.good (hE:EnvOk Tryd.prog Q1)(pv:Nat->Value)(a0:Int)(a1:Int)(a2:Int){y:_}(h:Z28.F a0 a1 a2=some y):Qd Tryd.prog Q1 pv (.f 75) (Q9 [(.int .i64),(.int .i64),(.int .i64)] (a0,a1,a2,())) (.t .bool y):=
 Qr hE (Z28.G hE pv) (f:=75) (fn:=Tryd.f75) (by kernel_rfl) rfl (by kernel_rfl) (by kernel_rfl) ((Z28.run a0 a1 a2).trans h) (λr hr=>Qn hr)
def Z9.l0:Nat->ByteArray->Int->Option (Sum Bool ByteArray)
 |0,_,_=>none
 |k+1,x0,x3=>bif (decide (x3<(x0.size:Int)))then(bif decide (0<=x3)then(bif decide (x3<(x0.size:Int))then((Z26.F (bt x0 (x3:Int).toNat)).bind λr1=>bif (!r1)then(bif decide (0<=x3)then(bif decide (x3<(x0.size:Int))then((Z27.F (bt x0 (x3:Int).toNat)).bind λr2=>bif (!r2)then(some (.inl false))else(Z9.l0 k x0 (IntKind.wrap .i64 (x3+1))))else none)else none)else(Z9.l0 k x0 (IntKind.wrap .i64 (x3+1))))else none)else none)else(some (.inr x0))
def Z9.F (k:Nat)(a0:ByteArray):Option (Bool):=(Z9.l0 k a0 0).bind λy3=>match y3 with|.inl z4=>some z4|.inr z4=>(Z28.F (z4.size:Int) 1 15).bind λr5=>bif r5 then(bif (!Qk z4 (⟨#[110,111,116]⟩:ByteArray))then(bif (!Qk z4 (⟨#[97,110,100]⟩:ByteArray))then(some (!Qk z4 (⟨#[111,114]⟩:ByteArray)))else(some false))else(some false))else(some false)
def Z9.C (k:Nat):Cal->Option CArm:=λc=>match c with
 |.f 73=>some (.p [(.int .u8)] _ (λx=>Z26.F x.1) (λr=>(.t .bool r)))
 |.f 74=>some (.p [(.int .u8)] _ (λx=>Z27.F x.1) (λr=>(.t .bool r)))
 |.f 75=>some (.p [(.int .i64),(.int .i64),(.int .i64)] _ (λx=>Z28.F x.1 x.2.1 x.2.2.1) (λr=>(.t .bool r)))
 |_=>none
def Z9.sp0:List Sp:=[.t 0 .str,.t 3 (.int .i64)]
def Z9.sp0_0:List Sp:=[.t 2 .bool]
def Z9.sp0_1:List Sp:=[.t 0 .str]
def Z9.A0:LArm:=.two Z9.sp0 Z9.sp0_0 Z9.sp0_1 (Bool) (ByteArray) (λk x=>Z9.l0 k x.1 x.2.1) .ret (.exit 0) (λy=>(y,())) (λx=>x.1) (λy=>(y,())) (λx=>x.1)
def Z9.L:Nat->Option LArm:=λb=>match b with
 |0=>some Z9.A0
 |_=>none
theorem Z9.run (k:Nat)(a0:ByteArray):JC Q1 (QE (Z9.C k)) (Qw 37 k Z9.L) Tryd.f51 [.t .str a0] (QJ (.t .bool))=Z9.F k a0:=by kernel_rfl
theorem Z9.step0 (k:Nat)(x0:ByteArray)(x3:Int):Jp Q1 (QE (Z9.C k)) (Qw 37 k Z9.L) 0 (Ja Tryd.f51 0) (YF 37 Z9.sp0 (x0,x3,())) (Z9.A0.cont 37 k)=Z9.l0 (k+1) x0 x3:=by kernel_rfl
theorem Z9.G (hE:EnvOk Tryd.prog Q1)(pv:Nat->Value)(k:Nat):∀cal A,Z9.C k cal=some A->QB Tryd.prog Q1 pv cal A:=by
 intro cal A h
 unfold Z9.C at h
 split at h
 ·cases h;exact λx y hy=>Z26.good hE pv x.1 hy
 ·cases h;exact λx y hy=>Z27.good hE pv x.1 hy
 ·cases h;exact λx y hy=>Z28.good hE pv x.1 x.2.1 x.2.2.1 hy
 ·cases h
theorem Z9.good (hE:EnvOk Tryd.prog Q1)(pv:Nat->Value)(k:Nat)(a0:ByteArray){y:_}(h:Z9.F k a0=some y):Qd Tryd.prog Q1 pv (.f 51) (Q9 [.str] (a0,())) (.t .bool y):=
 Ji hE (t:=Z9.C) k (λk _=>Z9.G hE pv k) (f:=51) (fn:=Tryd.f51) (by kernel_rfl) rfl (by kernel_rfl) (by kernel_rfl) (lt:=Z9.L) (by kernel_rfl) (λb A h=>by
  unfold Z9.L at h;split at h
  ·cases h;exact⟨by kernel_rfl,by kernel_rfl,by kernel_rfl,λ_=>rfl,λ_=>rfl,λ_=>rfl⟩
  ·cases h) (λb A h=>by
  unfold Z9.L at h;split at h
  ·cases h;exact λk x=>Z9.step0 k x.1 x.2.1
  ·cases h) ((Z9.run k a0).trans h) (λr hr=>Qn hr)
def Z12.l0:Nat->(List ByteArray)->ByteArray->Int->Int->Option (Sum Int Unit)
 |0,_,_,_,_=>none
 |k+1,x0,x1,x7,x8=>bif (decide (x8<x7))then(bif decide (0<=x8)then(bif decide (x8<(x0.length:Int))then(bif (Qk x1 (x0.getD (x8:Int).toNat (⟨#[]⟩:ByteArray)))then(some (.inl x8))else(Z12.l0 k x0 x1 x7 (IntKind.wrap .i64 (x8+1))))else none)else none)else(some (.inr ()))
def Z12.F (k:Nat)(a0:List ByteArray)(a1:ByteArray):Option (Int):=(Z12.l0 k a0 a1 (a0.length:Int) 0).bind λy1=>match y1 with|.inl z2=>some z2|.inr z2=>some (-1)
def Z12.C (k:Nat):Cal->Option CArm:=λc=>match c with
 |_=>none
def Z12.sp0:List Sp:=[.t 0 (.sl .str),.t 1 .str,.t 7 (.int .i64),.t 8 (.int .i64)]
def Z12.sp0_0:List Sp:=[.t 4 (.int .i64)]
def Z12.sp0_1:List Sp:=[]
def Z12.A0:LArm:=.two Z12.sp0 Z12.sp0_0 Z12.sp0_1 (Int) (Unit) (λk x=>Z12.l0 k x.1 x.2.1 x.2.2.1 x.2.2.2.1) .ret (.exit 0) (λy=>(y,())) (λx=>x.1) (λy=>()) (λx=>())
def Z12.L:Nat->Option LArm:=λb=>match b with
 |0=>some Z12.A0
 |_=>none
theorem Z12.run (k:Nat)(a0:List ByteArray)(a1:ByteArray):JC Q1 (QE (Z12.C k)) (Qw 19 k Z12.L) Tryd.f91 [.t (.sl .str) a0,.t .str a1] (QJ (.t (.int .i64)))=Z12.F k a0 a1:=by kernel_rfl
theorem Z12.step0 (k:Nat)(x0:List ByteArray)(x1:ByteArray)(x7:Int)(x8:Int):Jp Q1 (QE (Z12.C k)) (Qw 19 k Z12.L) 0 (Ja Tryd.f91 0) (YF 19 Z12.sp0 (x0,x1,x7,x8,())) (Z12.A0.cont 19 k)=Z12.l0 (k+1) x0 x1 x7 x8:=by kernel_rfl
theorem Z12.G (hE:EnvOk Tryd.prog Q1)(pv:Nat->Value)(k:Nat):∀cal A,Z12.C k cal=some A->QB Tryd.prog Q1 pv cal A:=by
 intro cal A h
 unfold Z12.C at h
 cases h
theorem Z12.good (hE:EnvOk Tryd.prog Q1)(pv:Nat->Value)(k:Nat)(a0:List ByteArray)(a1:ByteArray){y:_}(h:Z12.F k a0 a1=some y):Qd Tryd.prog Q1 pv (.f 91) (Q9 [(.sl .str),.str] (a0,a1,())) (.t (.int .i64) y):=
 Ji hE (t:=Z12.C) k (λk _=>Z12.G hE pv k) (f:=91) (fn:=Tryd.f91) (by kernel_rfl) rfl (by kernel_rfl) (by kernel_rfl) (lt:=Z12.L) (by kernel_rfl) (λb A h=>by
  unfold Z12.L at h;split at h
  ·cases h;exact⟨by kernel_rfl,by kernel_rfl,by kernel_rfl,λ_=>rfl,λ_=>rfl,λ_=>rfl⟩
  ·cases h) (λb A h=>by
  unfold Z12.L at h;split at h
  ·cases h;exact λk x=>Z12.step0 k x.1 x.2.1 x.2.2.1 x.2.2.2.1
  ·cases h) ((Z12.run k a0 a1).trans h) (λr hr=>Qn hr)
def Z29.F (k:Nat)(a0:List ByteArray)(a1:ByteArray):Option (Bool):=(Z12.F k a0 a1).bind λr1=>some (decide (r1 ≥ 0))
def Z29.C (k:Nat):Cal->Option CArm:=λc=>match c with
 |.f 91=>some (.p [(.sl .str),.str] _ (λx=>Z12.F k x.1 x.2.1) (λr=>(.t (.int .i64) r)))
 |_=>none
theorem Z29.run (k:Nat)(a0:List ByteArray)(a1:ByteArray):JC Q1 (QE (Z29.C k)) (Qw 9 0 (λ_=>none)) Tryd.f76 [.t (.sl .str) a0,.t .str a1] (QJ (.t .bool))=Z29.F k a0 a1:=by kernel_rfl
theorem Z29.G (hE:EnvOk Tryd.prog Q1)(pv:Nat->Value)(k:Nat):∀cal A,Z29.C k cal=some A->QB Tryd.prog Q1 pv cal A:=by
 intro cal A h
 unfold Z29.C at h
 split at h
 ·cases h;exact λx y hy=>Z12.good hE pv k x.1 x.2.1 hy
 ·cases h
theorem Z29.good (hE:EnvOk Tryd.prog Q1)(pv:Nat->Value)(k:Nat)(a0:List ByteArray)(a1:ByteArray){y:_}(h:Z29.F k a0 a1=some y):Qd Tryd.prog Q1 pv (.f 76) (Q9 [(.sl .str),.str] (a0,a1,())) (.t .bool y):=
 Qr hE (Z29.G hE pv k) (f:=76) (fn:=Tryd.f76) (by kernel_rfl) rfl (by kernel_rfl) (by kernel_rfl) ((Z29.run k a0 a1).trans h) (λr hr=>Qn hr)
def Z30.F (k:Nat)(a0:ByteArray):Option (Bool):=(Z29.F k XH a0).bind λr1=>some r1
def Z30.C (k:Nat):Cal->Option CArm:=λc=>match c with
 |.f 76=>some (.p [(.sl .str),.str] _ (λx=>Z29.F k x.1 x.2.1) (λr=>(.t .bool r)))
 |_=>none
theorem Z30.run (k:Nat)(a0:ByteArray):JC Q1 (QE (Z30.C k)) (Qw 6 0 (λ_=>none)) Tryd.f52 [.t .str a0] (QJ (.t .bool))=Z30.F k a0:=by kernel_rfl
theorem Z30.G (hE:EnvOk Tryd.prog Q1)(pv:Nat->Value)(k:Nat):∀cal A,Z30.C k cal=some A->QB Tryd.prog Q1 pv cal A:=by
 intro cal A h
 unfold Z30.C at h
 split at h
 ·cases h;exact λx y hy=>Z29.good hE pv k x.1 x.2.1 hy
 ·cases h
theorem Z30.good (hE:EnvOk Tryd.prog Q1)(pv:Nat->Value)(k:Nat)(a0:ByteArray){y:_}(h:Z30.F k a0=some y):Qd Tryd.prog Q1 pv (.f 52) (Q9 [.str] (a0,())) (.t .bool y):=
 Qr hE (Z30.G hE pv k) (f:=52) (fn:=Tryd.f52) (by kernel_rfl) rfl (by kernel_rfl) (by kernel_rfl) ((Z30.run k a0).trans h) (λr hr=>Qn hr)
mutual
def Z1.F:Nat->Query->Int->Option (Int×Bool)
 |0,_,_=>none
 |k+1,a0,a1=>bif (decide (a1<1))then(some (0,false))else(bif (a0.op==1)then((Z9.F k a0.word).bind λr1=>bif r1 then(bif (Qk a0.field (⟨#[]⟩:ByteArray))then((Z1.l1 k a1 ((a0.parts.length:Int)==0) 1 a0.parts (a0.parts.length:Int) 0).bind λy3=>match y3 with|.inl z4=>some (z4.1,z4.2)|.inr z4=>some (z4.2,z4.1))else((Z30.F k a0.field).bind λr5=>bif r5 then((Z1.l1 k a1 ((a0.parts.length:Int)==0) 1 a0.parts (a0.parts.length:Int) 0).bind λy7=>match y7 with|.inl z8=>some (z8.1,z8.2)|.inr z8=>some (z8.2,z8.1))else((Z1.l1 k a1 false 1 a0.parts (a0.parts.length:Int) 0).bind λy10=>match y10 with|.inl z11=>some (z11.1,z11.2)|.inr z11=>some (z11.2,z11.1))))else((Z1.l1 k a1 false 1 a0.parts (a0.parts.length:Int) 0).bind λy13=>match y13 with|.inl z14=>some (z14.1,z14.2)|.inr z14=>some (z14.2,z14.1)))else(bif (a0.op==2)then(bif (Qk a0.word (⟨#[]⟩:ByteArray))then(bif (Qk a0.field (⟨#[]⟩:ByteArray))then((Z1.l1 k a1 ((a0.parts.length:Int)==1) 1 a0.parts (a0.parts.length:Int) 0).bind λy16=>match y16 with|.inl z17=>some (z17.1,z17.2)|.inr z17=>some (z17.2,z17.1))else((Z1.l1 k a1 false 1 a0.parts (a0.parts.length:Int) 0).bind λy19=>match y19 with|.inl z20=>some (z20.1,z20.2)|.inr z20=>some (z20.2,z20.1)))else((Z1.l1 k a1 false 1 a0.parts (a0.parts.length:Int) 0).bind λy22=>match y22 with|.inl z23=>some (z23.1,z23.2)|.inr z23=>some (z23.2,z23.1)))else(bif (a0.op==3)then(bif (a0.op==3)then(bif (Qk a0.word (⟨#[]⟩:ByteArray))then(bif (Qk a0.field (⟨#[]⟩:ByteArray))then((Z1.l1 k a1 ((a0.parts.length:Int)==2) 1 a0.parts (a0.parts.length:Int) 0).bind λy25=>match y25 with|.inl z26=>some (z26.1,z26.2)|.inr z26=>some (z26.2,z26.1))else((Z1.l1 k a1 false 1 a0.parts (a0.parts.length:Int) 0).bind λy28=>match y28 with|.inl z29=>some (z29.1,z29.2)|.inr z29=>some (z29.2,z29.1)))else((Z1.l1 k a1 false 1 a0.parts (a0.parts.length:Int) 0).bind λy31=>match y31 with|.inl z32=>some (z32.1,z32.2)|.inr z32=>some (z32.2,z32.1)))else((Z1.l1 k a1 false 1 a0.parts (a0.parts.length:Int) 0).bind λy34=>match y34 with|.inl z35=>some (z35.1,z35.2)|.inr z35=>some (z35.2,z35.1)))else(bif (a0.op==4)then(bif (Qk a0.word (⟨#[]⟩:ByteArray))then(bif (Qk a0.field (⟨#[]⟩:ByteArray))then((Z1.l1 k a1 ((a0.parts.length:Int)==2) 1 a0.parts (a0.parts.length:Int) 0).bind λy37=>match y37 with|.inl z38=>some (z38.1,z38.2)|.inr z38=>some (z38.2,z38.1))else((Z1.l1 k a1 false 1 a0.parts (a0.parts.length:Int) 0).bind λy40=>match y40 with|.inl z41=>some (z41.1,z41.2)|.inr z41=>some (z41.2,z41.1)))else((Z1.l1 k a1 false 1 a0.parts (a0.parts.length:Int) 0).bind λy43=>match y43 with|.inl z44=>some (z44.1,z44.2)|.inr z44=>some (z44.2,z44.1)))else((Z1.l1 k a1 false 1 a0.parts (a0.parts.length:Int) 0).bind λy46=>match y46 with|.inl z47=>some (z47.1,z47.2)|.inr z47=>some (z47.2,z47.1))))))
def Z1.l1:Nat->Int->Bool->Int->(List Query)->Int->Int->Option (Sum (Int×Bool) (Bool×Int))
 |0,_,_,_,_,_,_=>none
 |k+1,x1,x6,x7,x71,x72,x73=>bif (decide (x73<x72))then(bif decide (0<=x73)then(bif decide (x73<(x71.length:Int))then(bif (!x6)then(some (.inl (0,false)))else((Z1.F k (x71.getD (x73:Int).toNat (Q7 .query)) (IntKind.wrap .i64 (x1-x7))).bind λr45=>Z1.l1 k x1 r45.2 (IntKind.wrap .i64 (x7+r45.1)) x71 x72 (IntKind.wrap .i64 (x73+1))))else none)else none)else(some (.inr (x6,x7)))
end
def Z1.C (k:Nat):Cal->Option CArm:=λc=>match c with
 |.f 51=>some (.p [.str] _ (λx=>Z9.F k x.1) (λr=>(.t .bool r)))
 |.f 40=>some (.p [.query,(.int .i64)] _ (λx=>Z1.F k x.1 x.2.1) (λr=>(.tup [.t (.int .i64) r.1,.t .bool r.2])))
 |.f 52=>some (.p [.str] _ (λx=>Z30.F k x.1) (λr=>(.t .bool r)))
 |_=>none
def Z1.sp1:List Sp:=[.t 1 (.int .i64),.t 6 .bool,.t 7 (.int .i64),.t 71 (.sl .query),.t 72 (.int .i64),.t 73 (.int .i64)]
def Z1.sp1_0:List Sp:=[.t 4 (.int .i64),.t 5 .bool]
def Z1.sp1_1:List Sp:=[.t 6 .bool,.t 7 (.int .i64)]
def Z1.A1:LArm:=.two Z1.sp1 Z1.sp1_0 Z1.sp1_1 (Int×Bool) (Bool×Int) (λk x=>Z1.l1 k x.1 x.2.1 x.2.2.1 x.2.2.2.1 x.2.2.2.2.1 x.2.2.2.2.2.1) .ret (.exit 1) (λy=>(y.1,y.2,())) (λx=>(x.1,x.2.1)) (λy=>(y.1,y.2,())) (λx=>(x.1,x.2.1))
def Z1.L:Nat->Option LArm:=λb=>match b with
 |1=>some Z1.A1
 |_=>none
theorem Z1.run (k:Nat)(a0:Query)(a1:Int):JC Q1 (QE (Z1.C k)) (Qw 94 k Z1.L) Tryd.f40 [.t .query a0,.t (.int .i64) a1] (XU (.t (.int .i64)) (.t .bool))=Z1.F (k+1) a0 a1:=by kernel_rfl
theorem Z1.step1 (k:Nat)(x1:Int)(x6:Bool)(x7:Int)(x71:List Query)(x72:Int)(x73:Int):Jp Q1 (QE (Z1.C k)) (Qw 94 k Z1.L) 1 (Ja Tryd.f40 1) (YF 94 Z1.sp1 (x1,x6,x7,x71,x72,x73,())) (Z1.A1.cont 94 k)=Z1.l1 (k+1) x1 x6 x7 x71 x72 x73:=by kernel_rfl
def Z1.Gd (pv:Nat->Value)(k:Nat):Prop:=(∀(a0:Query) (a1:Int) {y:_},Z1.F k a0 a1=some y->Qd Tryd.prog Q1 pv (.f 40) (Q9 [.query,(.int .i64)] (a0,a1,())) (.tup [.t (.int .i64) y.1,.t .bool y.2]))
theorem Z1.G (hE:EnvOk Tryd.prog Q1)(pv:Nat->Value)(k:Nat)(hI:Z1.Gd pv k):∀cal A,Z1.C k cal=some A->QB Tryd.prog Q1 pv cal A:=by
 intro cal A h
 unfold Z1.C at h
 split at h
 ·cases h;exact λx y hy=>Z9.good hE pv k x.1 hy
 ·cases h;exact λx y hy=>hI x.1 x.2.1 hy
 ·cases h;exact λx y hy=>Z30.good hE pv k x.1 hy
 ·cases h
theorem Z1.gd (hE:EnvOk Tryd.prog Q1)(pv:Nat->Value)(k:Nat)(hI:∀k',k'<=k->Z1.Gd pv k')(a0:Query)(a1:Int){y:_}(h:Z1.F (k+1) a0 a1=some y):Qd Tryd.prog Q1 pv (.f 40) (Q9 [.query,(.int .i64)] (a0,a1,())) (.tup [.t (.int .i64) y.1,.t .bool y.2]):=
 Ji hE (t:=Z1.C) k (λk hk=>Z1.G hE pv k (hI k hk)) (f:=40) (fn:=Tryd.f40) (by kernel_rfl) rfl (by kernel_rfl) (by kernel_rfl) (lt:=Z1.L) (by kernel_rfl) (λb A h=>by
  unfold Z1.L at h;split at h
  ·cases h;exact⟨by kernel_rfl,by kernel_rfl,by kernel_rfl,λ_=>rfl,λ_=>rfl,λ_=>rfl⟩
  ·cases h) (λb A h=>by
  unfold Z1.L at h;split at h
  ·cases h;exact λk x=>Z1.step1 k x.1 x.2.1 x.2.2.1 x.2.2.2.1 x.2.2.2.2.1 x.2.2.2.2.2.1
  ·cases h) ((Z1.run k a0 a1).trans h) (λr hr=>Xl hr)
theorem Z1.all (hE:EnvOk Tryd.prog Q1)(pv:Nat->Value):∀k k',k'<=k->Z1.Gd pv k':=by
 intro k
 induction k with
 |zero=>
  intro k' hk
  obtain rfl:k'=0:=by omega
  exact λ_ _ y h=>by cases (show(none:Option _)=some y from h)
 |succ k ih=>
  intro k' hk
  rcases Nat.lt_or_ge k' (k+1)with hlt|hge
  ·exact ih k' (by omega)
  ·obtain rfl:k'=k+1:=by omega
   exact λa0 a1 y h=>Z1.gd hE pv k ih a0 a1 h
theorem Z1.good (hE:EnvOk Tryd.prog Q1)(pv:Nat->Value)(k:Nat)(a0:Query)(a1:Int){y:_}(h:Z1.F k a0 a1=some y):Qd Tryd.prog Q1 pv (.f 40) (Q9 [.query,(.int .i64)] (a0,a1,())) (.tup [.t (.int .i64) y.1,.t .bool y.2]):=
 (Z1.all hE pv k k (Nat.le_refl k)) a0 a1 h
def Z20.F (k:Nat)(a0:Query):Option (Bool):=(Z1.F k a0 15).bind λr1=>some r1.2
def Z20.C (k:Nat):Cal->Option CArm:=λc=>match c with
 |.f 40=>some (.p [.query,(.int .i64)] _ (λx=>Z1.F k x.1 x.2.1) (λr=>(.tup [.t (.int .i64) r.1,.t .bool r.2])))
 |_=>none
theorem Z20.run (k:Nat)(a0:Query):JC Q1 (QE (Z20.C k)) (Qw 11 0 (λ_=>none)) Tryd.f24 [.t .query a0] (QJ (.t .bool))=Z20.F k a0:=by kernel_rfl
theorem Z20.G (hE:EnvOk Tryd.prog Q1)(pv:Nat->Value)(k:Nat):∀cal A,Z20.C k cal=some A->QB Tryd.prog Q1 pv cal A:=by
 intro cal A h
 unfold Z20.C at h
 split at h
 ·cases h;exact λx y hy=>Z1.good hE pv k x.1 x.2.1 hy
 ·cases h
theorem Z20.good (hE:EnvOk Tryd.prog Q1)(pv:Nat->Value)(k:Nat)(a0:Query){y:_}(h:Z20.F k a0=some y):Qd Tryd.prog Q1 pv (.f 24) (Q9 [.query] (a0,())) (.t .bool y):=
 Qr hE (Z20.G hE pv k) (f:=24) (fn:=Tryd.f24) (by kernel_rfl) rfl (by kernel_rfl) (by kernel_rfl) ((Z20.run k a0).trans h) (λr hr=>Qn hr)
def Z31.F (a0:ByteArray)(a1:ByteArray):Option (Bool):=bif (decide ((a0.size:Int) ≥ (a1.size:Int)))then(bif decide (0<=(a1.size:Int))then(bif decide ((a1.size:Int)<=(a0.size:Int))then(some (Qk (a0.extract 0 ((a1.size:Int):Int).toNat) a1))else none)else none)else(some false)
def Z31.C:Cal->Option CArm:=λc=>match c with
 |_=>none
theorem Z31.run (a0:ByteArray)(a1:ByteArray):JC Q1 (QE Z31.C) (Qw 18 0 (λ_=>none)) Tryd.f77 [.t .str a0,.t .str a1] (QJ (.t .bool))=Z31.F a0 a1:=by kernel_rfl
theorem Z31.G (hE:EnvOk Tryd.prog Q1)(pv:Nat->Value):∀cal A,Z31.C cal=some A->QB Tryd.prog Q1 pv cal A:=by
 intro cal A h
 unfold Z31.C at h
 cases h
theorem Z31.good (hE:EnvOk Tryd.prog Q1)(pv:Nat->Value)(a0:ByteArray)(a1:ByteArray){y:_}(h:Z31.F a0 a1=some y):Qd Tryd.prog Q1 pv (.f 77) (Q9 [.str,.str] (a0,a1,())) (.t .bool y):=
 Qr hE (Z31.G hE pv) (f:=77) (fn:=Tryd.f77) (by kernel_rfl) rfl (by kernel_rfl) (by kernel_rfl) ((Z31.run a0 a1).trans h) (λr hr=>Qn hr)
def Z32.F (a0:ByteArray)(a1:ByteArray):Option (ByteArray×Bool):=(Z31.F a0 a1).bind λr1=>bif (!r1)then(some (a0,false))else(bif decide (0<=(a1.size:Int))then(bif decide ((a1.size:Int)<=(a0.size:Int))then(some ((a0.extract ((a1.size:Int):Int).toNat a0.size),true))else none)else none)
def Z32.C:Cal->Option CArm:=λc=>match c with
 |.f 77=>some (.p [.str,.str] _ (λx=>Z31.F x.1 x.2.1) (λr=>(.t .bool r)))
 |_=>none
theorem Z32.run (a0:ByteArray)(a1:ByteArray):JC Q1 (QE Z32.C) (Qw 15 0 (λ_=>none)) Tryd.f54 [.t .str a0,.t .str a1] (XU (.t .str) (.t .bool))=Z32.F a0 a1:=by kernel_rfl
theorem Z32.G (hE:EnvOk Tryd.prog Q1)(pv:Nat->Value):∀cal A,Z32.C cal=some A->QB Tryd.prog Q1 pv cal A:=by
 intro cal A h
 unfold Z32.C at h
 split at h
 ·cases h;exact λx y hy=>Z31.good hE pv x.1 x.2.1 hy
 ·cases h
theorem Z32.good (hE:EnvOk Tryd.prog Q1)(pv:Nat->Value)(a0:ByteArray)(a1:ByteArray){y:_}(h:Z32.F a0 a1=some y):Qd Tryd.prog Q1 pv (.f 54) (Q9 [.str,.str] (a0,a1,())) (.tup [.t .str y.1,.t .bool y.2]):=
 Qr hE (Z32.G hE pv) (f:=54) (fn:=Tryd.f54) (by kernel_rfl) rfl (by kernel_rfl) (by kernel_rfl) ((Z32.run a0 a1).trans h) (λr hr=>Xl hr)
def Z14.F (a0:ByteArray)(a1:ByteArray):Option (ByteArray×Bool):=(Z32.F a0 a1).bind λr1=>some (r1.1,r1.2)
def Z14.C:Cal->Option CArm:=λc=>match c with
 |.f 54=>some (.p [.str,.str] _ (λx=>Z32.F x.1 x.2.1) (λr=>(.tup [.t .str r.1,.t .bool r.2])))
 |_=>none
theorem Z14.run (a0:ByteArray)(a1:ByteArray):JC Q1 (QE Z14.C) (Qw 11 0 (λ_=>none)) Tryd.f43 [.t .str a0,.t .str a1] (XU (.t .str) (.t .bool))=Z14.F a0 a1:=by kernel_rfl
theorem Z14.G (hE:EnvOk Tryd.prog Q1)(pv:Nat->Value):∀cal A,Z14.C cal=some A->QB Tryd.prog Q1 pv cal A:=by
 intro cal A h
 unfold Z14.C at h
 split at h
 ·cases h;exact λx y hy=>Z32.good hE pv x.1 x.2.1 hy
 ·cases h
theorem Z14.good (hE:EnvOk Tryd.prog Q1)(pv:Nat->Value)(a0:ByteArray)(a1:ByteArray){y:_}(h:Z14.F a0 a1=some y):Qd Tryd.prog Q1 pv (.f 43) (Q9 [.str,.str] (a0,a1,())) (.tup [.t .str y.1,.t .bool y.2]):=
 Qr hE (Z14.G hE pv) (f:=43) (fn:=Tryd.f43) (by kernel_rfl) rfl (by kernel_rfl) (by kernel_rfl) ((Z14.run a0 a1).trans h) (λr hr=>Xl hr)
def Z37.F (a0:ByteArray)(a1:ByteArray):Option (Int):=UP a0 a1
theorem Z37.good (hE:EnvOk Tryd.prog Q1)(pv:Nat->Value)(a0:ByteArray)(a1:ByteArray){y:_}(h:Z37.F a0 a1=some y):Qd Tryd.prog Q1 pv (.f 44) (Q9 [.str,.str] (a0,a1,())) (.t (.int .i64) y):=
 Q0x (fn:=Tryd.f44) (by kernel_rfl) rfl (by kernel_rfl) (Go.GxIdx.idxAny_laid Tryd.lays153 (by kernel_rfl)) h
def Z36.F (a0:ByteArray)(a1:ByteArray):Option (ByteArray×ByteArray×Bool):=Q7v a0 a1
theorem Z36.good (hE:EnvOk Tryd.prog Q1)(pv:Nat->Value)(a0:ByteArray)(a1:ByteArray){y:_}(h:Z36.F a0 a1=some y):Qd Tryd.prog Q1 pv (.f 45) (Q9 [.str,.str] (a0,a1,())) (.tup [.t .str y.1,.t .str y.2.1,.t .bool y.2.2]):=
 Q7w (fn:=Tryd.f45) (by kernel_rfl) rfl (by kernel_rfl) (mx:=1) (by kernel_rfl) Tryd.strings_Cut h
mutual
def Z38.F:Nat->ByteArray->Int->Option (Query×ByteArray×Bool)
 |0,_,_=>none
 |k+1,a0,a1=>bif (a1==0)then(some ((Query.mk 0 (⟨#[]⟩:ByteArray) (⟨#[]⟩:ByteArray) ([]:List Query)),(⟨#[]⟩:ByteArray),false))else((Z14.F a0 (⟨#[110,111,116,32]⟩:ByteArray)).bind λr1=>bif r1.2 then((Z38.F k r1.1 (IntKind.wrap .i64 (a1-1))).bind λr2=>some ((Query.mk 2 (⟨#[]⟩:ByteArray) (⟨#[]⟩:ByteArray) ([r2.1]:List Query)),r2.2.1,r2.2.2))else((Z14.F a0 (⟨#[40]⟩:ByteArray)).bind λr3=>bif (!r3.2)then((Z37.F a0 (⟨#[32,41]⟩:ByteArray)).bind λr4=>bif (decide (r4<0))then(bif decide (0<=(a0.size:Int))then(bif decide ((a0.size:Int)<=(a0.size:Int))then((Z36.F (a0.extract 0 ((a0.size:Int):Int).toNat) (⟨#[58]⟩:ByteArray)).bind λr5=>bif (!r5.2.2)then(bif decide (0<=(a0.size:Int))then(bif decide ((a0.size:Int)<=(a0.size:Int))then(some ((Query.mk 1 (⟨#[]⟩:ByteArray) r5.1 ([]:List Query)),(a0.extract ((a0.size:Int):Int).toNat a0.size),true))else none)else none)else(bif decide (0<=(a0.size:Int))then(bif decide ((a0.size:Int)<=(a0.size:Int))then(some ((Query.mk 1 r5.1 r5.2.1 ([]:List Query)),(a0.extract ((a0.size:Int):Int).toNat a0.size),true))else none)else none))else none)else none)else(bif decide (0<=r4)then(bif decide (r4<=(a0.size:Int))then((Z36.F (a0.extract 0 (r4:Int).toNat) (⟨#[58]⟩:ByteArray)).bind λr6=>bif (!r6.2.2)then(bif decide (0<=r4)then(bif decide (r4<=(a0.size:Int))then(some ((Query.mk 1 (⟨#[]⟩:ByteArray) r6.1 ([]:List Query)),(a0.extract (r4:Int).toNat a0.size),true))else none)else none)else(bif decide (0<=r4)then(bif decide (r4<=(a0.size:Int))then(some ((Query.mk 1 r6.1 r6.2.1 ([]:List Query)),(a0.extract (r4:Int).toNat a0.size),true))else none)else none))else none)else none))else((Z38.F k r3.1 (IntKind.wrap .i64 (a1-1))).bind λr7=>(Z14.F r7.2.1 (⟨#[32,111,114,32]⟩:ByteArray)).bind λr8=>bif (!r8.2)then((Z14.F r7.2.1 (⟨#[32,97,110,100,32]⟩:ByteArray)).bind λr9=>bif (!r7.2.2)then(some ((Query.mk 0 (⟨#[]⟩:ByteArray) (⟨#[]⟩:ByteArray) ([]:List Query)),(⟨#[]⟩:ByteArray),false))else(bif (!r9.2)then(some ((Query.mk 0 (⟨#[]⟩:ByteArray) (⟨#[]⟩:ByteArray) ([]:List Query)),(⟨#[]⟩:ByteArray),false))else((Z38.F k r9.1 (IntKind.wrap .i64 (a1-1))).bind λr10=>(Z14.F r10.2.1 (⟨#[41]⟩:ByteArray)).bind λr11=>bif r10.2.2 then(some ((Query.mk 3 (⟨#[]⟩:ByteArray) (⟨#[]⟩:ByteArray) ([r7.1,r10.1]:List Query)),r11.1,r11.2))else(some ((Query.mk 3 (⟨#[]⟩:ByteArray) (⟨#[]⟩:ByteArray) ([r7.1,r10.1]:List Query)),r11.1,false)))))else(bif (!r7.2.2)then(some ((Query.mk 0 (⟨#[]⟩:ByteArray) (⟨#[]⟩:ByteArray) ([]:List Query)),(⟨#[]⟩:ByteArray),false))else(bif (!r8.2)then(some ((Query.mk 0 (⟨#[]⟩:ByteArray) (⟨#[]⟩:ByteArray) ([]:List Query)),(⟨#[]⟩:ByteArray),false))else((Z38.F k r8.1 (IntKind.wrap .i64 (a1-1))).bind λr12=>(Z14.F r12.2.1 (⟨#[41]⟩:ByteArray)).bind λr13=>bif r12.2.2 then(some ((Query.mk 4 (⟨#[]⟩:ByteArray) (⟨#[]⟩:ByteArray) ([r7.1,r12.1]:List Query)),r13.1,r13.2))else(some ((Query.mk 4 (⟨#[]⟩:ByteArray) (⟨#[]⟩:ByteArray) ([r7.1,r12.1]:List Query)),r13.1,false))))))))
end
mutual
def Z13.F:Nat->Query->Option (ByteArray)
 |0,_=>none
 |k+1,a0=>bif (a0.op==1)then(bif (Qk a0.field (⟨#[]⟩:ByteArray))then(some a0.word)else(bif Nat.ble (a0.field.size+(⟨#[58]⟩:ByteArray).size) 9223372036854775807 then(bif Nat.ble ((a0.field++(⟨#[58]⟩:ByteArray)).size+a0.word.size) 9223372036854775807 then(some ((a0.field++(⟨#[58]⟩:ByteArray))++a0.word))else none)else none))else(bif (a0.op==2)then(bif decide (0<=0)then(bif decide (0<(a0.parts.length:Int))then((Z13.F k (a0.parts.getD (0:Int).toNat (Q7 .query))).bind λr1=>bif Nat.ble ((⟨#[110,111,116,32]⟩:ByteArray).size+r1.size) 9223372036854775807 then(some ((⟨#[110,111,116,32]⟩:ByteArray)++r1))else none)else none)else none)else(bif (a0.op==3)then(bif decide (0<=0)then(bif decide (0<(a0.parts.length:Int))then((Z13.F k (a0.parts.getD (0:Int).toNat (Q7 .query))).bind λr2=>bif Nat.ble ((⟨#[40]⟩:ByteArray).size+r2.size) 9223372036854775807 then(bif Nat.ble (((⟨#[40]⟩:ByteArray)++r2).size+(⟨#[32,97,110,100,32]⟩:ByteArray).size) 9223372036854775807 then(bif decide (0<=1)then(bif decide (1<(a0.parts.length:Int))then((Z13.F k (a0.parts.getD (1:Int).toNat (Q7 .query))).bind λr3=>bif Nat.ble ((((⟨#[40]⟩:ByteArray)++r2)++(⟨#[32,97,110,100,32]⟩:ByteArray)).size+r3.size) 9223372036854775807 then(bif Nat.ble (((((⟨#[40]⟩:ByteArray)++r2)++(⟨#[32,97,110,100,32]⟩:ByteArray))++r3).size+(⟨#[41]⟩:ByteArray).size) 9223372036854775807 then(some (((((⟨#[40]⟩:ByteArray)++r2)++(⟨#[32,97,110,100,32]⟩:ByteArray))++r3)++(⟨#[41]⟩:ByteArray)))else none)else none)else none)else none)else none)else none)else none)else none)else(bif decide (0<=0)then(bif decide (0<(a0.parts.length:Int))then((Z13.F k (a0.parts.getD (0:Int).toNat (Q7 .query))).bind λr4=>bif Nat.ble ((⟨#[40]⟩:ByteArray).size+r4.size) 9223372036854775807 then(bif Nat.ble (((⟨#[40]⟩:ByteArray)++r4).size+(⟨#[32,111,114,32]⟩:ByteArray).size) 9223372036854775807 then(bif decide (0<=1)then(bif decide (1<(a0.parts.length:Int))then((Z13.F k (a0.parts.getD (1:Int).toNat (Q7 .query))).bind λr5=>bif Nat.ble ((((⟨#[40]⟩:ByteArray)++r4)++(⟨#[32,111,114,32]⟩:ByteArray)).size+r5.size) 9223372036854775807 then(bif Nat.ble (((((⟨#[40]⟩:ByteArray)++r4)++(⟨#[32,111,114,32]⟩:ByteArray))++r5).size+(⟨#[41]⟩:ByteArray).size) 9223372036854775807 then(some (((((⟨#[40]⟩:ByteArray)++r4)++(⟨#[32,111,114,32]⟩:ByteArray))++r5)++(⟨#[41]⟩:ByteArray)))else none)else none)else none)else none)else none)else none)else none)else none)))
end
def Z13.C (k:Nat):Cal->Option CArm:=λc=>match c with
 |.f 31=>some (.p [.query] _ (λx=>Z13.F k x.1) (λr=>(.t .str r)))
 |_=>none
theorem Z13.run (k:Nat)(a0:Query):JC Q1 (QE (Z13.C k)) (Qw 56 0 (λ_=>none)) Tryd.f31 [.t .query a0] (QJ (.t .str))=Z13.F (k+1) a0:=by kernel_rfl
def Z13.Gd (pv:Nat->Value)(k:Nat):Prop:=(∀(a0:Query) {y:_},Z13.F k a0=some y->Qd Tryd.prog Q1 pv (.f 31) (Q9 [.query] (a0,())) (.t .str y))
theorem Z13.G (hE:EnvOk Tryd.prog Q1)(pv:Nat->Value)(k:Nat)(hI:Z13.Gd pv k):∀cal A,Z13.C k cal=some A->QB Tryd.prog Q1 pv cal A:=by
 intro cal A h
 unfold Z13.C at h
 split at h
 ·cases h;exact λx y hy=>hI x.1 hy
 ·cases h
theorem Z13.gd (hE:EnvOk Tryd.prog Q1)(pv:Nat->Value)(k:Nat)(hI:∀k',k'<=k->Z13.Gd pv k')(a0:Query){y:_}(h:Z13.F (k+1) a0=some y):Qd Tryd.prog Q1 pv (.f 31) (Q9 [.query] (a0,())) (.t .str y):=
 Qr hE (Z13.G hE pv k (hI k (Nat.le_refl k))) (f:=31) (fn:=Tryd.f31) (by kernel_rfl) rfl (by kernel_rfl) (by kernel_rfl) ((Z13.run k a0).trans h) (λr hr=>Qn hr)
theorem Z13.all (hE:EnvOk Tryd.prog Q1)(pv:Nat->Value):∀k k',k'<=k->Z13.Gd pv k':=by
 intro k
 induction k with
 |zero=>
  intro k' hk
  obtain rfl:k'=0:=by omega
  exact λ_ y h=>by cases (show(none:Option _)=some y from h)
 |succ k ih=>
  intro k' hk
  rcases Nat.lt_or_ge k' (k+1)with hlt|hge
  ·exact ih k' (by omega)
  ·obtain rfl:k'=k+1:=by omega
   exact λa0 y h=>Z13.gd hE pv k ih a0 h
theorem Z13.good (hE:EnvOk Tryd.prog Q1)(pv:Nat->Value)(k:Nat)(a0:Query){y:_}(h:Z13.F k a0=some y):Qd Tryd.prog Q1 pv (.f 31) (Q9 [.query] (a0,())) (.t .str y):=
 (Z13.all hE pv k k (Nat.le_refl k)) a0 h
def impl_ParseQuery.C (k:Nat):Cal->Option CArm:=λc=>match c with
 |.f 30=>some (.p [.str,(.int .i64)] _ (λx=>Z38.F k x.1 x.2.1) (λr=>(.tup [.t .query r.1,.t .str r.2.1,.t .bool r.2.2])))
 |.f 24=>some (.p [.query] _ (λx=>Z20.F k x.1) (λr=>(.t .bool r)))
 |.f 31=>some (.p [.query] _ (λx=>Z13.F k x.1) (λr=>(.t .str r)))
 |_=>none
mutual
def Z7.F:Nat->ByteArray->Int->Option (Query×ByteArray×Bool)
 |0,_,_=>none
 |k+1,a0,a1=>bif (a1==0)then(some ((Query.mk 0 (⟨#[]⟩:ByteArray) (⟨#[]⟩:ByteArray) ([]:List Query)),(⟨#[]⟩:ByteArray),false))else((Z14.F a0 (⟨#[110,111,116,32]⟩:ByteArray)).bind λr1=>bif r1.2 then((Z7.F k r1.1 (IntKind.wrap .i64 (a1-1))).bind λr2=>some ((Query.mk 2 (⟨#[]⟩:ByteArray) (⟨#[]⟩:ByteArray) ([r2.1]:List Query)),r2.2.1,r2.2.2))else((Z14.F a0 (⟨#[40]⟩:ByteArray)).bind λr3=>bif (!r3.2)then((Z37.F a0 (⟨#[32,41]⟩:ByteArray)).bind λr4=>bif (decide (r4<0))then(bif decide (0<=(a0.size:Int))then(bif decide ((a0.size:Int)<=(a0.size:Int))then((Z36.F (a0.extract 0 ((a0.size:Int):Int).toNat) (⟨#[58]⟩:ByteArray)).bind λr5=>bif (!r5.2.2)then(bif decide (0<=(a0.size:Int))then(bif decide ((a0.size:Int)<=(a0.size:Int))then(some ((Query.mk 1 (⟨#[]⟩:ByteArray) r5.1 ([]:List Query)),(a0.extract ((a0.size:Int):Int).toNat a0.size),true))else none)else none)else(bif decide (0<=(a0.size:Int))then(bif decide ((a0.size:Int)<=(a0.size:Int))then(some ((Query.mk 1 r5.1 r5.2.1 ([]:List Query)),(a0.extract ((a0.size:Int):Int).toNat a0.size),true))else none)else none))else none)else none)else(bif decide (0<=r4)then(bif decide (r4<=(a0.size:Int))then((Z36.F (a0.extract 0 (r4:Int).toNat) (⟨#[58]⟩:ByteArray)).bind λr6=>bif (!r6.2.2)then(bif decide (0<=r4)then(bif decide (r4<=(a0.size:Int))then(some ((Query.mk 1 (⟨#[]⟩:ByteArray) r6.1 ([]:List Query)),(a0.extract (r4:Int).toNat a0.size),true))else none)else none)else(bif decide (0<=r4)then(bif decide (r4<=(a0.size:Int))then(some ((Query.mk 1 r6.1 r6.2.1 ([]:List Query)),(a0.extract (r4:Int).toNat a0.size),true))else none)else none))else none)else none))else((Z7.F k r3.1 (IntKind.wrap .i64 (a1-1))).bind λr7=>(Z14.F r7.2.1 (⟨#[32,111,114,32]⟩:ByteArray)).bind λr8=>bif (!r8.2)then((Z14.F r7.2.1 (⟨#[32,97,110,100,32]⟩:ByteArray)).bind λr9=>bif (!r7.2.2)then(some ((Query.mk 0 (⟨#[]⟩:ByteArray) (⟨#[]⟩:ByteArray) ([]:List Query)),(⟨#[]⟩:ByteArray),false))else(bif (!r9.2)then(some ((Query.mk 0 (⟨#[]⟩:ByteArray) (⟨#[]⟩:ByteArray) ([]:List Query)),(⟨#[]⟩:ByteArray),false))else((Z7.F k r9.1 (IntKind.wrap .i64 (a1-1))).bind λr10=>(Z14.F r10.2.1 (⟨#[41]⟩:ByteArray)).bind λr11=>bif r10.2.2 then(some ((Query.mk 3 (⟨#[]⟩:ByteArray) (⟨#[]⟩:ByteArray) ([r7.1,r10.1]:List Query)),r11.1,r11.2))else(some ((Query.mk 3 (⟨#[]⟩:ByteArray) (⟨#[]⟩:ByteArray) ([r7.1,r10.1]:List Query)),r11.1,false)))))else(bif (!r7.2.2)then(some ((Query.mk 0 (⟨#[]⟩:ByteArray) (⟨#[]⟩:ByteArray) ([]:List Query)),(⟨#[]⟩:ByteArray),false))else(bif (!r8.2)then(some ((Query.mk 0 (⟨#[]⟩:ByteArray) (⟨#[]⟩:ByteArray) ([]:List Query)),(⟨#[]⟩:ByteArray),false))else((Z7.F k r8.1 (IntKind.wrap .i64 (a1-1))).bind λr12=>(Z14.F r12.2.1 (⟨#[41]⟩:ByteArray)).bind λr13=>bif r12.2.2 then(some ((Query.mk 4 (⟨#[]⟩:ByteArray) (⟨#[]⟩:ByteArray) ([r7.1,r12.1]:List Query)),r13.1,r13.2))else(some ((Query.mk 4 (⟨#[]⟩:ByteArray) (⟨#[]⟩:ByteArray) ([r7.1,r12.1]:List Query)),r13.1,false))))))))
end
def Z7.C (k:Nat):Cal->Option CArm:=λc=>match c with
 |.f 30=>some (.tt [.str,(.int .i64)] _ (λx=>Z7.F k x.1 x.2.1) (λr=>(.tup [.tr .query r.1,.t .str r.2.1,.t .bool r.2.2])))
 |.f 43=>some (.p [.str,.str] _ (λx=>Z14.F x.1 x.2.1) (λr=>(.tup [.t .str r.1,.t .bool r.2])))
 |.f 44=>some (.p [.str,.str] _ (λx=>Z37.F x.1 x.2.1) (λr=>(.t (.int .i64) r)))
 |.f 45=>some (.p [.str,.str] _ (λx=>Z36.F x.1 x.2.1) (λr=>(.tup [.t .str r.1,.t .str r.2.1,.t .bool r.2.2])))
 |_=>none
theorem Z7.run (k:Nat)(a0:ByteArray)(a1:Int):Gx.runT Ur (QE (Z7.C k)) (Qw 129 0 (λ_=>none)) Tryd.f30 [.t .str a0,.t (.int .i64) a1] (Q3Q (.tr .query) (.t .str) (.t .bool))=Z7.F (k+1) a0 a1:=by kernel_rfl
def Z7.Gd (pv:Nat->Value)(k:Nat):Prop:=(∀(a0:ByteArray) (a1:Int) {y:_},Z7.F k a0 a1=some y->UE Tryd.prog Ur pv 30 (Q9 [.str,(.int .i64)] (a0,a1,())) (.tup [.tr .query y.1,.t .str y.2.1,.t .bool y.2.2]))
theorem Z7.G (hE:EnvOk Tryd.prog Ur)(pv:Nat->Value)(k:Nat)(hI:Z7.Gd pv k):∀cal A,Z7.C k cal=some A->QB Tryd.prog Ur pv cal A:=by
 intro cal A h
 unfold Z7.C at h
 split at h
 ·cases h;exact⟨_,rfl,λx y hy=>hI x.1 x.2.1 hy⟩
 ·cases h;exact λx y hy=>Z14.good Q0m pv x.1 x.2.1 hy
 ·cases h;exact λx y hy=>Z37.good Q0m pv x.1 x.2.1 hy
 ·cases h;exact λx y hy=>Z36.good Q0m pv x.1 x.2.1 hy
 ·cases h
theorem Z7.gd (hE:EnvOk Tryd.prog Ur)(pv:Nat->Value)(k:Nat)(hI:∀k',k'<=k->Z7.Gd pv k')(a0:ByteArray)(a1:Int){y:_}(h:Z7.F (k+1) a0 a1=some y):UE Tryd.prog Ur pv 30 (Q9 [.str,(.int .i64)] (a0,a1,())) (.tup [.tr .query y.1,.t .str y.2.1,.t .bool y.2.2]):=
 Q0i hE (Z7.G hE pv k (hI k (Nat.le_refl k))) (f:=30) (fn:=Tryd.f30) (by kernel_rfl) rfl (by kernel_rfl) (by kernel_rfl) ((Z7.run k a0 a1).trans h) (λr hr=>Q6N (k:=(.tr .query)) (l:=(.t .str)) (m:=(.t .bool)) hr)
theorem Z7.all (hE:EnvOk Tryd.prog Ur)(pv:Nat->Value):∀k k',k'<=k->Z7.Gd pv k':=by
 intro k
 induction k with
 |zero=>
  intro k' hk
  obtain rfl:k'=0:=by omega
  exact λ_ _ y h=>by cases (show(none:Option _)=some y from h)
 |succ k ih=>
  intro k' hk
  rcases Nat.lt_or_ge k' (k+1)with hlt|hge
  ·exact ih k' (by omega)
  ·obtain rfl:k'=k+1:=by omega
   exact λa0 a1 y h=>Z7.gd hE pv k ih a0 a1 h
theorem Z7.good (hE:EnvOk Tryd.prog Ur)(pv:Nat->Value)(k:Nat)(a0:ByteArray)(a1:Int){y:_}(h:Z7.F k a0 a1=some y):UE Tryd.prog Ur pv 30 (Q9 [.str,(.int .i64)] (a0,a1,())) (.tup [.tr .query y.1,.t .str y.2.1,.t .bool y.2.2]):=
 (Z7.all hE pv k k (Nat.le_refl k)) a0 a1 h
def Z21.F (k:Nat)(a0:ByteArray):Option (Query×Bool):=bif (decide ((a0.size:Int) > 1000))then(some ((Query.mk 0 (⟨#[]⟩:ByteArray) (⟨#[]⟩:ByteArray) ([]:List Query)),false))else((Z7.F k a0 15).bind λr1=>bif (!r1.2.2)then(some ((Query.mk 0 (⟨#[]⟩:ByteArray) (⟨#[]⟩:ByteArray) ([]:List Query)),false))else(bif (!Qk r1.2.1 (⟨#[]⟩:ByteArray))then(some ((Query.mk 0 (⟨#[]⟩:ByteArray) (⟨#[]⟩:ByteArray) ([]:List Query)),false))else((Z20.F k r1.1).bind λr2=>bif (!r2)then(some ((Query.mk 0 (⟨#[]⟩:ByteArray) (⟨#[]⟩:ByteArray) ([]:List Query)),false))else((Z13.F k r1.1).bind λr3=>bif (!Qk r3 a0)then(some ((Query.mk 0 (⟨#[]⟩:ByteArray) (⟨#[]⟩:ByteArray) ([]:List Query)),false))else(some (r1.1,true))))))
def Z21.C (k:Nat):Cal->Option CArm:=λc=>match c with
 |.f 30=>some (.tt [.str,(.int .i64)] _ (λx=>Z7.F k x.1 x.2.1) (λr=>(.tup [.tr .query r.1,.t .str r.2.1,.t .bool r.2.2])))
 |.f 24=>some (.p [.query] _ (λx=>Z20.F k x.1) (λr=>(.t .bool r)))
 |.f 31=>some (.p [.query] _ (λx=>Z13.F k x.1) (λr=>(.t .str r)))
 |_=>none
theorem Z21.run (k:Nat)(a0:ByteArray):Gx.runT Ur (QE (Z21.C k)) (Qw 36 0 (λ_=>none)) Tryd.f14 [.t .str a0] (Q3P (.tr .query) (.t .bool))=Z21.F k a0:=by kernel_rfl
theorem Z21.G (hE:EnvOk Tryd.prog Ur)(pv:Nat->Value)(k:Nat):∀cal A,Z21.C k cal=some A->QB Tryd.prog Ur pv cal A:=by
 intro cal A h
 unfold Z21.C at h
 split at h
 ·cases h;exact⟨_,rfl,λx y hy=>Z7.good hE pv k x.1 x.2.1 hy⟩
 ·cases h;exact λx y hy=>Z20.good Q0m pv k x.1 hy
 ·cases h;exact λx y hy=>Z13.good Q0m pv k x.1 hy
 ·cases h
theorem Z21.good (hE:EnvOk Tryd.prog Ur)(pv:Nat->Value)(k:Nat)(a0:ByteArray){y:_}(h:Z21.F k a0=some y):UE Tryd.prog Ur pv 14 (Q9 [.str] (a0,())) (.tup [.tr .query y.1,.t .bool y.2]):=
 Q0i hE (Z21.G hE pv k) (f:=14) (fn:=Tryd.f14) (by kernel_rfl) rfl (by kernel_rfl) (by kernel_rfl) ((Z21.run k a0).trans h) (λr hr=>Q6M (k:=(.tr .query)) (l:=(.t .bool)) hr)
mutual
def Z4.F:Nat->(List Query)->Int->Option ((List Query)×Int)
 |0,_,_=>none
 |k+1,a0,a1=>(Z4.l0 k a0 a1 0).bind λy8=>some (y8.1,y8.2)
def Z4.l0:Nat->(List Query)->Int->Int->Option ((List Query)×Int)
 |0,_,_,_=>none
 |k+1,x0,x1,x5=>bif (decide (x5<(x0.length:Int)))then(bif decide (0<=x5)then(bif decide (x5<(x0.length:Int))then((some (x0.set ((x5:Int).toNat) (Query.mk x1 ((x0.getD ((x5:Int).toNat) (Q7 .query)).field) ((x0.getD ((x5:Int).toNat) (Q7 .query)).word) ((x0.getD ((x5:Int).toNat) (Q7 .query)).parts)))).bind λw1=>(Z6.F k (IntKind.wrap .i64 (x1+1))).bind λr2=>bif decide (0<=x5)then(bif decide (x5<(w1.length:Int))then((some (w1.set ((x5:Int).toNat) (Query.mk ((w1.getD ((x5:Int).toNat) (Q7 .query)).op) r2 ((w1.getD ((x5:Int).toNat) (Q7 .query)).word) ((w1.getD ((x5:Int).toNat) (Q7 .query)).parts)))).bind λw3=>(Z6.F k (IntKind.wrap .i64 ((IntKind.wrap .i64 (x1+1))+1))).bind λr4=>bif decide (0<=x5)then(bif decide (x5<(w3.length:Int))then((some (w3.set ((x5:Int).toNat) (Query.mk ((w3.getD ((x5:Int).toNat) (Q7 .query)).op) ((w3.getD ((x5:Int).toNat) (Q7 .query)).field) r4 ((w3.getD ((x5:Int).toNat) (Q7 .query)).parts)))).bind λw5=>bif decide (0<=x5)then(bif decide (x5<(w5.length:Int))then((Z4.F k ((w5.getD ((x5:Int).toNat) (Q7 .query)).parts) (IntKind.wrap .i64 ((IntKind.wrap .i64 ((IntKind.wrap .i64 (x1+1))+1))+1))).bind λr6=>(some (w5.set ((x5:Int).toNat) (Query.mk ((w5.getD ((x5:Int).toNat) (Q7 .query)).op) ((w5.getD ((x5:Int).toNat) (Q7 .query)).field) ((w5.getD ((x5:Int).toNat) (Q7 .query)).word) r6.1))).bind λw7=>Z4.l0 k w7 r6.2 (IntKind.wrap .i64 (x5+1)))else none)else none)else none)else none)else none)else none)else none)else none)else(some (x0,x1))
end
def Z4.C (k:Nat):Cal->Option CArm:=λc=>match c with
 |.f 27=>some (.x (.sl .query) (λx q=>Z4.F k x q))
 |.f 36=>some (.p [(.int .i64)] _ (λx=>Z6.F k x.1) (λr=>(.t .str r)))
 |_=>none
def Z4.sp0:List Sp:=[.tv 0 1099511627776 0 (.sl .query) false,.t 1 (.int .i64),.t 5 (.int .i64)]
def Z4.sp0_0:List Sp:=[.tv 0 1099511627776 0 (.sl .query) false,.t 1 (.int .i64)]
def Z4.A0:LArm:=.one Z4.sp0 Z4.sp0_0 ((List Query)×Int) (λk x=>Z4.l0 k x.1 x.2.1 x.2.2.1) (.exit 0) (λy=>(y.1,y.2,())) (λx=>(x.1,x.2.1))
def Z4.L:Nat->Option LArm:=λb=>match b with
 |0=>some Z4.A0
 |_=>none
theorem Z4.run (k:Nat)(a0:List Query)(a1:Int):Gx.runX Q1 (QE (Z4.C k)) (Qw 43 k Z4.L) Tryd.f27 (.sl .query) a0 a1 (UO (.sl .query))=Z4.F (k+1) a0 a1:=by kernel_rfl
theorem Z4.step0 (k:Nat)(x0:List Query)(x1:Int)(x5:Int):Jp Q1 (QE (Z4.C k)) (Qw 43 k Z4.L) 0 (Ja Tryd.f27 0) (YF 43 Z4.sp0 (x0,x1,x5,())) (Z4.A0.cont 43 k)=Z4.l0 (k+1) x0 x1 x5:=by kernel_rfl
def Z4.Gd (pv:Nat->Value)(k:Nat):Prop:=(∀(a0:List Query) (a1:Int) {y:_},Z4.F k a0 a1=some y->U3 Tryd.prog Q1 pv 27 (.sl .query) a0 a1 y.1 y.2)
theorem Z4.G (hE:EnvOk Tryd.prog Q1)(pv:Nat->Value)(k:Nat)(hI:Z4.Gd pv k):∀cal A,Z4.C k cal=some A->QB Tryd.prog Q1 pv cal A:=by
 intro cal A h
 unfold Z4.C at h
 split at h
 ·cases h;exact⟨rfl,_,rfl,λx q y hy=>hI x q hy⟩
 ·cases h;exact λx y hy=>Z6.good hE pv k x.1 hy
 ·cases h
theorem Z4.gd (hE:EnvOk Tryd.prog Q1)(pv:Nat->Value)(k:Nat)(hI:∀k',k'<=k->Z4.Gd pv k')(a0:List Query)(a1:Int){y:_}(h:Z4.F (k+1) a0 a1=some y):U3 Tryd.prog Q1 pv 27 (.sl .query) a0 a1 y.1 y.2:=
 Q3S hE (t:=Z4.C) k (λk hk=>Z4.G hE pv k (hI k hk)) (f:=27) (fn:=Tryd.f27) (by kernel_rfl) rfl (by kernel_rfl) (by kernel_rfl) (lt:=Z4.L) (by kernel_rfl) (λb A h=>by
  unfold Z4.L at h;split at h
  ·cases h;exact⟨by kernel_rfl,by kernel_rfl,λ_=>rfl,λ_=>rfl⟩
  ·cases h) (λb A h=>by
  unfold Z4.L at h;split at h
  ·cases h;exact λk x=>Z4.step0 k x.1 x.2.1 x.2.2.1
  ·cases h) rfl ((Z4.run k a0 a1).trans h)
theorem Z4.all (hE:EnvOk Tryd.prog Q1)(pv:Nat->Value):∀k k',k'<=k->Z4.Gd pv k':=by
 intro k
 induction k with
 |zero=>
  intro k' hk
  obtain rfl:k'=0:=by omega
  exact λ_ _ y h=>by cases (show(none:Option _)=some y from h)
 |succ k ih=>
  intro k' hk
  rcases Nat.lt_or_ge k' (k+1)with hlt|hge
  ·exact ih k' (by omega)
  ·obtain rfl:k'=k+1:=by omega
   exact λa0 a1 y h=>Z4.gd hE pv k ih a0 a1 h
theorem Z4.good (hE:EnvOk Tryd.prog Q1)(pv:Nat->Value)(k:Nat)(a0:List Query)(a1:Int){y:_}(h:Z4.F k a0 a1=some y):U3 Tryd.prog Q1 pv 27 (.sl .query) a0 a1 y.1 y.2:=
 (Z4.all hE pv k k (Nat.le_refl k)) a0 a1 h
def Z33.F (k:Nat)(a0:Query)(a1:Int):Option (Query×Int):=(Z4.F k a0.parts a1).bind λr1=>(some (Query.mk a0.op a0.field a0.word r1.1)).bind λw2=>some (w2,r1.2)
def Z33.C (k:Nat):Cal->Option CArm:=λc=>match c with
 |.f 27=>some (.x (.sl .query) (λx q=>Z4.F k x q))
 |_=>none
theorem Z33.run (k:Nat)(a0:Query)(a1:Int):Gx.runX Q1 (QE (Z33.C k)) (Qw 10 0 (λ_=>none)) Tryd.f11 .query a0 a1 (UO .query)=Z33.F k a0 a1:=by kernel_rfl
theorem Z33.G (hE:EnvOk Tryd.prog Q1)(pv:Nat->Value)(k:Nat):∀cal A,Z33.C k cal=some A->QB Tryd.prog Q1 pv cal A:=by
 intro cal A h
 unfold Z33.C at h
 split at h
 ·cases h;exact⟨rfl,_,rfl,λx q y hy=>Z4.good hE pv k x q hy⟩
 ·cases h
theorem Z33.good (hE:EnvOk Tryd.prog Q1)(pv:Nat->Value)(k:Nat)(a0:Query)(a1:Int){y:_}(h:Z33.F k a0 a1=some y):U3 Tryd.prog Q1 pv 11 .query a0 a1 y.1 y.2:=
 Q3R hE (Z33.G hE pv k) (f:=11) (fn:=Tryd.f11) (by kernel_rfl) rfl (by kernel_rfl) (by kernel_rfl) rfl ((Z33.run k a0 a1).trans h)
def Z34.F (k:Nat)(a0:ByteArray):Option (Bool):=bif (decide ((a0.size:Int) > 1048576))then(some true)else((Z25.F k a0).bind λr1=>(Z21.F k a0).bind λr2=>(Z15.F k r2.1 r1.1).bind λr3=>bif (!r3)then(some false)else(bif (!(r2.2==r1.2))then(some false)else((Z33.F k r2.1 1).bind λr4=>(Z18.F k r4.1 1).bind λr5=>bif (decide (r5<0))then(some false)else(bif (r5 != r4.2)then(some false)else((Z21.F k a0).bind λr6=>(Z15.F k r6.1 r1.1).bind λr7=>bif (!r7)then(some false)else(bif (!(r6.2==r1.2))then(some false)else((Z18.F k r4.1 1).bind λr8=>bif (decide (r8<0))then(some false)else(bif (r8 != r4.2)then(some false)else(some true)))))))))
def Z34.C (k:Nat):Cal->Option CArm:=λc=>match c with
 |.f 14=>some (.tt [.str] _ (λx=>Z21.F k x.1) (λr=>(.tup [.tr .query r.1,.t .bool r.2])))
 |.f 11=>some (.x .query (λx q=>Z33.F k x q))
 |.f 13=>some (.p [.str] _ (λx=>Z25.F k x.1) (λr=>(.tup [.t .query r.1,.t .bool r.2])))
 |.f 10=>some (.p [.query,.query] _ (λx=>Z15.F k x.1 x.2.1) (λr=>(.t .bool r)))
 |.f 12=>some (.p [.query,(.int .i64)] _ (λx=>Z18.F k x.1 x.2.1) (λr=>(.t (.int .i64) r)))
 |_=>none
theorem Z34.run (k:Nat)(a0:ByteArray):JC Q1 (QE (Z34.C k)) (Qw 66 0 (λ_=>none)) Tryd.f4 [.t .str a0] (QJ (.t .bool))=Z34.F k a0:=by kernel_rfl
theorem Z34.G (hE:EnvOk Tryd.prog Q1)(pv:Nat->Value)(k:Nat):∀cal A,Z34.C k cal=some A->QB Tryd.prog Q1 pv cal A:=by
 intro cal A h
 unfold Z34.C at h
 split at h
 ·cases h;exact⟨_,rfl,λx y hy=>Z21.good Q8a pv k x.1 hy⟩
 ·cases h;exact⟨rfl,_,rfl,λx q y hy=>Z33.good hE pv k x q hy⟩
 ·cases h;exact λx y hy=>Z25.good hE pv k x.1 hy
 ·cases h;exact λx y hy=>Z15.good hE pv k x.1 x.2.1 hy
 ·cases h;exact λx y hy=>Z18.good hE pv k x.1 x.2.1 hy
 ·cases h
theorem Z34.good (hE:EnvOk Tryd.prog Q1)(pv:Nat->Value)(k:Nat)(a0:ByteArray){y:_}(h:Z34.F k a0=some y):Qd Tryd.prog Q1 pv (.f 4) (Q9 [.str] (a0,())) (.t .bool y):=
 Qr hE (Z34.G hE pv k) (f:=4) (fn:=Tryd.f4) (by kernel_rfl) rfl (by kernel_rfl) (by kernel_rfl) ((Z34.run k a0).trans h) (λr hr=>Qn hr)
end Go.Proofs.YtkbichbahpnmmaaDoor
end
section
/- Plain laws: queries,their check. -/
namespace Go.Proofs.YtkbichbahpnmmaaDoor
open Go.Gx
theorem getD_at {α:Type}{xs:List α}{i:Nat}(h:i<xs.length)(d:α):xs.getD i d=xs[i]:=by simp[List.getD,List.getElem?_eq_getElem h]
mutual
def Ql:Query->Nat
 |.mk _ _ _ ps=>1+Q8 ps
def Q8:List Query->Nat
 |[]=>0
 |q::l=>Ql q+Q8 l
end
mutual
def Yf:Query->Nat
 |.mk _ f w ps=>f.size+w.size+Jx ps
def Jx:List Query->Nat
 |[]=>0
 |q::l=>1+Yf q+Jx l
end
theorem Yg (q:Query):Ql q=1+Q8 q.parts:=by cases q;simp only[Ql,Query.parts]
theorem Gh (q:Query):Yf q=q.field.size+q.word.size+Jx q.parts:=by cases q;simp only[Yf,Query.parts,Query.field,Query.word]
theorem DT {ps:List Query}{i:Nat}(h:i<ps.length):Q8 (ps.drop i)=Ql ps[i]+Q8 (ps.drop (i+1)):=by rw[List.drop_eq_getElem_cons h];simp only[Q8]
theorem Us (q:Query):1<=Ql q:=by rw[Yg];omega
theorem Q1c {p:Query}:∀{ps:List Query},p∈ps->Ql p<=Q8 ps
 |[],h=>by cases h
 |q::l,h=>by
  simp only[Q8]
  rcases List.mem_cons.1 h with rfl|h
  ·omega
  ·have:=Q1c h;omega
theorem Q2U {p:Query}:∀{ps:List Query},p∈ps->Yf p<=Jx ps
 |[],h=>by cases h
 |q::l,h=>by
  simp only[Jx]
  rcases List.mem_cons.1 h with rfl|h
  ·omega
  ·have:=Q2U h;omega
theorem Q1d:∀ps:List Query,ps.length<=Jx ps
 |[]=>Nat.zero_le _
 |q::l=>by simp only[Jx,List.length_cons];have:=Q1d l;omega
theorem byQ {P:Query->Prop}(h:∀q,(∀p∈q.parts,P p)->P q)(q:Query):P q:=by
 have:∀n q,Ql q<=n->P q:=by
  intro n
  induction n with
  |zero=>intro q hq;have:=Us q;omega
  |succ n ih=>
   intro q hq
   refine h q λp hp=>ih p ?_
   have:=Q1c hp
   rw[Yg]at hq
   omega
 exact this _ q (Nat.le_refl _)
def JD (q:Query):Prop:=Yf q<=1048576
theorem YX {q p:Query}(h:JD q)(hp:p∈q.parts):JD p:=by
 have h1:=Q2U hp
 have h2:=Gh q
 unfold JD at*
 omega
theorem UQ {q:Query}(h:JD q):q.field.size<=1048576/\q.word.size<=1048576/\q.parts.length<=1048576:=by
 have h1:=Q1d q.parts
 have h2:=Gh q
 unfold JD at*
 omega
theorem Q8b:∀q:Query,JD q->Ev (λk=>Z15.F k q q) true:=by
 refine byQ λq ih hs=>?_
 obtain⟨_,_,hlen⟩:=UQ hs
 have loop:∀n i:Nat,i+n=q.parts.length->Ev (λk=>Z8.l0 k q.parts q.parts i) (.inr ()):=by
  intro n
  induction n with
  |zero=>
   intro i h
   refine Ev.step (λk=>by rw[Z8.l0]) ?_
   simp(disch:=omega) only[Jj]
   exact Ev.pure _
  |succ n ihn=>
   intro i h
   have hi:i<q.parts.length:=by omega
   refine Ev.step (λk=>by rw[Z8.l0]) ?_
   simp(disch:=omega) only[QW,Int.toNat_natCast,getD_at hi]
   refine Ev.bind (ih _ (List.getElem_mem hi) (YX hs (List.getElem_mem hi))) ?_
   simp(disch:=omega) only[Bool.not_true,cond_false,wrap_in]
   exact ihn (i+1) (by omega)
 refine Ev.step (λk=>by rw[Z15.F]) ?_
 simp only[Jk,Bool.not_true,cond_false,bne_self_eq_false]
 have inner:Ev (λk=>Z8.F k q.parts q.parts) true:=by
  refine Ev.step (λk=>by rw[Z8.F]) ?_
  simp only[bne_self_eq_false,cond_false]
  exact Ev.bind (loop q.parts.length 0 (by omega)) (Ev.pure _)
 exact Ev.bind inner (Ev.pure _)
def Jl (b:UInt8):Bool:=(decide (97<=b.toNat)&&decide (b.toNat<=122))||(decide (48<=b.toNat)&&decide (b.toNat<=57))
theorem Q6R (b:UInt8):Z19.F (b.toNat:Int)=some (decide (48<=b.toNat)&&decide (b.toNat<=57)):=by
 unfold Z19.F
 rw[show decide ((b.toNat:Int) ≥ 48)=decide (48<=b.toNat)from decide_eq_decide.2 (by omega),show decide ((b.toNat:Int)<=57)=decide (b.toNat<=57)from decide_eq_decide.2 (by omega)]
 cases decide (48<=b.toNat)<;>rfl
theorem Q3U (b:UInt8):Z27.F (b.toNat:Int)=some (decide (48<=b.toNat)&&decide (b.toNat<=57)):=by
 unfold Z27.F
 rw[show decide ((b.toNat:Int) ≥ 48)=decide (48<=b.toNat)from decide_eq_decide.2 (by omega),show decide ((b.toNat:Int)<=57)=decide (b.toNat<=57)from decide_eq_decide.2 (by omega)]
 cases decide (48<=b.toNat)<;>rfl
theorem Q3V (b:UInt8):Z26.F (b.toNat:Int)=some (decide (97<=b.toNat)&&decide (b.toNat<=122)):=by
 unfold Z26.F
 rw[show decide ((b.toNat:Int) ≥ 97)=decide (97<=b.toNat)from decide_eq_decide.2 (by omega),show decide ((b.toNat:Int)<=122)=decide (b.toNat<=122)from decide_eq_decide.2 (by omega)]
 cases decide (97<=b.toNat)<;>rfl
theorem Q1R (b:UInt8):Z17.F (b.toNat:Int)=some (Jl b):=by
 unfold Z17.F Jl
 rw[Q6R,show decide ((b.toNat:Int) ≥ 97)=decide (97<=b.toNat)from decide_eq_decide.2 (by omega),show decide ((b.toNat:Int)<=122)=decide (b.toNat<=122)from decide_eq_decide.2 (by omega)]
 cases decide (97<=b.toNat)<;>cases decide (b.toNat<=122)<;>rfl
theorem Q8s (a b c:Int):Z22.F a b c=some (decide (a ≥ b)&&decide (a<=c)):=by
 unfold Z22.F
 cases decide (a ≥ b)<;>rfl
theorem Q5u (a b c:Int):Z28.F a b c=some (decide (a ≥ b)&&decide (a<=c)):=by
 unfold Z28.F
 cases decide (a ≥ b)<;>rfl
theorem Q2V {s:ByteArray}{i:Nat}(hi:i<s.size)(p:UInt8->Bool):((L s).drop i).all p=(p ((L s).getD i 0)&&((L s).drop (i+1)).all p):=by
 have hl:i<(L s).length:=by rw[Qb];exact hi
 rw[List.drop_eq_getElem_cons hl,getD_at hl];rfl
theorem DU (s:ByteArray)(hs:s.size<=9223372036854775806):∀n i:Nat,i+n=s.size->Ev (λk=>Z10.l0 k s i) (if((L s).drop i).all Jl=true then .inr s else .inl false)
 |0,i,h=>by
  refine Ev.step (λk=>by rw[Z10.l0]) ?_
  simp(disch:=omega) only[Jj]
  rw[List.drop_eq_nil_of_le (by rw[Qb];omega)]
  exact Ev.pure _
 |n+1,i,h=>by
  refine Ev.step (λk=>by rw[Z10.l0]) ?_
  simp(disch:=omega) only[QW,Int.toNat_natCast,Q7t]
  refine Ev.bind0 (Q1R _) ?_
  rw[Q2V (by omega)]
  cases hlow:Jl ((L s).getD i 0)with
  |false=>simp only[Bool.not_false,cond_true,Bool.false_and];exact Ev.pure _
  |true=>
   simp(disch:=omega) only[Bool.not_true,cond_false,Bool.true_and,wrap_in]
   exact DU s hs n (i+1) (by omega)
theorem DV (s:ByteArray)(hs:s.size<=9223372036854775806):∀n i:Nat,i+n=s.size->Ev (λk=>Z9.l0 k s i) (if((L s).drop i).all Jl=true then .inr s else .inl false)
 |0,i,h=>by
  refine Ev.step (λk=>by rw[Z9.l0]) ?_
  simp(disch:=omega) only[Jj]
  rw[List.drop_eq_nil_of_le (by rw[Qb];omega)]
  exact Ev.pure _
 |n+1,i,h=>by
  have ih:=DV s hs n (i+1) (by omega)
  refine Ev.step (λk=>by rw[Z9.l0]) ?_
  simp(disch:=omega) only[QW,Int.toNat_natCast,Q7t]
  refine Ev.bind0 (Q3V _) ?_
  rw[Q2V (by omega)]
  unfold Jl at ih ⊢
  cases hlow:(decide (97<=((L s).getD i 0).toNat)&&decide (((L s).getD i 0).toNat<=122))with
  |true=>
   simp(disch:=omega) only[Bool.not_true,cond_false,Bool.true_or,Bool.true_and,wrap_in]
   exact ih
  |false=>
   simp(disch:=omega) only[Bool.not_false,cond_true,Bool.false_or,QW]
   refine Ev.bind0 (Q3U _) ?_
   cases hd:(decide (48<=((L s).getD i 0).toNat)&&decide (((L s).getD i 0).toNat<=57))with
   |false=>simp only[Bool.not_false,cond_true,Bool.false_and];exact Ev.pure _
   |true=>
    simp(disch:=omega) only[Bool.not_true,cond_false,Bool.true_and,wrap_in]
    exact ih
def Xm (s:ByteArray):Bool:=(L s).all Jl&&((decide ((s.size:Int) ≥ 1)&&decide ((s.size:Int)<=15))&&(!Qk s ⟨#[110,111,116]⟩&&(!Qk s ⟨#[97,110,100]⟩&& !Qk s ⟨#[111,114]⟩)))
theorem Q2W (s:ByteArray)(hs:s.size<=9223372036854775806):Ev (λk=>Z10.F k s) (Xm s):=by
 unfold Z10.F Xm
 have:=DU s hs s.size 0 (by omega)
 rw[List.drop_zero]at this
 cases hall:(L s).all Jl with
 |false=>rw[hall]at this;exact Ev.bind this (Ev.pure _)
 |true=>
  rw[hall]at this
  refine Ev.bind this (Ev.bind0 (Q8s _ _ _) ?_)
  simp only[Bool.true_and]
  cases (decide ((s.size:Int) ≥ 1)&&decide ((s.size:Int)<=15))<;>cases (!Qk s ⟨#[110,111,116]⟩)<;>cases (!Qk s ⟨#[97,110,100]⟩)<;>exact Ev.pure _
theorem Q2X (s:ByteArray)(hs:s.size<=9223372036854775806):Ev (λk=>Z9.F k s) (Xm s):=by
 unfold Z9.F Xm
 have:=DV s hs s.size 0 (by omega)
 rw[List.drop_zero]at this
 cases hall:(L s).all Jl with
 |false=>rw[hall]at this;exact Ev.bind this (Ev.pure _)
 |true=>
  rw[hall]at this
  refine Ev.bind this (Ev.bind0 (Q5u _ _ _) ?_)
  simp only[Bool.true_and]
  cases (decide ((s.size:Int) ≥ 1)&&decide ((s.size:Int)<=15))<;>cases (!Qk s ⟨#[110,111,116]⟩)<;>cases (!Qk s ⟨#[97,110,100]⟩)<;>exact Ev.pure _
theorem Q1e (s t:ByteArray):Qk s t=Qk t s:=by
 rw[Bool.eq_iff_iff,YO,YO]
 exact eq_comm
def Xn (s:ByteArray)(xs:List ByteArray):Bool:=xs.any λf=>Qk f s
theorem Q1f (s x:ByteArray)(xs:List ByteArray):Xn s (x::xs)=(Qk x s||Xn s xs):=rfl
theorem Q2Y (s:ByteArray)(xs:List ByteArray)(hl:xs.length<=1000):∀n i:Nat,i+n=xs.length->Ev (λk=>Z11.l0 k s xs i) (if Xn s (xs.drop i)=true then .inl true else .inr s)
 |0,i,h=>by
  refine Ev.step (λk=>by rw[Z11.l0]) ?_
  simp(disch:=omega) only[Jj]
  rw[List.drop_eq_nil_of_le (by omega)]
  exact Ev.pure _
 |n+1,i,h=>by
  have hi:i<xs.length:=by omega
  refine Ev.step (λk=>by rw[Z11.l0]) ?_
  simp(disch:=omega) only[QW,Int.toNat_natCast,getD_at hi]
  rw[List.drop_eq_getElem_cons hi,Q1f]
  cases Qk xs[i] s with
  |true=>simp only[Bool.true_or,cond_true];exact Ev.pure _
  |false=>
   simp(disch:=omega) only[Bool.false_or,cond_false,wrap_in]
   exact Q2Y s xs hl n (i+1) (by omega)
theorem Q2Z (s:ByteArray)(xs:List ByteArray)(hl:xs.length<=1000):∀n i:Nat,i+n=xs.length->∃r,Ev (λk=>Z12.l0 k xs s xs.length i) r/\((Xn s (xs.drop i)=true/\∃j:Int,r= .inl j/\0<=j)\/(Xn s (xs.drop i)=false/\r= .inr ()))
 |0,i,h=>by
  refine⟨.inr (),Ev.step (λk=>by rw[Z12.l0]) ?_,.inr ⟨by rw[List.drop_eq_nil_of_le (by omega)];rfl,rfl⟩⟩
  simp(disch:=omega) only[Jj]
  exact Ev.pure _
 |n+1,i,h=>by
  have hi:i<xs.length:=by omega
  obtain⟨r,h1,h2⟩:=Q2Z s xs hl n (i+1) (by omega)
  rw[List.drop_eq_getElem_cons hi,Q1f]
  cases hb:Qk xs[i] s with
  |true=>
   refine⟨.inl i,Ev.step (λk=>by rw[Z12.l0]) ?_,.inl ⟨rfl,i,rfl,by omega⟩⟩
   simp(disch:=omega) only[QW,Int.toNat_natCast,getD_at hi]
   rw[Q1e,hb]
   exact Ev.pure _
  |false=>
   refine⟨r,Ev.step (λk=>by rw[Z12.l0]) ?_,by rw[Bool.false_or];exact h2⟩
   simp(disch:=omega) only[QW,Int.toNat_natCast,getD_at hi]
   rw[Q1e,hb]
   simp(disch:=omega) only[cond_false,wrap_in]
   exact h1
theorem Q30 (s:ByteArray)(xs:List ByteArray)(hl:xs.length<=1000):Ev (λk=>Z29.F k xs s) (Xn s xs):=by
 unfold Z29.F Z12.F
 obtain⟨r,h1,h2⟩:=Q2Z s xs hl xs.length 0 (by omega)
 rw[List.drop_zero]at h2
 rcases h2 with⟨h3,j,rfl,hj⟩|⟨h3,rfl⟩
 ·refine Ev.bind (Ev.bind h1 (Ev.pure _)) ((Ev.pure _).eq ?_)
  rw[h3];exact decide_eq_true hj
 ·refine Ev.bind (Ev.bind h1 (Ev.pure _)) ((Ev.pure _).eq ?_)
  rw[h3];rfl
def Xo (s:ByteArray):Bool:=Xn s XH||Qk s ⟨#[]⟩
theorem Q1S (s:ByteArray):Ev (λk=>Z11.F k s) (Xo s):=by
 unfold Z11.F
 refine Ev.bind0 (a:=XH) rfl ?_
 have:=Q2Y s XH (by decide) XH.length 0 (by omega)
 rw[List.drop_zero]at this
 unfold Xo
 cases hm:Xn s XH with
 |true=>rw[hm]at this;exact Ev.bind this (Ev.pure _)
 |false=>rw[hm]at this;exact Ev.bind this (Ev.pure _)
theorem Q3W (s:ByteArray):Ev (λk=>Z30.F k s) (Xn s XH):=by
 unfold Z30.F
 exact Ev.bind (Q30 s XH (by decide)) (Ev.pure _)
def YQ (q:Query):Bool:=cond (q.op==1) (Xm q.word&&(Xo q.field&&((q.parts.length:Int)==0)))
 (cond (q.op==2) (Qk q.word ⟨#[]⟩&&(Qk q.field ⟨#[]⟩&&((q.parts.length:Int)==1)))
  (cond (q.op==3||q.op==4) (Qk q.word ⟨#[]⟩&&(Qk q.field ⟨#[]⟩&&((q.parts.length:Int)==2))) false))
theorem Q7y (q:Query)(h:q.word.size<=1048576):Ev (λk=>Z23.F k q) (YQ q):=by
 unfold Z23.F YQ
 cases q.op==1 with
 |true=>
  simp only[cond_true]
  refine Ev.bind (Q2W _ (by omega)) ?_
  cases Xm q.word with
  |false=>exact Ev.pure _
  |true=>
   simp only[cond_true,Bool.true_and]
   refine Ev.bind (Q1S _) ?_
   cases Xo q.field<;>exact Ev.pure _
 |false=>
  simp only[cond_false]
  cases q.op==2<;>cases q.op==3<;>cases q.op==4<;>cases Qk q.word ⟨#[]⟩<;>cases Qk q.field ⟨#[]⟩<;>exact Ev.pure _
mutual
def JS:Query->Bool
 |.mk a b c ps=>YQ (.mk a b c ps)&&QG ps
def QG:List Query->Bool
 |[]=>true
 |q::l=>JS q&&QG l
end
theorem Q31:QG []=true:=by simp only[QG]
theorem Q3X:Q8 []=0:=by simp only[Q8]
theorem Y7 (q:Query):JS q=(YQ q&&QG q.parts):=by cases q;simp only[JS,Query.parts]
theorem KX {ps:List Query}{i:Nat}(h:i<ps.length):QG (ps.drop i)=(JS ps[i]&&QG (ps.drop (i+1))):=by rw[List.drop_eq_getElem_cons h];simp only[QG]
theorem Q6S:∀q:Query,JD q->Ev (λk=>Z3.F k q) (JS q):=by
 refine byQ λq ih hs=>?_
 obtain⟨_,hw,hlen⟩:=UQ hs
 have loop:∀n i:Nat,i+n=q.parts.length->Ev (λk=>Z3.l0 k q i) (if QG (q.parts.drop i)=true then .inr ()else .inl false):=by
  intro n
  induction n with
  |zero=>
   intro i h
   refine Ev.step (λk=>by rw[Z3.l0]) ?_
   simp(disch:=omega) only[Jj]
   rw[List.drop_eq_nil_of_le (by omega)]
   simp only[QG]
   exact Ev.pure _
  |succ n ihn=>
   intro i h
   have hi:i<q.parts.length:=by omega
   refine Ev.step (λk=>by rw[Z3.l0]) ?_
   simp(disch:=omega) only[QW,Int.toNat_natCast,getD_at hi]
   refine Ev.bind (ih _ (List.getElem_mem hi) (YX hs (List.getElem_mem hi))) ?_
   rw[KX hi]
   cases JS q.parts[i]with
   |false=>exact Ev.pure _
   |true=>
    simp(disch:=omega) only[Bool.not_true,cond_false,Bool.true_and,wrap_in]
    exact ihn (i+1) (by omega)
 refine Ev.step (λk=>by rw[Z3.F]) ?_
 refine Ev.bind (Q7y q hw) ?_
 rw[Y7]
 cases YQ q with
 |false=>exact Ev.pure _
 |true=>
  simp only[Bool.not_true,cond_false,Bool.true_and]
  have:=loop q.parts.length 0 (by omega)
  rw[List.drop_zero]at this
  cases hf:QG q.parts with
  |false=>rw[hf]at this;exact Ev.bind this (Ev.pure _)
  |true=>rw[hf]at this;exact Ev.bind this (Ev.pure _)
theorem Q5v:∀ps:List Query,Q8 ps<=Jx ps:=by
 have one:∀q:Query,Ql q<=1+Yf q:=byQ λq ih=>by
  rw[Yg,Gh]
  have:∀ps:List Query,(∀p∈ps,Ql p<=1+Yf p)->Q8 ps<=Jx ps:=by
   intro ps
   induction ps with
   |nil=>intro _;exact Nat.le_refl _
   |cons p l ihl=>
    intro h
    simp only[Q8,Jx]
    have h1:=h p List.mem_cons_self
    have h2:=ihl λx hx=>h x (List.mem_cons_of_mem _ hx)
    omega
  have:=this q.parts ih
  omega
 intro ps
 induction ps with
 |nil=>exact Nat.le_refl _
 |cons p l ih=>simp only[Q8,Jx];have:=one p;omega
theorem Q7z:∀q:Query,JD q->Ev (λk=>Z5.F k q) (Ql q):=by
 refine byQ λq ih hs=>?_
 obtain⟨_,_,hlen⟩:=UQ hs
 have hq:=Q5v q.parts
 have ht:=Gh q
 have loop:∀n i:Nat,i+n=q.parts.length->∀c:Nat,c+Q8 (q.parts.drop i)<=1+Q8 q.parts->Ev (λk=>Z5.l0 k q c i) ((c+Q8 (q.parts.drop i):Nat):Int):=by
  intro n
  induction n with
  |zero=>
   intro i h c hc
   refine Ev.step (λk=>by rw[Z5.l0]) ?_
   simp(disch:=omega) only[Jj]
   rw[List.drop_eq_nil_of_le (by omega)]
   simp only[Q8,Nat.add_zero]
   exact Ev.pure _
  |succ n ihn=>
   intro i h c hc
   have hi:i<q.parts.length:=by omega
   have hd:=DT hi
   unfold JD at hs
   refine Ev.step (λk=>by rw[Z5.l0]) ?_
   simp(disch:=omega) only[QW,Int.toNat_natCast,getD_at hi]
   refine Ev.bind (ih _ (List.getElem_mem hi) (YX hs (List.getElem_mem hi))) ?_
   simp(disch:=omega) only[wrap_in]
   have:=ihn (i+1) (by omega) (c+Ql q.parts[i]) (by omega)
   rw[hd,show c+(Ql q.parts[i]+Q8 (q.parts.drop (i+1)))=c+Ql q.parts[i]+Q8 (q.parts.drop (i+1)) by omega]
   exact this
 refine Ev.step (λk=>by rw[Z5.F]) ?_
 have:=loop q.parts.length 0 (by omega) 1 (by rw[List.drop_zero];omega)
 rw[List.drop_zero,<-Yg]at this
 exact Ev.bind this (Ev.pure _)
def XO (q:Query):Bool:=JS q&&decide ((Ql q:Int)<=15)
theorem DW (q:Query)(hs:JD q):Ev (λk=>Z24.F k q) (XO q):=by
 unfold Z24.F XO
 refine Ev.bind (Q6S q hs) ?_
 cases JS q with
 |false=>exact Ev.pure _
 |true=>exact Ev.bind (Q7z q hs) (Ev.pure _)
theorem Q3Y:∀q:Query,JD q->∀m:Int,m<=15->0<=m->∃c:Int,Ev (λk=>Z1.F k q m) (c,JS q&&decide ((Ql q:Int)<=m))/\0<=c/\c<=m/\((JS q&&decide ((Ql q:Int)<=m))=true->c=Ql q):=by
 refine byQ λq ih hs m hm hm0=>?_
 obtain⟨_,hw,hlen⟩:=UQ hs
 by_cases c1:m<1
 ·refine⟨0,Ev.step (λk=>by rw[Z1.F]) ?_,Int.le_refl _,hm0,λh=>?_⟩
  ·simp(disch:=omega) only[QW]
   have:=Us q
   rw[decide_eq_false (show¬(Ql q:Int)<=m by omega),Bool.and_false]
   exact Ev.pure _
  ·have:=Us q
   rw[decide_eq_false (show¬(Ql q:Int)<=m by omega),Bool.and_false]at h
   cases h
 ·have loop:∀n i:Nat,i+n=q.parts.length->∀(b:Bool) (c:Int),0<=c->c<=m->∃r,Ev (λk=>Z1.l1 k m b c q.parts q.parts.length i) r/\
    (((b&&(QG (q.parts.drop i)&&decide (c+Q8 (q.parts.drop i)<=m)))=true/\r= .inr (true,c+Q8 (q.parts.drop i)))\/
     ((b&&(QG (q.parts.drop i)&&decide (c+Q8 (q.parts.drop i)<=m)))=false/\(r= .inl (0,false)\/∃c',r= .inr (false,c')/\0<=c'/\c'<=m))):=by
   intro n
   induction n with
   |zero=>
    intro i h b c h0 h1
    refine⟨.inr (b,c),Ev.step (λk=>by rw[Z1.l1]) ?_,?_⟩
    ·simp(disch:=omega) only[Jj]
     exact Ev.pure _
    ·rw[List.drop_eq_nil_of_le (by omega)]
     rw[Q31,Q3X,Bool.true_and,decide_eq_true (show c+((0:Nat):Int)<=m by omega),Bool.and_true]
     cases b with
     |true=>exact .inl ⟨rfl,by congr 2;omega⟩
     |false=>exact .inr ⟨rfl,.inr ⟨c,rfl,h0,h1⟩⟩
   |succ n ihn=>
    intro i h b c h0 h1
    have hi:i<q.parts.length:=by omega
    cases b with
    |false=>
     refine⟨.inl (0,false),Ev.step (λk=>by rw[Z1.l1]) ?_,.inr ⟨rfl,.inl rfl⟩⟩
     simp(disch:=omega) only[QW,Bool.not_false,cond_true]
     exact Ev.pure _
    |true=>
     obtain⟨c2,e1,e2,e3,e4⟩:=ih _ (List.getElem_mem hi) (YX hs (List.getElem_mem hi)) (m-c) (by omega) (by omega)
     obtain⟨r,f1,f2⟩:=ihn (i+1) (by omega) (JS q.parts[i]&&decide ((Ql q.parts[i]:Int)<=m-c)) (c+c2) (by omega) (by omega)
     refine⟨r,Ev.step (λk=>by rw[Z1.l1]) ?_,?_⟩
     ·simp(disch:=omega) only[QW,Int.toNat_natCast,getD_at hi,Bool.not_true,cond_false,wrap_in]
      refine Ev.bind e1 ?_
      simp(disch:=omega) only[wrap_in]
      exact f1
     ·rw[KX hi,DT hi,Bool.true_and]
      cases hg:(JS q.parts[i]&&decide ((Ql q.parts[i]:Int)<=m-c))with
      |true=>
       have hc2:=e4 hg
       rw[hg]at f2
       obtain⟨hg1,hg2⟩:=Bool.and_eq_true_iff.1 hg
       have hg2:=of_decide_eq_true hg2
       rw[hg1,Bool.true_and]
       have es:c+((Ql q.parts[i]+Q8 (q.parts.drop (i+1)):Nat):Int)=c+c2+(Q8 (q.parts.drop (i+1)):Int):=by omega
       rw[es]
       simpa only[Bool.true_and]using f2
      |false=>
       rw[hg]at f2
       have hfalse:(JS q.parts[i]&&QG (q.parts.drop (i+1))&&decide (c+((Ql q.parts[i]+Q8 (q.parts.drop (i+1)):Nat):Int)<=m))=false:=by
        cases hq:JS q.parts[i]with
        |false=>rfl
        |true=>
         rw[hq,Bool.true_and]at hg
         have:=of_decide_eq_false hg
         rw[decide_eq_false (by omega),Bool.and_false]
       refine .inr ⟨hfalse,?_⟩
       rcases f2 with⟨h5,_⟩|⟨_,h5⟩
       ·cases h5
       ·exact h5
  have fin:∀b:Bool,∃c:Int,Ev (λk=>(Z1.l1 k m b 1 q.parts (q.parts.length:Int) 0).bind λy=>match y with|.inl z=>some (z.1,z.2)|.inr z=>some (z.2,z.1)) (c,b&&(QG q.parts&&decide ((Ql q:Int)<=m)))/\0<=c/\c<=m/\((b&&(QG q.parts&&decide ((Ql q:Int)<=m)))=true->c=Ql q):=by
   intro b
   obtain⟨r,f1,f2⟩:=loop q.parts.length 0 (by omega) b 1 (by omega) (by omega)
   rw[List.drop_zero,show(1:Int)+(Q8 q.parts:Int)=(Ql q:Int) by rw[Yg];omega]at f2
   rcases f2 with⟨h5,rfl⟩|⟨h5,rfl|⟨c',rfl,h6,h7⟩⟩
   ·refine⟨Ql q,Ev.bind f1 (by rw[h5];exact Ev.pure _),by omega,?_,λ_=>rfl⟩
    have:=(Bool.and_eq_true_iff.1 (Bool.and_eq_true_iff.1 h5).2).2
    exact of_decide_eq_true this
   ·exact⟨0,Ev.bind f1 (by rw[h5];exact Ev.pure _),by omega,by omega,λh=>by rw[h5]at h;cases h⟩
   ·exact⟨c',Ev.bind f1 (by rw[h5];exact Ev.pure _),h6,h7,λh=>by rw[h5]at h;cases h⟩
  have body:∃c:Int,Ev (λk=>Z1.F k q m) (c,YQ q&&(QG q.parts&&decide ((Ql q:Int)<=m)))/\0<=c/\c<=m/\((YQ q&&(QG q.parts&&decide ((Ql q:Int)<=m)))=true->c=Ql q):=by
   obtain⟨c,g1,g2⟩:=fin (YQ q)
   refine⟨c,Ev.step (λk=>by rw[Z1.F]) ?_,g2⟩
   clear g2
   simp(disch:=omega) only[Jj]
   unfold YQ Xo at*
   cases h1:q.op==1 with
   |true=>
    rw[h1]at g1
    simp only[cond_true]at g1 ⊢
    refine Ev.bind (Q2X _ (by omega)) ?_
    cases hwd:Xm q.word with
    |false=>rw[hwd]at g1;exact g1
    |true=>
     rw[hwd]at g1
     simp only[cond_true,Bool.true_and]at g1 ⊢
     cases hfe:Qk q.field ⟨#[]⟩with
     |true=>rw[hfe]at g1;simp only[Bool.or_true,Bool.true_and,cond_true]at g1 ⊢;exact g1
     |false=>
      rw[hfe]at g1
      simp only[cond_false,Bool.or_false]at g1 ⊢
      refine Ev.bind (Q3W _) ?_
      cases hm:Xn q.field XH with
      |true=>rw[hm]at g1;exact g1
      |false=>rw[hm]at g1;exact g1
   |false=>
    rw[h1]at g1
    simp only[cond_false]at g1 ⊢
    cases h2:q.op==2<;>cases h3:q.op==3<;>cases h4:q.op==4<;>cases h5:Qk q.word ⟨#[]⟩<;>cases h6:Qk q.field ⟨#[]⟩<;>rw[h2,h3,h4,h5,h6]at g1<;>exact g1
  rw[Y7,Bool.and_assoc]
  exact body
theorem DX (q:Query)(hs:JD q):Ev (λk=>Z20.F k q) (XO q):=by
 obtain⟨c,h1,_⟩:=Q3Y q hs 15 (by omega) (by omega)
 unfold Z20.F XO
 exact Ev.bind h1 (Ev.pure _)
end Go.Proofs.YtkbichbahpnmmaaDoor
end
section
/- Plain laws: the text of a query. -/
namespace Go.Proofs.YtkbichbahpnmmaaDoor
open Go.Gx
theorem YR (s t:ByteArray):(s++t).size=s.size+t.size:=by
 rw[<-Qb,Uo,List.length_append,Qb,Qb]
end Go.Proofs.YtkbichbahpnmmaaDoor
end
section
/- Plain laws: which query has which text. -/
namespace Go.Proofs.YtkbichbahpnmmaaDoor
open Go.Gx
inductive Tx:Query->List UInt8->Nat->Prop
 |word {w:ByteArray}:Xm w=true->Tx (.mk 1 ⟨#[]⟩ w []) (L w) 1
 |field {f w:ByteArray}:Xn f XH=true->Xm w=true->Tx (.mk 1 f w []) (L f++58::L w) 1
 |not {p:Query} {s:List UInt8} {d:Nat}:Tx p s d->Tx (.mk 2 ⟨#[]⟩ ⟨#[]⟩ [p]) (110::111::116::32::s) (d+1)
 |and {a b:Query} {s t:List UInt8} {d d':Nat}:Tx a s d->Tx b t d'->Tx (.mk 3 ⟨#[]⟩ ⟨#[]⟩ [a,b]) (40::(s++32::97::110::100::32::(t++[41]))) (max d d'+1)
 |or {a b:Query} {s t:List UInt8} {d d':Nat}:Tx a s d->Tx b t d'->Tx (.mk 4 ⟨#[]⟩ ⟨#[]⟩ [a,b]) (40::(s++32::111::114::32::(t++[41]))) (max d d'+1)
theorem Dp {s:ByteArray}(h:Qk s ⟨#[]⟩=true):s=⟨#[]⟩:=YO.1 h
theorem Q32:∀q:Query,JS q=true->∃s d,Tx q s d:=by
 refine byQ λq ih hf=>?_
 obtain⟨op,f,w,ps⟩:=q
 rw[Y7]at hf
 obtain⟨h1,h2⟩:=Bool.and_eq_true_iff.1 hf
 unfold YQ at h1
 simp only[Query.op,Query.field,Query.word,Query.parts]at h1 h2 ih
 by_cases c1:op=1
 ·subst c1
  simp only[beq_self_eq_true,cond_true,Bool.and_eq_true,beq_iff_eq,Xo,Bool.or_eq_true]at h1
  obtain⟨a1,a2,a3⟩:=h1
  obtain rfl:ps=[]:=List.eq_nil_of_length_eq_zero (by omega)
  rcases a2 with a2|a2
  ·exact⟨_,_,.field a2 a1⟩
  ·rw[Dp a2];exact⟨_,_,.word a1⟩
 rw[show(op==1)=false by simpa using c1,cond_false]at h1
 by_cases c2:op=2
 ·subst c2
  simp only[beq_self_eq_true,cond_true,Bool.and_eq_true,beq_iff_eq]at h1
  obtain⟨a1,a2,a3⟩:=h1
  obtain⟨p,rfl⟩:=List.length_eq_one_iff.1 (show ps.length=1 by omega)
  simp only[QG,Bool.and_true]at h2
  obtain⟨s,d,hs⟩:=ih p (by simp) h2
  rw[Dp a1,Dp a2]
  exact⟨_,_,.not hs⟩
 rw[show(op==2)=false by simpa using c2,cond_false]at h1
 cases c:(op==3||op==4)with
 |false=>rw[c]at h1;cases h1
 |true=>
  rw[c]at h1
  simp only[cond_true,Bool.and_eq_true,beq_iff_eq]at h1
  obtain⟨a1,a2,a3⟩:=h1
  obtain⟨a,b,rfl⟩:∃a b,ps=[a,b]:=by
   match ps,a3 with
   |[a,b],_=>exact⟨a,b,rfl⟩
   |[],h=>simp at h
   |[_],h=>simp at h
   |_::_::_::_,h=>simp at h;omega
  simp only[QG,Bool.and_true,Bool.and_eq_true]at h2
  obtain⟨s,d,hs⟩:=ih a (by simp) h2.1
  obtain⟨t,d',ht⟩:=ih b (by simp) h2.2
  rw[Dp a1,Dp a2]
  simp only[Bool.or_eq_true,beq_iff_eq]at c
  rcases c with rfl|rfl
  ·exact⟨_,_,.and hs ht⟩
  ·exact⟨_,_,.or hs ht⟩
theorem Q6T {q:Query}{s:List UInt8}{d:Nat}(h:Tx q s d):JS q=true:=by
 induction h with
 |word hw=>rw[Y7];simp[YQ,Query.op,Query.field,Query.word,Query.parts,hw,Xo,Jk,QG]
 |field hf hw=>rw[Y7];simp[YQ,Query.op,Query.field,Query.word,Query.parts,hw,hf,Xo,QG]
 |not _ ih=>rw[Y7];simp[YQ,Query.op,Query.field,Query.word,Query.parts,Jk,QG,ih]
 |and _ _ ih ih'=>rw[Y7];simp[YQ,Query.op,Query.field,Query.word,Query.parts,Jk,QG,ih,ih']
 |or _ _ ih ih'=>rw[Y7];simp[YQ,Query.op,Query.field,Query.word,Query.parts,Jk,QG,ih,ih']
theorem Q6U {q:Query}{s:List UInt8}{d:Nat}(h:Tx q s d):d<=Ql q/\1<=d:=by
 induction h with
 |word hw=>simp[Ql,Q8]
 |field hf hw=>simp[Ql,Q8]
 |not _ ih=>simp only[Ql,Q8];omega
 |and _ _ ih ih'=>simp only[Ql,Q8];omega
 |or _ _ ih ih'=>simp only[Ql,Q8];omega
theorem JO {w:ByteArray}(h:Xm w=true):(∀x∈L w,Jl x=true)/\1<=(L w).length/\(L w).length<=15/\L w≠[110,111,116]:=by
 unfold Xm at h
 simp only[Bool.and_eq_true,Bool.not_eq_true',List.all_eq_true,decide_eq_true_eq]at h
 obtain⟨h1,h2,h3,_⟩:=h
 refine⟨h1,by rw[Qb];omega,by rw[Qb];omega,λe=>?_⟩
 rw[Q1M,e]at h3
 exact absurd h3 (by decide)
theorem Q6V {f:ByteArray}{xs:List ByteArray}(h:Xn f xs=true):f∈xs:=by
 unfold Xn at h
 rw[List.any_eq_true]at h
 obtain⟨x,hx,e⟩:=h
 rw[<-YO.1 e];exact hx
theorem Ut {f:ByteArray}(h:Xn f XH=true):(∀x∈L f,Jl x=true)/\4<=(L f).length/\(L f).length<=9:=by
 have key:∀g∈XH,((L g).all Jl&&decide (4<=(L g).length)&&decide ((L g).length<=9))=true:=by decide
 have:=key f (Q6V h)
 simpa only[Bool.and_eq_true,List.all_eq_true,decide_eq_true_eq,and_assoc]using this
theorem Dq {q:Query}{s:List UInt8}{d:Nat}(h:Tx q s d):s.length<=25*Ql q/\1<=s.length:=by
 induction h with
 |word hw=>have:=JO hw;simp only[Ql,Q8];omega
 |field hf hw=>have:=JO hw;have:=Ut hf;simp only[Ql,Q8,List.length_append,List.length_cons];omega
 |not _ ih=>simp only[Ql,Q8,List.length_cons];omega
 |and _ _ ih ih'=>simp only[Ql,Q8,List.length_append,List.length_cons,List.length_nil];omega
 |or _ _ ih ih'=>simp only[Ql,Q8,List.length_append,List.length_cons,List.length_nil];omega
theorem Q6W:Xn ⟨#[]⟩ XH=false:=by
 cases h:Xn ⟨#[]⟩ XH with
 |false=>rfl
 |true=>have:=(Ut h).2.1;simp[L]at this
theorem JK (s:List UInt8):(⟨s.toArray⟩:ByteArray).size=s.length:=by simp[ByteArray.size]
theorem G2 (s:ByteArray):(⟨(L s).toArray⟩:ByteArray)=s:=XM (YP _)
theorem Q4v {q:Query}{s:List UInt8}{d:Nat}(h:Tx q s d):Ql q<=1000000->Ev (λk=>Z13.F k q) ⟨s.toArray⟩:=by
 induction h with
 | @word w hw=>
  intro _
  refine Ev.step (λk=>by rw[Z13.F]) ?_
  simp only[Query.op,Query.field,Query.word,beq_self_eq_true,cond_true,Jk,G2]
  exact Ev.pure _
 | @field f w hf hw=>
  intro _
  have h1:=JO hw
  have h2:=Ut hf
  have hz:Qk f ⟨#[]⟩=false:=by
   cases e:Qk f ⟨#[]⟩with
   |false=>rfl
   |true=>rw[Dp e,Q6W]at hf;cases hf
  have e1:(⟨#[58]⟩:ByteArray).size=1:=rfl
  rw[Qb]at h1 h2
  refine Ev.step (λk=>by rw[Z13.F]) ?_
  simp only[Query.op,Query.field,Query.word,beq_self_eq_true,cond_true,hz,cond_false]
  rw[Q1L (by omega),Q1L (by rw[YR];omega)]
  refine(Ev.pure _).eq (XM ?_)
  rw[Uo,Uo,YP (L f++58::L w)]
  simp[L]
 | @not p s d hp ih=>
  intro hq
  simp only[Ql,Q8]at hq
  have h1:=Dq hp
  have e1:(⟨#[110,111,116,32]⟩:ByteArray).size=4:=rfl
  refine Ev.step (λk=>by rw[Z13.F]) ?_
  simp only[Query.op,Query.field,Query.word,show((2:Int)==1)=false from rfl,beq_self_eq_true,cond_true,cond_false]
  simp(disch:=(simp only[Query.parts,List.length_cons,List.length_nil];omega)) only[QW]
  refine Ev.bind (ih (by omega)) ?_
  rw[Q1L (by rw[JK s];omega)]
  exact(Ev.pure _).eq (XM (by rw[Uo,YP s,YP (110::111::116::32::s)];rfl))
 | @and a b s t d d' ha hb ih ih'=>
  intro hq
  simp only[Ql,Q8]at hq
  have h1:=Dq ha
  have h2:=Dq hb
  have e1:(⟨#[40]⟩:ByteArray).size=1:=rfl
  have e2:(⟨#[32,97,110,100,32]⟩:ByteArray).size=5:=rfl
  have e3:(⟨#[41]⟩:ByteArray).size=1:=rfl
  refine Ev.step (λk=>by rw[Z13.F]) ?_
  simp only[Query.op,Query.field,Query.word,show((3:Int)==1)=false from rfl,show((3:Int)==2)=false from rfl,beq_self_eq_true,cond_true,cond_false]
  simp(disch:=(simp only[Query.parts,List.length_cons,List.length_nil];omega)) only[QW]
  refine Ev.bind (ih (by omega)) ?_
  simp(disch:=(simp only[YR,JK s,JK t];omega)) only[Q1L]
  refine Ev.bind (ih' (by omega)) ?_
  simp(disch:=(simp only[YR,JK s,JK t];omega)) only[Q1L]
  refine(Ev.pure _).eq (XM ?_)
  simp only[Uo,YP s,YP t,YP (40::_)]
  simp[L]
 | @or a b s t d d' ha hb ih ih'=>
  intro hq
  simp only[Ql,Q8]at hq
  have h1:=Dq ha
  have h2:=Dq hb
  have e1:(⟨#[40]⟩:ByteArray).size=1:=rfl
  have e2:(⟨#[32,111,114,32]⟩:ByteArray).size=4:=rfl
  have e3:(⟨#[41]⟩:ByteArray).size=1:=rfl
  refine Ev.step (λk=>by rw[Z13.F]) ?_
  simp only[Query.op,Query.field,Query.word,show((4:Int)==1)=false from rfl,show((4:Int)==2)=false from rfl,show((4:Int)==3)=false from rfl,beq_self_eq_true,cond_true,cond_false]
  simp(disch:=(simp only[Query.parts,List.length_cons,List.length_nil];omega)) only[QW]
  refine Ev.bind (ih (by omega)) ?_
  simp(disch:=(simp only[YR,JK s,JK t];omega)) only[Q1L]
  refine Ev.bind (ih' (by omega)) ?_
  simp(disch:=(simp only[YR,JK s,JK t];omega)) only[Q1L]
  refine(Ev.pure _).eq (XM ?_)
  simp only[Uo,YP s,YP t,YP (40::_)]
  simp[L]
def Q5w (r:List UInt8):Prop:=r=[]\/∃t,r=32::t\/r=41::t
theorem U7 {p:UInt8->Bool}:∀{w r:List UInt8},(∀x∈w,p x=true)->(∀c t,r=c::t->p c=false)->(w++r).takeWhile p=w
 |[],[],_,_=>rfl
 |[],c::t,_,h=>by simp[List.takeWhile,h c t rfl]
 |x::w,r,h,h'=>by
  rw[List.cons_append,List.takeWhile_cons,h x List.mem_cons_self]
  simp[U7 (λy hy=>h y (List.mem_cons_of_mem _ hy)) h']
theorem KY {r:List UInt8}(h:Q5w r):∀c t,r=c::t->Jl c=false:=by
 rintro c t e
 rcases h with rfl|⟨u,rfl|rfl⟩
 ·cases e
 ·cases e;rfl
 ·cases e;rfl
theorem Gi {w r:List UInt8}(h:∀x∈w,Jl x=true)(hn:w≠[110,111,116])(hr:∀c t,r=c::t->Jl c=false):(w++r).take 4≠[110,111,116,32]:=by
 intro e
 have h4:(w++r)=[110,111,116,32]++(w++r).drop 4:=by rw[<-e,List.take_append_drop]
 have t1:=U7 h hr
 rw[h4]at t1
 exact hn (t1.symm.trans (by simp[List.takeWhile,Jl]))
end Go.Proofs.YtkbichbahpnmmaaDoor
end
section
/- Plain laws: what the specification reads of a query's text. -/
namespace Go.Proofs.YtkbichbahpnmmaaDoor
open Go.Gx
def preB (p u:List UInt8):Bool:=u.take p.length==p
theorem Uu {p u:List UInt8}:preB p u=true ↔ ∃r,u=p++r:=by
 unfold preB
 rw[beq_iff_eq]
 constructor
 ·intro h
  exact⟨u.drop p.length,(List.take_append_drop p.length u).symm.trans (by rw[h])⟩
 ·rintro⟨r,rfl⟩
  simp
theorem Yh (p r:List UInt8):preB p (p++r)=true:=Uu.2 ⟨r,rfl⟩
theorem Y8 {p l:List UInt8}{i:Nat}(hi:i<=l.length)(h:preB p (l.drop i)=true):l.drop i=p++l.drop (i+p.length)/\i+p.length<=l.length:=by
 obtain⟨r,e⟩:=Uu.1 h
 have e2:=congrArg List.length e
 rw[List.length_drop,List.length_append]at e2
 refine⟨?_,by omega⟩
 rw[show l.drop (i+p.length)=(l.drop i).drop p.length from by rw[List.drop_drop],e]
 simp
theorem Qj (s:ByteArray)(hs:s.size<=400)(i:Nat)(hi:i<=s.size)(p:ByteArray)(hp:p.size<=10):Z16.F s i p=some (preB (L p) ((L s).drop i)):=by
 unfold Z16.F
 by_cases c:i+p.size<=s.size
 ·simp(disch:=omega) only[wrap_in,QW]
  rw[Q1M,JB,show((i:Int)+(p.size:Int)).toNat=i+p.size by omega,Int.toNat_natCast,List.drop_take,show i+p.size-i=p.size by omega]
  rfl
 ·simp(disch:=omega) only[wrap_in,Jj]
  cases h:preB (L p) ((L s).drop i)with
  |false=>rfl
  |true=>
   have:=(Y8 (by rw[Qb];exact hi) h).2
   rw[Qb,Qb]at this
   exact absurd this c
theorem Q4w {s:ByteArray}{i:Nat}(hi:i<s.size):(L s).drop i=(L s).getD i 0::(L s).drop (i+1):=by
 rw[getD_at (by rw[Qb];exact hi)]
 exact List.drop_eq_getElem_cons _
def wl (u:List UInt8):Nat:=(u.takeWhile Jl).length
theorem Q4x (s:ByteArray)(hs:s.size<=400)(a b:Int)(c d:ByteArray)(e:List Query)(f:Int)(g h:ByteArray)(m:List Query):∀n i:Nat,i+n=s.size->
  Ev (λk=>Z0.l1 k s a b c d e f g h m i) (s,a,b,c,d,e,f,g,h,m,((i+wl ((L s).drop i):Nat):Int))
 |0,i,hi=>by
  refine Ev.step (λk=>by rw[Z0.l1]) ?_
  simp(disch:=omega) only[Jj]
  rw[List.drop_eq_nil_of_le (by rw[Qb];omega)]
  exact Ev.pure _
 |n+1,i,hi=>by
  refine Ev.step (λk=>by rw[Z0.l1]) ?_
  simp(disch:=omega) only[QW,Int.toNat_natCast,Q7t]
  refine Ev.bind0 (Q1R _) ?_
  rw[Q4w (show i<s.size by omega)]
  unfold wl
  rw[List.takeWhile_cons]
  cases hl:Jl ((L s).getD i 0)with
  |false=>simp only[cond_false,Bool.false_eq_true,if_false];exact Ev.pure _
  |true=>
   simp(disch:=omega) only[cond_true,if_true,wrap_in]
   refine(Q4x s hs a b c d e f g h m n (i+1) (by omega)).eq ?_
   simp only[wl,List.length_cons]
   congr 10
   omega
theorem Q6X (s:ByteArray)(hs:s.size<=400)(a b:Int)(c d:ByteArray)(e:List Query)(f:Int):∀n i:Nat,i+n=s.size->
  Ev (λk=>Z0.l3 k s a b c d e f i) (s,a,b,c,d,e,f,((i+wl ((L s).drop i):Nat):Int))
 |0,i,hi=>by
  refine Ev.step (λk=>by rw[Z0.l3]) ?_
  simp(disch:=omega) only[Jj]
  rw[List.drop_eq_nil_of_le (by rw[Qb];omega)]
  exact Ev.pure _
 |n+1,i,hi=>by
  refine Ev.step (λk=>by rw[Z0.l3]) ?_
  simp(disch:=omega) only[QW,Int.toNat_natCast,Q7t]
  refine Ev.bind0 (Q1R _) ?_
  rw[Q4w (show i<s.size by omega)]
  unfold wl
  rw[List.takeWhile_cons]
  cases hl:Jl ((L s).getD i 0)with
  |false=>simp only[cond_false,Bool.false_eq_true,if_false];exact Ev.pure _
  |true=>
   simp(disch:=omega) only[cond_true,if_true,wrap_in]
   refine(Q6X s hs a b c d e f n (i+1) (by omega)).eq ?_
   simp only[wl,List.length_cons]
   congr 7
   omega
theorem Q7P (s:ByteArray)(i:Nat)(hi:i<=s.size):i+wl ((L s).drop i)<=s.size:=by
 have h:wl ((L s).drop i)<=((L s).drop i).length:=by
  unfold wl
  exact(List.takeWhile_sublist _).length_le
 rw[List.length_drop,Qb]at h
 omega
theorem Q4y {f w:ByteArray}{t:List UInt8}{d:Nat}(h:Tx (.mk 1 f w []) t d):(f=⟨#[]⟩/\t=L w)\/(Xn f XH=true/\t=L f++58::L w):=by
 generalize e:Query.mk 1 f w []=q at h
 cases h with
 |word hw=>obtain⟨_,rfl,rfl,_⟩:=Query.mk.inj e;exact .inl ⟨rfl,rfl⟩
 |field hf hw=>obtain⟨_,rfl,rfl,_⟩:=Query.mk.inj e;exact .inr ⟨hf,rfl⟩
 |not _=>exact absurd (Query.mk.inj e).1 (by decide)
 |and _ _=>exact absurd (Query.mk.inj e).1 (by decide)
 |or _ _=>exact absurd (Query.mk.inj e).1 (by decide)
theorem Q7A {p:Query}{t:List UInt8}{d:Nat}(h:Tx (.mk 2 ⟨#[]⟩ ⟨#[]⟩ [p]) t d):∃u d',Tx p u d'/\t=[110,111,116,32]++u:=by
 generalize e:Query.mk 2 ⟨#[]⟩ ⟨#[]⟩ [p]=q at h
 cases h with
 |word hw=>exact absurd (Query.mk.inj e).1 (by decide)
 |field hf hw=>exact absurd (Query.mk.inj e).1 (by decide)
 |not h=>
  have:=(Query.mk.inj e).2.2.2
  simp only[List.cons.injEq,and_true]at this
  subst this
  exact⟨_,_,h,rfl⟩
 |and _ _=>exact absurd (Query.mk.inj e).1 (by decide)
 |or _ _=>exact absurd (Query.mk.inj e).1 (by decide)
theorem Q7B {p r:Query}{t:List UInt8}{d:Nat}(h:Tx (.mk 3 ⟨#[]⟩ ⟨#[]⟩ [p,r]) t d):∃u v d' d'',Tx p u d'/\Tx r v d''/\t=40::(u++([32,97,110,100,32]++(v++[41]))):=by
 generalize e:Query.mk 3 ⟨#[]⟩ ⟨#[]⟩ [p,r]=q at h
 cases h with
 |word hw=>exact absurd (Query.mk.inj e).1 (by decide)
 |field hf hw=>exact absurd (Query.mk.inj e).1 (by decide)
 |not h=>exact absurd (Query.mk.inj e).1 (by decide)
 |and h h'=>
  have:=(Query.mk.inj e).2.2.2
  simp only[List.cons.injEq,and_true]at this
  obtain⟨rfl,rfl⟩:=this
  exact⟨_,_,_,_,h,h',by simp⟩
 |or _ _=>exact absurd (Query.mk.inj e).1 (by decide)
theorem Q7C {p r:Query}{t:List UInt8}{d:Nat}(h:Tx (.mk 4 ⟨#[]⟩ ⟨#[]⟩ [p,r]) t d):∃u v d' d'',Tx p u d'/\Tx r v d''/\t=40::(u++([32,111,114,32]++(v++[41]))):=by
 generalize e:Query.mk 4 ⟨#[]⟩ ⟨#[]⟩ [p,r]=q at h
 cases h with
 |word hw=>exact absurd (Query.mk.inj e).1 (by decide)
 |field hf hw=>exact absurd (Query.mk.inj e).1 (by decide)
 |not h=>exact absurd (Query.mk.inj e).1 (by decide)
 |and _ _=>exact absurd (Query.mk.inj e).1 (by decide)
 |or h h'=>
  have:=(Query.mk.inj e).2.2.2
  simp only[List.cons.injEq,and_true]at this
  obtain⟨rfl,rfl⟩:=this
  exact⟨_,_,_,_,h,h',by simp⟩
def Q8t (s:ByteArray)(i:Nat)(q:Query)(m:Nat):Prop:=i<m/\m<=s.size/\Yf q<=2* (m-i)/\∀t d,Tx q t d->(L s).drop i=t++(L s).drop m
abbrev YS:ByteArray:=⟨#[110,111,116,32]⟩
abbrev Yl:ByteArray:=⟨#[40]⟩
abbrev pOr:ByteArray:=⟨#[32,111,114,32]⟩
abbrev Q33:ByteArray:=⟨#[32,97,110,100,32]⟩
abbrev Yx:ByteArray:=⟨#[41]⟩
abbrev Ds:ByteArray:=⟨#[58]⟩
theorem Q4z (op:Int)(a b:Query):Yf (.mk op ⟨#[]⟩ ⟨#[]⟩ [a,b])=2+Yf a+Yf b:=by
 have e:(⟨#[]⟩:ByteArray).size=0:=rfl
 simp only[Yf,Jx];omega
theorem KZ (s:ByteArray)(i w:Nat)(h:i+w<=s.size):(L s).drop i=L (s.extract i (i+w))++(L s).drop (i+w):=by
 have h2:(L s).drop (i+w)=((L s).drop i).drop w:=by rw[List.drop_drop]
 rw[JB,List.drop_take,show i+w-i=w by omega,h2,List.take_append_drop]
theorem ext_size (s:ByteArray)(i w:Nat)(h:i+w<=s.size):(s.extract i (i+w)).size=w:=by
 rw[<-Qb,JB,List.drop_take,show i+w-i=w by omega,List.length_take,List.length_drop,Qb]
 omega
theorem D1 (s:ByteArray)(hs:s.size<=400):∀n i:Nat,i<=s.size->s.size<i+n->∃(q:Query) (j:Int),Ev (λk=>Z0.F k s i) (q,j)/\ -1<=j/\(0<=j->∃m:Nat,j=m/\Q8t s i q m)
 |0,i,h1,h2=>by omega
 |n+1,i,h1,h2=>by
  have hL:i<=(L s).length:=by rw[Qb];exact h1
  have s1:=Qj s hs i h1 YS (by decide)
  have s2:=Qj s hs i h1 Yl (by decide)
  have bad:∀q:Query,-1<=(-1:Int)/\((0:Int)<= -1->∃m:Nat,(-1:Int)=m/\Q8t s i q m):=λq=>⟨by omega,λh=>absurd h (by decide)⟩
  cases cn:preB (L YS) ((L s).drop i)with
  |true=>
   rw[cn]at s1
   obtain⟨e,hl⟩:=Y8 hL cn
   have hl4:i+4<=s.size:=hl
   obtain⟨q,j,g1,g2,g3⟩:=D1 s hs n (i+4) hl4 (by omega)
   refine⟨.mk 2 ⟨#[]⟩ ⟨#[]⟩ [q],j,Ev.step (λk=>by rw[Z0.F]) ?_,g2,λhj=>?_⟩
   ·refine Ev.bind0 s1 ?_
    simp(disch:=omega) only[cond_true,wrap_in]
    exact Ev.bind g1 (Ev.pure _)
   ·obtain⟨m,rfl,m1,m2,m3,m4⟩:=g3 hj
    refine⟨m,rfl,by omega,m2,?_,λt d ht=>?_⟩
    ·have e:(⟨#[]⟩:ByteArray).size=0:=rfl
     simp only[Yf,Jx];omega
    ·obtain⟨u,d',hu,rfl⟩:=Q7A ht
     rw[e,List.append_assoc]
     congr 1
     exact m4 u d' hu
  |false=>
   rw[cn]at s1
   cases cp:preB (L Yl) ((L s).drop i)with
   |true=>
    rw[cp]at s2
    obtain⟨e,hl⟩:=Y8 hL cp
    have hl1:i+1<=s.size:=hl
    obtain⟨q,j,g1,g2,g3⟩:=D1 s hs n (i+1) hl1 (by omega)
    by_cases hj:0<=j
    ·obtain⟨m,rfl,m1,m2,m3,m4⟩:=g3 hj
     have hLm:m<=(L s).length:=by rw[Qb];exact m2
     have s3:=Qj s hs m m2 pOr (by decide)
     have s4:=Qj s hs m m2 Q33 (by decide)
     cases co:preB (L pOr) ((L s).drop m)with
     |true=>
      rw[co]at s3
      obtain⟨e2,hl2⟩:=Y8 hLm co
      have hl3:m+4<=s.size:=hl2
      obtain⟨q2,j2,k1,k2,k3⟩:=D1 s hs n (m+4) hl3 (by omega)
      by_cases hj2:0<=j2
      ·obtain⟨m',rfl,n1,n2,n3,n4⟩:=k3 hj2
       have hLm':m'<=(L s).length:=by rw[Qb];exact n2
       have s5:=Qj s hs m' n2 Yx (by decide)
       cases cc:preB (L Yx) ((L s).drop m')with
       |true=>
        rw[cc]at s5
        obtain⟨e3,hl4⟩:=Y8 hLm' cc
        have hl5:m'+1<=s.size:=hl4
        refine⟨.mk 4 ⟨#[]⟩ ⟨#[]⟩ [q,q2],((m'+1:Nat):Int),Ev.step (λk=>by rw[Z0.F]) ?_,by omega,λ_=>⟨m'+1,rfl,by omega,hl5,by rw[Q4z];omega,λt d ht=>?_⟩⟩
        ·refine Ev.bind0 s1 (Ev.bind0 s2 ?_)
         simp(disch:=omega) only[cond_true,cond_false,wrap_in]
         refine Ev.bind g1 ?_
         simp(disch:=omega) only[QW]
         refine Ev.bind0 s3 ?_
         simp(disch:=omega) only[cond_true,wrap_in]
         refine Ev.bind k1 ?_
         simp(disch:=omega) only[Jj]
         refine Ev.bind0 s5 ?_
         simp(disch:=omega) only[Bool.not_true,cond_false,wrap_in]
         exact Ev.pure _
        ·obtain⟨u,v,d',d'',hu,hv,rfl⟩:=Q7C ht
         have f1:=m4 u d' hu
         have f2:=n4 v d'' hv
         have e':List.drop i (L s)=[40]++List.drop (i+1) (L s):=e
         have e2':List.drop m (L s)=[32,111,114,32]++List.drop (m+4) (L s):=e2
         have e3':List.drop m' (L s)=[41]++List.drop (m'+1) (L s):=e3
         rw[e',f1,e2',f2,e3']
         simp
       |false=>
        rw[cc]at s5
        refine⟨.mk 0 ⟨#[]⟩ ⟨#[]⟩ [],-1,Ev.step (λk=>by rw[Z0.F]) ?_,bad _⟩
        refine Ev.bind0 s1 (Ev.bind0 s2 ?_)
        simp(disch:=omega) only[cond_true,cond_false,wrap_in]
        refine Ev.bind g1 ?_
        simp(disch:=omega) only[QW]
        refine Ev.bind0 s3 ?_
        simp(disch:=omega) only[cond_true,wrap_in]
        refine Ev.bind k1 ?_
        simp(disch:=omega) only[Jj]
        refine Ev.bind0 s5 ?_
        exact Ev.pure _
      ·refine⟨.mk 0 ⟨#[]⟩ ⟨#[]⟩ [],-1,Ev.step (λk=>by rw[Z0.F]) ?_,bad _⟩
       refine Ev.bind0 s1 (Ev.bind0 s2 ?_)
       simp(disch:=omega) only[cond_true,cond_false,wrap_in]
       refine Ev.bind g1 ?_
       simp(disch:=omega) only[QW]
       refine Ev.bind0 s3 ?_
       simp(disch:=omega) only[cond_true,wrap_in]
       refine Ev.bind k1 ?_
       simp(disch:=omega) only[QW]
       exact Ev.pure _
     |false=>
      rw[co]at s3
      cases ca:preB (L Q33) ((L s).drop m)with
      |false=>
       rw[ca]at s4
       refine⟨.mk 0 ⟨#[]⟩ ⟨#[]⟩ [],-1,Ev.step (λk=>by rw[Z0.F]) ?_,bad _⟩
       refine Ev.bind0 s1 (Ev.bind0 s2 ?_)
       simp(disch:=omega) only[cond_true,cond_false,wrap_in]
       refine Ev.bind g1 ?_
       simp(disch:=omega) only[QW]
       refine Ev.bind0 s3 ?_
       simp(disch:=omega) only[cond_false,Jj]
       refine Ev.bind0 s4 ?_
       exact Ev.pure _
      |true=>
       rw[ca]at s4
       obtain⟨e2,hl2⟩:=Y8 hLm ca
       have hl3:m+5<=s.size:=hl2
       obtain⟨q2,j2,k1,k2,k3⟩:=D1 s hs n (m+5) hl3 (by omega)
       by_cases hj2:0<=j2
       ·obtain⟨m',rfl,n1,n2,n3,n4⟩:=k3 hj2
        have hLm':m'<=(L s).length:=by rw[Qb];exact n2
        have s5:=Qj s hs m' n2 Yx (by decide)
        cases cc:preB (L Yx) ((L s).drop m')with
        |true=>
         rw[cc]at s5
         obtain⟨e3,hl4⟩:=Y8 hLm' cc
         have hl5:m'+1<=s.size:=hl4
         refine⟨.mk 3 ⟨#[]⟩ ⟨#[]⟩ [q,q2],((m'+1:Nat):Int),Ev.step (λk=>by rw[Z0.F]) ?_,by omega,λ_=>⟨m'+1,rfl,by omega,hl5,by rw[Q4z];omega,λt d ht=>?_⟩⟩
         ·refine Ev.bind0 s1 (Ev.bind0 s2 ?_)
          simp(disch:=omega) only[cond_true,cond_false,wrap_in]
          refine Ev.bind g1 ?_
          simp(disch:=omega) only[QW]
          refine Ev.bind0 s3 ?_
          simp(disch:=omega) only[cond_false,Jj]
          refine Ev.bind0 s4 ?_
          simp(disch:=omega) only[Bool.not_true,cond_false,wrap_in]
          refine Ev.bind k1 ?_
          simp(disch:=omega) only[Jj]
          refine Ev.bind0 s5 ?_
          simp(disch:=omega) only[Bool.not_true,cond_false,wrap_in]
          exact Ev.pure _
         ·obtain⟨u,v,d',d'',hu,hv,rfl⟩:=Q7B ht
          have f1:=m4 u d' hu
          have f2:=n4 v d'' hv
          have e':List.drop i (L s)=[40]++List.drop (i+1) (L s):=e
          have e2':List.drop m (L s)=[32,97,110,100,32]++List.drop (m+5) (L s):=e2
          have e3':List.drop m' (L s)=[41]++List.drop (m'+1) (L s):=e3
          rw[e',f1,e2',f2,e3']
          simp
        |false=>
         rw[cc]at s5
         refine⟨.mk 0 ⟨#[]⟩ ⟨#[]⟩ [],-1,Ev.step (λk=>by rw[Z0.F]) ?_,bad _⟩
         refine Ev.bind0 s1 (Ev.bind0 s2 ?_)
         simp(disch:=omega) only[cond_true,cond_false,wrap_in]
         refine Ev.bind g1 ?_
         simp(disch:=omega) only[QW]
         refine Ev.bind0 s3 ?_
         simp(disch:=omega) only[cond_false,Jj]
         refine Ev.bind0 s4 ?_
         simp(disch:=omega) only[Bool.not_true,cond_false,wrap_in]
         refine Ev.bind k1 ?_
         simp(disch:=omega) only[Jj]
         refine Ev.bind0 s5 ?_
         exact Ev.pure _
       ·refine⟨.mk 0 ⟨#[]⟩ ⟨#[]⟩ [],-1,Ev.step (λk=>by rw[Z0.F]) ?_,bad _⟩
        refine Ev.bind0 s1 (Ev.bind0 s2 ?_)
        simp(disch:=omega) only[cond_true,cond_false,wrap_in]
        refine Ev.bind g1 ?_
        simp(disch:=omega) only[QW]
        refine Ev.bind0 s3 ?_
        simp(disch:=omega) only[cond_false,Jj]
        refine Ev.bind0 s4 ?_
        simp(disch:=omega) only[Bool.not_true,cond_false,wrap_in]
        refine Ev.bind k1 ?_
        simp(disch:=omega) only[QW]
        exact Ev.pure _
    ·refine⟨.mk 0 ⟨#[]⟩ ⟨#[]⟩ [],-1,Ev.step (λk=>by rw[Z0.F]) ?_,bad _⟩
     refine Ev.bind0 s1 (Ev.bind0 s2 ?_)
     simp(disch:=omega) only[cond_true,cond_false,wrap_in]
     refine Ev.bind g1 ?_
     simp(disch:=omega) only[QW,Jj]
     exact Ev.pure _
   |false=>
    rw[cp]at s2
    have w1:=Q4x s hs i 0 ⟨#[]⟩ ⟨#[]⟩ [] 0 ⟨#[]⟩ ⟨#[]⟩ [] (s.size-i) i (by omega)
    have hw:=Q7P s i h1
    generalize wl ((L s).drop i)=w at w1 hw
    by_cases hz:w=0
    ·subst hz
     refine⟨.mk 0 ⟨#[]⟩ ⟨#[]⟩ [],-1,Ev.step (λk=>by rw[Z0.F]) ?_,bad _⟩
     refine Ev.bind0 s1 (Ev.bind0 s2 ?_)
     simp only[cond_false]
     refine Ev.bind w1 ?_
     simp only[Nat.add_zero,beq_self_eq_true,cond_true]
     exact Ev.pure _
    ·have hne:(((i+w:Nat):Int)==(i:Int))=false:=beq_eq_false_iff_ne.2 (by omega)
     have s3:=Qj s hs (i+w) hw Ds (by decide)
     cases cc:preB (L Ds) ((L s).drop (i+w))with
     |false=>
      rw[cc]at s3
      refine⟨.mk 1 ⟨#[]⟩ (s.extract i (i+w)) [],((i+w:Nat):Int),Ev.step (λk=>by rw[Z0.F]) ?_,by omega,λ_=>⟨i+w,rfl,by omega,hw,?_,λt d ht=>?_⟩⟩
      ·refine Ev.bind0 s1 (Ev.bind0 s2 ?_)
       simp only[cond_false]
       refine Ev.bind w1 ?_
       simp only[hne,cond_false]
       refine Ev.bind0 s3 ?_
       simp(disch:=omega) only[Bool.not_false,cond_true,QW,Int.toNat_natCast]
       exact Ev.pure _
      ·have e:(⟨#[]⟩:ByteArray).size=0:=rfl
       simp only[Yf,Jx,ext_size s i w hw];omega
      ·rcases Q4y ht with⟨_,rfl⟩|⟨hf,_⟩
       ·exact KZ s i w hw
       ·rw[Q6W]at hf;cases hf
     |true=>
      rw[cc]at s3
      obtain⟨e2,hl2⟩:=Y8 (by rw[Qb];exact hw) cc
      have hl3:i+w+1<=s.size:=hl2
      have w3:=Q6X s hs i 0 ⟨#[]⟩ ⟨#[]⟩ [] ((i+w:Nat):Int) (s.size-(i+w+1)) (i+w+1) (by omega)
      have hv:=Q7P s (i+w+1) hl3
      generalize wl ((L s).drop (i+w+1))=v at w3 hv
      refine⟨.mk 1 (s.extract i (i+w)) (s.extract (i+w+1) (i+w+1+v)) [],((i+w+1+v:Nat):Int),Ev.step (λk=>by rw[Z0.F]) ?_,by omega,λ_=>⟨i+w+1+v,rfl,by omega,hv,?_,λt d ht=>?_⟩⟩
      ·refine Ev.bind0 s1 (Ev.bind0 s2 ?_)
       simp only[cond_false]
       refine Ev.bind w1 ?_
       simp only[hne,cond_false]
       refine Ev.bind0 s3 ?_
       simp(disch:=omega) only[Bool.not_true,cond_false,wrap_in]
       refine Ev.bind w3 ?_
       simp(disch:=omega) only[wrap_in,QW,Int.toNat_natCast,show(((i+w:Nat):Int)+1).toNat=i+w+1 by omega]
       exact Ev.pure _
      ·simp only[Yf,Jx,ext_size s i w hw,ext_size s (i+w+1) v hv];omega
      ·have e2':List.drop (i+w) (L s)=[58]++List.drop (i+w+1) (L s):=e2
       rcases Q4y ht with⟨hf,_⟩|⟨hf,rfl⟩
       ·have:=ext_size s i w hw
        rw[hf]at this
        exact absurd this.symm hz
       ·rw[KZ s i w hw,e2',KZ s (i+w+1) v hv]
        simp
theorem J3 {s:ByteArray}{i:Nat}{x y:List UInt8}(hi:i<=s.size)(e:(L s).drop i=x++y):(L s).drop (i+x.length)=y/\i+x.length<=s.size:=by
 have h:=congrArg List.length e
 rw[List.length_drop,Qb,List.length_append]at h
 refine⟨?_,by omega⟩
 rw[show(L s).drop (i+x.length)=((L s).drop i).drop x.length from by rw[List.drop_drop],e]
 simp
theorem Gj {w r:List UInt8}(h:∀x∈w,Jl x=true)(h1:1<=w.length):preB [40] (w++r)=false:=by
 match w,h1 with
 |x::l,_=>
  have hx:=h x List.mem_cons_self
  have hne:x≠40:=λe=>by rw[e]at hx;exact absurd hx (by decide)
  simp[preB,hne]
theorem Q6Y {r:List UInt8}(hr:Q5w r):preB [58] r=false:=by
 rcases hr with rfl|⟨u,rfl|rfl⟩<;>rfl
theorem Q3Z {w r:List UInt8}(h:∀x∈w,Jl x=true)(hr:∀c t,r=c::t->Jl c=false):wl (w++r)=w.length:=by
 unfold wl;rw[U7 h hr]
theorem Q40 {s w:ByteArray}{i:Nat}{r:List UInt8}(hi:i<=s.size)(e:(L s).drop i=L w++r):s.extract i (i+w.size)=w:=by
 obtain⟨h1,h2⟩:=J3 hi e
 rw[Qb]at h1 h2
 have h3:=KZ s i w.size h2
 rw[e,h1]at h3
 exact XM (List.append_cancel_right h3).symm
theorem Q7D {q:Query}{t:List UInt8}{d:Nat}(h:Tx q t d):∀(s:ByteArray),s.size<=400->∀(i:Nat) (r:List UInt8),i<=s.size->(L s).drop i=t++r->Q5w r->Ev (λk=>Z0.F k s i) (q,((i+t.length:Nat):Int)):=by
 induction h with
 | @word w hw=>
  intro s hs i r h1 e hr
  obtain⟨k1,k2,k3,k4⟩:=JO hw
  obtain⟨d1,d2⟩:=J3 h1 e
  rw[Qb]at k2 k3 d1 d2
  have s1:=Qj s hs i h1 YS (by decide)
  have s2:=Qj s hs i h1 Yl (by decide)
  rw[show preB (L YS) ((L s).drop i)=false from by rw[e];exact beq_eq_false_iff_ne.2 (Gi k1 k4 (KY hr))]at s1
  rw[show preB (L Yl) ((L s).drop i)=false from by rw[e];exact Gj k1 k2]at s2
  have w1:=Q4x s hs i 0 ⟨#[]⟩ ⟨#[]⟩ [] 0 ⟨#[]⟩ ⟨#[]⟩ [] (s.size-i) i (by omega)
  rw[e,Q3Z k1 (KY hr),Qb]at w1
  have hne:(((i+w.size:Nat):Int)==(i:Int))=false:=beq_eq_false_iff_ne.2 (by omega)
  have s3:=Qj s hs (i+w.size) d2 Ds (by decide)
  rw[show preB (L Ds) ((L s).drop (i+w.size))=false from by rw[d1];exact Q6Y hr]at s3
  refine Ev.step (λk=>by rw[Z0.F]) ?_
  refine Ev.bind0 s1 (Ev.bind0 s2 ?_)
  simp only[cond_false]
  refine Ev.bind w1 ?_
  simp only[hne,cond_false]
  refine Ev.bind0 s3 ?_
  simp(disch:=omega) only[Bool.not_false,cond_true,QW,Int.toNat_natCast,Q40 h1 e]
  exact Ev.pure _
 | @field f w hf hw=>
  intro s hs i r h1 e hr
  obtain⟨k1,k2,k3,k4⟩:=JO hw
  obtain⟨f1,f2,f3⟩:=Ut hf
  rw[List.append_assoc]at e
  obtain⟨d1,d2⟩:=J3 h1 e
  have hc:∀c t,((58::L w)++r:List UInt8)=c::t->Jl c=false:=λc t h=>by
   rw[<-(List.cons.inj h).1];rfl
  have hn:L f≠[110,111,116]:=λh=>by rw[h]at f2;exact absurd f2 (by decide)
  have f2':1<=(L f).length:=by omega
  rw[Qb]at k2 k3 d1 d2 f2 f3
  have s1:=Qj s hs i h1 YS (by decide)
  have s2:=Qj s hs i h1 Yl (by decide)
  rw[show preB (L YS) ((L s).drop i)=false from by rw[e];exact beq_eq_false_iff_ne.2 (Gi f1 hn hc)]at s1
  rw[show preB (L Yl) ((L s).drop i)=false from by rw[e];exact Gj f1 f2']at s2
  have w1:=Q4x s hs i 0 ⟨#[]⟩ ⟨#[]⟩ [] 0 ⟨#[]⟩ ⟨#[]⟩ [] (s.size-i) i (by omega)
  rw[e,Q3Z f1 hc,Qb]at w1
  have hne:(((i+f.size:Nat):Int)==(i:Int))=false:=beq_eq_false_iff_ne.2 (by omega)
  have s3:=Qj s hs (i+f.size) d2 Ds (by decide)
  rw[show preB (L Ds) ((L s).drop (i+f.size))=true from by rw[d1];exact Yh [58] (L w++r)]at s3
  obtain⟨d3,d4⟩:=J3 (x:=[58]) (y:=L w++r) d2 d1
  have d3':(L s).drop (i+f.size+1)=L w++r:=d3
  have d4':i+f.size+1<=s.size:=d4
  have w3:=Q6X s hs i 0 ⟨#[]⟩ ⟨#[]⟩ [] ((i+f.size:Nat):Int) (s.size-(i+f.size+1)) (i+f.size+1) (by omega)
  rw[d3',Q3Z k1 (KY hr),Qb]at w3
  obtain⟨d5,d6⟩:=J3 d4' d3'
  rw[Qb]at d6
  refine Ev.step (λk=>by rw[Z0.F]) ?_
  refine Ev.bind0 s1 (Ev.bind0 s2 ?_)
  simp only[cond_false]
  refine Ev.bind w1 ?_
  simp only[hne,cond_false]
  refine Ev.bind0 s3 ?_
  simp(disch:=omega) only[Bool.not_true,cond_false,wrap_in]
  refine Ev.bind w3 ?_
  simp(disch:=omega) only[wrap_in,QW,Int.toNat_natCast,show(((i+f.size:Nat):Int)+1).toNat=i+f.size+1 by omega,Q40 h1 e,Q40 d4' d3']
  refine(Ev.pure _).eq ?_
  simp only[List.length_append,List.length_cons,Qb]
  congr 2
  omega
 | @not p u d hp ih=>
  intro s hs i r h1 e hr
  have s1:=Qj s hs i h1 YS (by decide)
  have hl:i+4<=s.size:=by have:=congrArg List.length e;simp only[List.length_drop,Qb,List.length_append,List.length_cons]at this;omega
  rw[show preB (L YS) ((L s).drop i)=true from by rw[e];exact Yh [110,111,116,32] (u++r)]at s1
  have g:=ih s hs (i+4) r hl (by
   rw[show(L s).drop (i+4)=((L s).drop i).drop 4 from by rw[List.drop_drop],e];rfl) hr
  refine Ev.step (λk=>by rw[Z0.F]) ?_
  refine Ev.bind0 s1 ?_
  simp(disch:=omega) only[cond_true,wrap_in]
  refine Ev.bind g ((Ev.pure _).eq ?_)
  simp only[List.length_cons]
  congr 2
  omega
 | @and a b u v d d' ha hb ih ih'=>
  intro s hs i r h1 e hr
  have e0:(L s).drop i=[40]++(u++([32,97,110,100,32]++(v++([41]++r)))):=by rw[e];simp
  obtain⟨a1,a2⟩:=J3 h1 e0
  have a1':(L s).drop (i+1)=u++([32,97,110,100,32]++(v++([41]++r))):=a1
  have a2':i+1<=s.size:=a2
  obtain⟨b1,b2⟩:=J3 a2' a1'
  obtain⟨c1,c2⟩:=J3 b2 b1
  have c1':(L s).drop (i+1+u.length+5)=v++([41]++r):=c1
  have c2':i+1+u.length+5<=s.size:=c2
  obtain⟨x1,x2⟩:=J3 c2' c1'
  obtain⟨_,y2⟩:=J3 x2 x1
  have y2':i+1+u.length+5+v.length+1<=s.size:=y2
  have s1:=Qj s hs i h1 YS (by decide)
  have s2:=Qj s hs i h1 Yl (by decide)
  rw[show preB (L YS) ((L s).drop i)=false from by rw[e0];rfl]at s1
  rw[show preB (L Yl) ((L s).drop i)=true from by rw[e0];exact Yh [40] _]at s2
  have g1:=ih s hs (i+1) _ a2' a1' (.inr ⟨_,.inl rfl⟩)
  have s3:=Qj s hs (i+1+u.length) b2 pOr (by decide)
  have s4:=Qj s hs (i+1+u.length) b2 Q33 (by decide)
  rw[b1]at s3 s4
  have g2:=ih' s hs (i+1+u.length+5) _ c2' c1' (.inr ⟨_,.inr rfl⟩)
  have s5:=Qj s hs (i+1+u.length+5+v.length) x2 Yx (by decide)
  rw[show preB (L Yx) ((L s).drop (i+1+u.length+5+v.length))=true from by rw[x1];exact Yh [41] r]at s5
  refine Ev.step (λk=>by rw[Z0.F]) ?_
  refine Ev.bind0 s1 (Ev.bind0 s2 ?_)
  simp(disch:=omega) only[cond_true,cond_false,wrap_in]
  refine Ev.bind g1 ?_
  simp(disch:=omega) only[QW]
  rw[show preB (L pOr) ([32,97,110,100,32]++(v++([41]++r)))=false from rfl]at s3
  rw[show preB (L Q33) ([32,97,110,100,32]++(v++([41]++r)))=true from Yh [32,97,110,100,32] _]at s4
  refine Ev.bind0 s3 ?_
  simp(disch:=omega) only[cond_false,Jj]
  refine Ev.bind0 s4 ?_
  simp(disch:=omega) only[Bool.not_true,cond_false,wrap_in]
  refine Ev.bind g2 ?_
  simp(disch:=omega) only[Jj]
  refine Ev.bind0 s5 ?_
  simp(disch:=omega) only[Bool.not_true,cond_false,wrap_in]
  refine(Ev.pure _).eq ?_
  simp only[List.length_append,List.length_cons,List.length_nil]
  congr 2
  omega
 | @or a b u v d d' ha hb ih ih'=>
  intro s hs i r h1 e hr
  have e0:(L s).drop i=[40]++(u++([32,111,114,32]++(v++([41]++r)))):=by rw[e];simp
  obtain⟨a1,a2⟩:=J3 h1 e0
  have a1':(L s).drop (i+1)=u++([32,111,114,32]++(v++([41]++r))):=a1
  have a2':i+1<=s.size:=a2
  obtain⟨b1,b2⟩:=J3 a2' a1'
  obtain⟨c1,c2⟩:=J3 b2 b1
  have c1':(L s).drop (i+1+u.length+4)=v++([41]++r):=c1
  have c2':i+1+u.length+4<=s.size:=c2
  obtain⟨x1,x2⟩:=J3 c2' c1'
  obtain⟨_,y2⟩:=J3 x2 x1
  have y2':i+1+u.length+4+v.length+1<=s.size:=y2
  have s1:=Qj s hs i h1 YS (by decide)
  have s2:=Qj s hs i h1 Yl (by decide)
  rw[show preB (L YS) ((L s).drop i)=false from by rw[e0];rfl]at s1
  rw[show preB (L Yl) ((L s).drop i)=true from by rw[e0];exact Yh [40] _]at s2
  have g1:=ih s hs (i+1) _ a2' a1' (.inr ⟨_,.inl rfl⟩)
  have s3:=Qj s hs (i+1+u.length) b2 pOr (by decide)
  have s4:=Qj s hs (i+1+u.length) b2 Q33 (by decide)
  rw[b1]at s3 s4
  have g2:=ih' s hs (i+1+u.length+4) _ c2' c1' (.inr ⟨_,.inr rfl⟩)
  have s5:=Qj s hs (i+1+u.length+4+v.length) x2 Yx (by decide)
  rw[show preB (L Yx) ((L s).drop (i+1+u.length+4+v.length))=true from by rw[x1];exact Yh [41] r]at s5
  refine Ev.step (λk=>by rw[Z0.F]) ?_
  refine Ev.bind0 s1 (Ev.bind0 s2 ?_)
  simp(disch:=omega) only[cond_true,cond_false,wrap_in]
  refine Ev.bind g1 ?_
  simp(disch:=omega) only[QW]
  rw[show preB (L pOr) ([32,111,114,32]++(v++([41]++r)))=true from Yh [32,111,114,32] _]at s3
  refine Ev.bind0 s3 ?_
  simp(disch:=omega) only[cond_true,wrap_in]
  refine Ev.bind g2 ?_
  simp(disch:=omega) only[Jj]
  refine Ev.bind0 s5 ?_
  simp(disch:=omega) only[Bool.not_true,cond_false,wrap_in]
  refine(Ev.pure _).eq ?_
  simp only[List.length_append,List.length_cons,List.length_nil]
  congr 2
  omega
end Go.Proofs.YtkbichbahpnmmaaDoor
end
section
/- Plain laws: what the code reads of a query's text. -/
namespace Go.Proofs.YtkbichbahpnmmaaDoor
open Go.Gx
theorem Q4A (a p:ByteArray):Z31.F a p=some (preB (L p) (L a)):=by
 unfold Z31.F
 by_cases c:p.size<=a.size
 ·simp(disch:=omega) only[QW,Int.toNat_natCast]
  rw[Q1M,JB,List.drop_zero]
  rfl
 ·simp(disch:=omega) only[Jj]
  cases h:preB (L p) (L a)with
  |false=>rfl
  |true=>
   obtain⟨r,e⟩:=Uu.1 h
   have:=congrArg List.length e
   rw[List.length_append,Qb,Qb]at this
   omega
theorem JX (p:ByteArray)(l r:List UInt8)(h:l=L p++r):Z14.F ⟨l.toArray⟩ p=some (⟨r.toArray⟩,true):=by
 unfold Z14.F Z32.F
 rw[Q4A,YP l,h,Yh]
 have hs:(⟨(L p++r).toArray⟩:ByteArray).size=p.size+r.length:=by rw[JK (L p++r),List.length_append,Qb]
 simp(disch:=(rw[hs];omega)) only[Option.bind_some,Bool.not_true,cond_false,QW,Int.toNat_natCast]
 simp(disch:=omega) only[QW,Option.bind_some]
 congr 2
 apply XM
 rw[JB,YP (L p++r),hs,YP r]
 rw[List.take_of_length_le (by rw[List.length_append,Qb];omega),<-Qb p,List.drop_left]
theorem UR (p:ByteArray)(l:List UInt8)(h:preB (L p) l=false):Z14.F ⟨l.toArray⟩ p=some (⟨l.toArray⟩,false):=by
 unfold Z14.F Z32.F
 rw[Q4A,YP l,h]
 rfl
theorem Gk (a p:ByteArray):∃r b,Z14.F a p=some (r,b)/\r.size<=a.size/\(b=true->r.size+p.size=a.size):=by
 rw[<-G2 a]
 cases h:preB (L p) (L a)with
 |false=>exact⟨_,_,UR p _ h,Nat.le_refl _,λh=>by cases h⟩
 |true=>
  obtain⟨r,e⟩:=Uu.1 h
  refine⟨_,_,JX p _ r e,?_,λ_=>?_⟩<;>rw[JK r,JK (L a),e,List.length_append,Qb]<;>omega
theorem Q7E (a:ByteArray)(h:a.size<=1000):Z37.F a ⟨#[32,41]⟩=some (Lib.indexAny (L a) [32,41]):=by
 unfold Z37.F UP
 rw[Nat.ble_eq_true_of_le (by omega),Jk]
 rfl
theorem Q4B (a:ByteArray)(h:a.size<=1000):Z36.F a ⟨#[58]⟩=some (⟨(Lib.cut (L a) [58]).1.toArray⟩,⟨(Lib.cut (L a) [58]).2.1.toArray⟩,(Lib.cut (L a) [58]).2.2):=by
 unfold Z36.F Q7v
 rw[Nat.ble_eq_true_of_le (by omega)]
 rfl
theorem Q8u:∀l:List UInt8,Lib.indexAny l [32,41]<l.length
 |[]=>by decide
 |b::l=>by
  have ih:=Q8u l
  unfold Lib.indexAny
  split
  ·simp
  ·split
   ·simp;omega
   ·simp;omega
theorem D2 {c:UInt8}(h:Jl c=true):([32,41]:List UInt8).contains c=false/\([58]:List UInt8).contains c=false:=by
 have h1:c≠32:=λe=>by rw[e]at h;exact absurd h (by decide)
 have h2:c≠41:=λe=>by rw[e]at h;exact absurd h (by decide)
 have h3:c≠58:=λe=>by rw[e]at h;exact absurd h (by decide)
 simp[h1,h2,h3]
theorem Q1g {cs x r:List UInt8}(h:∀c∈x,cs.contains c=false):Lib.NoAny (x++r) cs x.length:=λj b hj hb=>by
 rw[List.getElem?_append_left hj]at hb
 exact h b (List.mem_of_getElem? hb)
theorem Q4C {cs x:List UInt8}(h:∀c∈x,cs.contains c=false):Lib.indexAny x cs= -1:=by
 have:=Q1g (r:=[]) h
 rw[List.append_nil]at this
 exact Lib.indexAny_none this
theorem Q6Z {cs x r:List UInt8}{c:UInt8}(h:∀c∈x,cs.contains c=false)(hc:cs.contains c=true):Lib.indexAny (x++c::r) cs=x.length:=
 Lib.indexAny_hit (Q1g h) (by simp) hc
theorem Q70 {x:List UInt8}(h:∀c∈x,Jl c=true):Lib.cut x [58]=(x,[],false):=by
 unfold Lib.cut
 rw[Lib.index_one,<-Lib.indexAny_one,Q4C λc hc=>(D2 (h c hc)).2]
 rfl
theorem Q7F {x r:List UInt8}(h:∀c∈x,Jl c=true):Lib.cut (x++58::r) [58]=(x,r,true):=by
 unfold Lib.cut
 rw[Lib.index_one,<-Lib.indexAny_one,Q6Z (λc hc=>(D2 (h c hc)).2) rfl,if_pos (by omega),Int.toNat_natCast]
 simp
theorem Q7G (x:List UInt8):(Lib.cut x [58]).1.length+(Lib.cut x [58]).2.1.length<=x.length:=by
 unfold Lib.cut
 split
 ·simp only[List.length_take,List.length_drop];omega
 ·simp
theorem szx (s:ByteArray)(a b:Nat):(s.extract a b).size=min b s.size-a:=by
 rw[<-Qb,JB,List.length_drop,List.length_take,Qb]
def XP (x:List UInt8):Query:=bif (Lib.cut x [58]).2.2 then .mk 1 ⟨(Lib.cut x [58]).1.toArray⟩ ⟨(Lib.cut x [58]).2.1.toArray⟩ []else .mk 1 ⟨#[]⟩ ⟨(Lib.cut x [58]).1.toArray⟩ []
theorem Q71 (x:List UInt8):Yf (XP x)<=x.length:=by
 have h:=Q7G x
 have e:(⟨#[]⟩:ByteArray).size=0:=rfl
 unfold XP
 cases (Lib.cut x [58]).2.2 with
 |true=>simp only[cond_true,Yf,Jx,JK (Lib.cut x [58]).1,JK (Lib.cut x [58]).2.1];omega
 |false=>simp only[cond_false,Yf,Jx,JK (Lib.cut x [58]).1];omega
theorem dz (D:Nat):(((D+1:Nat):Int)==0)=false:=beq_eq_false_iff_ne.2 (by omega)
theorem dE {D:Nat}(h:D<=15):IntKind.wrap .i64 (((D+1:Nat):Int)-1)=(D:Int):=by
 rw[wrap_in (by omega) (by omega)];omega
theorem Q1T (a:ByteArray)(x r:List UInt8)(D:Nat)(h:L a=x++r)(hr:Q5w r)(hx:∀c∈x,([32,41]:List UInt8).contains c=false)(ha:a.size<=1000)(hn:preB (L YS) (L a)=false)(ho:preB (L Yl) (L a)=false) :
  Ev (λk=>Z7.F k a ((D+1:Nat):Int)) (XP x,⟨r.toArray⟩,true):=by
 have c1:Z14.F a YS=some (a,false):=by
  have:=UR YS (L a) hn
  rwa [G2 a]at this
 have c2:Z14.F a Yl=some (a,false):=by
  have:=UR Yl (L a) ho
  rwa [G2 a]at this
 have i1:=Q7E a ha
 have hlen:=congrArg List.length h
 rw[Qb,List.length_append]at hlen
 have some_:∀c t,r=c::t->([32,41]:List UInt8).contains c=true->Ev (λk=>Z7.F k a ((D+1:Nat):Int)) (XP x,⟨r.toArray⟩,true):=by
  rintro c t rfl hc
  rw[h,Q6Z hx hc]at i1
  rw[List.length_cons]at hlen
  have cc:=Q4B (a.extract 0 x.length) (by rw[szx];omega)
  have e1:L (a.extract 0 x.length)=x:=by
   rw[JB,h,List.drop_zero,List.take_left']
   rfl
  rw[e1]at cc
  have e2:a.extract x.length a.size=⟨(c::t).toArray⟩:=by
   apply XM
   rw[JB,YP (c::t),List.take_of_length_le (by rw[Qb];omega),h,List.drop_left']
   rfl
  refine Ev.step (λk=>by rw[Z7.F]) ?_
  simp only[dz,cond_false]
  refine Ev.bind0 c1 ?_
  simp only[cond_false]
  refine Ev.bind0 c2 ?_
  simp only[Bool.not_false,cond_true]
  refine Ev.bind0 i1 ?_
  simp(disch:=omega) only[Jj,QW,Int.toNat_natCast]
  refine Ev.bind0 cc ?_
  unfold XP
  cases (Lib.cut x [58]).2.2 with
  |true=>
   simp(disch:=omega) only[Bool.not_true,cond_false,cond_true,QW,e2]
   exact Ev.pure _
  |false=>
   simp(disch:=omega) only[Bool.not_false,cond_false,cond_true,QW,e2]
   exact Ev.pure _
 rcases hr with rfl|⟨t,rfl|rfl⟩
 ·rw[h,List.append_nil,Q4C hx]at i1
  rw[List.append_nil]at h
  have cc:=Q4B (a.extract 0 a.size) (by rw[szx];omega)
  have e1:L (a.extract 0 a.size)=x:=by
   rw[JB,List.drop_zero,List.take_of_length_le (by rw[Qb];omega),h]
  rw[e1]at cc
  have e2:a.extract a.size a.size=⟨([]:List UInt8).toArray⟩:=by
   apply XM
   rw[JB,YP ([]:List UInt8),List.drop_eq_nil_of_le]
   rw[List.length_take]
   omega
  refine Ev.step (λk=>by rw[Z7.F]) ?_
  simp only[dz,cond_false]
  refine Ev.bind0 c1 ?_
  simp only[cond_false]
  refine Ev.bind0 c2 ?_
  simp only[Bool.not_false,cond_true]
  refine Ev.bind0 i1 ?_
  simp(disch:=omega) only[QW,Int.toNat_natCast]
  refine Ev.bind0 cc ?_
  unfold XP
  cases (Lib.cut x [58]).2.2 with
  |true=>
   simp(disch:=omega) only[Bool.not_true,cond_false,cond_true,QW,e2]
   exact Ev.pure _
  |false=>
   simp(disch:=omega) only[Bool.not_false,cond_false,cond_true,QW,e2]
   exact Ev.pure _
 ·exact some_ 32 t rfl rfl
 ·exact some_ 41 t rfl rfl
theorem Q1h:∀l:List UInt8,∃x r,l=x++r/\Q5w r/\∀c∈x,([32,41]:List UInt8).contains c=false
 |[]=>⟨[],[],rfl,.inl rfl,λc hc=>by cases hc⟩
 |c::l=>by
  cases hc:([32,41]:List UInt8).contains c with
  |true=>
   refine⟨[],c::l,rfl,.inr ⟨l,?_⟩,λc hc=>by cases hc⟩
   simp only[List.contains_cons,List.contains_nil,Bool.or_false,Bool.or_eq_true,beq_iff_eq]at hc
   rcases hc with rfl|rfl
   ·exact .inl rfl
   ·exact .inr rfl
  |false=>
   obtain⟨x,r,h1,h2,h3⟩:=Q1h l
   refine⟨c::x,r,by rw[h1];rfl,h2,λb hb=>?_⟩
   rcases List.mem_cons.1 hb with rfl|hb
   ·exact hc
   ·exact h3 b hb
theorem Uw:∀D:Nat,D<=15->∀a:ByteArray,a.size<=1000->∃q r b,Ev (λk=>Z7.F k a (D:Int)) (q,r,b)/\r.size<=a.size/\Yf q+r.size+2<=a.size+2 ^ (D+1)
 |0,_,a,ha=>by
  refine⟨.mk 0 ⟨#[]⟩ ⟨#[]⟩ [],⟨#[]⟩,false,Ev.step (λk=>by rw[Z7.F]) ?_,Nat.zero_le _,?_⟩
  ·rw[show(((0:Nat):Int)==0)=true from rfl]
   exact Ev.pure _
  ·have e:(⟨#[]⟩:ByteArray).size=0:=rfl
   simp only[Yf,Jx];omega
 |D+1,hD,a,ha=>by
  have hp:2 ^ (D+1+1)=2*2 ^ (D+1):=by rw[Nat.pow_succ 2 (D+1)];omega
  have hp1:2<=2 ^ (D+1):=by
   have:=Nat.one_le_two_pow (n:=D)
   rw[Nat.pow_succ];omega
  have ez:(⟨#[]⟩:ByteArray).size=0:=rfl
  cases cn:preB (L YS) (L a)with
  |true=>
   obtain⟨u,e⟩:=Uu.1 cn
   have c1:=JX YS (L a) u e
   rw[G2 a]at c1
   have hl:=congrArg List.length e
   rw[Qb,List.length_append,show(L YS).length=4 from rfl]at hl
   obtain⟨q,r,b,g1,g2,g3⟩:=Uw D (by omega) ⟨u.toArray⟩ (by rw[JK u];omega)
   rw[JK u]at g2 g3
   refine⟨.mk 2 ⟨#[]⟩ ⟨#[]⟩ [q],r,b,Ev.step (λk=>by rw[Z7.F]) ?_,by omega,by simp only[Yf,Jx];omega⟩
   simp only[dz,cond_false]
   refine Ev.bind0 c1 ?_
   simp only[cond_true,dE (show D<=15 by omega)]
   exact Ev.bind g1 (Ev.pure _)
  |false=>
   cases cp:preB (L Yl) (L a)with
   |false=>
    obtain⟨x,r,h1,h2,h3⟩:=Q1h (L a)
    have hl:=congrArg List.length h1
    rw[Qb,List.length_append]at hl
    have:=Q71 x
    exact⟨_,_,_,Q1T a x r D h1 h2 h3 ha cn cp,by rw[JK r];omega,by rw[JK r];omega⟩
   |true=>
    have c0:Z14.F a YS=some (a,false):=by
     have:=UR YS (L a) cn
     rwa [G2 a]at this
    obtain⟨u,e⟩:=Uu.1 cp
    have c1:=JX Yl (L a) u e
    rw[G2 a]at c1
    have hl:=congrArg List.length e
    rw[Qb,List.length_append,show(L Yl).length=1 from rfl]at hl
    obtain⟨q,r,b,g1,g2,g3⟩:=Uw D (by omega) ⟨u.toArray⟩ (by rw[JK u];omega)
    rw[JK u]at g2 g3
    have bad:∀X,Ev (λk=>Z7.F k a ((D+1:Nat):Int)) X->X=(.mk 0 ⟨#[]⟩ ⟨#[]⟩ [],⟨#[]⟩,false)->∃q r b,Ev (λk=>Z7.F k a ((D+1:Nat):Int)) (q,r,b)/\r.size<=a.size/\Yf q+r.size+2<=a.size+2 ^ (D+1+1):=by
     rintro X hX rfl
     exact⟨_,_,_,hX,Nat.zero_le _,by simp only[Yf,Jx];omega⟩
    obtain⟨r2,b2,e1,e2,e3⟩:=Gk r pOr
    cases b2 with
    |true=>
     have e3':=e3 rfl
     rw[show pOr.size=4 from rfl]at e3'
     cases b with
     |false=>
      refine bad _ (Ev.step (λk=>by rw[Z7.F]) ?_) rfl
      simp only[dz,cond_false]
      refine Ev.bind0 c0 ?_
      simp only[cond_false]
      refine Ev.bind0 c1 ?_
      simp only[Bool.not_true,cond_false,dE (show D<=15 by omega)]
      refine Ev.bind g1 (Ev.bind0 e1 ?_)
      exact Ev.pure _
     |true=>
      obtain⟨q2,r3,b3,k1,k2,k3⟩:=Uw D (by omega) r2 (by omega)
      obtain⟨r4,b4,f1,f2,f3⟩:=Gk r3 Yx
      refine⟨.mk 4 ⟨#[]⟩ ⟨#[]⟩ [q,q2],r4,bif b3 then b4 else false,Ev.step (λk=>by rw[Z7.F]) ?_,by omega,by rw[Q4z];omega⟩
      simp only[dz,cond_false]
      refine Ev.bind0 c0 ?_
      simp only[cond_false]
      refine Ev.bind0 c1 ?_
      simp only[Bool.not_true,cond_false,dE (show D<=15 by omega)]
      refine Ev.bind g1 (Ev.bind0 e1 ?_)
      simp only[Bool.not_true,cond_false]
      refine Ev.bind k1 (Ev.bind0 f1 ?_)
      cases b3 with
      |true=>exact Ev.pure _
      |false=>exact Ev.pure _
    |false=>
     obtain⟨r5,b5,h1,h2,h3⟩:=Gk r Q33
     cases b with
     |false=>
      refine bad _ (Ev.step (λk=>by rw[Z7.F]) ?_) rfl
      simp only[dz,cond_false]
      refine Ev.bind0 c0 ?_
      simp only[cond_false]
      refine Ev.bind0 c1 ?_
      simp only[Bool.not_true,cond_false,dE (show D<=15 by omega)]
      refine Ev.bind g1 (Ev.bind0 e1 ?_)
      simp only[Bool.not_false,cond_true]
      refine Ev.bind0 h1 ?_
      exact Ev.pure _
     |true=>
      cases b5 with
      |false=>
       refine bad _ (Ev.step (λk=>by rw[Z7.F]) ?_) rfl
       simp only[dz,cond_false]
       refine Ev.bind0 c0 ?_
       simp only[cond_false]
       refine Ev.bind0 c1 ?_
       simp only[Bool.not_true,cond_false,dE (show D<=15 by omega)]
       refine Ev.bind g1 (Ev.bind0 e1 ?_)
       simp only[Bool.not_false,cond_true]
       refine Ev.bind0 h1 ?_
       exact Ev.pure _
      |true=>
       have h3':=h3 rfl
       rw[show Q33.size=5 from rfl]at h3'
       obtain⟨q2,r3,b3,k1,k2,k3⟩:=Uw D (by omega) r5 (by omega)
       obtain⟨r4,b4,f1,f2,f3⟩:=Gk r3 Yx
       refine⟨.mk 3 ⟨#[]⟩ ⟨#[]⟩ [q,q2],r4,bif b3 then b4 else false,Ev.step (λk=>by rw[Z7.F]) ?_,by omega,by rw[Q4z];omega⟩
       simp only[dz,cond_false]
       refine Ev.bind0 c0 ?_
       simp only[cond_false]
       refine Ev.bind0 c1 ?_
       simp only[Bool.not_true,cond_false,dE (show D<=15 by omega)]
       refine Ev.bind g1 (Ev.bind0 e1 ?_)
       simp only[Bool.not_false,cond_true]
       refine Ev.bind0 h1 ?_
       simp only[Bool.not_true,cond_false]
       refine Ev.bind k1 (Ev.bind0 f1 ?_)
       cases b3 with
       |true=>exact Ev.pure _
       |false=>exact Ev.pure _
theorem Q72 {q:Query}{t:List UInt8}{d:Nat}(h:Tx q t d):∀(D:Nat),d<=D->D<=15->∀r:List UInt8,Q5w r->t.length+r.length<=1000->Ev (λk=>Z7.F k ⟨(t++r).toArray⟩ (D:Int)) (q,⟨r.toArray⟩,true):=by
 induction h with
 | @word w hw=>
  intro D hD hD15 r hr hl
  obtain⟨D,rfl⟩:∃E,D=E+1:=⟨D-1,by omega⟩
  obtain⟨k1,k2,k3,k4⟩:=JO hw
  have hq:XP (L w)= .mk 1 ⟨#[]⟩ w []:=by
   unfold XP
   rw[Q70 k1]
   show Query.mk 1 ⟨#[]⟩ ⟨(L w).toArray⟩ []=_
   rw[G2 w]
  rw[<-hq]
  exact Q1T _ (L w) r D (YP _) hr (λc hc=>(D2 (k1 c hc)).1) (by rw[JK (L w++r),List.length_append];exact hl)
   (by rw[YP (L w++r)];exact beq_eq_false_iff_ne.2 (Gi k1 k4 (KY hr))) (by rw[YP (L w++r)];exact Gj k1 k2)
 | @field f w hf hw=>
  intro D hD hD15 r hr hl
  obtain⟨D,rfl⟩:∃E,D=E+1:=⟨D-1,by omega⟩
  obtain⟨k1,k2,k3,k4⟩:=JO hw
  obtain⟨f1,f2,f3⟩:=Ut hf
  have hc:∀c t,((58::L w)++r:List UInt8)=c::t->Jl c=false:=λc t h=>by
   rw[<-(List.cons.inj h).1];rfl
  have hn:L f≠[110,111,116]:=λh=>by rw[h]at f2;exact absurd f2 (by decide)
  have hq:XP (L f++58::L w)= .mk 1 f w []:=by
   unfold XP
   rw[Q7F f1]
   show Query.mk 1 ⟨(L f).toArray⟩ ⟨(L w).toArray⟩ []=_
   rw[G2 w,G2 f]
  rw[<-hq]
  refine Q1T _ (L f++58::L w) r D (YP _) hr (λc hc=>?_) (by rw[JK ((L f++58::L w)++r),List.length_append];exact hl) ?_ ?_
  ·rcases List.mem_append.1 hc with hc|hc
   ·exact(D2 (f1 c hc)).1
   ·rcases List.mem_cons.1 hc with rfl|hc
    ·rfl
    ·exact(D2 (k1 c hc)).1
  ·rw[YP ((L f++58::L w)++r),List.append_assoc];exact beq_eq_false_iff_ne.2 (Gi f1 hn hc)
  ·rw[YP ((L f++58::L w)++r),List.append_assoc];exact Gj f1 (by omega)
 | @not p u d hp ih=>
  intro D hD hD15 r hr hl
  obtain⟨D,rfl⟩:∃E,D=E+1:=⟨D-1,by omega⟩
  simp only[List.length_cons]at hl
  have g:=ih D (by omega) (by omega) r hr (by omega)
  refine Ev.step (λk=>by rw[Z7.F]) ?_
  simp only[dz,cond_false]
  refine Ev.bind0 (JX YS _ (u++r) rfl) ?_
  simp only[cond_true,dE (show D<=15 by omega)]
  exact Ev.bind g (Ev.pure _)
 | @and a b u v d d' ha hb ih ih'=>
  intro D hD hD15 r hr hl
  obtain⟨D,rfl⟩:∃E,D=E+1:=⟨D-1,by omega⟩
  simp only[List.length_cons,List.length_append,List.length_nil]at hl
  have e0:((40::(u++32::97::110::100::32::(v++[41])))++r:List UInt8)=[40]++(u++([32,97,110,100,32]++(v++([41]++r)))):=by simp
  rw[e0]
  have g1:=ih D (by omega) (by omega) ([32,97,110,100,32]++(v++([41]++r))) (.inr ⟨_,.inl rfl⟩) (by simp only[List.length_cons,List.length_append,List.length_nil];omega)
  have g2:=ih' D (by omega) (by omega) ([41]++r) (.inr ⟨_,.inr rfl⟩) (by simp only[List.length_cons,List.length_append,List.length_nil];omega)
  refine Ev.step (λk=>by rw[Z7.F]) ?_
  simp only[dz,cond_false]
  refine Ev.bind0 (UR YS _ rfl) ?_
  simp only[cond_false]
  refine Ev.bind0 (JX Yl _ _ rfl) ?_
  simp only[Bool.not_true,cond_false,dE (show D<=15 by omega)]
  refine Ev.bind g1 ?_
  refine Ev.bind0 (UR pOr _ rfl) ?_
  simp only[Bool.not_false,cond_true]
  refine Ev.bind0 (JX Q33 _ (v++([41]++r)) rfl) ?_
  simp only[Bool.not_true,cond_false,dE (show D<=15 by omega)]
  refine Ev.bind g2 (Ev.bind0 (JX Yx _ r rfl) ?_)
  exact Ev.pure _
 | @or a b u v d d' ha hb ih ih'=>
  intro D hD hD15 r hr hl
  obtain⟨D,rfl⟩:∃E,D=E+1:=⟨D-1,by omega⟩
  simp only[List.length_cons,List.length_append,List.length_nil]at hl
  have e0:((40::(u++32::111::114::32::(v++[41])))++r:List UInt8)=[40]++(u++([32,111,114,32]++(v++([41]++r)))):=by simp
  rw[e0]
  have g1:=ih D (by omega) (by omega) ([32,111,114,32]++(v++([41]++r))) (.inr ⟨_,.inl rfl⟩) (by simp only[List.length_cons,List.length_append,List.length_nil];omega)
  have g2:=ih' D (by omega) (by omega) ([41]++r) (.inr ⟨_,.inr rfl⟩) (by simp only[List.length_cons,List.length_append,List.length_nil];omega)
  refine Ev.step (λk=>by rw[Z7.F]) ?_
  simp only[dz,cond_false]
  refine Ev.bind0 (UR YS _ rfl) ?_
  simp only[cond_false]
  refine Ev.bind0 (JX Yl _ _ rfl) ?_
  simp only[Bool.not_true,cond_false,dE (show D<=15 by omega)]
  refine Ev.bind g1 ?_
  refine Ev.bind0 (JX pOr _ (v++([41]++r)) rfl) ?_
  simp only[Bool.not_true,cond_false,dE (show D<=15 by omega)]
  refine Ev.bind g2 (Ev.bind0 (JX Yx _ r rfl) ?_)
  exact Ev.pure _
end Go.Proofs.YtkbichbahpnmmaaDoor
end
section
/- Plain laws: marks of queries,copies of queries with a mark. -/
namespace Go.Proofs.YtkbichbahpnmmaaDoor
open Go.Gx
theorem Q34:∀n:Nat,n<=1099511627776->∀s:ByteArray,s.size+n<=9223372036854775806->∃r,Ev (λk=>Z6.l0 k (n:Int) s) r/\r.size<=s.size+n:=λn=>by
 induction n using Nat.strongRecOn with
 |ind n ih=>
  intro hn s hs
  by_cases c:n=0
  ·refine⟨s,Ev.step (λk=>by rw[Z6.l0]) ?_,by omega⟩
   simp(disch:=omega) only[Jj]
   exact Ev.pure _
  ·have ed:Int.tdiv (n:Int) 10=((n / 10:Nat):Int):=by
    rw[Int.tdiv_eq_ediv_of_nonneg (by omega)];omega
   have e1:∀v:Int,(Q1X ([v]:List Int)).size=1:=λv=>rfl
   obtain⟨r,r1,r2⟩:=ih (n / 10) (by omega) (by omega) (Q1X ([IntKind.wrap .u8 (IntKind.wrap .i64 (48+Int.tmod (n:Int) 10))]:List Int)++s) (by rw[YR,e1];omega)
   rw[YR,e1]at r2
   refine⟨r,Ev.step (λk=>by rw[Z6.l0]) ?_,by omega⟩
   have w1:IntKind.wrap .i64 (Int.tdiv (n:Int) 10)=((n / 10:Nat):Int):=by rw[ed,wrap_in (by omega) (by omega)]
   have hz:((10:Nat)==0)=false:=rfl
   rw[w1,hz]
   simp only[cond_false]
   simp(disch:=(try simp only[e1]);omega) only[QW,Q1L]
   exact r1
theorem Q35 (n:Nat)(hn:n<=1099511627776):∃r,Ev (λk=>Z6.F k (n:Int)) r:=by
 unfold Z6.F
 by_cases c:n=0
 ·refine⟨⟨#[109,48]⟩,?_⟩
  simp(disch:=omega) only[QW]
  exact Ev.pure _
 ·obtain⟨r,r1,r2⟩:=Q34 n hn ⟨#[]⟩ (by rw[show(⟨#[]⟩:ByteArray).size=0 from rfl];omega)
  have e0:(⟨#[]⟩:ByteArray).size=0:=rfl
  have e1:(⟨#[109]⟩:ByteArray).size=1:=rfl
  refine⟨⟨#[109]⟩++r,?_⟩
  simp(disch:=omega) only[Jj]
  refine Ev.bind r1 ?_
  simp(disch:=omega) only[e1,Q1L]
  exact Ev.pure _
open Classical in
noncomputable def mt (n:Nat):ByteArray:=if h:∃r,Ev (λk=>Z6.F k (n:Int)) r then h.choose else⟨#[]⟩
theorem Q8v (n:Nat)(hn:n<=1099511627776):Ev (λk=>Z6.F k (n:Int)) (mt n):=by
 have h:=Q35 n hn
 unfold mt
 rw[dif_pos h]
 exact h.choose_spec
theorem set_mid {α:Type}(pre:List α)(e y:α)(xs:List α):(pre++e::xs).set pre.length y=pre++y::xs:=by simp
theorem Xp {α:Type}(pre:List α)(e d:α)(xs:List α):(pre++e::xs).getD pre.length d=e:=by simp[List.getD]
theorem Q4D {α:Type}(pre:List α)(y:α)(xs:List α):pre++y::xs=(pre++[y])++xs:=by simp
theorem Q4E {α:Type}(pre:List α)(y:α):(pre.length:Int)+1=((pre++[y]).length:Int):=by simp
noncomputable def mtZ (z:Int):ByteArray:=mt z.toNat
theorem Q1U {z:Int}(h0:0<=z)(h1:z<=1099511627776):Ev (λk=>Z6.F k z) (mtZ z):=by
 have h:=Q8v z.toNat (by omega)
 rw[show((z.toNat:Nat):Int)=z by omega]at h
 exact h
theorem Ks:∀xs:List Query,xs.length<=Q8 xs
 |[]=>Nat.zero_le _
 |q::l=>by simp only[Q8,List.length_cons];have:=Ks l;have:=Us q;omega
theorem Q8c:∀n:Nat,∀xs:List Query,Q8 xs<=n->Q8 xs<=1048576->∀z:Int,0<=z->z+3* (Q8 xs:Int)<=1099511627776->∃ys:List Query,ys.length=xs.length/\
  (∀pre:List Query,pre.length+xs.length<=1048576->Ev (λk=>Z4.l0 k (pre++xs) z pre.length) (pre++ys,z+3* (Q8 xs:Int)))/\
  (∀pre:List Query,pre.length+xs.length<=1048576->Ev (λk=>Z2.l0 k (pre++ys) z pre.length) (.inr (z+3* (Q8 xs:Int)))):=by
 intro n
 induction n with
 |zero=>
  intro xs h hb z h0 h1
  cases xs with
  |nil=>
   refine⟨[],rfl,λpre hp=>Ev.step (λk=>by rw[Z4.l0]) ?_,λpre hp=>Ev.step (λk=>by rw[Z2.l0]) ?_⟩
   ·simp(disch:=omega) only[List.append_nil,Jj]
    exact(Ev.pure _).eq (by simp[Q8])
   ·simp(disch:=omega) only[List.append_nil,Jj]
    exact(Ev.pure _).eq (by simp[Q8])
  |cons q l=>simp only[Q8]at h;have:=Us q;omega
 |succ n ih=>
  intro xs h hb z h0 h1
  cases xs with
  |nil=>
   refine⟨[],rfl,λpre hp=>Ev.step (λk=>by rw[Z4.l0]) ?_,λpre hp=>Ev.step (λk=>by rw[Z2.l0]) ?_⟩
   ·simp(disch:=omega) only[List.append_nil,Jj]
    exact(Ev.pure _).eq (by simp[Q8])
   ·simp(disch:=omega) only[List.append_nil,Jj]
    exact(Ev.pure _).eq (by simp[Q8])
  |cons q l=>
   simp only[Q8,Yg q]at h hb h1
   have hpl:=Ks q.parts
   obtain⟨ps,p0,p1,p2⟩:=ih q.parts (by omega) (by omega) (z+1+1+1) (by omega) (by omega)
   obtain⟨ys,y0,y1,y2⟩:=ih l (by omega) (by omega) (z+1+1+1+3* (Q8 q.parts:Int)) (by omega) (by omega)
   refine⟨.mk z (mtZ (z+1)) (mtZ (z+1+1)) ps::ys,by simp[y0],λpre hp=>?_,λpre hp=>?_⟩
   ·simp only[List.length_cons]at hp
    by_cases hbig:q.parts.length<=1048576
    ·refine Ev.step (λk=>by rw[Z4.l0]) ?_
     simp(disch:=omega) only[List.length_append,List.length_cons,QW,Int.toNat_natCast,Xp,set_mid,wrap_in]
     refine Ev.bind (Ev.pure _) (Ev.bind (Q1U (by omega) (by omega)) ?_)
     simp(disch:=omega) only[set_mid,Xp,List.length_append,List.length_cons,QW,Int.toNat_natCast,wrap_in]
     refine Ev.bind (Ev.pure _) (Ev.bind (Q1U (by omega) (by omega)) ?_)
     simp(disch:=omega) only[set_mid,Xp,List.length_append,List.length_cons,QW,Int.toNat_natCast,wrap_in]
     refine Ev.bind (Ev.pure _) ?_
     simp(disch:=omega) only[set_mid,Xp,List.length_append,List.length_cons,QW,Int.toNat_natCast,wrap_in,Query.op,Query.field,Query.word,Query.parts]
     refine Ev.bind (a:=(ps,z+1+1+1+3* (Q8 q.parts:Int))) (Ev.step (λk=>by rw[Z4.F]) ?_) ?_
     ·have:=p1 [] (by simpa using hbig)
      exact Ev.bind this ((Ev.pure _).eq (by simp))
     ·refine Ev.bind (Ev.pure _) ?_
      simp(disch:=omega) only[set_mid,wrap_in]
      rw[Q4D,Q4E pre (.mk z (mtZ (z+1)) (mtZ (z+1+1)) ps)]
      refine(y1 (pre++[.mk z (mtZ (z+1)) (mtZ (z+1+1)) ps]) (by simp;omega)).eq ?_
      simp only[Q8,Yg q,List.append_assoc,List.singleton_append]
      congr 1;omega
    ·omega
   ·simp only[List.length_cons]at hp
    refine Ev.step (λk=>by rw[Z2.l0]) ?_
    simp(disch:=omega) only[List.length_append,List.length_cons,QW,Int.toNat_natCast,Xp,wrap_in,Query.op,Query.field,Query.word,Query.parts,bne_self_eq_false,cond_false]
    refine Ev.bind (Q1U (by omega) (by omega)) ?_
    simp only[Jk,Bool.not_true,cond_false]
    refine Ev.bind (Q1U (by omega) (by omega)) ?_
    simp only[Jk,Bool.not_true,cond_false]
    refine Ev.bind (a:=z+1+1+1+3* (Q8 q.parts:Int)) (Ev.step (λk=>by rw[Z2.F]) ?_) ?_
    ·exact Ev.bind (p2 [] (by simp;omega)) (Ev.pure _)
    ·simp(disch:=omega) only[Jj,wrap_in]
     rw[Q4D,Q4E pre (.mk z (mtZ (z+1)) (mtZ (z+1+1)) ps)]
     refine(y2 (pre++[.mk z (mtZ (z+1)) (mtZ (z+1+1)) ps]) (by simp;omega)).eq ?_
     simp only[Q8,Yg q]
     congr 1;omega
theorem Q8w (q:Query)(h:Ql q<=1000):∃q':Query,∃m:Int,0<=m/\Ev (λk=>Z33.F k q 1) (q',m)/\Ev (λk=>Z18.F k q' 1) m:=by
 rw[Yg]at h
 have hpl:=Ks q.parts
 obtain⟨ys,y0,y1,y2⟩:=Q8c _ q.parts (Nat.le_refl _) (by omega) 1 (by omega) (by omega)
 refine⟨.mk q.op q.field q.word ys,1+3* (Q8 q.parts:Int),by omega,?_,?_⟩
 ·unfold Z33.F
  refine Ev.bind (a:=(ys,1+3* (Q8 q.parts:Int))) ?_ (Ev.bind (Ev.pure _) (Ev.pure _))
  refine Ev.step (λk=>by rw[Z4.F]) ?_
  exact Ev.bind (y1 [] (by simp;omega)) (Ev.pure _)
 ·unfold Z18.F
  refine Ev.bind (a:=1+3* (Q8 q.parts:Int)) ?_ ?_
  ·refine Ev.step (λk=>by rw[Z2.F]) ?_
   exact Ev.bind (y2 [] (by simp;omega)) (Ev.pure _)
  ·simp(disch:=omega) only[Jj]
   exact Ev.pure _
end Go.Proofs.YtkbichbahpnmmaaDoor
end
section
/- The plain law of ParseQuery. -/
namespace Go.Proofs.YtkbichbahpnmmaaDoor
open Go.Gx
theorem Q73 {q:Query}{s:List UInt8}{d:Nat}(h:Tx q s d):Yf q<=26*Ql q:=by
 induction h with
 |word hw=>have:=JO hw;rw[Qb]at this;simp only[Ql,Q8,Yf,Jx];have e:(⟨#[]⟩:ByteArray).size=0:=rfl;omega
 |field hf hw=>have h1:=JO hw;have h2:=Ut hf;rw[Qb]at h1 h2;simp only[Ql,Q8,Yf,Jx];omega
 |not _ ih=>simp only[Ql,Q8,Yf,Jx];have e:(⟨#[]⟩:ByteArray).size=0:=rfl;omega
 |and _ _ ih ih'=>simp only[Ql,Q8,Yf,Jx];have e:(⟨#[]⟩:ByteArray).size=0:=rfl;omega
 |or _ _ ih ih'=>simp only[Ql,Q8,Yf,Jx];have e:(⟨#[]⟩:ByteArray).size=0:=rfl;omega
theorem Q74 (s:ByteArray):∃q b,Ev (λk=>Z25.F k s) (q,b)/\Ev (λk=>Z21.F k s) (q,b)/\JD q/\Ql q<=1000:=by
 unfold Z25.F Z21.F
 by_cases hA:∃q d,Tx q (L s) d/\Ql q<=15
 ·obtain⟨q,d,h,hq⟩:=hA
  have h1:=Dq h
  have h2:=Q6U h
  have h3:=Q73 h
  rw[Qb]at h1
  have hsm:JD q:=by unfold JD;omega
  have hg:XO q=true:=by
   unfold XO
   rw[Q6T h,Bool.true_and,decide_eq_true_eq];omega
  have g1:=DW q hsm
  have g2:=DX q hsm
  rw[hg]at g1 g2
  have r1:=Q7D h s (by omega) 0 [] (Nat.zero_le _) (by simp) (.inl rfl)
  have r2:=Q72 h 15 (by omega) (Nat.le_refl _) [] (.inl rfl) (by rw[Qb];simp;omega)
  rw[List.append_nil,G2 s]at r2
  have r3:=Q4v h (by omega)
  rw[G2 s]at r3
  refine⟨q,true,?_,?_,hsm,by omega⟩
  ·simp(disch:=omega) only[Jj]
   refine Ev.bind r1 ?_
   rw[show(((0+(L s).length:Nat):Int) != (s.size:Int))=false from by rw[Qb];simp]
   simp only[cond_false]
   refine Ev.bind g1 ?_
   exact Ev.pure _
  ·simp(disch:=omega) only[Jj]
   refine Ev.bind r2 ?_
   rw[show Qk (⟨([]:List UInt8).toArray⟩:ByteArray) ⟨#[]⟩=true from Jk _]
   simp only[Bool.not_true,cond_false]
   refine Ev.bind g2 ?_
   simp only[Bool.not_true,cond_false]
   refine Ev.bind r3 ?_
   rw[Jk]
   exact Ev.pure _
 ·refine⟨.mk 0 ⟨#[]⟩ ⟨#[]⟩ [],false,?_,?_,by unfold JD;decide,by decide⟩
  ·by_cases c:s.size<=400
   ·simp(disch:=omega) only[Jj]
    obtain⟨q,j,g1,g2,g3⟩:=D1 s c (s.size+1) 0 (Nat.zero_le _) (by omega)
    refine Ev.bind g1 ?_
    by_cases hj:j=(s.size:Int)
    ·obtain⟨m,e,m1,m2,m3,m4⟩:=g3 (by omega)
     obtain rfl:m=s.size:=by omega
     rw[hj,show((s.size:Int) != (s.size:Int))=false from by simp]
     simp only[cond_false]
     have g:=DW q (by unfold JD;omega)
     cases hg:XO q with
     |false=>
      rw[hg]at g
      exact Ev.bind g (Ev.pure _)
     |true=>
      exfalso
      unfold XO at hg
      rw[Bool.and_eq_true,decide_eq_true_eq]at hg
      obtain⟨t,d,h⟩:=Q32 q hg.1
      have e:=m4 t d h
      rw[List.drop_zero,List.drop_eq_nil_of_le (show(L s).length<=s.size from Nat.le_of_eq (Qb s)),List.append_nil]at e
      exact hA ⟨q,d,by rw[e];exact h,by omega⟩
    ·rw[show(j != (s.size:Int))=true from by simpa using hj]
     exact Ev.pure _
   ·simp(disch:=omega) only[QW]
    exact Ev.pure _
  ·by_cases c:s.size<=1000
   ·simp(disch:=omega) only[Jj]
    obtain⟨q,r,b,g1,g2,g3⟩:=Uw 15 (Nat.le_refl _) s c
    have e16:2 ^ (15+1)=65536:=rfl
    refine Ev.bind g1 ?_
    cases b with
    |false=>exact Ev.pure _
    |true=>
     simp only[Bool.not_true,cond_false]
     cases hr:Qk r ⟨#[]⟩with
     |false=>exact Ev.pure _
     |true=>
      simp only[Bool.not_true,cond_false]
      have g:=DX q (by unfold JD;omega)
      cases hg:XO q with
      |false=>
       rw[hg]at g
       exact Ev.bind g (Ev.pure _)
      |true=>
       rw[hg]at g
       refine Ev.bind g ?_
       simp only[Bool.not_true,cond_false]
       unfold XO at hg
       rw[Bool.and_eq_true,decide_eq_true_eq]at hg
       obtain⟨t,d,h⟩:=Q32 q hg.1
       refine Ev.bind (Q4v h (by omega)) ?_
       cases hb:Qk ⟨t.toArray⟩ s with
       |false=>exact Ev.pure _
       |true=>
        exfalso
        have e:=YO.1 hb
        rw[<-e,YP t]at hA
        exact hA ⟨q,d,h,by omega⟩
   ·simp(disch:=omega) only[QW]
    exact Ev.pure _
theorem Q0n (s:ByteArray)(hw:WF .str s):∃k,Z34.F k s=some true:=by
 refine Ev.get (?_:Ev (λk=>Z34.F k s) true)
 unfold Z34.F
 by_cases c:(s.size:Int) > 1048576
 ·simp(disch:=omega) only[QW]
  exact Ev.pure _
 simp(disch:=omega) only[Jj]
 obtain⟨v,b,v1,v2,v3,v4⟩:=Q74 s
 have eqv:=Q8b v v3
 refine Ev.bind v1 (Ev.bind v2 (Ev.bind eqv ?_))
 simp only[beq_self_eq_true,Bool.not_true,cond_false]
 obtain⟨q',m',n0,n1,n2⟩:=Q8w v v4
 refine Ev.bind n1 (Ev.bind n2 ?_)
 have hbne:(m' != m')=false:=by simp
 simp(disch:=omega) only[Jj,hbne,cond_false]
 refine Ev.bind v2 (Ev.bind eqv ?_)
 simp only[beq_self_eq_true,Bool.not_true,cond_false]
 refine Ev.bind n2 ?_
 simp(disch:=omega) only[Jj,hbne,cond_false]
 exact Ev.pure _
end Go.Proofs.YtkbichbahpnmmaaDoor
end
section
/- The law FnExactParseQuery returns true for every input,the listed package variables being as the program's text lays it: the card. -/
namespace Go.Proofs.YtkbichbahpnmmaaDoor
open Go.Gx Go.RowKit Go.ChangeShapes Go.WideShapes Go.ChangeAt
def fnExactParseQuery_ss0:List (List UInt8):=[[97,117,116,104,111,114,115],[101,100,105,116,111,114,115],[116,105,116,108,101],[99,111,110,116,97,105,110,101,114],[112,117,98,108,105,115,104,101,114],[100,97,116,101],[118,111,108,117,109,101],[112,97,103,101,115]]
theorem fnExactParseQuery_own:ownKnob Tryd.prog.godebug=none:=by kernel_rfl
set_option maxRecDepth 100000 in
theorem fnExactParseQuery_contract (H:Type)(enc:TypeId×Value->H)(W:World)(base:Nat)(args:Array Value)(ds gs:List (DataW H))(before:List MemPlace)
  (Yj:∀(j:Nat) t v,Tryd.f4.params[j]? =some t->args[j]? =some v->Value.okWide Tryd.prog W .any base t v)
  (hW:DataW.Whole enc Tryd.prog Tryd.f4.params.toList Rows.fnExactParseQuerySpec.vars false W args.toList ds gs before) (hL:laidMetH Tryd.prog Rows.fnExactParseQueryRow.laid W) (hsh:W.ShapedOpen Tryd.prog) :
  Calls Tryd.prog 4 args W λe W'=>∃v,e= .returned v/\Rows.fnExactParseQuerySpec.post enc Tryd.prog Tryd.f4 false true false false W args v W':=by
 have hgs:∃g1,gs=[g1]:=by
  obtain⟨p,q,_,hV,_⟩:=hW
  match gs,hV with
  |[g1],_=>exact⟨g1,rfl⟩
  |[],hV=>exact hV.elim
  |_::_::_,⟨_,_,_,_,_,_,_,_,_,_,hV,_⟩=>exact hV.elim
 obtain⟨g1,rfl⟩:=hgs
 have hds:∃d1,ds=[d1]:=by
  obtain⟨p,q,hA,_⟩:=hW
  obtain⟨_,_,d1,e0,_,_,_,rfl,_,_,h0⟩:=trodAll_cons hA
  obtain⟨_,rfl,_⟩:=trodAll_nil h0
  exact⟨d1,rfl⟩
 obtain⟨d1,rfl⟩:=hds
 have hgl:Qo Q1 (λ_=>undef) (Lt W) W:=by
  refine Qo.mk0 (λg b h=>?_) (λg hg=>?_)
  ·have h':glT g=some b:=h
   unfold glT at h'
   split at h'
   ·cases h';exact Q5o (ss:=fnExactParseQuery_ss0) (name:= "loop.example/g00896/impl.fieldWords") (g:=0) (t:=93) (e:=9) (n:=8) 0 (by kernel_rfl) (by kernel_rfl) (by kernel_rfl) (by kernel_rfl) (by kernel_rfl) (by kernel_rfl) (by kernel_rfl) hL (by kernel_rfl)
   ·cases h'
  ·have hg':giT g=true:=hg
   unfold giT at hg'
   split at hg'
   ·obtain⟨m,hm⟩:=cell_of_shapedOpen_int (P:=Tryd.prog) (g:=1) (t:=3) (zero:=#[.int .i64 0]) hsh (of_decide_eq_true (by kernel_rfl)) (by kernel_rfl) rfl (by kernel_rfl) (by kernel_rfl) (by kernel_rfl)
    exact⟨World.block_lt_of_cell? _ _ hm,m,hm⟩
   ·cases hg'
 refine Q1K (τs:=[.str]) (r:=.t .bool true) Q0m (by kernel_rfl) rfl (by kernel_rfl) (by kernel_rfl) rfl (by kernel_rfl) (by kernel_rfl) (λt ht=>?_) rfl (λx hx=>by
   obtain⟨k,hk⟩:=Q0n x.1 hx.1
   exact Z34.good Q0m _ k _ hk) rfl Yj hW hgl (λq hq W' hb=>Q1a (by kernel_rfl) hb (λnm hn g t h1 h2=>?_) hq)
 ·have:t∈[9]:=ht
  simp only[List.mem_cons,List.not_mem_nil,or_false]at this
  rcases this with rfl<;>exact⟨by kernel_rfl,Nat.le_of_ble_eq_true (by kernel_rfl)⟩
 ·have hnm:nm= "loop.example/g00896/impl.fieldWords":=by
   have:nm∈["loop.example/g00896/impl.fieldWords"]:=hn
   simpa using this
  subst hnm
  obtain rfl:g=0:=Option.some.inj (h1.symm.trans (by kernel_rfl:Tryd.prog.globalNamed "loop.example/g00896/impl.fieldWords" =some 0))
  obtain rfl:t=93:=Option.some.inj (h2.symm.trans (by kernel_rfl:(Tryd.prog.globals[0]?).map (·.type)=some 93))
  exact⟨by kernel_rfl,Nat.le_of_ble_eq_true (by kernel_rfl)⟩
set_option maxRecDepth 100000 in
noncomputable def fnExactParseQuery_world (os:Os):World:=
 {World.holding Tryd.prog os ⟨#[],#[],[]⟩with heap:=((World.holding Tryd.prog os ⟨#[],#[],[]⟩).heap.modify 0 fun
   |.cells _ t frozen=>.cells #[.string ⟨#[97,117,116,104,111,114,115]⟩,.string ⟨#[101,100,105,116,111,114,115]⟩,.string ⟨#[116,105,116,108,101]⟩,.string ⟨#[99,111,110,116,97,105,110,101,114]⟩,.string ⟨#[112,117,98,108,105,115,104,101,114]⟩,.string ⟨#[100,97,116,101]⟩,.string ⟨#[118,111,108,117,109,101]⟩,.string ⟨#[112,97,103,101,115]⟩] t frozen
   |o=>o)}
theorem fnExactParseQuery_met (os:Os):laidMet Tryd.prog Rows.fnExactParseQueryRow.laid ((fnExactParseQuery_world os).forCall (λ_ _=>0) ⟨#[],#[.string ⟨#[]⟩],[]⟩).memory:=
 laidMet_of_run' 8 (by kernel_rfl) (by kernel_rfl)
theorem fnExactParseQuery_reads (os:Os){H:Type}(enc:TypeId×Value->H):∃places,DataW.whole enc Tryd.prog ((fnExactParseQuery_world os).forCall (λ_ _=>0) ⟨#[],#[.string ⟨#[]⟩],[]⟩).memory Tryd.f4.params.toList Rows.fnExactParseQuerySpec.vars false #[.string ⟨#[]⟩].toList 8=some ([.lit (.string [])],[Gg fnExactParseQuery_ss0],places):=
 ⟨[.cell 0 0,.cell 0 1,.cell 0 2,.cell 0 3,.cell 0 4,.cell 0 5,.cell 0 6,.cell 0 7],by kernel_rfl⟩
set_option maxRecDepth 100000 in
theorem fnExactParseQuery_lifted (os:Os)(started:os.Started)(H:Type)(enc:TypeId×Value->H)(F:Stop.Interp) :
  ReturnsInHanded {} Tryd.checked os 4 .any ((OpenSpec.ofChange Rows.fnExactParseQuerySpec).preRow enc Tryd.prog Tryd.f4 Rows.fnExactParseQueryRow.domain false Rows.fnExactParseQueryRow.laid) (((OpenSpec.ofChange Rows.fnExactParseQuerySpec).at F).post enc Tryd.prog Tryd.f4 false true false false):=by
 obtain⟨places,hx⟩:=fnExactParseQuery_reads os enc
 refine returnsInHanded_of_row (C:=Tryd.checked) (s:=OpenSpec.ofChange Rows.fnExactParseQuerySpec) fnExactParseQuery_own started (by kernel_rfl) (by kernel_rfl)
  (witness_row_at (enc:=enc) (C:=Tryd.checked) false (fnExactParseQuery_world os) #[.string ⟨#[]⟩] rfl (by kernel_rfl) (by kernel_rfl) (by kernel_rfl)
   (OpenSpec.preRow_of_cond 8 hx (by kernel_rfl) (λk hk=>by cases hk) (by kernel_rfl) (fnExactParseQuery_met os))) ?_
 intro W base args ds gs before Yj hW _ _ _ hL hsh _
 exact fnExactParseQuery_contract H enc W base args ds gs before Yj hW hL hsh
theorem fnExactParseQuery_said:Rows.FnExactParseQuerySaid:=
 OpenClaim.holds_of_cond 4 Tryd.f4 rfl rfl rfl rfl rfl rfl rfl ⟨rfl,rfl,rfl,rfl,rfl⟩ rfl rfl rfl rfl rfl (by kernel_rfl) (by kernel_rfl) (by kernel_rfl)
  (of_decide_eq_true (by kernel_rfl)) (by unfold Func.isWrapper;first|(rw[if_pos (by decide+kernel)];kernel_rfl)|(rw[if_neg (by decide+kernel)];exact⟨rfl,rfl⟩))
  (λos started H enc _ F=>by rw[OpenClaim.pre_eq_preRow];exact fnExactParseQuery_lifted os started H enc F)
theorem fnExactParseQuery_plain (f:FuncId)(fn:Func)(hf:Tryd.pinned.checked.prog.funcNamed "loop.example/g00896/laws.FnExactParseQuery" =some f)(hfn:Tryd.pinned.checked.prog.funcs[f]? =some fn) :
  false=Tryd.pinned.checked.prog.looks []/\∀(j:Nat) t,fn.params[j]? =some t->Tryd.pinned.checked.prog.wantsStandIn t=false:=by
 obtain rfl:f=4:=(Option.some.inj ((show Tryd.prog.funcNamed "loop.example/g00896/laws.FnExactParseQuery" =some 4 by kernel_rfl).symm.trans hf)).symm
 obtain rfl:fn=Tryd.f4:=(Option.some.inj ((show Tryd.prog.funcs[4]? =some Tryd.f4 by kernel_rfl).symm.trans hfn)).symm
 refine⟨by kernel_rfl,λj t ht=>?_⟩
 have ht':t∈[9]:=by simpa using Array.mem_of_getElem? (show(#[9]:Array Nat)[j]? =some t from ht)
 simp only[List.mem_cons,List.not_mem_nil,or_false]at ht'
 rcases ht' with rfl
 ·exact(show Tryd.prog.wantsStandIn 9=false by kernel_rfl)
theorem FnExactParseQuery_holds:Rows.FnExactParseQueryCardSaid:=
 Claim7.holds_tied_plain_at .later [] _ _ _ _ fnExactParseQuery_said (λ_ h=>by cases h) (by kernel_rfl) (λ_ h=>by cases h) fnExactParseQuery_row_tie rfl ⟨rfl,rfl⟩ (by kernel_rfl) rfl fnExactParseQuery_plain (by kernel_rfl)
#print axioms FnExactParseQuery_holds
end Go.Proofs.YtkbichbahpnmmaaDoor
end
