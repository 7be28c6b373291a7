/- Functions about data in blocks of its own,deep down: those that make it,those that mark it. -/
import Derived.Test.YtcbclpphgbbmmaaGreatDoorMgk3
import Derived.ChangeSame
import Derived.Carry
import Derived.WideKeyArgs
import Derived.Deep.Slices
import Derived.ProofKit
import Derived.Lib.LaidTab
import Derived.Test.YtcbclpphgbbmmaaGreatDoorMgk1
import Derived.Laws.StructEq
import Derived.Lib.Strings
set_option linter.unusedVariables false
set_option linter.unusedSimpArgs false
set_option maxRecDepth 100000
section
namespace Go.Gx
open Go.RowKit
section
variable {S D:Nat->Prop} {w:World} {ρ ρ0:Nat->Option Loc} {row row0:Nat->Option Row} {pv:Nat->Value} {B:Old}
theorem Q6E {f:AV->Bool}:∀{l:List AV},Um.allL f l=true->∀{a:AV},a∈l->f a=true
 |[],_,a,h=>by cases h
 |b::l,h,a,ha=>by
  simp only[Um.allL,Bool.and_eq_true]at h
  rcases List.mem_cons.1 ha with rfl|ha
  ·exact h.1
  ·exact Q6E h.2 ha
theorem QbA (h:HS S w ρ row pv B)(hD:∀b,S b->pvN pv<=b->OB w b->D b)(hO:pvO pv=true){id e:Nat}{τ:Ty}{xs:List (den τ)}{fz app:Bool}{g c:Nat}(hr:row id=some (.flat e τ xs fz app))(hl:ρ id=some (.at g c))(hg:D g) :
  CR D w (.sl τ) xs [.slice (some ⟨g,0,none⟩) xs.length c]:=by
 obtain⟨cur,f,h1,h2,h3,h4,h5,h6,h7,h8⟩:=h.rows id _ _ hr hl
 have:∀i,∃cs,∀(hi:i<xs.length),CR D w τ xs[i] cs/\∀j v,cs[j]? =some v->cur[i*nc τ+j]? =some v:=λi=>by
  by_cases hi:i<xs.length
  ·obtain⟨cs,hc⟩:=h8 i hi
   exact⟨cs,λ_=>⟨hc.1.mono (λb hb=>hD b hb.1 (hb.2 hO).1 (hb.2 hO).2) (λ_ _=>rfl),hc.2⟩⟩
  ·exact⟨[],λh=>absurd h hi⟩
 let cv:=λi=>Classical.choose (this i)
 have hcv:=λi=>Classical.choose_spec (this i)
 refine .sl τ xs _ c cv h3 h4 (λi hi=>(hcv i hi).1) λi hi=>⟨g,0,rfl,hg,λj v hv=>?_⟩
 have:=(hcv i hi).2 j v hv
 simp only[World.cell?,h1,Nat.zero_add]
 simpa using this
theorem Q17 (h:HS S w ρ row pv B)(hD:∀b,S b->pvN pv<=b->OB w b->D b)(hO:pvO pv=true):∀{n:Nat} {a b:AV} {cs:List Value},Um n a=true->Q5 row n a=some b->AR S w ρ row pv a cs->
  (∀id,id∈JE n a->∀e τ,∀xs:List (den τ),∀fz app g c,row id=some (.flat e τ xs fz app)->ρ id=some (.at g c)->D g)->AR D w ρ0 row0 pv b cs
 |0,a,b,cs,hp,_,_,_=>by simp[Um]at hp
 |n+1,a,b,cs,hp,hc,ha,hcov=>by
  cases ha with
  |t τ x _ hx=>
   simp only[Um,Bool.not_eq_true']at hp
   simp only[Q5,Option.some.injEq]at hc
   subst hc
   exact .t τ x _ (QW hp hx)
  |nil=>
   simp only[Q5,Option.some.injEq]at hc
   subst hc
   exact .nil
  |own id e τ xs fz app g cap hr hl=>
   simp only[Q5,hr,Option.some.injEq]at hc
   subst hc
   exact .t _ _ _ (QbA h hD hO hr hl (hcov id (by simp[JE]) e τ xs fz app g cap hr hl))
  |ownNil id e τ fz app hr hl=>
   simp only[Q5,hr,Option.some.injEq]at hc
   subst hc
   exact .t _ _ _ (Js D w τ)
  |agg τ fs css hl hh=>
   simp only[Um]at hp
   simp only[Q5]at hc
   split at hc
   ·rename_i gs hgs
    obtain⟨h1,h2⟩:=JF hgs
    obtain⟨x,rfl,hx⟩:=Yz (S:=D) (w:=w) (ρ:=ρ0) (row:=row0) (pv:=pv) hc ⟨css,rfl,h1.trans hl,λi b cs hb hcs=>by
     obtain⟨a,h3,h4⟩:=h2 i b hb
     have hm:=List.mem_of_getElem? h3
     exact Q17 h hD hO (Q6E hp hm) h4 (hh i a cs h3 hcs) λid hid=>hcov id (Us (f:=JE n) h3 hid)⟩
    exact .t τ x _ hx
   ·cases hc
  |pc c τ x _ hx=>
   simp only[Um]at hp
   subst hp
   simp only[Q5,Option.some.injEq]at hc
   subst hc
   exact .t τ x _ (hx.mono (λb hb=>hD b hb.1 hb.2.1 hb.2.2) λ_ _=>rfl)
  |_=>simp[Um]at hp
end
section
variable {P:Program} {E:Env} {pv:Nat->Value} {G:Cal->List AV->AV->Prop} {LG:Nat->St->Ex->St->Prop}
theorem Xq {f:FuncId}{fn:Func}{c:Code}(hf:P.funcs[f]? =some fn)(hb:fn.body=some c)(hname:(fn.name== "runtime.NumGoroutine")=false)(vs:Array Value)(w:World):(callFunc f vs).run P w= .ok (.enter f vs) w:=by
 have hn':fn.name≠ "runtime.NumGoroutine":=by simpa using hname
 simp[callFunc,hf,hn',hb]
theorem Xr {n t:Nat}:(Array.replicate n undef)[t]?.getD undef=undef:=by
 cases hx:(Array.replicate n undef)[t]? with
 |none=>rfl
 |some u=>
  have:=Array.mem_of_getElem? hx
  rw[Array.mem_replicate]at this
  rw[this.2];rfl
structure FunPc (E:Env)(G:Cal->List AV->AV->Prop)(LG:Nat->St->Ex->St->Prop)(fn:Func)(c:Code)(args:List AV)(τ:Ty)(x:den τ)(e:Ex)(st:St)(a:AV):Prop where
 body:fn.body=some c
 run:CodeR E G LG 0 c (start fn.ntmps args) e st
 out:∀id,e≠ .exit id
 vals:J7 E st fn.results.toList=some [a]
 pur:Um 6 a=true
 close:Q5 st.row 6 a=some (.t τ x)
theorem Q7R {C:Orc}{L:YJ}(hC:J8 C G)(hL:LIs L LG){fn:Func}{args:List AV}{R:Type}{K:AV->Option R}{r:R}(h:Q0r E C L fn args K=some r) :
  ∃c τ x e st a,FunPc E G LG fn c args τ x e st a/\K (.pc true τ x)=some r:=by
 unfold Q0r at h
 split at h
 ·rename_i c hc
  obtain⟨e,st,h1,h2⟩:=JI hC hL c 0 _ h
  have go:(match J7 E st fn.results.toList with
   |some [a]=>match Um 6 a,Q5 st.row 6 a with
    |true,some (.t τ x)=>K (.pc true τ x)
    |_,_=>none
   |_=>none)=some r->(∀id,e≠ .exit id)->∃c τ x e st a,FunPc E G LG fn c args τ x e st a/\K (.pc true τ x)=some r:=λh2 he=>by
   split at h2
   ·rename_i a ha
    split at h2
    ·rename_i τ x hp hcl
     exact⟨c,τ,x,e,st,a,⟨hc,h1,he,ha,hp,hcl⟩,h2⟩
    ·cases h2
   ·cases h2
  cases e with
  |exit id=>cases h2
  |normal=>exact go h2 (λid h=>by cases h)
  |ret=>exact go h2 (λid h=>by cases h)
 ·cases h
theorem Q4s (hE:EnvOk P E)(hG:GOk P E pv G)(hO:pvO pv=true)(hQ:pvQ pv=true){f:FuncId}{fn:Func}(hf:P.funcs[f]? =some fn)(hname:(fn.name== "runtime.NumGoroutine")=false){c:Code}{args:List AV}{τ:Ty}{x:den τ}{e:Ex}{st:St}{ra:AV}
  (h:FunPc E G LG fn c args τ x e st ra) (hn:args.length<=fn.ntmps) (hl:∀w0 B,∀p∈QF 0 c,QT P E w0 B pv p.2 (LG p.1)):Q8 P E pv (.f f) args (.pc true τ x):=by
 intro S w vs hst hgl hargs
 obtain⟨hvl,hva⟩:=hargs
 have hlow:=hgl.low hQ hst
 show Qw P _ ((callFunc f vs.toArray).run P w)
 rw[Xq hf h.body hname]
 refine calls_of_wp hf h.body ?_
 have hs0:Sim w ⟨λb=>b<w.heap.size,none⟩ pv S (λ_=>none) (start fn.ntmps args) {tmps:=vs.toArray++Array.replicate (fn.ntmps-vs.toArray.size) undef,defers:=[]} w:=by
  refine⟨by simp[start];omega,rfl,λt=>?_,⟨hst,λid r l h1 _=>(by cases h1),λid id' l l' b h1=>(by cases h1),λid r l b h1=>(by cases h1),λl hl=>(by cases hl)⟩,Blw.refl _ _,λ_ h=>h⟩
  rw[Array.getD_eq_getD_getElem?]
  simp only[start]
  by_cases ht:t<args.length
  ·have ha:args[t]? =some args[t]:=List.getElem?_eq_getElem ht
   have hv:vs[t]? =some vs[t]:=List.getElem?_eq_getElem (by omega)
   obtain⟨cs,h1,h2⟩:=hva t _ _ ha hv
   rw[Array.getElem?_append_left (by simp;omega)]
   simp only[List.getElem?_toArray,ha,hv,Option.getD_some]
   exact .inr ⟨cs,h1,h2⟩
  ·have ha:args[t]? =none:=List.getElem?_eq_none (by omega)
   rw[ha,Array.getElem?_append_right (by simp;omega)]
   simp only
   rw[Xr]
   exact J3
 refine Xm hE hG h.run (hl w ⟨λb=>b<w.heap.size,none⟩) hs0 hgl λS1 ρ a w1 hs hgl1 hg=>?_
 suffices hfin:a.defers=[]/\∃v,(results fn a.tmps).run P w1= .ok v w1/\(∃v',Ending.returned v= .returned v'/\(Below w.heap.size w w1/\∃S':Nat->Prop,(∀b,S b->S' b)/\(∀b,S' b->S b\/(w.heap.size<=b/\b<w1.heap.size))/\RR S' w1 w.heap.size pv (.pc true τ x) v')) by
  cases e with
  |normal=>exact hfin
  |ret=>exact hfin
  |exit id=>exact absurd rfl (h.out id)
 refine⟨hs.defers,?_⟩
 obtain⟨vs',hvl',hvv,hres⟩:=Xo hE hs h.vals
 match vs',hvl' with
 |[v],_=>
  have hv:=hvv 0 _ v rfl rfl
  have hcl:=h.close
  obtain⟨cs,k1,k2⟩:=QD hv (by rintro rfl;simp[Q5]at hcl)
  have hge:∀id r g c,st.row id=some r->ρ id=some (.at g c)->w.heap.size<=g:=λid r g c hr hl'=>Nat.le_of_not_lt (hs.hs.apart id r g c hl' hr).1
  have k3:=Q17 (ρ0:=λ_=>none) (row0:=λ_=>none) (D:=λb=>Ye S1 ρ st.row (JE 6 ra) b/\Q8w pv w1 true b) hs.hs (λb h1 h2 h3=>⟨.inl h1,h2,h3⟩) hO h.pur hcl k1
   λid hid e' τ' xs fz app g c' hr hl'=>by
    obtain⟨cur,f',k4,k5,k6,k7,k8,k9,_⟩:=hs.hs.rows id _ _ hr hl'
    exact⟨.inr ⟨id,hid,_,c',hr,rfl,hl'⟩,Nat.le_trans hlow (hge id _ g c' hr hl'),⟨cur,e',f',k4,k9⟩⟩
  refine⟨v,by simpa using hres,v,rfl,hs.below.to,Ye S1 ρ st.row (JE 6 ra),λb hb=>.inl (hg.sub b hb (hst b hb)),λb hb=>?_,⟨none,?_⟩⟩
  ·rcases hb with hb|⟨id,hid,r,c',hr,_,hl'⟩
   ·exact(hg.new b hb).imp _root_.id λh=>⟨Nat.le_of_not_lt h,hs.hs.stab b hb⟩
   ·exact .inr ⟨hge id r b c' hr hl',(hs.hs.rows id r _ hr hl').lt⟩
  ·rw[k2,show valOf ra cs=valOf (.pc true τ x) cs by have:=Ju hcl;rw[valOf,valOf,<-this];rfl]
   exact .plain _ cs (.pc true τ x cs (XM k3))
structure FunD (E:Env)(G:Cal->List AV->AV->Prop)(LG:Nat->St->Ex->St->Prop)(fn:Func)(c:Code)(τ:Ty)(x:den τ)(k m:Int)(e:Ex)(st:St):Prop where
 body:fn.body=some c
 run:CodeR E G LG 0 c (Uo fn.ntmps τ x k) e st
 out:∀id,e≠ .exit id
 vals:J7 E st fn.results.toList=some [.t (.int .i64) m]
 row:∃r,st.row Qd=some r
theorem Q9r {C:Orc}{L:YJ}(hC:J8 C G)(hL:LIs L LG){fn:Func}{τ:Ty}{x:den τ}{k:Int}{R:Type}{K:AV->Option R}{r:R}(h:Q2S E C L fn τ x k K=some r) :
  ∃c m e st,FunD E G LG fn c τ x k m e st/\K (.t (.int .i64) m)=some r:=by
 unfold Q2S at h
 split at h
 ·rename_i c hc
  obtain⟨e,st,h1,h2⟩:=JI hC hL c 0 _ h
  have go:(match J7 E st fn.results.toList with
   |some [.t (.int .i64) m]=>match st.row Qd with
    |some _=>K (.t (.int .i64) m)
    |none=>none
   |_=>none)=some r->(∀id,e≠ .exit id)->∃c m e st,FunD E G LG fn c τ x k m e st/\K (.t (.int .i64) m)=some r:=λh2 he=>by
   split at h2
   ·rename_i m hm
    split at h2
    ·rename_i r0 hr
     exact⟨c,m,e,st,⟨hc,h1,he,hm,r0,hr⟩,h2⟩
    ·cases h2
   ·cases h2
  cases e with
  |exit id=>cases h2
  |normal=>exact go h2 (λid h=>by cases h)
  |ret=>exact go h2 (λid h=>by cases h)
 ·cases h
theorem Q5I (hE:EnvOk P E)(hG:GOk P E pv G){f:FuncId}{fn:Func}(hf:P.funcs[f]? =some fn)(hname:(fn.name== "runtime.NumGoroutine")=false){c:Code}{τ:Ty}{x:den τ}{k m:Int}{e:Ex}{st:St}
  (h:FunD E G LG fn c τ x k m e st) (hsl:slT τ=true) (hn:2<=fn.ntmps) (hl:∀w0 B,∀p∈QF 0 c,QT P E w0 B pv p.2 (LG p.1)):Ut P E pv f τ x k m:=by
 intro S T v w cs hst hgl hST hsw hcr
 show Qw P _ ((callFunc f #[valOf (.t τ x) cs,.int .i64 k]).run P w)
 rw[Xq hf h.body hname]
 refine calls_of_wp hf h.body ?_
 have hrow1:(Uo fn.ntmps τ x k).row Qd=some (.box τ (.t .bool false)):=by simp[Uo]
 have hrow2:∀id r,(Uo fn.ntmps τ x k).row id=some r->id=Qd/\r= .box τ (.t .bool false):=λid r h1=>by
  simp only[Uo,beq_eq]at h1
  by_cases e1:id=Qd
  ·rw[decide_eq_true e1]at h1
   simp only[cond_true,Option.some.injEq]at h1
   exact⟨e1,h1.symm⟩
  ·rw[decide_eq_false e1]at h1;cases h1
 have hs0:Sim w ⟨λb=>b<w.heap.size/\¬T b,some (.soft T v)⟩ pv S (λid=>if id=Qd then some (.soft T v)else none) (Uo fn.ntmps τ x k) {tmps:=#[valOf (.t τ x) cs,.int .i64 k]++Array.replicate (fn.ntmps - #[valOf (.t τ x) cs,Value.int .i64 k].size) undef,defers:=[]} w:=by
  refine⟨by simp[Uo];omega,rfl,λt=>?_,⟨hst,λid r l1 h1 h2=>?_,λid id' l1 l2 b h1 h2 h3 h4 _ _=>?_,λid r l1 g h1 h2 hg=>?_,λl1 hl1=>?_⟩,Blw.refl _ _,λ_ h=>h.1⟩
  ·rw[Array.getD_eq_getD_getElem?]
   match t with
   |0=>
    rw[Array.getElem?_append_left (by simp)]
    exact .inr ⟨cs,.ds Qd τ x cs _ T v hrow1 (by simp) hcr,rfl⟩
   |1=>
    rw[Array.getElem?_append_left (by simp)]
    exact .inr ⟨_,.t _ _ _ (.int .i64 k),rfl⟩
   |t+2=>
    have:(#[valOf (.t τ x) cs,Value.int .i64 k]++Array.replicate (fn.ntmps - #[valOf (.t τ x) cs,Value.int .i64 k].size) undef)[t+2]? =(Array.replicate (fn.ntmps - #[valOf (.t τ x) cs,Value.int .i64 k].size) undef)[t]?:=by
     rw[Array.getElem?_append_right (by simp)]
     simp
    rw[this,Xr]
    exact J3
  ·obtain⟨rfl,rfl⟩:=hrow2 id r h1
   rw[if_pos rfl]at h2
   cases h2
   exact⟨hsl,⟨false,rfl,λh=>by cases h⟩,hsw⟩
  ·cases hx:(Uo fn.ntmps τ x k).row id with
   |none=>exact absurd hx h3
   |some r=>
    cases hy:(Uo fn.ntmps τ x k).row id' with
    |none=>exact absurd hy h4
    |some r'=>exact(hrow2 id r hx).1.trans (hrow2 id' r' hy).1.symm
  ·obtain⟨rfl,rfl⟩:=hrow2 id r h2
   rw[if_pos rfl]at h1
   have h1:=Option.some.inj h1
   subst h1
   exact⟨λhb=>hb.2 hg,λ_ hS=>hST g hS hg,λhz=>by cases hz⟩
  ·simpa using hl1
 refine Xm hE hG h.run (hl w _) hs0 hgl λS1 ρ a w1 hs hgl1 hg=>?_
 suffices hfin:a.defers=[]/\∃u,(results fn a.tmps).run P w1= .ok u w1/\(∃v',Ending.returned u= .returned v'/\(v'= .int .i64 m/\Blw ⟨λb=>b<w.heap.size/\¬T b,none⟩ w w1/\Jr T v w1)) by
  cases e with
  |normal=>exact hfin
  |ret=>exact hfin
  |exit id=>exact absurd rfl (h.out id)
 refine⟨hs.defers,?_⟩
 obtain⟨r0,hr0⟩:=h.row
 have hpin:ρ Qd=some (.soft T v):=hs.hs.pin _ rfl
 have hro:=hs.hs.rows Qd r0 _ hr0 hpin
 have hsw1:Jr T v w1:=by
  cases r0 with
  |flat e τ xs fz app=>exact hro.elim
  |box τ b=>exact hro.2.2
 obtain⟨vs',hvl',hvv,hres⟩:=Xo hE hs h.vals
 match vs',hvl' with
 |[u],_=>
  exact⟨u,by simpa using hres,u,rfl,Qn (hvv 0 _ u rfl rfl),⟨hs.below.os,hs.below.tape,hs.below.output,hs.below.size,hs.below.block⟩,hsw1⟩
def mpv (pv:Nat->Value)(n:Nat):Nat->Value:=λi=>if i=1099511627776 then .int .i64 n else if i=1099511627777 then .bool true else if i=1099511627778 then .bool true else pv i
theorem Q4t (pv:Nat->Value)(n:Nat):pvN (mpv pv n)=n:=by simp[pvN,mpv]
theorem Q9s (pv:Nat->Value)(n:Nat):pvQ (mpv pv n)=true:=by simp[pvQ,mpv]
theorem Q9t (pv:Nat->Value)(n:Nat):pvO (mpv pv n)=true:=by simp[pvO,mpv]
theorem Q7S {E E':Env}(hgl:E'.gl=E.gl)(hgi:E'.gi=E.gi)(hon:E'.on=true){f:Nat}{ps:List Ty}{x:TX ps}{τ:Ty}{y:den τ}
  (h:∀n,Q8 P E' (mpv pv n) (.f f) (Qa ps x) (.pc true τ y)):Q5n P E pv f (Qa ps x) (.pc true τ y):=by
 intro S w vs hst hg hargs
 have hg':Qv E' (mpv pv w.heap.size) (λb=>b<w.heap.size) w:=by
  have hg1:=hg.mono (S':=λb=>b<w.heap.size) hst (λ_ _=>rfl)
  refine⟨λg b hb=>?_,λg hb=>?_,λ_=>hon,λ_=>?_⟩
  ·obtain⟨τ',x',cs,e,hc,hgs,hv⟩:=hg1.1 g b (by rw[<-hgl];exact hb)
   exact⟨τ',x',cs,e,hc.mono (λb hb=>⟨hb.1,λ_=>by rw[Q4t];exact hb.1⟩) (λ_ _=>rfl),⟨hgs.1,λ_=>by rw[Q4t];exact hgs.1⟩,hv⟩
  ·obtain⟨h1,m,h2⟩:=hg1.2.1 g (by rw[<-hgi];exact hb)
   exact⟨⟨h1.1,λ_=>by rw[Q4t];exact h1.1⟩,m,h2⟩
  ·rw[Q4t]
   by_cases h0:w.heap.size=0
   ·exact .inl h0
   ·exact .inr (by show w.heap.size-1<w.heap.size;omega)
 have ha':J6 (λb=>b<w.heap.size) w (mpv pv w.heap.size) (Qa ps x) vs:=by
  refine⟨hargs.1,λi a v ha hv=>?_⟩
  obtain⟨cs,h1,h2⟩:=hargs.2 i a v ha hv
  have:∀(ps:List Ty) (x:TX ps) (i:Nat) a,(Qa ps x)[i]? =some a->∃τ,∃z:den τ,a= .t τ z:=by
   intro ps
   induction ps with
   |nil=>intro x i a h;simp[Qa]at h
   |cons τ ps ih=>
    intro x i a h
    cases i with
    |zero=>simp only[Qa,List.getElem?_cons_zero,Option.some.injEq]at h;exact⟨τ,x.1,h.symm⟩
    |succ i=>exact ih x.2 i a (by simpa[Qa]using h)
  obtain⟨τ',z,rfl⟩:=this ps x i a ha
  exact⟨cs,.t _ _ _ ((XM h1).mono hst (λ_ _=>rfl)),h2⟩
 refine Qw.mono (h w.heap.size (λb=>b<w.heap.size) w vs (λ_ h=>h) hg' ha') λu w' ⟨hb,S',h1,h2,h3⟩=>⟨hb,?_⟩
 obtain⟨g,h3⟩:=h3
 cases h3 with
 |plain _ cs ha=>
  cases ha with
  |pc _ _ _ _ hx=>
   refine⟨τ,y,λb=>w.heap.size<=b/\b<w'.heap.size/\OB w' b,cs,.inl rfl,rfl,λb hb=>hb,hx.mono (λb hb=>?_) (λ_ _=>rfl)⟩
   have h4:=hb.2.1
   rw[Q4t]at h4
   rcases h2 b hb.1 with h5|h5
   ·omega
   ·exact⟨h5.1,h5.2,hb.2.2⟩
end
end Go.Gx
end
section
/- Tables of callees and of loops,and what they are tied by. -/
namespace Go.Gx
open Go.RowKit
inductive MK where
 |fr (e:Nat) (τ:Ty)
 |bx (τ:Ty)
@[reducible] def MK.X:MK->Type
 |.fr _ τ=>List (den τ)
 |.bx τ=>den τ
def MK.val:(k:MK)->k.X->AV
 |.fr e τ,x=>.fr e τ x
 |.bx τ,x=>.bx τ x
def MK.view:(k:MK)->AV->Option k.X
 |.fr e τ,a=>match a with
  |.fr e' σ xs=>match decEq σ τ,Nat.beq e' e with
   |.isTrue h,true=>some (h▸xs)
   |_,_=>none
  |_=>none
 |.bx τ,a=>match a with
  |.bx σ x=>match decEq σ τ with
   |.isTrue h=>some (h▸x)
   |.isFalse _=>none
  |_=>none
theorem MK.view_eq {k:MK}{a:AV}{x:k.X}(h:k.view a=some x):a=k.val x:=by
 cases k with
 |fr e τ=>
  cases a<;>simp only[MK.view]at h<;>try cases h
  split at h
  ·rename_i e' _ he
   subst e'
   cases h
   rw[Nat.eq_of_beq_eq_true he];rfl
  ·cases h
 |bx τ=>
  cases a<;>simp only[MK.view]at h<;>try cases h
  split at h
  ·rename_i e' _
   subst e'
   cases h
   rfl
  ·cases h
def Q18 (k:MK):AV->Option k.X
 |.kep o (.tup [])=>k.view o
 |_=>none
def Q6F {Y:Type}(k:MK)(V:AV->Option Y):AV->Option (k.X×Y)
 |.kep o r=>match k.view o,V r with
  |some a,some b=>some (a,b)
  |_,_=>none
 |_=>none
def Q0f (e:Nat)(τ:Ty):AV->Option (List (den τ))
 |.mov e' σ xs=>match decEq σ τ,Nat.beq e' e with
  |.isTrue h,true=>some (h▸xs)
  |_,_=>none
 |_=>none
theorem Gp {k:MK}{r:AV}{y:k.X}(h:Q18 k r=some y):WkM r (.kep (k.val y) (.tup [])):=by
 unfold Q18 at h
 split at h
 ·rw[MK.view_eq h];exact .kep _ _ _ (Q6t _)
 ·cases h
theorem Q4u {Y:Type}{k:MK}{V:AV->Option Y}{out:Y->AV}(hV:∀r y,V r=some y->Wk r (out y)){r:AV}{y:k.X×Y}(h:Q6F k V r=some y):WkM r (.kep (k.val y.1) (out y.2)):=by
 unfold Q6F at h
 split at h
 ·split at h
  ·rename_i a b ha hb
   cases h
   rw[MK.view_eq ha]
   exact .kep _ _ _ (hV _ _ hb)
  ·cases h
 ·cases h
theorem Q19 {e:Nat}{τ:Ty}{r:AV}{y:List (den τ)}(h:Q0f e τ r=some y):WkM r (.mov e τ y):=by
 unfold Q0f at h
 split at h
 ·split at h
  ·rename_i e' _ he
   subst e'
   cases h
   rw[Nat.eq_of_beq_eq_true he]
   exact .mov _ _ _
  ·cases h
 ·cases h
def Q3f (τ:Ty):AV->Option (den τ)
 |.pc false σ x=>match decEq σ τ with
  |.isTrue h=>some (h▸x)
  |_=>none
 |_=>none
theorem Q5J {τ:Ty}{r:AV}{y:den τ}(h:Q3f τ r=some y):WkM r (.pc false τ y):=by
 unfold Q3f at h
 split at h
 ·split at h
  ·rename_i e' _
   subst e'
   cases h
   exact .eat _ _
  ·cases h
 ·cases h
inductive PK where
 |t (τ:Ty)
 |tp (τ:Ty)
 |clo (g:Nat) (cs:List CK)
@[reducible] def PK.X:PK->Type
 |.t τ=>den τ
 |.tp τ=>den τ
 |.clo _ cs=>CX cs
def PK.val:(k:PK)->k.X->AV
 |.t τ,x=>.t τ x
 |.tp τ,x=>.tp (.t τ x)
 |.clo g cs,x=>.clo g (Dm cs x)
def PK.view:(k:PK)->AV->Option k.X
 |.t τ,a=>asT τ a
 |.tp τ,a=>match a with
  |.tp b=>asT τ b
  |_=>none
 |.clo g cs,a=>match a with
  |.clo f caps=>match Nat.beq f g with
   |true=>Gz cs caps
   |false=>none
  |_=>none
@[reducible] def PX:List PK->Type
 |[]=>Unit
 |k::l=>k.X×PX l
def JM:(l:List PK)->PX l->List AV
 |[],_=>[]
 |k::l,x=>k.val x.1::JM l x.2
def Xy:(l:List PK)->List AV->Option (PX l)
 |[],[]=>some ()
 |k::l,a::al=>match k.view a with
  |some x=>match Xy l al with
   |some y=>some (x,y)
   |none=>none
  |none=>none
 |_,_=>none
section
variable {S:Nat->Prop} {w:World} {ρ:Nat->Option Loc} {row:Nat->Option Row} {pv:Nat->Value}
theorem PK.ok {k:PK}{a:AV}{x:k.X}{cs:List Value}(hx:k.view a=some x)(h:AR S w ρ row pv a cs):AR S w ρ row pv (k.val x) cs/\isAg a=isAg (k.val x):=by
 cases k with
 |t τ=>exact⟨.t _ _ _ (Qs hx h),(Gl hx).symm⟩
 |tp τ=>
  simp only[PK.view]at hx
  split at hx
  ·exact⟨Qbe hx h,rfl⟩
  ·cases hx
 |clo g ks=>
  simp only[PK.view]at hx
  split at hx
  ·rename_i f caps
   split at hx
   ·rename_i hf
    obtain rfl:=Nat.eq_of_beq_eq_true hf
    exact⟨Q4p hx h,rfl⟩
   ·cases hx
  ·cases hx
theorem Q2n:∀{ks:List PK} {av:List AV} {x:PX ks},Xy ks av=some x->av.length=(JM ks x).length/\∀(i:Nat) a b,av[i]? =some a->(JM ks x)[i]? =some b->∃k:PK,∃y:k.X,b=k.val y/\k.view a=some y
 |[],[],x,_=>⟨rfl,λi a b h=>by simp at h⟩
 |[],_::_,x,h=>by simp[Xy]at h
 |k::l,[],x,h=>by simp[Xy]at h
 |k::l,a::al,x,h=>by
  simp only[Xy]at h
  split at h
  ·rename_i x0 hx
   split at h
   ·rename_i y hy
    cases h
    obtain⟨h1,h2⟩:=Q2n hy
    refine⟨by simp[JM,h1],λi b c hb hc=>?_⟩
    cases i with
    |zero=>cases hb;cases hc;exact⟨k,x0,rfl,hx⟩
    |succ i=>exact h2 i b c (by simpa using hb) (by simpa[JM]using hc)
   ·cases h
  ·cases h
theorem Q1a {ks:List PK}{av:List AV}{x:PX ks}{vs:List Value}(hx:Xy ks av=some x)(h:J6 S w pv av vs):J6 S w pv (JM ks x) vs:=by
 obtain⟨h1,h2⟩:=Q2n hx
 obtain⟨h3,h4⟩:=h
 refine⟨h3.trans h1,λi b v hb hv=>?_⟩
 have hi:=(List.getElem?_eq_some_iff.1 hb).1
 have ha:av[i]? =some av[i]:=List.getElem?_eq_getElem (by omega)
 obtain⟨k,y,rfl,hy⟩:=h2 i _ b ha hb
 obtain⟨cs,h5,h6⟩:=h4 i _ v ha hv
 obtain⟨h7,h8⟩:=PK.ok hy h5
 exact⟨cs,h7,by rw[h6,valOf,valOf,h8]⟩
end
inductive CArm:Type 1
 |p (ps:List Ty) (Y:Type) (F:TX ps->Option Y) (out:Y->AV)
 |m (k:MK) (ps:List Ty) (Y:Type) (F:k.X->TX ps->Option Y) (out:Y->AV)
 |q (ps:List PK) (Y:Type) (F:PX ps->Option Y) (out:Y->AV)
 |mq (k:MK) (ps:List PK) (Y:Type) (F:k.X->PX ps->Option Y) (out:Y->AV)
 |d (τ:Ty) (F:den τ->Int->Option Int)
 |pp (ps:List Ty) (τ:Ty) (F:TX ps->Option (den τ))
 |tt (ps:List Ty) (Y:Type) (F:TX ps->Option Y) (out:Y->AV)
 |v (ps:List Ty) (F:Entry->TX ps->Option Entry)
 |x (τ:Ty) (F:den τ->Int->Option (den τ×Int))
 |alt (A B:CArm)
def Q9u (τ:Ty):List AV->Option (den τ×Int)
 |[.pc true σ x,.t (.int .i64) k]=>match decEq σ τ with
  |.isTrue h=>some (h▸x,k)
  |.isFalse _=>none
 |_=>none
theorem Q9v {τ:Ty}{av:List AV}{y:den τ×Int}(h:Q9u τ av=some y):av=[.pc true τ y.1,.t (.int .i64) y.2]:=by
 unfold Q9u at h
 split at h
 ·split at h
  ·rename_i e _
   subst e
   cases h
   rfl
  ·cases h
 ·cases h
def Q5K (ps:List Ty):List AV->Option (TX ps)
 |.pc false .bool true::l=>Yp ps l
 |_=>none
theorem Q7T {ps:List Ty}{av:List AV}{y:TX ps}(h:Q5K ps av=some y):∃l,av= .pc false .bool true::l/\Yp ps l=some y:=by
 unfold Q5K at h
 split at h
 ·exact⟨_,rfl,h⟩
 ·cases h
def Q5L (ps:List Ty):List AV->Option (TX ps)
 |.pc false .bool false::l=>Yp ps l
 |_=>none
theorem Q7U {ps:List Ty}{av:List AV}{y:TX ps}(h:Q5L ps av=some y):∃l,av= .pc false .bool false::l/\Yp ps l=some y:=by
 unfold Q5L at h
 split at h
 ·exact⟨_,rfl,h⟩
 ·cases h
def Q9w (ps:List Ty):List AV->Option (Entry×TX ps)
 |.pc false .entry x::l=>match Yp ps l with
  |some y=>some (x,y)
  |none=>none
 |_=>none
theorem Q9x {ps:List Ty}{av:List AV}{y:Entry×TX ps}(h:Q9w ps av=some y):∃l,av= .pc false .entry y.1::l/\Yp ps l=some y.2:=by
 unfold Q9w at h
 split at h
 ·split at h
  ·rename_i hy
   cases h
   exact⟨_,rfl,hy⟩
  ·cases h
 ·cases h
def Q9y (τ:Ty):List AV->Option (den τ×Int)
 |[.pc false σ x,.t (.int .i64) k]=>match decEq σ τ with
  |.isTrue h=>some (h▸x,k)
  |.isFalse _=>none
 |_=>none
theorem Q9z {τ:Ty}{av:List AV}{y:den τ×Int}(h:Q9y τ av=some y):av=[.pc false τ y.1,.t (.int .i64) y.2]:=by
 unfold Q9y at h
 split at h
 ·split at h
  ·rename_i e _
   subst e
   cases h
   rfl
  ·cases h
 ·cases h
def Qcr:List AV->Nat
 |.pc true _ _::_=>1
 |.pc false .bool b::_=>cond b 2 3
 |.pc false _ _::_=>4
 |_=>0
def CArm.sel:CArm->Nat
 |.d _ _=>1
 |.pp _ _ _=>2
 |.tt _ _ _ _=>3
 |.v _ _=>4
 |.x _ _=>4
 |_=>0
def CArm.run {R:Type}(A:CArm)(av:List AV)(K:AV->Option R):Option R:=match A with
 |.p ps Y F out=>(Yp ps av).bind λx=>(F x).bind λr=>K (out r)
 |.m k ps Y F out=>match av with
  |[]=>none
  |a0::rest=>(k.view a0).bind λx0=>(Yp ps rest).bind λx=>(F x0 x).bind λr=>K (out r)
 |.q ps Y F out=>(Xy ps av).bind λx=>(F x).bind λr=>K (out r)
 |.mq k ps Y F out=>match av with
  |[]=>none
  |a0::rest=>(k.view a0).bind λx0=>(Xy ps rest).bind λx=>(F x0 x).bind λr=>K (out r)
 |.d τ F=>(Q9u τ av).bind λx=>(F x.1 x.2).bind λr=>K (.t (.int .i64) r)
 |.pp ps τ F=>(Q5K ps av).bind λx=>(F x).bind λr=>K (.pc true τ r)
 |.tt ps Y F out=>(Q5L ps av).bind λx=>(F x).bind λr=>K (out r)
 |.v ps F=>(Q9w ps av).bind λx=>(F x.1 x.2).bind λr=>K (.tr .entry r)
 |.x τ F=>(Q9y τ av).bind λx=>(F x.1 x.2).bind λr=>K (.kep (.t τ r.1) (.t (.int .i64) r.2))
 |.alt A B=>match Nat.beq (Qcr av) A.sel with
  |true=>A.run av K
  |false=>B.run av K
def Q6 (t:Cal->Option CArm):Orc:=λcal av K=>match t cal with
 |some A=>A.run av K
 |none=>none
theorem QbB {R:Type}{r:R}{av:List AV}{K:AV->Option R}:∀{A:CArm},A.run av K=some r->∃res,A.run av some=some res/\K res=some r:=by
 intro A
 induction A with
 |alt A B ihA ihB=>
  intro h
  simp only[CArm.run]at h ⊢
  split at h
  ·exact ihA h
  ·exact ihB h
 |tt ps Y F out=>
  intro h
  simp only[CArm.run]at h ⊢
  obtain⟨x,hx,h⟩:=Option.bind_eq_some_iff.1 h
  obtain⟨y,hy,h⟩:=Option.bind_eq_some_iff.1 h
  exact⟨out y,by simp only[hx,hy,Option.bind_some],h⟩
 |v ps F=>
  intro h
  simp only[CArm.run]at h ⊢
  obtain⟨x,hx,h⟩:=Option.bind_eq_some_iff.1 h
  obtain⟨y,hy,h⟩:=Option.bind_eq_some_iff.1 h
  exact⟨_,by simp only[hx,hy,Option.bind_some],h⟩
 |x τ F=>
  intro h
  simp only[CArm.run]at h ⊢
  obtain⟨x,hx,h⟩:=Option.bind_eq_some_iff.1 h
  obtain⟨y,hy,h⟩:=Option.bind_eq_some_iff.1 h
  exact⟨_,by simp only[hx,hy,Option.bind_some],h⟩
 |p ps Y F out=>
  intro h
  simp only[CArm.run]at h ⊢
  obtain⟨x,hx,h⟩:=Option.bind_eq_some_iff.1 h
  obtain⟨y,hy,h⟩:=Option.bind_eq_some_iff.1 h
  exact⟨out y,by simp only[hx,hy,Option.bind_some],h⟩
 |m k ps Y F out=>
  intro h
  cases av with
  |nil=>simp only[CArm.run]at h;cases h
  |cons a0 rest=>
   simp only[CArm.run]at h ⊢
   obtain⟨x0,hx0,h⟩:=Option.bind_eq_some_iff.1 h
   obtain⟨x,hx,h⟩:=Option.bind_eq_some_iff.1 h
   obtain⟨y,hy,h⟩:=Option.bind_eq_some_iff.1 h
   exact⟨out y,by simp only[hx0,hx,hy,Option.bind_some],h⟩
 |q ps Y F out=>
  intro h
  simp only[CArm.run]at h ⊢
  obtain⟨x,hx,h⟩:=Option.bind_eq_some_iff.1 h
  obtain⟨y,hy,h⟩:=Option.bind_eq_some_iff.1 h
  exact⟨out y,by simp only[hx,hy,Option.bind_some],h⟩
 |mq k ps Y F out=>
  intro h
  cases av with
  |nil=>simp only[CArm.run]at h;cases h
  |cons a0 rest=>
   simp only[CArm.run]at h ⊢
   obtain⟨x0,hx0,h⟩:=Option.bind_eq_some_iff.1 h
   obtain⟨x,hx,h⟩:=Option.bind_eq_some_iff.1 h
   obtain⟨y,hy,h⟩:=Option.bind_eq_some_iff.1 h
   exact⟨out y,by simp only[hx0,hx,hy,Option.bind_some],h⟩
 |d τ F=>
  intro h
  simp only[CArm.run]at h ⊢
  obtain⟨x,hx,h⟩:=Option.bind_eq_some_iff.1 h
  obtain⟨y,hy,h⟩:=Option.bind_eq_some_iff.1 h
  exact⟨_,by simp only[hx,hy,Option.bind_some],h⟩
 |pp ps τ F=>
  intro h
  simp only[CArm.run]at h ⊢
  obtain⟨x,hx,h⟩:=Option.bind_eq_some_iff.1 h
  obtain⟨y,hy,h⟩:=Option.bind_eq_some_iff.1 h
  exact⟨_,by simp only[hx,hy,Option.bind_some],h⟩
theorem JO (t:Cal->Option CArm):J8 (Q6 t) (CG (Q6 t)):=by
 intro R cal av K r h
 unfold CG
 unfold Q6 at h ⊢
 dsimp only at h ⊢
 split at h
 ·exact QbB h
 ·cases h
def Q9 (P:Program)(E:Env)(pv:Nat->Value)(cal:Cal)(A:CArm):Prop:=match A with
 |.p ps Y F out=>∀x y,F x=some y->Q8 P E pv cal (Qa ps x) (out y)
 |.m k ps Y F out=>∃f,cal= .f f/\∀x0 x y,F x0 x=some y->Jb P E pv f (k.val x0) (Qa ps x) (out y)
 |.q ps Y F out=>∀x y,F x=some y->Q8 P E pv cal (JM ps x) (out y)
 |.mq k ps Y F out=>∃f,cal= .f f/\∀x0 x y,F x0 x=some y->Jb P E pv f (k.val x0) (JM ps x) (out y)
 |.d τ F=>∃f,cal= .f f/\∀x k m,F x k=some m->Ut P E pv f τ x k m
 |.pp ps τ F=>∃f,cal= .f f/\∀x y,F x=some y->Q5n P E pv f (Qa ps x) (.pc true τ y)
 |.tt ps Y F out=>∃f,cal= .f f/\∀x y,F x=some y->XP P E pv f (Qa ps x) (out y)
 |.v ps F=>∃f,cal= .f f/\∀e x y,F e x=some y->Q8U P E pv f .entry e (Qa ps x) y
 |.x τ F=>slT τ=true/\∃f,cal= .f f/\∀x k y,F x k=some y->Db P E pv f τ x k y.1 y.2
 |.alt A B=>Q9 P E pv cal A/\Q9 P E pv cal B
theorem KI {S:Nat->Prop}{w:World}{pv:Nat->Value}{tys:List Ty}{av:List AV}{x:TX tys}{vs:List Value}(hx:Yp tys av=some x)(h:J6 S w pv av vs):J6 S w pv (Qa tys x) vs:=by
 obtain⟨h1,h2⟩:=Gn hx
 obtain⟨h3,h4⟩:=h
 refine⟨h3.trans h1,λi b v hb hv=>?_⟩
 have hi:=(List.getElem?_eq_some_iff.1 hb).1
 have ha:av[i]? =some av[i]:=List.getElem?_eq_getElem (by omega)
 obtain⟨τ,y,rfl,hy⟩:=h2 i _ b ha hb
 obtain⟨cs,h5,h6⟩:=h4 i _ v ha hv
 exact⟨cs,.t τ y cs (Qs hy h5),by rw[h6,valOf,valOf,Gl hy]⟩
theorem QbC {P:Program}{E:Env}{pv:Nat->Value}{cal:Cal}{av:List AV}{r:AV}:∀{A:CArm},Q9 P E pv cal A->A.run av some=some r->Qbb P E pv cal av r:=by
 intro A
 induction A with
 |alt A B ihA ihB=>
  intro hok hr
  simp only[CArm.run]at hr
  split at hr
  ·exact ihA hok.1 hr
  ·exact ihB hok.2 hr
 |tt ps Y F out=>
  intro hok hr
  obtain⟨f,rfl,hok⟩:=hok
  simp only[CArm.run]at hr
  obtain⟨x,hx,hr⟩:=Option.bind_eq_some_iff.1 hr
  obtain⟨y,hy,hr⟩:=Option.bind_eq_some_iff.1 hr
  cases hr
  obtain⟨l,rfl,hl⟩:=Q7U hx
  refine⟨λhn=>absurd rfl (hn _ _ _ _),λf' τ' z k m e1 e2=>(by cases e2),λf' as _ e=>(by cases e),λf' as e1 e=>?_,λf' τ x as y _ e hs=>(by cases e;cases hs),λf' τ x k y m _ e hs=>(by cases e;cases hs)⟩
  cases e1;cases e
  have hm:=hok x y hy
  intro S w vs hst hgl hargs
  exact hm S w vs hst hgl (KI hl hargs)
 |v ps F=>
  intro hok hr
  obtain⟨f,rfl,hok⟩:=hok
  simp only[CArm.run]at hr
  obtain⟨x,hx,hr⟩:=Option.bind_eq_some_iff.1 hr
  obtain⟨y,hy,hr⟩:=Option.bind_eq_some_iff.1 hr
  cases hr
  obtain⟨l,rfl,hl⟩:=Q9x hx
  refine⟨λhn=>absurd rfl (hn _ _ _ _),λf' τ' z k m e1 e2=>(by cases e2),λf' as _ e=>(by cases e),λf' as e1 e=>(by cases e),λf' τ x' as y' e1 e2 hs e3=>?_,λf' τ x k y m _ e hs e3=>(by cases e3)⟩
  cases e1;cases e2;cases e3
  have hm:=hok _ _ _ hy
  intro S T v w cs vs hst hgl hST hsw htr hargs
  exact hm S T v w cs vs hst hgl hST hsw htr (KI hl hargs)
 |x τ F=>
  intro hok hr
  obtain⟨hsl,f,rfl,hok⟩:=hok
  simp only[CArm.run]at hr
  obtain⟨x,hx,hr⟩:=Option.bind_eq_some_iff.1 hr
  obtain⟨y,hy,hr⟩:=Option.bind_eq_some_iff.1 hr
  cases hr
  have e:=Q9z hx
  subst e
  refine⟨λhn=>absurd rfl (hn _ _ _ _),λf' τ' z k m e1 e2=>(by cases e2),λf' as _ e=>(by simp only[List.cons.injEq,AV.pc.injEq,true_and]at e;obtain⟨⟨rfl,_⟩,_⟩:=e;cases hsl),λf' as e1 e=>(by simp only[List.cons.injEq,AV.pc.injEq,true_and]at e;obtain⟨⟨rfl,_⟩,_⟩:=e;cases hsl),λf' τ x' as y' e1 e2 hs e3=>(by cases e3),λf' τ x k y m e1 e2 hs e3=>?_⟩
  cases e1;cases e2;cases e3
  exact hok _ _ _ hy
 |p ps Y F out=>
  intro hok hr
  simp only[CArm.run]at hr
  obtain⟨x,hx,hr⟩:=Option.bind_eq_some_iff.1 hr
  obtain⟨y,hy,hr⟩:=Option.bind_eq_some_iff.1 hr
  cases hr
  have nopc:∀c τ z l,av≠ .pc c τ z::l:=λc τ z l e=>by
   subst e
   cases ps with
   |nil=>simp[Yp]at hx
   |cons τ ps=>simp[Yp,asT]at hx
  refine⟨λ_=>⟨Q5H hx (hok x y hy),λf a0 rest e1 e2 hn=>?_⟩,λf τ z k m _ e=>absurd e (nopc _ _ _ _),λf as _ e=>absurd e (nopc _ _ _ _),UJ λτ x l=>nopc _ _ _ _⟩
  subst e2
  exfalso
  cases ps with
  |nil=>simp[Yp]at hx
  |cons τ ps=>
   simp only[Yp]at hx
   split at hx
   ·rename_i y0 hy0
    rcases U4 hy0 with rfl|rfl<;>exact hn rfl
   ·cases hx
 |m k ps Y F out=>
  intro hok hr
  obtain⟨f,rfl,hok⟩:=hok
  cases av with
  |nil=>simp only[CArm.run]at hr;cases hr
  |cons a0 rest=>
   simp only[CArm.run]at hr
   obtain⟨x0,hx0,hr⟩:=Option.bind_eq_some_iff.1 hr
   obtain⟨x,hx,hr⟩:=Option.bind_eq_some_iff.1 hr
   obtain⟨y,hy,hr⟩:=Option.bind_eq_some_iff.1 hr
   cases hr
   have ha0:=MK.view_eq hx0
   subst ha0
   have nopc:∀c τ z l,k.val x0::rest≠ .pc c τ z::l:=λc τ z l e=>by cases k<;>cases e
   refine⟨λ_=>⟨λS w vs _ _ ha=>?_,λf' a0 rest' e1 e2 hn=>?_⟩,λf τ z k m _ e=>absurd e (nopc _ _ _ _),λf as _ e=>absurd e (nopc _ _ _ _),UJ λτ x l=>nopc _ _ _ _⟩
   ·exfalso
    obtain⟨hl,ha⟩:=ha
    match vs,hl with
    |v::vs,_=>
     obtain⟨cs,h5,_⟩:=ha 0 _ v rfl rfl
     cases k<;>cases h5
   ·cases e1;cases e2
    have hm:=hok x0 x y hy
    intro S w v0 vs l r0 hst hgl hargs hr0 hrow hSl hv0
    exact hm S w v0 vs l r0 hst hgl (KI hx hargs) hr0 hrow hSl hv0
 |q ps Y F out=>
  intro hok hr
  simp only[CArm.run]at hr
  obtain⟨x,hx,hr⟩:=Option.bind_eq_some_iff.1 hr
  obtain⟨y,hy,hr⟩:=Option.bind_eq_some_iff.1 hr
  cases hr
  have nopc:∀c τ z l,av≠ .pc c τ z::l:=λc τ z l e=>by
   subst e
   cases ps with
   |nil=>simp[Xy]at hx
   |cons k ps=>cases k<;>simp[Xy,PK.view,asT]at hx
  refine⟨λ_=>⟨Goes.mono (hok x y hy) (Q6t _) λS w vs ha=>Q1a hx ha,λf a0 rest e1 e2 hn=>?_⟩,λf τ z k m _ e=>absurd e (nopc _ _ _ _),λf as _ e=>absurd e (nopc _ _ _ _),UJ λτ x l=>nopc _ _ _ _⟩
  subst e2
  exfalso
  cases ps with
  |nil=>simp[Xy]at hx
  |cons k ps=>
   simp only[Xy]at hx
   split at hx
   ·rename_i y0 hy0
    cases k with
    |t τ=>rcases U4 hy0 with rfl|rfl<;>exact hn rfl
    |tp τ=>
     simp only[PK.view]at hy0
     split at hy0
     ·exact hn rfl
     ·cases hy0
    |clo g cs=>
     simp only[PK.view]at hy0
     split at hy0
     ·exact hn rfl
     ·cases hy0
   ·cases hx
 |mq k ps Y F out=>
  intro hok hr
  obtain⟨f,rfl,hok⟩:=hok
  cases av with
  |nil=>simp only[CArm.run]at hr;cases hr
  |cons a0 rest=>
   simp only[CArm.run]at hr
   obtain⟨x0,hx0,hr⟩:=Option.bind_eq_some_iff.1 hr
   obtain⟨x,hx,hr⟩:=Option.bind_eq_some_iff.1 hr
   obtain⟨y,hy,hr⟩:=Option.bind_eq_some_iff.1 hr
   cases hr
   have ha0:=MK.view_eq hx0
   subst ha0
   have nopc:∀c τ z l,k.val x0::rest≠ .pc c τ z::l:=λc τ z l e=>by cases k<;>cases e
   refine⟨λ_=>⟨λS w vs _ _ ha=>?_,λf' a0 rest' e1 e2 hn=>?_⟩,λf τ z k m _ e=>absurd e (nopc _ _ _ _),λf as _ e=>absurd e (nopc _ _ _ _),UJ λτ x l=>nopc _ _ _ _⟩
   ·exfalso
    obtain⟨hl,ha⟩:=ha
    match vs,hl with
    |v::vs,_=>
     obtain⟨cs,h5,_⟩:=ha 0 _ v rfl rfl
     cases k<;>cases h5
   ·cases e1;cases e2
    have hm:=hok x0 x y hy
    intro S w v0 vs l r0 hst hgl hargs hr0 hrow hSl hv0
    exact hm S w v0 vs l r0 hst hgl (Q1a hx hargs) hr0 hrow hSl hv0
 |d τ F=>
  intro hok hr
  obtain⟨f,rfl,hok⟩:=hok
  simp only[CArm.run]at hr
  obtain⟨x,hx,hr⟩:=Option.bind_eq_some_iff.1 hr
  obtain⟨y,hy,hr⟩:=Option.bind_eq_some_iff.1 hr
  cases hr
  have e:=Q9v hx
  subst e
  refine⟨λhn=>absurd rfl (hn _ _ _ _),λf' τ' z k m e1 e2 e3=>?_,λf' as _ e=>(by cases e),UJ λτ x l e=>by cases e⟩
  cases e1;cases e2;cases e3
  exact hok _ _ _ hy
 |pp ps τ F=>
  intro hok hr
  obtain⟨f,rfl,hok⟩:=hok
  simp only[CArm.run]at hr
  obtain⟨x,hx,hr⟩:=Option.bind_eq_some_iff.1 hr
  obtain⟨y,hy,hr⟩:=Option.bind_eq_some_iff.1 hr
  cases hr
  obtain⟨l,rfl,hl⟩:=Q7T hx
  refine⟨λhn=>absurd rfl (hn _ _ _ _),λf' τ' z k m e1 e2=>(by cases e2),λf' as e1 e=>?_,λf' as _ e=>(by cases e),λf' τ x as y _ e hs=>(by cases e;cases hs),λf' τ x k y m _ e hs=>(by cases e;cases hs)⟩
  cases e1;cases e
  have hm:=hok x y hy
  intro S w vs hst hgl hargs
  exact hm S w vs hst hgl (KI hl hargs)
theorem JP {P:Program}{E:Env}{pv:Nat->Value}{t:Cal->Option CArm}(h:∀cal A,t cal=some A->Q9 P E pv cal A):GOk P E pv (CG (Q6 t)):=by
 intro cal av r hr
 unfold CG Q6 at hr
 dsimp only at hr
 split at hr
 ·rename_i A hA
  exact QbC (h cal A hA) hr
 ·cases hr
inductive LArm:Type 1
 |one (sp so:List Sp) (Y:Type) (l:Nat->SX sp->Option Y) (e:Ex) (g:Y->SX so) (h:SX so->Y)
 |two (sp so1 so2:List Sp) (Y Z:Type) (l:Nat->SX sp->Option (Sum Y Z)) (e1 e2:Ex) (g1:Y->SX so1) (h1:SX so1->Y) (g2:Z->SX so2) (h2:SX so2->Z)
def LArm.run {R:Type}(nt k:Nat)(A:LArm)(st:St)(K:Ex->St->Option R):Option R:=match A with
 |.one sp so Y l e g _=>(XG nt st sp).bind λx=>(l k x).bind λy=>K e (Qz nt so (g y))
 |.two sp so1 so2 Y Z l e1 e2 g1 _ g2 _=>(XG nt st sp).bind λx=>(l k x).bind λy=>match y with
  |.inl z=>K e1 (Qz nt so1 (g1 z))
  |.inr z=>K e2 (Qz nt so2 (g2 z))
def QaL:Ex->Ex->Bool
 |.exit a,.exit b=>Nat.beq a b
 |.ret,.ret=>true
 |_,_=>false
theorem Q3g {a b:Ex}(h:QaL a b=true):a=b/\a≠ .normal:=by
 cases a<;>cases b<;>first
  |exact Bool.noConfusion h
  |(have:=Nat.eq_of_beq_eq_true h;subst this;exact⟨rfl,by simp⟩)
  |exact⟨rfl,by simp⟩
@[reducible] def LArm.sp:LArm->List Sp
 |.one sp ..=>sp
 |.two sp ..=>sp
@[reducible] def LArm.Y:LArm->Type
 |.one _ _ Y ..=>Y
 |.two _ _ _ Y Z ..=>Sum Y Z
def LArm.l:(A:LArm)->Nat->SX A.sp->Option A.Y
 |.one _ _ _ l _ _ _=>l
 |.two _ _ _ _ _ l _ _ _ _ _ _=>l
def LArm.cont (nt k:Nat):(A:LArm)->Ex->St->Option A.Y
 |.one sp so Y l e g h,e',st=>match e' with
  |.normal=>(XG nt st sp).bind λx=>l k x
  |e'=>match QaL e' e with
   |true=>(XG nt st so).bind λx=>some (h x)
   |false=>none
 |.two sp so1 so2 Y Z l e1 e2 g1 h1 g2 h2,e',st=>match e' with
  |.normal=>(XG nt st sp).bind λx=>l k x
  |e'=>match QaL e' e1 with
   |true=>(XG nt st so1).bind λx=>some (.inl (h1 x))
   |false=>match QaL e' e2 with
    |true=>(XG nt st so2).bind λx=>some (.inr (h2 x))
    |false=>none
def LArm.Ok:LArm->Prop
 |.one sp so Y l e g h=>Q3J sp=true/\Q3J so=true/\(∀x,l 0 x=none)/\∀x,g (h x)=x
 |.two sp so1 so2 Y Z l e1 e2 g1 h1 g2 h2=>Q3J sp=true/\Q3J so1=true/\Q3J so2=true/\(∀x,l 0 x=none)/\(∀x,g1 (h1 x)=x)/\∀x,g2 (h2 x)=x
def Q4 (nt k:Nat)(t:Nat->Option LArm):YJ:=λb st K=>match t b with
 |some A=>A.run nt k st K
 |none=>none
theorem JQ (nt k:Nat)(t:Nat->Option LArm):LIs (Q4 nt k t) (LG (Q4 nt k t)):=by
 intro R b st K r h
 unfold LG
 unfold Q4 at h ⊢
 dsimp only at h ⊢
 split at h
 ·rename_i A hA
  cases A with
  |one sp so Y l e g h'=>
   unfold LArm.run at h ⊢
   obtain⟨x,hx,h⟩:=Option.bind_eq_some_iff.1 h
   obtain⟨y,hy,h⟩:=Option.bind_eq_some_iff.1 h
   exact⟨_,_,by simp only[hx,hy,Option.bind_some],h⟩
  |two sp so1 so2 Y Z l e1 e2 g1 h1 g2 h2=>
   unfold LArm.run at h ⊢
   obtain⟨x,hx,h⟩:=Option.bind_eq_some_iff.1 h
   obtain⟨y,hy,h⟩:=Option.bind_eq_some_iff.1 h
   cases y with
   |inl z=>exact⟨_,_,by simp only[hx,hy,Option.bind_some],h⟩
   |inr z=>exact⟨_,_,by simp only[hx,hy,Option.bind_some],h⟩
 ·cases h
theorem KJ {nt:Nat}{t:Nat->Option LArm}(hok:∀b A,t b=some A->A.Ok):∀b st e st',¬LG (Q4 nt 0 t) b st e st':=by
 intro b st e st' h
 unfold LG Q4 at h
 dsimp only at h
 split at h
 ·rename_i A hA
  have:=hok b A hA
  cases A with
  |one sp so Y l e g h'=>
   unfold LArm.run at h
   obtain⟨x,hx,h⟩:=Option.bind_eq_some_iff.1 h
   rw[this.2.2.1]at h;cases h
  |two sp so1 so2 Y Z l e1 e2 g1 h1 g2 h2=>
   unfold LArm.run at h
   obtain⟨x,hx,h⟩:=Option.bind_eq_some_iff.1 h
   rw[this.2.2.2.1]at h;cases h
 ·cases h
theorem KL {E:Env}{C:Nat->Orc}{nt:Nat}{t:Nat->Option LArm}{fn:Func}(hok:∀b A,t b=some A->A.Ok)
  (hS:∀b A,t b=some A->∀k x,Qp E (C k) (Q4 nt k t) b (Qi fn b) (Qz nt A.sp x) (A.cont nt k)=A.l (k+1) x) :
  ∀k b e st st',LG (Q4 nt (k+1) t) b st e st'->Q9p E (C k) (Q4 nt k t) nt (Qi fn b) b e st st':=by
 intro k b e st st' h
 unfold LG at h
 unfold Q4 at h
 dsimp only at h
 split at h
 ·rename_i A hA
  have ho:=hok b A hA
  have hs:=hS b A hA k
  cases A with
  |one sp so Y l e1 g h'=>
   unfold LArm.run at h
   obtain⟨x,hx,h⟩:=Option.bind_eq_some_iff.1 h
   obtain⟨y,hy,h⟩:=Option.bind_eq_some_iff.1 h
   simp only[Option.some.injEq,Prod.mk.injEq]at h
   obtain⟨rfl,rfl⟩:=h
   refine⟨sp,x,ho.1,hx,Y,y,_,(hs x).trans hy,λe' st1 hc=>?_⟩
   unfold LArm.cont at hc
   dsimp only at hc
   split at hc
   ·obtain⟨x1,hx1,hl⟩:=Option.bind_eq_some_iff.1 hc
    refine .inl ⟨rfl,?_⟩
    unfold LG Q4
    simp only[hA,LArm.run,hx1,hl,Option.bind_some]
   ·split at hc
    ·rename_i hne he
     obtain⟨rfl,hn⟩:=Q3g he
     obtain⟨x1,hx1,hl⟩:=Option.bind_eq_some_iff.1 hc
     cases hl
     exact .inr ⟨rfl,hn,so,x1,ho.2.1,hx1,by rw[ho.2.2.2]⟩
    ·cases hc
  |two sp so1 so2 Y Z l e1 e2 g1 h1 g2 h2=>
   unfold LArm.run at h
   obtain⟨x,hx,h⟩:=Option.bind_eq_some_iff.1 h
   obtain⟨y,hy,h⟩:=Option.bind_eq_some_iff.1 h
   refine⟨sp,x,ho.1,hx,Sum Y Z,y,_,(hs x).trans hy,λe' st1 hc=>?_⟩
   unfold LArm.cont at hc
   dsimp only at hc
   split at hc
   ·obtain⟨x1,hx1,hl⟩:=Option.bind_eq_some_iff.1 hc
    refine .inl ⟨rfl,?_⟩
    unfold LG Q4
    simp only[hA,LArm.run,hx1,hl,Option.bind_some]
    exact h
   ·split at hc
    ·rename_i hne he
     obtain⟨rfl,hn⟩:=Q3g he
     obtain⟨x1,hx1,hl⟩:=Option.bind_eq_some_iff.1 hc
     cases hl
     simp only[Option.some.injEq,Prod.mk.injEq]at h
     obtain⟨rfl,rfl⟩:=h
     exact .inr ⟨rfl,hn,so1,x1,ho.2.1,hx1,by rw[ho.2.2.2.2.1]⟩
    ·split at hc
     ·rename_i hne he' he
      obtain⟨rfl,hn⟩:=Q3g he
      obtain⟨x1,hx1,hl⟩:=Option.bind_eq_some_iff.1 hc
      cases hl
      simp only[Option.some.injEq,Prod.mk.injEq]at h
      obtain⟨rfl,rfl⟩:=h
      exact .inr ⟨rfl,hn,so2,x1,ho.2.2.1,hx1,by rw[ho.2.2.2.2.2]⟩
     ·cases hc
 ·cases h
theorem Q7 {P:Program}{E:Env}{pv:Nat->Value}(hE:EnvOk P E){t:Cal->Option CArm}(hG:∀cal A,t cal=some A->Q9 P E pv cal A){f:FuncId}{fn:Func}{c:Code}(hf:P.funcs[f]? =some fn)(hb:fn.body=some c)
  (hname:(fn.name== "runtime.NumGoroutine")=false) {args:List AV} (hn:Nat.ble args.length fn.ntmps=true) {R:Type} {K:AV->Option R} {y:R} (hrun:Ql E (Q6 t) (Q4 fn.ntmps 0 fun _=>none) fn args K=some y) {r':AV} (hw:∀r,K r=some y->Wk r r') :
  Q8 P E pv (.f f) args r':=
 Q4r hE (JO t) (JQ _ _ _) (JP hG) hf hb hname (XV (λb st e st' h=>by unfold LG Q4 at h;cases h) _) (Nat.le_of_ble_eq_true hn) hrun hw
theorem Qg {P:Program}{E:Env}{pv:Nat->Value}(hE:EnvOk P E){t:Nat->Cal->Option CArm}(k:Nat)(hG:∀k',k'<=k->∀cal A,t k' cal=some A->Q9 P E pv cal A){f:FuncId}{fn:Func}{c:Code}(hf:P.funcs[f]? =some fn)(hb:fn.body=some c)
  (hname:(fn.name== "runtime.NumGoroutine")=false) {args:List AV} (hn:Nat.ble args.length fn.ntmps=true) {lt:Nat->Option LArm} (hok:YU fn=true) (hlt:∀b A,lt b=some A->A.Ok)
  (hS:∀b A,lt b=some A->∀k x,Qp E (Q6 (t k)) (Q4 fn.ntmps k lt) b (Qi fn b) (Qz fn.ntmps A.sp x) (A.cont fn.ntmps k)=A.l (k+1) x)
  {R:Type} {K:AV->Option R} {y:R} (hrun:Ql E (Q6 (t k)) (Q4 fn.ntmps k lt) fn args K=some y) {r':AV} (hw:∀r,K r=some y->Wk r r'):Q8 P E pv (.f f) args r':=
 Q4r hE (JO _) (JQ _ _ _) (JP (hG k (Nat.le_refl k))) hf hb hname (λw0 B p hp st e st' S ρ a w Q h hs hgl hQ=>
  wp_loop_rounds k (UQ hE (C:=λk=>Q6 (t k)) (L:=λk=>Q4 fn.ntmps k lt) (λk=>JO _) (λk=>JQ _ _ _) hb hok (n:=k) (λk' hk'=>JP (hG k' (Nat.le_of_lt hk'))) (KJ hlt) (λk b e st st' _ h=>KL (C:=λk=>Q6 (t k)) hlt hS k b e st st' h) k (Nat.le_refl k) w0 B p hp st e st' S ρ a w Q h hs hgl hQ)) (Nat.le_of_ble_eq_true hn) hrun hw
theorem Q2o {P:Program}{E:Env}{pv:Nat->Value}(hE:EnvOk P E){C:Orc}{L:YJ}(hC:J8 C (CG C))(hL:LIs L (LG L))(hG:GOk P E pv (CG C)){f:FuncId}{fn:Func}{c:Code}(hf:P.funcs[f]? =some fn)(hb:fn.body=some c)(hname:(fn.name== "runtime.NumGoroutine")=false)
  (hl:∀w0 B,∀p∈QF 0 c,QT P E w0 B pv p.2 (LG L p.1)) {mb:Nat} (hmb:mb=Qd\/mb=KW) {a0:AV} {args:List AV} (hn:args.length+1<=fn.ntmps) {R:Type} {K:AV->Option R} {y:R} (hrun:G2 E C L fn mb a0 args K=some y) {r':AV} (hw:∀r,K r=some y->WkM r r'):Jb P E pv f a0 args r':=by
 obtain⟨c',res,e,st,rs,hfr,hk⟩:=Q9m hC hL hrun
 have hcc:c'=c:=by have:=hfr.body;rw[hb]at this;cases this;rfl
 subst hcc
 exact Jb.mono (Q5G hE hG hf hname hfr hmb hn hl) (hw res hk)
theorem Q1b {P:Program}{E:Env}{pv:Nat->Value}(hE:EnvOk P E){t:Cal->Option CArm}(hG:∀cal A,t cal=some A->Q9 P E pv cal A){f:FuncId}{fn:Func}{c:Code}(hf:P.funcs[f]? =some fn)(hb:fn.body=some c)
  (hname:(fn.name== "runtime.NumGoroutine")=false) {mb:Nat} (hmb:mb=Qd\/mb=KW) {a0:AV} {args:List AV} (hn:Nat.ble (args.length+1) fn.ntmps=true) {R:Type} {K:AV->Option R} {y:R} (hrun:G2 E (Q6 t) (Q4 fn.ntmps 0 fun _=>none) fn mb a0 args K=some y) {r':AV} (hw:∀r,K r=some y->WkM r r') :
  Jb P E pv f a0 args r':=
 Q2o hE (JO t) (JQ _ _ _) (JP hG) hf hb hname (XV (λb st e st' h=>by unfold LG Q4 at h;cases h) _) hmb (Nat.le_of_ble_eq_true hn) hrun hw
theorem YF {P:Program}{E:Env}{pv:Nat->Value}(hE:EnvOk P E){t:Nat->Cal->Option CArm}(k:Nat)(hG:∀k',k'<=k->∀cal A,t k' cal=some A->Q9 P E pv cal A){f:FuncId}{fn:Func}{c:Code}(hf:P.funcs[f]? =some fn)(hb:fn.body=some c)
  (hname:(fn.name== "runtime.NumGoroutine")=false) {mb:Nat} (hmb:mb=Qd\/mb=KW) {a0:AV} {args:List AV} (hn:Nat.ble (args.length+1) fn.ntmps=true) {lt:Nat->Option LArm} (hok:YU fn=true) (hlt:∀b A,lt b=some A->A.Ok)
  (hS:∀b A,lt b=some A->∀k x,Qp E (Q6 (t k)) (Q4 fn.ntmps k lt) b (Qi fn b) (Qz fn.ntmps A.sp x) (A.cont fn.ntmps k)=A.l (k+1) x)
  {R:Type} {K:AV->Option R} {y:R} (hrun:G2 E (Q6 (t k)) (Q4 fn.ntmps k lt) fn mb a0 args K=some y) {r':AV} (hw:∀r,K r=some y->WkM r r'):Jb P E pv f a0 args r':=
 Q2o hE (JO _) (JQ _ _ _) (JP (hG k (Nat.le_refl k))) hf hb hname (λw0 B p hp st e st' S ρ a w Q h hs hgl hQ=>
  wp_loop_rounds k (UQ hE (C:=λk=>Q6 (t k)) (L:=λk=>Q4 fn.ntmps k lt) (λk=>JO _) (λk=>JQ _ _ _) hb hok (n:=k) (λk' hk'=>JP (hG k' (Nat.le_of_lt hk'))) (KJ hlt) (λk b e st st' _ h=>KL (C:=λk=>Q6 (t k)) hlt hS k b e st st' h) k (Nat.le_refl k) w0 B p hp st e st' S ρ a w Q h hs hgl hQ)) hmb (Nat.le_of_ble_eq_true hn) hrun hw
theorem DT {r:AV}{y:Int}(h:Q2 (.t (.int .i64)) r=some y):r= .t (.int .i64) y:=by
 simp only[Q2,RK.view]at h
 split at h
 ·cases h
 ·split at h
  ·rename_i b hb
   obtain⟨x,rfl⟩:=Xh hb
   have:=Xd hb
   simp only[asT]at h
   split at h
   ·rename_i e;subst e;cases this
   ·cases h
  ·cases h
 ·rcases U4 h with rfl|rfl
  ·rfl
  ·simp[asT]at h
theorem Q5M {P:Program}{E:Env}{pv:Nat->Value}(hE:EnvOk P E)(hO:pvO pv=true)(hQ:pvQ pv=true){C:Orc}{L:YJ}(hC:J8 C (CG C))(hL:LIs L (LG L))(hG:GOk P E pv (CG C)){f:FuncId}{fn:Func}{c:Code}(hf:P.funcs[f]? =some fn)(hb:fn.body=some c)(hname:(fn.name== "runtime.NumGoroutine")=false)
  (hl:∀w0 B,∀p∈QF 0 c,QT P E w0 B pv p.2 (LG L p.1)) {args:List AV} (hn:args.length<=fn.ntmps) {R:Type} {K:AV->Option R} {y:R} (hrun:Q0r E C L fn args K=some y) {r':AV} (hw:∀r,K r=some y->Wk r r'):Q8 P E pv (.f f) args r':=by
 obtain⟨c',τ,x,e,st,a,hfr,hk⟩:=Q7R hC hL hrun
 have hcc:c'=c:=by have:=hfr.body;rw[hb]at this;cases this;rfl
 subst hcc
 exact Goes.mono (Q4s hE hG hO hQ hf hname hfr hn hl) (hw _ hk) λ_ _ _ h=>h
theorem XW {P:Program}{E:Env}{pv:Nat->Value}(hE:EnvOk P E)(hO:pvO pv=true)(hQ:pvQ pv=true){t:Cal->Option CArm}(hG:∀cal A,t cal=some A->Q9 P E pv cal A){f:FuncId}{fn:Func}{c:Code}(hf:P.funcs[f]? =some fn)(hb:fn.body=some c)
  (hname:(fn.name== "runtime.NumGoroutine")=false) {args:List AV} (hn:Nat.ble args.length fn.ntmps=true) {R:Type} {K:AV->Option R} {y:R} (hrun:Q0r E (Q6 t) (Q4 fn.ntmps 0 fun _=>none) fn args K=some y) {r':AV} (hw:∀r,K r=some y->Wk r r') :
  Q8 P E pv (.f f) args r':=
 Q5M hE hO hQ (JO t) (JQ _ _ _) (JP hG) hf hb hname (XV (λb st e st' h=>by unfold LG Q4 at h;cases h) _) (Nat.le_of_ble_eq_true hn) hrun hw
theorem Q2p {P:Program}{E:Env}{pv:Nat->Value}(hE:EnvOk P E){C:Orc}{L:YJ}(hC:J8 C (CG C))(hL:LIs L (LG L))(hG:GOk P E pv (CG C)){f:FuncId}{fn:Func}{c:Code}(hf:P.funcs[f]? =some fn)(hb:fn.body=some c)(hname:(fn.name== "runtime.NumGoroutine")=false)
  (hl:∀w0 B,∀p∈QF 0 c,QT P E w0 B pv p.2 (LG L p.1)) (hn:2<=fn.ntmps) {τ:Ty} (hsl:slT τ=true) {x:den τ} {k:Int} {R:Type} {K:AV->Option R} {y:R} (hrun:Q2S E C L fn τ x k K=some y) {m:Int} (hw:∀r,K r=some y->r= .t (.int .i64) m):Ut P E pv f τ x k m:=by
 obtain⟨c',m',e,st,hfr,hk⟩:=Q9r hC hL hrun
 have hcc:c'=c:=by have:=hfr.body;rw[hb]at this;cases this;rfl
 subst hcc
 have:=hw _ hk
 cases this
 exact Q5I hE hG hf hname hfr hsl hn hl
theorem Q5N {P:Program}{E:Env}{pv:Nat->Value}(hE:EnvOk P E){t:Cal->Option CArm}(hG:∀cal A,t cal=some A->Q9 P E pv cal A){f:FuncId}{fn:Func}{c:Code}(hf:P.funcs[f]? =some fn)(hb:fn.body=some c)
  (hname:(fn.name== "runtime.NumGoroutine")=false) (hn:Nat.ble 2 fn.ntmps=true) {τ:Ty} (hsl:slT τ=true) {x:den τ} {k:Int} {R:Type} {K:AV->Option R} {y:R} (hrun:Q2S E (Q6 t) (Q4 fn.ntmps 0 fun _=>none) fn τ x k K=some y) {m:Int} (hw:∀r,K r=some y->r= .t (.int .i64) m):Ut P E pv f τ x k m:=
 Q2p hE (JO t) (JQ _ _ _) (JP hG) hf hb hname (XV (λb st e st' h=>by unfold LG Q4 at h;cases h) _) (Nat.le_of_ble_eq_true hn) hsl hrun hw
theorem Di {P:Program}{E:Env}{pv:Nat->Value}(hE:EnvOk P E){t:Nat->Cal->Option CArm}(k:Nat)(hG:∀k',k'<=k->∀cal A,t k' cal=some A->Q9 P E pv cal A){f:FuncId}{fn:Func}{c:Code}(hf:P.funcs[f]? =some fn)(hb:fn.body=some c)
  (hname:(fn.name== "runtime.NumGoroutine")=false) (hn:Nat.ble 2 fn.ntmps=true) {lt:Nat->Option LArm} (hok:YU fn=true) (hlt:∀b A,lt b=some A->A.Ok)
  (hS:∀b A,lt b=some A->∀k x,Qp E (Q6 (t k)) (Q4 fn.ntmps k lt) b (Qi fn b) (Qz fn.ntmps A.sp x) (A.cont fn.ntmps k)=A.l (k+1) x)
  {τ:Ty} (hsl:slT τ=true) {x:den τ} {k0:Int} {R:Type} {K:AV->Option R} {y:R} (hrun:Q2S E (Q6 (t k)) (Q4 fn.ntmps k lt) fn τ x k0 K=some y) {m:Int} (hw:∀r,K r=some y->r= .t (.int .i64) m):Ut P E pv f τ x k0 m:=
 Q2p hE (JO _) (JQ _ _ _) (JP (hG k (Nat.le_refl k))) hf hb hname (λw0 B p hp st e st' S ρ a w Q h hs hgl hQ=>
  wp_loop_rounds k (UQ hE (C:=λk=>Q6 (t k)) (L:=λk=>Q4 fn.ntmps k lt) (λk=>JO _) (λk=>JQ _ _ _) hb hok (n:=k) (λk' hk'=>JP (hG k' (Nat.le_of_lt hk'))) (KJ hlt) (λk b e st st' _ h=>KL (C:=λk=>Q6 (t k)) hlt hS k b e st st' h) k (Nat.le_refl k) w0 B p hp st e st' S ρ a w Q h hs hgl hQ)) (Nat.le_of_ble_eq_true hn) hsl hrun hw
end Go.Gx
end
section
/- Rows: data that was trodden is plain data in memory;a law's contract out of its call's answer. -/
namespace Go.Gx
open Go.RowKit Go.ChangeShapes Go.WideShapes
inductive WF:(τ:Ty)->den τ->Prop
 |int (k:IntKind) (n:Int) (h:(Lit.int k n).wf=true):WF (.int k) n
 |bool (b:Bool):WF .bool b
 |str (s:ByteArray) (h:s.size<=maxLen):WF .str s
 |sl (e:Ty) (xs:List (den e)) (hm:xs.length<=maxLen) (h:∀i (hi:i<xs.length),WF e xs[i]):WF (.sl e) xs
 |date (d:Date) (hy:WF (.int .i64) d.y) (hm:WF (.int .i64) d.m) (hd:WF (.int .i64) d.d):WF .date d
 |abbr (a:Abbr) (h1:WF .str a.word) (h2:WF .str a.short):WF .abbr a
 |name (n:Name) (h1:WF (.sl .str) n.given) (h2:WF .str n.particle) (h3:WF .str n.family) (h4:WF .str n.suffix):WF .name n
 |entry (e:Entry) (h1:WF .str e.key) (h2:WF (.int .i64) e.kind) (h3:WF (.sl .name) e.authors) (h4:WF (.sl .name) e.editors) (h5:WF .str e.title) (h6:WF .str e.container) (h7:WF .str e.publisher)
   (h8:WF .date e.date) (h9:WF (.int .i64) e.volume) (h10:WF .str e.pages) (h11:WF .str e.cross):WF .entry e
 |lib (l:Library) (h:WF (.sl .entry) l.entries):WF .lib l
 |cur (q:Cur) (h1:WF (.sl (.int .u8)) q.code) (h2:WF (.int .i64) q.at_) (h3:WF (.int .u64) q.seed):WF .cur q
 |query (q:Query) (h1:WF (.int .i64) q.op) (h2:WF .str q.field) (h3:WF .str q.word) (h4:WF (.sl .query) q.parts):WF .query q
def noA:Ty->Bool
 |.arr _ _=>false
 |.sl e=>noA e
 |_=>true
section
variable {H:Type} {enc:TypeId×Value->H} {P:Program} {E:Env} {w:World} {spare:Nat->Bool} {held:Bool} {S:Nat->Prop}
abbrev Lt (w:World):Nat->Prop:=λb=>b<w.heap.size
theorem cell_lt {a:Addr}{v:Value}(h:w.cell? a=some v):a.block<w.heap.size:=by
 unfold World.cell? at h
 split at h
 ·rename_i c e f hb;exact(Array.getElem?_eq_some_iff.1 hb).1
 ·cases h
theorem Q6G (hty:∀T τ,E.ty T=some τ->TyOk P E T τ):∀(fuel:Nat) (T:Nat) (τ:Ty) (cs:List Value) (y:DataW H×List MemPlace),noA τ=true->E.ty T=some τ->DataW.trod enc P w 0 spare held fuel T cs=some y->∃x:den τ,WF τ x/\CR (Lt w) w τ x cs
 |0,T,τ,cs,y,_,_,h=>by simp[DataW.trod]at h
 |fuel+1,T,τ,cs,y,hn,hT,h=>by
  have ih:=Q6G hty fuel
  have hu:=hty T τ hT
  obtain⟨i,hi,hsz,-,-⟩:=hu.info
  have hcells:P.cellsOf T=nc τ:=by simp[Program.cellsOf,hi,hsz]
  have cellsOf:∀{t σ},E.ty t=some σ->P.cellsOf t=nc σ:=λ{t σ} ht=>by
   obtain⟨i,hi,hsz,-,-⟩:=(hty t σ ht).info
   simp[Program.cellsOf,hi,hsz]
  have hund:=hu.und
  -- a struct's fields
  have fields:∀fs,P.underlying T=some (.struct fs)->fs.size=(fty τ).length->(∀(f:Nat) (d:Field),fs[f]? =some d->∃σ,(fty τ)[f]? =some σ/\d.offset=QH (fty τ) f/\E.ty d.type=some σ)->
    cs.length=nc τ/\∀(f:Nat) σ,(fty τ)[f]? =some σ->noA σ=true->∃x:den σ,WF σ x/\CR (Lt w) w σ x ((cs.drop (QH (fty τ) f)).take (nc σ)):=λfs hfs hl hf=>by
   obtain⟨xs,n,hn,_,hlen,hxl,hx⟩:=DataW.trod_struct hfs h
   cases hn
   refine⟨hlen.trans hcells,λf σ hσ hno=>?_⟩
   have hfl:f<fs.size:=by have:=(List.getElem?_eq_some_iff.1 hσ).1;omega
   obtain⟨σ',h1,h2,h3⟩:=hf f fs[f] (Array.getElem?_eq_getElem hfl)
   rw[hσ]at h1
   cases h1
   have h4:=hx f fs[f] (Array.getElem?_eq_getElem hfl)
   rw[List.getElem?_eq_getElem (show f<xs.length by omega),h2,cellsOf h3]at h4
   exact ih _ σ _ _ hno h3 h4
  cases τ with
  |int k=>obtain⟨n,rfl,_,hw⟩:=DataW.trod_int hund h;exact⟨n,.int k n hw,.int k n⟩
  |bool=>obtain⟨b,rfl,_⟩:=DataW.trod_bool hund h;exact⟨b,.bool b,.bool b⟩
  |str=>obtain⟨s,rfl,_,hs⟩:=DataW.trod_string hund h;exact⟨s,.str s hs,.str s⟩
  |arr n e=>cases hn
  |sl e=>
   obtain⟨t,h1,h2,h3,h4,h5⟩:=hund
   rcases DataW.trod_slice h1 h with⟨rfl,_⟩|⟨a,len,cap,elems,rest,n,hfn,rfl,_,hb,hl,hm,hlen,hel,_⟩
   ·exact⟨[],.sl e [] (Nat.zero_le _) (λi hi=>absurd hi (Nat.not_lt_zero i)),Js _ _ e⟩
   ·cases hfn
    have key:∀i,∃x:den e,∃c:List Value,i<len->WF e x/\CR (Lt w) w e x c/\a.spot=none/\a.block<w.heap.size/\∀j v,c[j]? =some v->w.cell? ⟨a.block,a.off+(i*nc e+j),none⟩=some v:=λi=>by
     by_cases hi:i<len
     ·have h6:=hel i hi
      rw[List.getElem?_eq_getElem (show i<elems.length by omega)]at h6
      obtain⟨c,h7,h8⟩:=Option.bind_eq_some_iff.1 h6
      rw[cellsOf h3]at h7
      obtain⟨x,h9,h10⟩:=ih t e c _ hn h3 h8
      obtain⟨_,hcl,hcc⟩:=World.cells?_some h7
      have hcell:∀j v,c[j]? =some v->w.cell? ((a.add (i*nc e)).add j)=some v:=λj v hj=>by
       have:j<c.length:=(List.getElem?_eq_some_iff.1 hj).1
       rw[hcc j (by omega),hj]
      have h0:∃v,c[0]? =some v:=⟨c[0],List.getElem?_eq_getElem (by omega)⟩
      obtain⟨v0,hv0⟩:=h0
      have hlt:a.block<w.heap.size:=by
       have:=cell_lt (hcell 0 v0 hv0)
       simpa[Addr.add]using(show(a.add (i*nc e)).block<w.heap.size by simpa[Addr.add]using this) |> λh=>by unfold Addr.add at h;split at h<;>exact h
      have hsp:a.spot=none:=by
       have h11:=hel 0 (by omega)
       rw[List.getElem?_eq_getElem (show 0<elems.length by omega)]at h11
       obtain⟨c',h12,_⟩:=Option.bind_eq_some_iff.1 h11
       rw[cellsOf h3]at h12
       obtain⟨_,hcl',hcc'⟩:=World.cells?_some h12
       have h13:=hcc' 0 (by omega)
       rw[List.getElem?_eq_getElem (show 0<c'.length by omega)]at h13
       have:=World.cell?_spot h13
       simpa[Addr.add]using this
      refine⟨x,c,λ_=>⟨h9,h10,hsp,hlt,λj v hj=>?_⟩⟩
      have:=hcell j v hj
      rw[Go.Deep.add_add]at this
      obtain⟨ab,ao,asp⟩:=a
      cases hsp
      simp only[Addr.add]at this
      split at this
      ·rename_i hz
       have h14:i*nc e+j=0:=hz
       rw[h14];exact this
      ·exact this
     ·exact⟨Qh e,[],λh=>absurd h hi⟩
    let xf:=λi=>Classical.choose (key i)
    have hxf:∀i,∃c:List Value,i<len->WF e (xf i)/\CR (Lt w) w e (xf i) c/\a.spot=none/\a.block<w.heap.size/\∀j v,c[j]? =some v->w.cell? ⟨a.block,a.off+(i*nc e+j),none⟩=some v:=λi=>Classical.choose_spec (key i)
    let cf:=λi=>Classical.choose (hxf i)
    have hcf:=λi=>Classical.choose_spec (hxf i)
    have hxl:((List.range len).map xf).length=len:=by simp
    refine⟨(List.range len).map xf,.sl e _ (by rw[hxl];omega) (λi hi=>?_),?_⟩
    ·rw[hxl]at hi
     simp only[List.getElem_map,List.getElem_range]
     exact(hcf i hi).1
    ·have:=CR.sl (S:=Lt w) (w:=w) e ((List.range len).map xf) (some a) cap cf (by rw[hxl];exact hl) hm (λi hi=>by
      rw[hxl]at hi
      simp only[List.getElem_map,List.getElem_range]
      exact(hcf i hi).2.1) (λi hi=>by
      rw[hxl]at hi
      obtain⟨_,_,h6,h7,h8⟩:=hcf i hi
      obtain⟨ab,ao,asp⟩:=a
      cases h6
      exact⟨ab,ao,rfl,h7,h8⟩)
     rw[hxl]at this
     exact this
  |date=>
   obtain⟨fs,h1,h2,h3⟩:=hund
   obtain⟨hl,hf⟩:=fields fs h1 h2 h3
   match cs,hl with
   |[c0,c1,c2,c3],_=>
    obtain⟨x0,g0,k0⟩:=hf 0 _ rfl rfl
    obtain⟨x1,g1,k1⟩:=hf 1 _ rfl rfl
    obtain⟨x2,g2,k2⟩:=hf 2 _ rfl rfl
    obtain⟨x3,g3,k3⟩:=hf 3 _ rfl rfl
    simp[QH,nc]at k0 k1 k2 k3
    cases k0;cases k1;cases k2;cases k3
    exact⟨⟨x0,x1,x2,x3⟩,.date _ g0 g1 g2,.date ⟨x0,x1,x2,x3⟩⟩
  |abbr=>
   obtain⟨fs,h1,h2,h3⟩:=hund
   obtain⟨hl,hf⟩:=fields fs h1 h2 h3
   match cs,hl with
   |[c0,c1],_=>
    obtain⟨x0,g0,k0⟩:=hf 0 _ rfl rfl
    obtain⟨x1,g1,k1⟩:=hf 1 _ rfl rfl
    simp[QH,nc]at k0 k1
    cases k0;cases k1
    exact⟨⟨x0,x1⟩,.abbr _ g0 g1,.abbr ⟨x0,x1⟩⟩
  |cur=>
   obtain⟨fs,h1,h2,h3⟩:=hund
   obtain⟨hl,hf⟩:=fields fs h1 h2 h3
   match cs,hl with
   |[c0,c1,c2],_=>
    obtain⟨x0,g0,k0⟩:=hf 0 _ rfl rfl
    obtain⟨x1,g1,k1⟩:=hf 1 _ rfl rfl
    obtain⟨x2,g2,k2⟩:=hf 2 _ rfl rfl
    simp[QH,nc]at k0 k1 k2
    obtain⟨v,rfl⟩:∃v,c0=v:=⟨_,rfl⟩
    cases k1;cases k2
    exact⟨⟨x0,x1,x2⟩,.cur _ g0 g1 g2,.cur ⟨x0,x1,x2⟩ _ k0⟩
  |name=>
   obtain⟨fs,h1,h2,h3⟩:=hund
   obtain⟨hl,hf⟩:=fields fs h1 h2 h3
   match cs,hl with
   |[c0,c1,c2,c3],_=>
    obtain⟨x0,g0,k0⟩:=hf 0 _ rfl rfl
    obtain⟨x1,g1,k1⟩:=hf 1 _ rfl rfl
    obtain⟨x2,g2,k2⟩:=hf 2 _ rfl rfl
    obtain⟨x3,g3,k3⟩:=hf 3 _ rfl rfl
    simp[QH,nc]at k0 k1 k2 k3
    cases k1;cases k2;cases k3
    exact⟨⟨x0,x1,x2,x3⟩,.name _ g0 g1 g2 g3,.name ⟨x0,x1,x2,x3⟩ _ k0⟩
  |query=>
   obtain⟨fs,h1,h2,h3⟩:=hund
   obtain⟨hl,hf⟩:=fields fs h1 h2 h3
   match cs,hl with
   |[c0,c1,c2,c3],_=>
    obtain⟨x0,g0,k0⟩:=hf 0 _ rfl rfl
    obtain⟨x1,g1,k1⟩:=hf 1 _ rfl rfl
    obtain⟨x2,g2,k2⟩:=hf 2 _ rfl rfl
    obtain⟨x3,g3,k3⟩:=hf 3 _ rfl rfl
    simp[QH,nc]at k0 k1 k2 k3
    cases k0;cases k1;cases k2
    exact⟨.mk x0 x1 x2 x3,.query _ g0 g1 g2 g3,.query (.mk x0 x1 x2 x3) _ k3⟩
  |lib=>
   obtain⟨fs,h1,h2,h3⟩:=hund
   obtain⟨hl,hf⟩:=fields fs h1 h2 h3
   match cs,hl with
   |[c0],_=>
    obtain⟨x0,g0,k0⟩:=hf 0 _ rfl rfl
    simp[QH,nc]at k0
    exact⟨⟨x0⟩,.lib _ g0,.lib ⟨x0⟩ _ k0⟩
  |entry=>
   obtain⟨fs,h1,h2,h3⟩:=hund
   obtain⟨hl,hf⟩:=fields fs h1 h2 h3
   match cs,hl with
   |[c0,c1,c2,c3,c4,c5,c6,c7,c8,c9,c10,c11,c12,c13],_=>
    obtain⟨x0,g0,k0⟩:=hf 0 _ rfl rfl
    obtain⟨x1,g1,k1⟩:=hf 1 _ rfl rfl
    obtain⟨x2,g2,k2⟩:=hf 2 _ rfl rfl
    obtain⟨x3,g3,k3⟩:=hf 3 _ rfl rfl
    obtain⟨x4,g4,k4⟩:=hf 4 _ rfl rfl
    obtain⟨x5,g5,k5⟩:=hf 5 _ rfl rfl
    obtain⟨x6,g6,k6⟩:=hf 6 _ rfl rfl
    obtain⟨x7,g7,k7⟩:=hf 7 _ rfl rfl
    obtain⟨x8,g8,k8⟩:=hf 8 _ rfl rfl
    obtain⟨x9,g9,k9⟩:=hf 9 _ rfl rfl
    obtain⟨x10,g10,k10⟩:=hf 10 _ rfl rfl
    simp[QH,nc]at k0 k1 k2 k3 k4 k5 k6 k7 k8 k9 k10
    cases k0;cases k1;cases k4;cases k5;cases k6;cases k7;cases k8;cases k9;cases k10
    exact⟨⟨x0,x1,x2,x3,x4,x5,x6,x7,x8,x9,x10⟩,.entry _ g0 g1 g2 g3 g4 g5 g6 g7 g8 g9 g10,.entry ⟨x0,x1,x2,x3,x4,x5,x6,x7,x8,x9,x10⟩ _ _ k2 k3⟩
def WFs:(l:List Ty)->TX l->Prop
 |[],_=>True
 |τ::l,x=>WF τ x.1/\WFs l x.2
def Q3h (E:Env):List Nat->List Ty->Bool
 |[],[]=>true
 |T::l,τ::m=>(match E.ty T with
  |some σ=>Q0x σ τ
  |none=>false)&&(noA τ&&Q3h E l m)
 |_,_=>false
theorem QbD (hty:∀T τ,E.ty T=some τ->TyOk P E T τ){T:Nat}{τ:Ty}(hn:noA τ=true)(hT:E.ty T=some τ){base:Nat}{v:Value}(hv:Value.okWide P w .any base T v){x:den τ}{S:Nat->Prop}:v=valOf (.t τ x) v.cells.toList:=by
 have hund:=(hty T τ hT).und
 cases τ with
 |int k=>obtain⟨n,rfl⟩:=okWide_int hund hv;rfl
 |bool=>obtain⟨n,rfl⟩:=okWide_bool hund hv;rfl
 |str=>obtain⟨n,rfl⟩:=okWide_string hund hv;rfl
 |sl e=>obtain⟨t,h1,_⟩:=hund;obtain⟨a,l,c,rfl⟩:=okWide_slice h1 hv;rfl
 |arr n e=>cases hn
 |date|name|entry|lib|abbr|query|cur=>obtain⟨fs,h1,_⟩:=hund;obtain⟨cs,rfl,_⟩:=okWide_struct h1 hv;rfl
theorem Q2q (hty:∀T τ,E.ty T=some τ->TyOk P E T τ){base:Nat}{pv:Nat->Value}:∀{Ts:List Nat} {τs:List Ty} {vs:List Value} {ds:List (DataW H)} {ps:List MemPlace},Q3h E Ts τs=true->DataW.TrodAll enc P w 0 spare held Ts vs ds ps->
  (∀(j:Nat) t v,Ts[j]? =some t->vs[j]? =some v->Value.okWide P w .any base t v)->∃x:TX τs,WFs τs x/\J6 (Lt w) w pv (Qa τs x) vs
 |[],[],[],[],ps,_,_,_=>⟨(),trivial,rfl,λi a v h=>by simp[Qa]at h⟩
 |T::Ts,τ::τs,vs,ds,ps,hp,h,hv=>by
  obtain⟨v,vs',d,ds',p,q,rfl,rfl,rfl,hd,hr⟩:=trodAll_cons h
  simp only[Q3h,Bool.and_eq_true]at hp
  obtain⟨hT,hn,hp⟩:=hp
  cases hE:E.ty T with
  |none=>rw[hE]at hT;cases hT
  |some σ=>
   rw[hE]at hT
   have:=Ky hT
   subst this
   obtain⟨x,hx,hlen,hargs⟩:=Q2q hty (pv:=pv) hp hr λj t v h1 h2=>hv (j+1) t v (by simpa using h1) (by simpa using h2)
   obtain⟨fuel,hf⟩:=hd
   obtain⟨x0,hw0,hc0⟩:=Q6G hty fuel T σ _ _ hn hE hf
   refine⟨(x0,x),⟨hw0,hx⟩,by simp[Qa,hlen],λi a u h1 h2=>?_⟩
   cases i with
   |zero=>
    cases h1;cases h2
    exact⟨_,.t σ x0 _ hc0,QbD hty hn hE (hv 0 T v rfl rfl) (S:=Lt w)⟩
   |succ i=>exact hargs i a u (by simpa[Qa]using h1) (by simpa using h2)
 |[],_::_,_,_,_,hp,_,_=>by cases hp
 |_::_,[],_,_,_,hp,_,_=>by cases hp
 |[],[],_::_,_,_,_,h,_=>by cases h
 |[],[],[],_::_,_,_,h,_=>by cases h
theorem Q3i (hE:EnvOk P E){f:FuncId}{fn:Func}{c:Code}(hfn:P.funcs[f]? =some fn)(hbody:fn.body=some c)(hname:(fn.name== "runtime.NumGoroutine")=false){τs:List Ty}(hps:Q3h E fn.params.toList τs=true){tb:Nat}(hres:fn.resultTypes= #[tb])(hb:P.underlying tb=some .bool)
  (hl:laidOutB P=true) (hr:∀t∈fn.params.toList,P.readableRec t=true/\t<P.types.size) {s:ChangeSpec}
  {W:World} {base:Nat} {args:Array Value} {ds gs:List (DataW H)} {before:List MemPlace} {r:AV} (hrt:r= .t .bool true)
  (hlaw:∀x:TX τs,WFs τs x->Q8 P E (λ_=>undef) (.f f) (Qa τs x) r)
  (hspec:s.fn H (ds++gs)={results:=[.lit (.bool true)],args:=ds,vars:=gs})
  (Yw:∀(j:Nat) t v,fn.params[j]? =some t->args[j]? =some v->Value.okWide P W .any base t v)
  (hW:DataW.Whole enc P fn.params.toList s.vars false W args.toList ds gs before) (hgl:Qv E (λ_=>undef) (Lt W) W)
  (hv:∀q,DataW.TrodVars enc P W (λ_=>true) s.vars gs q->∀W',Below W.heap.size W W'->DataW.TrodVars enc P W' (λb=>decide (b<W.heap.size)) s.vars gs q) :
  Calls P f args W λe W'=>∃v,e= .returned v/\s.post enc P fn false true false false W args v W':=by
 have hW':=hW
 obtain⟨p,q,hA,hV,rfl,hfz,hnd⟩:=hW
 obtain⟨x,hx,hargs⟩:=Q2q (spare:=λ_=>true) (held:=true) hE.ty (pv:=λ_=>undef) hps hA λj t v h1 h2=>Yw j t v (by simpa using h1) (by simpa using h2)
 subst hrt
 have hgo:=hlaw x hx (Lt W) W args.toList (λb hb=>hb) hgl hargs
 have hcall:(callFunc f args).run P W= .ok (.enter f args) W:=by
  have hn':fn.name≠ "runtime.NumGoroutine":=by simpa using hname
  simp[callFunc,hfn,hn',hbody]
 have hgo2:Calls P f args W λe w''=>∃v,e= .returned v/\(Below W.heap.size W w''/\∃S':Nat->Prop,(∀b,Lt W b->S' b)/\(∀b,S' b->Lt W b\/(W.heap.size<=b/\b<w''.heap.size))/\RR S' w'' W.heap.size (λ_=>undef) (.t .bool true) v):=by
  have h:=hgo
  simp only[Goes]at h
  rw[hcall]at h
  exact h
 refine hgo2.mono λe W' ⟨v,he,hbl,S',_,_,hrr⟩=>?_
 subst he
 obtain⟨g,hr1⟩:=hrr
 have hvb:v= .bool true:=by
  cases hr1 with
  |plain _ cs ha=>cases ha with|t _ _ _ hc=>cases hc;rfl
 subst hvb
 have hlt:∀y∈p++q,y.block<W.heap.size:=λy hy=>hW'.lt y hy
 refine⟨_,rfl,ds,gs,p++q,[],p,q,hW',?_,?_,?_,hbl.frame _,λh=>by cases h⟩
 ·rw[hspec,hres]
  exact trodAll_mk1 (shut_bool hb true)
 ·rw[hspec]
  have all:∀{Ts:List Nat} {vs:List Value} {ds:List (DataW H)} {p:List MemPlace},DataW.TrodAll enc P W 0 (λ_=>true) true Ts vs ds p->(∀t∈Ts,P.readableRec t=true/\t<P.types.size)->(∀y∈p,y.block<W.heap.size)->DataW.TrodAll enc P W' 0 (λb=>decide (b<W.heap.size)) true Ts vs ds p:=by
   intro Ts
   induction Ts with
   |nil=>
    intro vs ds p h _ _
    obtain⟨rfl,rfl,rfl⟩:=trodAll_nil h
    exact trodAll_mk0
   |cons t Ts ih=>
    intro vs ds p h h1 h2
    obtain⟨v,vs',d,ds',p1,q1,rfl,rfl,rfl,hd,hr'⟩:=trodAll_cons h
    exact⟨p1,q1,Go.WideElems.Trod_stays hl (h1 t List.mem_cons_self).1 (h1 t List.mem_cons_self).2 hd (λy hy=>hbl.same (h2 y (List.mem_append_left _ hy))) (λy hy=>by simpa using h2 y (List.mem_append_left _ hy)),ih hr' (λt ht=>h1 t (List.mem_cons_of_mem _ ht)) (λy hy=>h2 y (List.mem_append_right _ hy)),rfl⟩
  exact all hA hr (λy hy=>hlt y (List.mem_append_left _ hy))
 ·rw[hspec]
  exact hv q hV W' hbl
end
end Go.Gx
end
section
/- A package-level array of texts that a row lists. -/
namespace Go.Gx
open Go.RowKit Go.ChangeShapes Go.WideShapes
end Go.Gx
end
section
/- Functions whose answers are trees of their own,functions that mark trees: what is interpreted of them is what the machine does. -/
namespace Go.Gx
open Go.RowKit
section
variable {P:Program} {E:Env} {pv:Nat->Value} {G:Cal->List AV->AV->Prop} {LG:Nat->St->Ex->St->Prop}
theorem GO {st:St}:∀{rs as:List AV},Xb st rs=some as->as.length=rs.length/\∀(i:Nat) (b:AV),as[i]? =some b->∃a,rs[i]? =some a/\Q3I st a=some b
 |[],as,h=>by cases h;exact⟨rfl,λi b h=>by simp at h⟩
 |a::l,as,h=>by
  simp only[Xb]at h
  split at h
  ·rename_i b hb
   split at h
   ·rename_i m hm
    cases h
    obtain⟨h1,h2⟩:=GO hm
    refine⟨by simp[h1],λi c hc=>?_⟩
    cases i with
    |zero=>cases hc;exact⟨a,rfl,hb⟩
    |succ i=>simpa using h2 i c (by simpa using hc)
   ·cases h
  ·cases h
theorem QbE {w0 w1:World}{B:Old}{S1:Nat->Prop}{ρ:Nat->Option Loc}{st:St}{a:Act}(hs:Sim w0 B pv S1 ρ st a w1){n0:Nat}{O:Nat->Prop}(hB:∀b,¬B b->n0<=b\/O b){r b:AV}{v:Value}(hr:Q3I st r=some b)(hv:VR S1 w1 ρ st.row pv r v)(hd:Qq (QB 6 r)=true) :
  (∀l,b≠ .tup l)/\RT1 w1 pv b v (ownB ρ (QB 6 r))/\∀x,x∈QB 6 r->(∃τ,∃y:den τ,b= .tr τ y\/∃e,∃xs:List (den τ),b= .fr e τ xs)->st.row x≠none:=by
 have other:(match Q5 st.row 6 r with
   |some (.t τ x)=>match slT τ with
    |false=>some (.t τ x)
    |true=>cond (Yi st.row 6 r) (some (.tr τ x)) none
   |_=>none)=some b->r≠ .any->(∀l,b≠ .tup l)/\RT1 w1 pv b v (ownB ρ (QB 6 r))/\∀x,x∈QB 6 r->(∃τ,∃y:den τ,b= .tr τ y\/∃e,∃xs:List (den τ),b= .fr e τ xs)->st.row x≠none:=λh hne=>by
  split at h
  ·rename_i τ x hc
   obtain⟨cs,h1,h2⟩:=QD hv hne
   have Yw:v=valOf (.t τ x) cs:=by rw[h2,valOf,valOf,Ju hc]
   split at h
   ·rename_i hsl
    cases h
    have:=Jv (ρ0:=λ_=>none) (row0:=λ_=>none) (S1:=λb=>b<w1.heap.size) hs.hs hs.hs.stab hc h1 (.inl λ_ h=>h)
    rw[Yw]
    refine⟨λl e=>(by cases e),.flat τ x cs _ hsl (QW hsl (XM this)),λx' _ hx=>?_⟩
    obtain⟨τ',y',e|⟨_,_,e⟩⟩:=hx<;>cases e
   ·rename_i hsl
    obtain⟨ht,h⟩:=Qc h
    cases h
    rw[Yw]
    exact⟨λl e=>(by cases e),.tr τ x cs _ hsl (Q38 hs.hs ht hc (by simp[asT]) h1 hd),λx' hx' _=>UL ht x' hx'⟩
  ·cases h
 cases r with
 |own id=>
  simp only[Q3I]at hr
  split at hr
  ·rename_i e τ xs hrow
   cases hsl:slT τ with
   |true=>rw[hsl]at hr;cases hr
   |false=>
    rw[hsl]at hr
    cases hr
    refine⟨λl e=>(by cases e),?_,λx hx _=>?_⟩
    ·rcases YA hv hrow with⟨g,c,hl,rfl⟩|⟨hl,rfl,rfl⟩
     ·have:=hs.hs.rows id _ _ hrow hl
      refine .fr e τ xs g c _ hsl ⟨id,by simp[QB],_,hl,rfl⟩ ?_
      obtain⟨cur,f,h1,h2,h3,h4,h5,h6,h7,h8⟩:=this
      exact⟨cur,f,h1,h2,h3,h4,h5,h6,h7,λi hi=>(h8 i hi).imp λcs hc=>⟨QW hsl hc.1,hc.2⟩⟩
     ·obtain⟨_,_,hpos⟩:=hs.hs.rows id _ _ hrow hl
      exact .frNil e τ _ hsl hpos
    ·simp only[QB,List.mem_singleton]at hx
     subst hx
     rw[hrow];simp
  ·cases hr
 |nil=>
  cases hr
  have:=Q0y hv
  subst this
  exact⟨λl e=>(by cases e),.nil _,λx hx=>by simp[QB]at hx⟩
 |any=>simp[Q3I,Q5]at hr
 |_=>exact other hr (by simp)
theorem Q3j {w0 w1:World}{B:Old}{S1:Nat->Prop}{ρ:Nat->Option Loc}{st:St}{a:Act}(hs:Sim w0 B pv S1 ρ st a w1){n0:Nat}{O:Nat->Prop}(hB:∀b,¬B b->n0<=b\/O b){ids:List Nat}(h:∀x,x∈ids->st.row x≠none):Q36 w1 n0 O (ownB ρ ids):=λb ⟨i,hi,l,hl,hb⟩=>by
 cases hr:st.row i with
 |none=>exact absurd hr (h i hi)
 |some r=>exact⟨hB b (hs.hs.apart0 i r l b hl hr hb).1,Q97 hs.hs hr hl hb⟩
theorem QaM (hE:EnvOk P E){w0 w1:World}{B:Old}{S1:Nat->Prop}{ρ:Nat->Option Loc}{st:St}{a:Act}(hs:Sim w0 B pv S1 ρ st a w1){n0:Nat}{O:Nat->Prop}(hB:∀b,¬B b->n0<=b\/O b){fn:Func}{rs as:List AV}(hvals:J7 E st fn.results.toList=some rs)(hdis:Qq (JS rs)=true)(hret:Xb st rs=some as) :
  ∃v,(results fn a.tmps).run P w1= .ok v w1/\RT w1 n0 O pv (one as) v:=by
 obtain⟨vs',hvl,hvv,hres⟩:=Xo hE hs hvals
 obtain⟨hal,hag⟩:=GO hret
 -- blocks of what is a tree or a slice; none of what is flat
 let Tk:AV->AV->Nat->Prop:=λr b=>match b with
  |.tr _ _=>ownB ρ (QB 6 r)
  |.fr _ _ _=>ownB ρ (QB 6 r)
  |_=>λ_=>False
 have comp:∀(i:Nat) (b:AV) (v:Value),as[i]? =some b->vs'[i]? =some v->∃r,rs[i]? =some r/\(∀l,b≠ .tup l)/\RT1 w1 pv b v (Tk r b)/\Q36 w1 n0 O (Tk r b)/\(∀x,Tk r b x->ownB ρ (QB 6 r) x)/\((∀x,Tk r b x->False)\/∀x,x∈QB 6 r->st.row x≠none):=λi b v hb hv=>by
  obtain⟨r,h1,h2⟩:=hag i b hb
  obtain⟨h3,h4,h5⟩:=QbE hs hB h2 (hvv i r v h1 hv) (Jj (f:=QB 6) hdis h1 h1).1
  refine⟨r,h1,h3,?_⟩
  cases h4 with
  |flat τ x cs _ hsl hc=>exact⟨.flat τ x cs _ hsl hc,λb h=>h.elim,λx h=>h.elim,.inl λx h=>h⟩
  |weak τ x _ _ hsl=>exact⟨.weak τ x _ _ hsl,λb h=>h.elim,λx h=>h.elim,.inl λx h=>h⟩
  |nil=>exact⟨.nil _,λb h=>h.elim,λx h=>h.elim,.inl λx h=>h⟩
  |fr e τ xs g cap _ hsl hT hrow=>exact⟨.fr e τ xs g cap _ hsl hT hrow,Q3j hs hB λx hx=>h5 x hx ⟨τ,Qh τ,.inr ⟨e,xs,rfl⟩⟩,λx h=>h,.inr λx hx=>h5 x hx ⟨τ,Qh τ,.inr ⟨e,xs,rfl⟩⟩⟩
  |frNil e τ _ hsl hpos=>exact⟨.frNil e τ _ hsl hpos,Q3j hs hB λx hx=>h5 x hx ⟨τ,Qh τ,.inr ⟨e,[],rfl⟩⟩,λx h=>h,.inr λx hx=>h5 x hx ⟨τ,Qh τ,.inr ⟨e,[],rfl⟩⟩⟩
  |tr τ x cs _ hsl hc=>exact⟨.tr τ x cs _ hsl hc,Q3j hs hB λy hy=>h5 y hy ⟨τ,x,.inl rfl⟩,λx h=>h,.inr λy hy=>h5 y hy ⟨τ,x,.inl rfl⟩⟩
 by_cases h1:as.length=1
 ·match as,h1,hal,comp with
  |[b],_,hal,comp=>
  match vs',hvl,hres,comp with
  |[v],hvl,hres,comp=>
   obtain⟨r,_,h3,h4,h5,_⟩:=comp 0 b v rfl rfl
   refine⟨v,by simpa using hres,?_⟩
   show RT w1 n0 O pv b v
   cases b with
   |tup l=>exact absurd rfl (h3 l)
   |_=>exact⟨_,h4,h5⟩
  |[],hvl,_,_=>simp at hvl;simp only[List.length_cons,List.length_nil]at hal;omega
  |_::_::_,hvl,_,_=>simp only[List.length_cons,List.length_nil]at hvl hal;omega
 ·have hone:one as= .tup as:=by
   match as,h1 with
   |[],_=>rfl
   |[_],h1=>exact absurd rfl h1
   |_::_::_,_=>rfl
  refine⟨.tuple vs'.toArray,?_,?_⟩
  ·rw[hres,dif_neg (by simp only[List.size_toArray];omega)]
  ·rw[hone]
   refine⟨vs',λi=>Tk (rs.getD i .any) (as.getD i .any),rfl,by omega,λi b v hb hv=>?_,λi j x hne hx hx'=>?_⟩
   ·obtain⟨r,h2,_,h4,h5,_⟩:=comp i b v hb hv
    have e1:rs.getD i .any=r:=by simp[List.getD,h2]
    have e2:as.getD i .any=b:=by simp[List.getD,hb]
    simp only[e1,e2]
    exact⟨h4,h5⟩
   ·have in_:∀k x,Tk (rs.getD k .any) (as.getD k .any) x->k<as.length:=λk x hx=>by
     apply Classical.byContradiction
     intro hn
     have e2:as.getD k .any= .any:=by simp[List.getD,List.getElem?_eq_none (show as.length<=k by omega)]
     rw[e2]at hx
     exact hx
    have get:∀k x,Tk (rs.getD k .any) (as.getD k .any) x->∃r,rs[k]? =some r/\ownB ρ (QB 6 r) x/\∀y,y∈QB 6 r->st.row y≠none:=λk x hx=>by
     have hk:=in_ k x hx
     have hb:as[k]? =some as[k]:=List.getElem?_eq_getElem hk
     have hv:vs'[k]? =some (vs'[k]'(by omega)):=List.getElem?_eq_getElem _
     obtain⟨r,h2,_,h4,h5,h6,h7⟩:=comp k _ _ hb hv
     have e1:rs.getD k .any=r:=by simp[List.getD,h2]
     have e2:as.getD k .any=as[k]:=by simp[List.getD,hb]
     rw[e1,e2]at hx
     refine⟨r,h2,h6 x hx,h7.resolve_left λh=>h x hx⟩
    obtain⟨r,h2,h3,h4⟩:=get i x hx
    obtain⟨r',h2',h3',h4'⟩:=get j x hx'
    exact G8 hs.hs ((Jj (f:=QB 6) hdis h2 h2').2 hne) h4 h4' h3 h3'
structure FunT (E:Env)(G:Cal->List AV->AV->Prop)(LG:Nat->St->Ex->St->Prop)(fn:Func)(c:Code)(st0:St)(e:Ex)(st:St)(rs as:List AV):Prop where
 body:fn.body=some c
 run:CodeR E G LG 0 c st0 e st
 out:∀id,e≠ .exit id
 vals:J7 E st fn.results.toList=some rs
 dis:Qq (JS rs)=true
 ret:Xb st rs=some as
theorem Q7V {C:Orc}{L:YJ}(hC:J8 C G)(hL:LIs L LG){fn:Func}{c:Code}(hc:fn.body=some c){st0:St}{R:Type}{K:AV->Option R}{r:R}(h:Qp E C L 0 c st0 (Qcb E fn K)=some r) :
  ∃e st rs as,FunT E G LG fn c st0 e st rs as/\K (one as)=some r:=by
 obtain⟨e,st,h1,h2⟩:=JI hC hL c 0 _ h
 have go:(match J7 E st fn.results.toList with
  |some rs=>match Qq (JS rs)with
   |true=>match Xb st rs with
    |some as=>K (one as)
    |none=>none
   |false=>none
  |none=>none)=some r->(∀id,e≠ .exit id)->∃e st rs as,FunT E G LG fn c st0 e st rs as/\K (one as)=some r:=λh2 he=>by
  split at h2
  ·rename_i rs hrs
   split at h2
   ·rename_i hd
    split at h2
    ·rename_i as has
     exact⟨e,st,rs,as,⟨hc,h1,he,hrs,hd,has⟩,h2⟩
    ·cases h2
   ·cases h2
  ·cases h2
 cases e with
 |exit id=>cases h2
 |normal=>exact go h2 (λid h=>by cases h)
 |ret=>exact go h2 (λid h=>by cases h)
theorem Q5O (hE:EnvOk P E)(hG:GOk P E pv G){f:FuncId}{fn:Func}(hf:P.funcs[f]? =some fn)(hname:(fn.name== "runtime.NumGoroutine")=false){c:Code}{args:List AV}{e:Ex}{st:St}{rs as:List AV}
  (h:FunT E G LG fn c (start fn.ntmps args) e st rs as) (hn:args.length<=fn.ntmps) (hl:∀w0 B,∀p∈QF 0 c,QT P E w0 B pv p.2 (LG p.1)):XP P E pv f args (one as):=by
 intro S w vs hst hgl hargs
 obtain⟨hvl,hva⟩:=hargs
 show Qw P _ ((callFunc f vs.toArray).run P w)
 rw[Xq hf h.body hname]
 refine calls_of_wp hf h.body ?_
 have hs0:Sim w ⟨λb=>b<w.heap.size,none⟩ pv S (λ_=>none) (start fn.ntmps args) {tmps:=vs.toArray++Array.replicate (fn.ntmps-vs.toArray.size) undef,defers:=[]} w:=by
  refine⟨by simp[start];omega,rfl,λt=>?_,⟨hst,λid r l h1 _=>(by cases h1),λid id' l l' b h1=>(by cases h1),λid r l b h1=>(by cases h1),λl hl=>(by cases hl)⟩,Blw.refl _ _,λ_ h=>h⟩
  rw[Array.getD_eq_getD_getElem?]
  simp only[start]
  by_cases ht:t<args.length
  ·have ha:args[t]? =some args[t]:=List.getElem?_eq_getElem ht
   have hv:vs[t]? =some vs[t]:=List.getElem?_eq_getElem (by omega)
   obtain⟨cs,h1,h2⟩:=hva t _ _ ha hv
   rw[Array.getElem?_append_left (by simp;omega)]
   simp only[List.getElem?_toArray,ha,hv,Option.getD_some]
   exact .inr ⟨cs,h1,h2⟩
  ·have ha:args[t]? =none:=List.getElem?_eq_none (by omega)
   rw[ha,Array.getElem?_append_right (by simp;omega)]
   simp only
   rw[Xr]
   exact J3
 refine Xm hE hG h.run (hl w ⟨λb=>b<w.heap.size,none⟩) hs0 hgl λS1 ρ a w1 hs hgl1 hg=>?_
 suffices hfin:a.defers=[]/\∃v,(results fn a.tmps).run P w1= .ok v w1/\(∃v',Ending.returned v= .returned v'/\(Below w.heap.size w w1/\RT w1 w.heap.size (λ_=>False) pv (one as) v')) by
  cases e with
  |normal=>exact hfin
  |ret=>exact hfin
  |exit id=>exact absurd rfl (h.out id)
 obtain⟨v,hres,hrt⟩:=QaM (n0:=w.heap.size) (O:=λ_=>False) hE hs (λb hb=>.inl (Nat.le_of_not_lt hb)) h.vals h.dis h.ret
 exact⟨hs.defers,v,hres,v,rfl,hs.below.to,hrt⟩
structure FunX (E:Env)(G:Cal->List AV->AV->Prop)(LG:Nat->St->Ex->St->Prop)(fn:Func)(c:Code)(τ:Ty)(x:den τ)(k:Int)(y:den τ)(m:Int)(e:Ex)(st:St):Prop where
 body:fn.body=some c
 run:CodeR E G LG 0 c (Up fn.ntmps τ x k) e st
 out:∀id,e≠ .exit id
 vals:J7 E st fn.results.toList=some [.t (.int .i64) m]
 row:∃σ a b,st.row Qd=some (.box σ (.tup [a,b,.t τ y]))
theorem Q9A {C:Orc}{L:YJ}(hC:J8 C G)(hL:LIs L LG){fn:Func}{τ:Ty}{x:den τ}{k:Int}{R:Type}{K:AV->Option R}{r:R}(h:runX E C L fn τ x k K=some r) :
  ∃c y m e st,FunX E G LG fn c τ x k y m e st/\K (.kep (.t τ y) (.t (.int .i64) m))=some r:=by
 unfold runX at h
 split at h
 ·rename_i c hc
  obtain⟨e,st,h1,h2⟩:=JI hC hL c 0 _ h
  have go:(match J7 E st fn.results.toList with
   |some [.t (.int .i64) m]=>match st.row Qd with
    |some (.box _ (.tup [_,_,.t σ y]))=>match decEq σ τ with
     |.isTrue _=>K (.kep (.t σ y) (.t (.int .i64) m))
     |.isFalse _=>none
    |_=>none
   |_=>none)=some r->(∀id,e≠ .exit id)->∃c y m e st,FunX E G LG fn c τ x k y m e st/\K (.kep (.t τ y) (.t (.int .i64) m))=some r:=λh3 he=>by
   clear h2
   have h2:=h3
   clear h3
   split at h2
   ·rename_i m hm
    split at h2
    ·rename_i σ0 a b σ y hr
     split at h2
     ·rename_i e1 _
      subst e1
      exact⟨c,y,m,e,st,⟨hc,h1,he,hm,_,_,_,hr⟩,h2⟩
     ·cases h2
    ·cases h2
   ·cases h2
  cases e with
  |exit id=>cases h2
  |normal=>exact go h2 (λid h=>by cases h)
  |ret=>exact go h2 (λid h=>by cases h)
 ·cases h
theorem Q5P (hE:EnvOk P E)(hG:GOk P E pv G){f:FuncId}{fn:Func}(hf:P.funcs[f]? =some fn)(hname:(fn.name== "runtime.NumGoroutine")=false){c:Code}{τ:Ty}{x y:den τ}{k m:Int}{e:Ex}{st:St}
  (h:FunX E G LG fn c τ x k y m e st) (hsl:slT τ=true) (hn:2<=fn.ntmps) (hl:∀w0 B,∀p∈QF 0 c,QT P E w0 B pv p.2 (LG p.1)):Db P E pv f τ x k y m:=by
 intro S T v w cs hst hgl hST hsw htr
 show Qw P _ ((callFunc f #[valOf (.t τ x) cs,.int .i64 k]).run P w)
 rw[Xq hf h.body hname]
 refine calls_of_wp hf h.body ?_
 have hrow1:(Up fn.ntmps τ x k).row Qd=some (QQ 0 false τ x):=by simp[Up]
 have hrow2:∀id r,(Up fn.ntmps τ x k).row id=some r->id=Qd/\r=QQ 0 false τ x:=λid r h1=>by
  simp only[Up,beq_eq]at h1
  by_cases e1:id=Qd
  ·rw[decide_eq_true e1]at h1
   simp only[cond_true,Option.some.injEq]at h1
   exact⟨e1,h1.symm⟩
  ·rw[decide_eq_false e1]at h1;cases h1
 have hs0:Sim w ⟨λb=>b<w.heap.size/\¬T b,some (.tree cs T v)⟩ pv S (λid=>if id=Qd then some (.tree cs T v)else none) (Up fn.ntmps τ x k) {tmps:=#[valOf (.t τ x) cs,.int .i64 k]++Array.replicate (fn.ntmps - #[valOf (.t τ x) cs,Value.int .i64 k].size) undef,defers:=[]} w:=by
  refine⟨by simp[Up];omega,rfl,λt=>?_,⟨hst,λid r l1 h1 h2=>?_,λid id' l1 l2 b h1 h2 h3 h4 _ _=>?_,λid r l1 g h1 h2 hg=>?_,λl1 hl1=>?_⟩,Blw.refl _ _,λ_ h=>h.1⟩
  ·rw[Array.getD_eq_getD_getElem?]
   match t with
   |0=>
    rw[Array.getElem?_append_left (by simp)]
    exact .inr ⟨cs,.tv Qd τ _ cs T v hrow1 (by simp) htr.cr.len htr.cr.one,rfl⟩
   |1=>
    rw[Array.getElem?_append_left (by simp)]
    exact .inr ⟨_,.t _ _ _ (.int .i64 k),rfl⟩
   |t+2=>
    have:(#[valOf (.t τ x) cs,Value.int .i64 k]++Array.replicate (fn.ntmps - #[valOf (.t τ x) cs,Value.int .i64 k].size) undef)[t+2]? =(Array.replicate (fn.ntmps - #[valOf (.t τ x) cs,Value.int .i64 k].size) undef)[t]?:=by
     rw[Array.getElem?_append_right (by simp)]
     simp
    rw[this,Xr]
    exact J3
  ·obtain⟨rfl,rfl⟩:=hrow2 id r h1
   rw[if_pos rfl]at h2
   cases h2
   exact⟨hsl,hsw,0,false,x,rfl,htr,λh=>by cases h⟩
  ·cases hx:(Up fn.ntmps τ x k).row id with
   |none=>exact absurd hx h3
   |some r=>
    cases hy:(Up fn.ntmps τ x k).row id' with
    |none=>exact absurd hy h4
    |some r'=>exact(hrow2 id r hx).1.trans (hrow2 id' r' hy).1.symm
  ·obtain⟨rfl,rfl⟩:=hrow2 id r h2
   rw[if_pos rfl]at h1
   have h1:=Option.some.inj h1
   subst h1
   exact⟨λhb=>hb.2 hg,λ_ hS=>hST g hS hg,λhz=>by cases hz⟩
  ·simpa using hl1
 refine Xm hE hG h.run (hl w _) hs0 hgl λS1 ρ a w1 hs hgl1 hg=>?_
 suffices hfin:a.defers=[]/\∃u,(results fn a.tmps).run P w1= .ok u w1/\(∃v',Ending.returned u= .returned v'/\(v'= .int .i64 m/\Blw ⟨λb=>b<w.heap.size/\¬T b,none⟩ w w1/\Jr T v w1/\TR w1 T τ y cs)) by
  cases e with
  |normal=>exact hfin
  |ret=>exact hfin
  |exit id=>exact absurd rfl (h.out id)
 refine⟨hs.defers,?_⟩
 obtain⟨σ,a',b',hr0⟩:=h.row
 have hpin:ρ Qd=some (.tree cs T v):=hs.hs.pin _ rfl
 obtain⟨_,_,hsw1,htr1,_⟩:=Jx hs.hs hr0 hpin
 obtain⟨vs',hvl',hvv,hres⟩:=Xo hE hs h.vals
 match vs',hvl' with
 |[u],_=>
  exact⟨u,by simpa using hres,u,rfl,Qn (hvv 0 _ u rfl rfl),⟨hs.below.os,hs.below.tape,hs.below.output,hs.below.size,hs.below.block⟩,hsw1,htr1⟩
end
end Go.Gx
end
section
/- What is printed of functions about trees,tied to the machine. -/
namespace Go.Gx
open Go.RowKit
inductive TK where
 |t (τ:Ty)
 |fr (e:Nat) (τ:Ty)
 |tr (τ:Ty)
@[reducible] def TK.X:TK->Type
 |.t τ=>den τ
 |.fr _ τ=>List (den τ)
 |.tr τ=>den τ
def TK.val:(k:TK)->k.X->AV
 |.t τ,x=>.t τ x
 |.fr e τ,x=>.fr e τ x
 |.tr τ,x=>.tr τ x
def TK.view:(k:TK)->AV->Option k.X
 |.t τ,a=>match a with
  |.t σ x=>match decEq σ τ with
   |.isTrue h=>some (h▸x)
   |.isFalse _=>none
  |_=>none
 |.fr e τ,a=>match a with
  |.fr e' σ xs=>match decEq σ τ,Nat.beq e' e with
   |.isTrue h,true=>some (h▸xs)
   |_,_=>none
  |.nil=>match Nat.blt 0 (nc τ)&& !slT τ with
   |true=>some []
   |false=>none
  |_=>none
 |.tr τ,a=>match a with
  |.tr σ x=>match decEq σ τ with
   |.isTrue h=>some (h▸x)
   |.isFalse _=>none
  |.nil=>match τ with
   |.sl _=>some []
   |_=>none
  |_=>none
theorem Q6H {w:World}{pv:Nat->Value}{k:TK}{a:AV}{x:k.X}{v:Value}{T:Nat->Prop}(h:k.view a=some x)(hr:RT1 w pv a v T):RT1 w pv (k.val x) v T:=by
 cases k with
 |t τ=>
  simp only[TK.view]at h
  split at h
  ·split at h
   ·rename_i e _
    subst e
    cases h
    exact hr
   ·cases h
  ·cases h
 |fr e τ=>
  simp only[TK.view]at h
  split at h
  ·split at h
   ·rename_i e1 _ he
    subst e1
    cases h
    have:=Nat.eq_of_beq_eq_true he
    subst this
    exact hr
   ·cases h
  ·split at h
   ·rename_i hp
    simp only[Bool.and_eq_true,Bool.not_eq_true']at hp
    cases h
    cases hr
    exact .frNil e τ _ hp.2 (Nat.le_of_ble_eq_true hp.1)
   ·cases h
  ·cases h
 |tr τ=>
  simp only[TK.view]at h
  split at h
  ·split at h
   ·rename_i e _
    subst e
    cases h
    exact hr
   ·cases h
  ·split at h
   ·cases h
    cases hr
    exact .tr _ _ [.slice none 0 0] _ rfl (.nil _ _)
   ·cases h
  ·cases h
def Q9B (k:TK)(a:AV):Option k.X:=k.view a
def Qcs (k l:TK):AV->Option (k.X×l.X)
 |.tup [a,b]=>match k.view a,l.view b with
  |some x,some y=>some (x,y)
  |_,_=>none
 |_=>none
def Q5Q (k l m:TK):AV->Option (k.X×l.X×m.X)
 |.tup [a,b,c]=>match k.view a,l.view b,m.view c with
  |some x,some y,some z=>some (x,y,z)
  |_,_,_=>none
 |_=>none
def Kt (r r':AV):Prop:=∀(w:World) (n0:Nat) (O:Nat->Prop) (pv:Nat->Value) (v:Value),RT w n0 O pv r v->RT w n0 O pv r' v
theorem Q9C {k:TK}{r:AV}{y:k.X}(h:Q9B k r=some y):Kt r (k.val y):=λw n0 O pv v hr=>by
 have h:k.view r=some y:=h
 have hnt:∀l,r≠ .tup l:=λl e=>by
  subst e
  cases k<;>simp[TK.view]at h
 have hr1:∃T,RT1 w pv r v T/\Q36 w n0 O T:=by
  cases r with
  |tup l=>exact absurd rfl (hnt l)
  |_=>exact hr
 obtain⟨T,h1,h2⟩:=hr1
 have h3:=Q6H h h1
 cases k<;>exact⟨T,h3,h2⟩
theorem Q9D {k l m:TK}{r:AV}{y:k.X×l.X×m.X}(h:Q5Q k l m r=some y):Kt r (.tup [k.val y.1,l.val y.2.1,m.val y.2.2]):=λw n0 O pv v hr=>by
 unfold Q5Q at h
 split at h
 ·rename_i a b c
  split at h
  ·rename_i x z u hx hz hu
   cases h
   obtain⟨vs,Ts,h1,h2,h3,h4⟩:=hr
   refine⟨vs,Ts,h1,h2,λi r v hr hv=>?_,h4⟩
   match i,hr with
   |0,hr=>
    cases hr
    obtain⟨k1,k2⟩:=h3 0 a v rfl hv
    exact⟨Q6H hx k1,k2⟩
   |1,hr=>
    cases hr
    obtain⟨k1,k2⟩:=h3 1 b v rfl hv
    exact⟨Q6H hz k1,k2⟩
   |2,hr=>
    cases hr
    obtain⟨k1,k2⟩:=h3 2 c v rfl hv
    exact⟨Q6H hu k1,k2⟩
   |i+3,hr=>simp at hr
  ·cases h
 ·cases h
def KN (τ:Ty)(r:AV):Option (den τ×Int):=match r with
 |.kep (.t σ z) (.t (.int .i64) m)=>(match decEq σ τ with
  |.isTrue h=>some ((h▸z:den τ),m)
  |.isFalse _=>none)
 |_=>none
theorem Q9E {τ:Ty}{r:AV}{y:den τ×Int}(h:KN τ r=some y):r= .kep (.t τ y.1) (.t (.int .i64) y.2):=by
 unfold KN at h
 split at h
 ·split at h
  ·rename_i e _
   subst e
   cases h
   rfl
  ·cases h
 ·cases h
section
variable {P:Program} {E:Env} {pv:Nat->Value}
theorem Q4v (hE:EnvOk P E){t:Nat->Cal->Option CArm}(k:Nat)(hG:∀k',k'<=k->∀cal A,t k' cal=some A->Q9 P E pv cal A){fn:Func}{c:Code}(hb:fn.body=some c){lt:Nat->Option LArm}(hok:YU fn=true)(hlt:∀b A,lt b=some A->A.Ok)
  (hS:∀b A,lt b=some A->∀k x,Qp E (Q6 (t k)) (Q4 fn.ntmps k lt) b (Qi fn b) (Qz fn.ntmps A.sp x) (A.cont fn.ntmps k)=A.l (k+1) x):∀w0 B,∀p∈QF 0 c,QT P E w0 B pv p.2 (LG (Q4 fn.ntmps k lt) p.1):=
 λw0 B p hp st e st' S ρ a w Q h hs hgl hQ=>
  wp_loop_rounds k (UQ hE (C:=λk=>Q6 (t k)) (L:=λk=>Q4 fn.ntmps k lt) (λk=>JO _) (λk=>JQ _ _ _) hb hok (n:=k) (λk' hk'=>JP (hG k' (Nat.le_of_lt hk'))) (KJ hlt) (λk b e st st' _ h=>KL (C:=λk=>Q6 (t k)) hlt hS k b e st st' h) k (Nat.le_refl k) w0 B p hp st e st' S ρ a w Q h hs hgl hQ)
theorem Q2r (hE:EnvOk P E){C:Orc}{L:YJ}(hC:J8 C (CG C))(hL:LIs L (LG L))(hG:GOk P E pv (CG C)){f:FuncId}{fn:Func}{c:Code}(hf:P.funcs[f]? =some fn)(hb:fn.body=some c)(hname:(fn.name== "runtime.NumGoroutine")=false)
  (hl:∀w0 B,∀p∈QF 0 c,QT P E w0 B pv p.2 (LG L p.1)) {args:List AV} (hn:args.length<=fn.ntmps) {R:Type} {K:AV->Option R} {y:R} (hrun:runT E C L fn args K=some y) {r':AV} (hw:∀r,K r=some y->Kt r r'):XP P E pv f args r':=by
 unfold runT at hrun
 rw[hb]at hrun
 obtain⟨e,st,rs,as,hfr,hk⟩:=Q7V hC hL hb hrun
 intro S w vs hst hgl hargs
 exact Qw.mono (Q5O hE hG hf hname hfr hn hl S w vs hst hgl hargs) λu w' ⟨hb',hr⟩=>⟨hb',hw _ hk _ _ _ _ _ hr⟩
theorem Q5R (hE:EnvOk P E){t:Cal->Option CArm}(hG:∀cal A,t cal=some A->Q9 P E pv cal A){f:FuncId}{fn:Func}{c:Code}(hf:P.funcs[f]? =some fn)(hb:fn.body=some c)
  (hname:(fn.name== "runtime.NumGoroutine")=false) {args:List AV} (hn:Nat.ble args.length fn.ntmps=true) {R:Type} {K:AV->Option R} {y:R} (hrun:runT E (Q6 t) (Q4 fn.ntmps 0 fun _=>none) fn args K=some y) {r':AV} (hw:∀r,K r=some y->Kt r r'):XP P E pv f args r':=
 Q2r hE (JO t) (JQ _ _ _) (JP hG) hf hb hname (XV (λb st e st' h=>by unfold LG Q4 at h;cases h) _) (Nat.le_of_ble_eq_true hn) hrun hw
theorem Q5S (hE:EnvOk P E){t:Nat->Cal->Option CArm}(k:Nat)(hG:∀k',k'<=k->∀cal A,t k' cal=some A->Q9 P E pv cal A){f:FuncId}{fn:Func}{c:Code}(hf:P.funcs[f]? =some fn)(hb:fn.body=some c)
  (hname:(fn.name== "runtime.NumGoroutine")=false) {args:List AV} (hn:Nat.ble args.length fn.ntmps=true) {lt:Nat->Option LArm} (hok:YU fn=true) (hlt:∀b A,lt b=some A->A.Ok)
  (hS:∀b A,lt b=some A->∀k x,Qp E (Q6 (t k)) (Q4 fn.ntmps k lt) b (Qi fn b) (Qz fn.ntmps A.sp x) (A.cont fn.ntmps k)=A.l (k+1) x)
  {R:Type} {K:AV->Option R} {y:R} (hrun:runT E (Q6 (t k)) (Q4 fn.ntmps k lt) fn args K=some y) {r':AV} (hw:∀r,K r=some y->Kt r r'):XP P E pv f args r':=
 Q2r hE (JO _) (JQ _ _ _) (JP (hG k (Nat.le_refl k))) hf hb hname (Q4v hE k hG hb hok hlt hS) (Nat.le_of_ble_eq_true hn) hrun hw
theorem Q7W (hE:EnvOk P E){C:Orc}{L:YJ}(hC:J8 C (CG C))(hL:LIs L (LG L))(hG:GOk P E pv (CG C)){f:FuncId}{fn:Func}{c:Code}(hf:P.funcs[f]? =some fn)(hb:fn.body=some c)(hname:(fn.name== "runtime.NumGoroutine")=false)
  (hl:∀w0 B,∀p∈QF 0 c,QT P E w0 B pv p.2 (LG L p.1)) (hn:2<=fn.ntmps) {τ:Ty} (hsl:slT τ=true) {x:den τ} {k:Int} {y:den τ×Int} (hrun:runX E C L fn τ x k (KN τ)=some y):Db P E pv f τ x k y.1 y.2:=by
 obtain⟨c',z,m,e,st,hfr,hk⟩:=Q9A hC hL hrun
 have hcc:c'=c:=by have:=hfr.body;rw[hb]at this;cases this;rfl
 subst hcc
 have:=Q9E hk
 cases this
 exact Q5P hE hG hf hname hfr hsl hn hl
theorem Q1c (hE:EnvOk P E){t:Nat->Cal->Option CArm}(k:Nat)(hG:∀k',k'<=k->∀cal A,t k' cal=some A->Q9 P E pv cal A){f:FuncId}{fn:Func}{c:Code}(hf:P.funcs[f]? =some fn)(hb:fn.body=some c)
  (hname:(fn.name== "runtime.NumGoroutine")=false) (hn:Nat.ble 2 fn.ntmps=true) {lt:Nat->Option LArm} (hok:YU fn=true) (hlt:∀b A,lt b=some A->A.Ok)
  (hS:∀b A,lt b=some A->∀k x,Qp E (Q6 (t k)) (Q4 fn.ntmps k lt) b (Qi fn b) (Qz fn.ntmps A.sp x) (A.cont fn.ntmps k)=A.l (k+1) x)
  {τ:Ty} (hsl:slT τ=true) {x:den τ} {k0:Int} {y:den τ×Int} (hrun:runX E (Q6 (t k)) (Q4 fn.ntmps k lt) fn τ x k0 (KN τ)=some y):Db P E pv f τ x k0 y.1 y.2:=
 Q7W hE (JO _) (JQ _ _ _) (JP (hG k (Nat.le_refl k))) hf hb hname (Q4v hE k hG hb hok hlt hS) (Nat.le_of_ble_eq_true hn) hsl hrun
end
end Go.Gx
end
section
/- '==' of dates and abbreviations. -/
namespace Go.Gx
theorem Q6I {P:Program}{w:World}{d:Nat}{xs ys:Array Value}:(Op.eqFields d xs ys []).run P w= .ok true w:=by simp[Op.eqFields]
theorem UR {P:Program}{w:World}{d:Nat}{xs ys:Array Value}{f:Field}{fs:List Field}{a b:Value}{r s:Bool}(hn:f.name≠ "_")(h1:(part f.type xs f.offset).run P w= .ok a w)(h2:(part f.type ys f.offset).run P w= .ok b w)
  (h3:(Op.equalIn d f.type a b).run P w= .ok r w) (h4:(Op.eqFields d xs ys fs).run P w= .ok s w):(Op.eqFields d xs ys (f::fs)).run P w= .ok (r&&s) w:=by
 cases r<;>simp[Op.eqFields,hn,h1,h2,h3,h4]
theorem JJ {P:Program}{E:Env}{w:World}{T:Nat}{τ:Ty}(ht:TyOk P E T τ)(hg:agT τ=false){cs:Array Value}{o:Nat}{v:Value}(hv:cs[o]? =some v):(part T cs o).run P w= .ok v w:=by
 simp[part,U0 ht,hg,hv]
theorem Q3k {P:Program}{E:Env}(ht:∀T τ,E.ty T=some τ->TyOk P E T τ){T:Nat}(hT:E.ty T=some .date)(hg:P.eqGuardType P.depth T=false)(hs:P.stoodInHeld T=false)(hn:(P.fieldsOf T).all (fun f=>f.name != "_")=true) :
  P.eqGuardType P.depth T=false/\∀(x y:Date) (w:World),(Op.equalIn 10000 T (.agg #[.int .i64 x.y,.int .i64 x.m,.int .i64 x.d,.bool x.c]) (.agg #[.int .i64 y.y,.int .i64 y.m,.int .i64 y.d,.bool y.c])).run P w= .ok (x.y==y.y&&(x.m==y.m&&(x.d==y.d&&x.c==y.c))) w:=by
 refine⟨hg,λx y w=>?_⟩
 obtain⟨fs,hu,hsz,hf⟩:=(ht T _ hT).und
 have hfo:P.fieldsOf T=fs:=by simp[Program.fieldsOf,hu]
 rw[run_equalIn_agg (P:=P) w 9999 T _ _ (by rw[hfo];exact hu) hs,hfo]
 rw[hfo,Array.all_eq_true']at hn
 have hname:∀f∈fs.toList,f.name≠ "_" :=fun f hm=>by simpa using hn f (by simpa using hm)
 have hget:∀i f,fs.toList[i]? =some f->∃σ,(fty .date)[i]? =some σ/\f.offset=QH (fty .date) i/\E.ty f.type=some σ:=λi f h=>hf i f (by simpa using h)
 have hlen:fs.toList.length=4:=by simpa[fty]using hsz
 match hl:fs.toList,hlen with
 |[f0,f1,f2,f3],_=>
  rw[hl]at hname hget
  obtain⟨s0,a0,b0,c0⟩:=hget 0 f0 rfl
  obtain⟨s1,a1,b1,c1⟩:=hget 1 f1 rfl
  obtain⟨s2,a2,b2,c2⟩:=hget 2 f2 rfl
  obtain⟨s3,a3,b3,c3⟩:=hget 3 f3 rfl
  cases a0;cases a1;cases a2;cases a3
  have e3:=UR (P:=P) (w:=w) (d:=9999) (xs:=#[.int .i64 x.y,.int .i64 x.m,.int .i64 x.d,.bool x.c]) (ys:=#[.int .i64 y.y,.int .i64 y.m,.int .i64 y.d,.bool y.c]) (hname f3 (by simp)) (JJ (v:=.bool x.c) (ht _ _ c3) rfl (by rw[b3];rfl)) (JJ (v:=.bool y.c) (ht _ _ c3) rfl (by rw[b3];rfl)) (run_equalIn_bool' w 9998 f3.type _ _ (ht _ _ c3).und) Q6I
  have e2:=UR (hname f2 (by simp)) (JJ (v:=.int .i64 x.d) (ht _ _ c2) rfl (by rw[b2];rfl)) (JJ (v:=.int .i64 y.d) (ht _ _ c2) rfl (by rw[b2];rfl)) (run_equalIn_int w 9998 f2.type _ _ _ _ (ht _ _ c2).und) e3
  have e1:=UR (hname f1 (by simp)) (JJ (v:=.int .i64 x.m) (ht _ _ c1) rfl (by rw[b1];rfl)) (JJ (v:=.int .i64 y.m) (ht _ _ c1) rfl (by rw[b1];rfl)) (run_equalIn_int w 9998 f1.type _ _ _ _ (ht _ _ c1).und) e2
  have e0:=UR (hname f0 (by simp)) (JJ (v:=.int .i64 x.y) (ht _ _ c0) rfl (by rw[b0];rfl)) (JJ (v:=.int .i64 y.y) (ht _ _ c0) rfl (by rw[b0];rfl)) (run_equalIn_int w 9998 f0.type _ _ _ _ (ht _ _ c0).und) e1
  rw[e0]
  simp
theorem Q3l {P:Program}{E:Env}(ht:∀T τ,E.ty T=some τ->TyOk P E T τ){T:Nat}(hT:E.ty T=some .abbr)(hg:P.eqGuardType P.depth T=false)(hs:P.stoodInHeld T=false)(hn:(P.fieldsOf T).all (fun f=>f.name != "_")=true) :
  P.eqGuardType P.depth T=false/\∀(x y:Abbr) (w:World),(Op.equalIn 10000 T (.agg #[.string x.word,.string x.short]) (.agg #[.string y.word,.string y.short])).run P w= .ok (Qu x.word y.word&&Qu x.short y.short) w:=by
 refine⟨hg,λx y w=>?_⟩
 obtain⟨fs,hu,hsz,hf⟩:=(ht T _ hT).und
 have hfo:P.fieldsOf T=fs:=by simp[Program.fieldsOf,hu]
 rw[run_equalIn_agg (P:=P) w 9999 T _ _ (by rw[hfo];exact hu) hs,hfo]
 rw[hfo,Array.all_eq_true']at hn
 have hname:∀f∈fs.toList,f.name≠ "_" :=fun f hm=>by simpa using hn f (by simpa using hm)
 have hget:∀i f,fs.toList[i]? =some f->∃σ,(fty .abbr)[i]? =some σ/\f.offset=QH (fty .abbr) i/\E.ty f.type=some σ:=λi f h=>hf i f (by simpa using h)
 have hlen:fs.toList.length=2:=by simpa[fty]using hsz
 match hl:fs.toList,hlen with
 |[f0,f1],_=>
  rw[hl]at hname hget
  obtain⟨s0,a0,b0,c0⟩:=hget 0 f0 rfl
  obtain⟨s1,a1,b1,c1⟩:=hget 1 f1 rfl
  cases a0;cases a1
  have e1:=UR (P:=P) (w:=w) (d:=9999) (xs:=#[.string x.word,.string x.short]) (ys:=#[.string y.word,.string y.short]) (hname f1 (by simp)) (JJ (v:=.string x.short) (ht _ _ c1) rfl (by rw[b1];rfl)) (JJ (v:=.string y.short) (ht _ _ c1) rfl (by rw[b1];rfl)) (run_equalIn_string w 9998 f1.type _ _ (ht _ _ c1).und) Q6I
  have e0:=UR (hname f0 (by simp)) (JJ (v:=.string x.word) (ht _ _ c0) rfl (by rw[b0];rfl)) (JJ (v:=.string y.word) (ht _ _ c0) rfl (by rw[b0];rfl)) (run_equalIn_string w 9998 f0.type _ _ (ht _ _ c0).und) e1
  rw[e0]
  simp[Qu]
end Go.Gx
end
section
/- What a printed function answers with rounds enough;plain lemmas. -/
namespace Go.Gx
def Ev {α:Type}(f:Nat->Option α)(r:α):Prop:=∃K,∀k,K<=k->f k=some r
theorem Ev.pure {α:Type}(r:α):Ev (λ_=>some r) r:=⟨0,λ_ _=>rfl⟩
theorem Ev.bind {α β:Type}{f:Nat->Option α}{g:Nat->α->Option β}{a:α}{b:β}(hf:Ev f a)(hg:Ev (λk=>g k a) b):Ev (λk=>(f k).bind (g k)) b:=by
 obtain⟨K,hK⟩:=hf
 obtain⟨L,hL⟩:=hg
 exact⟨max K L,λk hk=>by show(f k).bind (g k)=some b;rw[hK k (by omega),Option.bind_some];exact hL k (by omega)⟩
theorem Ev.bind0 {α β:Type}{f:Option α}{g:Nat->α->Option β}{a:α}{b:β}(hf:f=some a)(hg:Ev (λk=>g k a) b):Ev (λk=>f.bind (g k)) b:=by
 subst hf;exact hg
theorem Ev.step {α:Type}{f g:Nat->Option α}{r:α}(h:∀k,f (k+1)=g k)(hg:Ev g r):Ev f r:=by
 obtain⟨K,hK⟩:=hg
 exact⟨K+1,λk hk=>by obtain⟨m,rfl⟩:∃m,k=m+1:=⟨k-1,by omega⟩;rw[h];exact hK m (by omega)⟩
theorem Ev.congr {α:Type}{f g:Nat->Option α}{r:α}(hg:Ev g r)(h:∀k,f k=g k):Ev f r:=by
 obtain⟨K,hK⟩:=hg
 exact⟨K,λk hk=>by rw[h];exact hK k hk⟩
theorem Ev.eq {α:Type}{f:Nat->Option α}{r s:α}(h:Ev f r)(e:r=s):Ev f s:=e▸h
theorem Ev.get {α:Type}{f:Nat->Option α}{r:α}(h:Ev f r):∃k,f k=some r:=by
 obtain⟨K,hK⟩:=h;exact⟨K,hK K (Nat.le_refl K)⟩
theorem Ev.uniq {α:Type}{f:Nat->Option α}{r s:α}(h:Ev f r)(h':Ev f s):r=s:=by
 obtain⟨K,hK⟩:=h
 obtain⟨L,hL⟩:=h'
 have:=(hK (max K L) (by omega)).symm.trans (hL (max K L) (by omega))
 exact Option.some.inj this
def EvP {α:Type}(f:Nat->Option α)(P:α->Prop):Prop:=∃r,Ev f r/\P r
theorem EvP.pure {α:Type}{P:α->Prop}(r:α)(h:P r):EvP (λ_=>some r) P:=⟨r,Ev.pure r,h⟩
theorem EvP.bind {α β:Type}{f:Nat->Option α}{g:Nat->α->Option β}{P:α->Prop}{Q:β->Prop}(hf:EvP f P)(hg:∀a,P a->EvP (λk=>g k a) Q):EvP (λk=>(f k).bind (g k)) Q:=by
 obtain⟨a,h1,h2⟩:=hf
 obtain⟨r,h3,h4⟩:=hg a h2
 exact⟨r,Ev.bind h1 h3,h4⟩
theorem EvP.of {α β:Type}{f:Nat->Option α}{g:Nat->α->Option β}{a:α}{Q:β->Prop}(hf:Ev f a)(hg:EvP (λk=>g k a) Q):EvP (λk=>(f k).bind (g k)) Q:=by
 obtain⟨r,h3,h4⟩:=hg
 exact⟨r,Ev.bind hf h3,h4⟩
theorem EvP.step {α:Type}{f g:Nat->Option α}{P:α->Prop}(h:∀k,f (k+1)=g k)(hg:EvP g P):EvP f P:=by
 obtain⟨r,h1,h2⟩:=hg
 exact⟨r,Ev.step h h1,h2⟩
theorem EvP.mono {α:Type}{f:Nat->Option α}{P Q:α->Prop}(h:EvP f P)(hq:∀r,P r->Q r):EvP f Q:=by
 obtain⟨r,h1,h2⟩:=h
 exact⟨r,h1,hq r h2⟩
theorem Qb {α:Type}{p:Prop}[Decidable p]{a b:α}(h:p):cond (decide p) a b=a:=by rw[decide_eq_true h];rfl
theorem Qk {α:Type}{p:Prop}[Decidable p]{a b:α}(h:¬p):cond (decide p) a b=b:=by rw[decide_eq_false h];rfl
theorem ceq {α:Type}{x y:Int}{a b:α}(h:x=y):cond (x==y) a b=a:=by rw[show(x==y)=true by simpa using h];rfl
theorem cne {α:Type}{x y:Int}{a b:α}(h:x≠y):cond (x==y) a b=b:=by rw[show(x==y)=false by simpa using h];rfl
theorem Yx {α:Type}{x y:Int}{a b:α}(h:x=y):cond (x != y) a b=b:=by rw[show(x != y)=false by simpa using h];rfl
theorem XX {α:Type}{x y:Int}{a b:α}(h:x≠y):cond (x != y) a b=a:=by rw[show(x != y)=true by simpa using h];rfl
theorem Dj {α:Type}{n m:Nat}{a b:α}(h:n<=m):cond (Nat.ble n m) a b=a:=by rw[Nat.ble_eq_true_of_le h];rfl
theorem Q5T {p:Prop}[Decidable p](h:p):decide p=true:=decide_eq_true h
theorem Q3m {p:Prop}[Decidable p](h:¬p):decide p=false:=decide_eq_false h
theorem wrap_in {x:Int}(h1 : -9223372036854775808<=x)(h2:x<=9223372036854775807):IntKind.wrap .i64 x=x:=by
 rw[IntKind.wrap_i64];omega
theorem maxLen_eq:maxLen=9223372036854775807:=by decide
theorem Uy {s:ByteArray}(h:WF .str s):s.size<=9223372036854775807:=by
 cases h with|str _ h=>exact maxLen_eq▸h
def L (s:ByteArray):List UInt8:=s.data.toList
theorem Xz {s t:ByteArray}(h:L s=L t):s=t:=by
 cases s;cases t
 simp only[L]at h
 rw[Array.toList_inj.1 h]
theorem Yu (s:ByteArray):(L s).length=s.size:=rfl
theorem toList_eq (s:ByteArray):s.toList=s.data.toList:=ByteArray.toList_eq s
theorem Y7 {s t:ByteArray}:Qu s t=true ↔ s=t:=by
 unfold Qu
 rw[beq_iff_eq,toList_eq,toList_eq]
 exact⟨λh=>Xz h,λh=>by rw[h]⟩
theorem US (s:ByteArray):Qu s s=true:=Y7.2 rfl
theorem QaN (s t:ByteArray):Qu s t=(L s==L t):=by
 unfold Qu;rw[toList_eq,toList_eq];rfl
theorem Q9F (s:ByteArray)(i:Nat):bt s i=(((L s).getD i 0).toNat:Int):=by
 simp[bt,L,Array.getD_eq_getD_getElem?,List.getD_eq_getElem?_getD]
theorem Q9G (s:ByteArray)(i:Nat):0<=bt s i/\bt s i<=255:=by
 unfold bt
 have:=(s.data.getD i 0).toNat_lt
 omega
theorem Jg (s:ByteArray)(a b:Nat):L (s.extract a b)=((L s).take b).drop a:=by
 simp[L,ByteArray.data_extract,List.drop_take]
theorem UT (s t:ByteArray):L (s++t)=L s++L t:=by simp[L,ByteArray.data_append]
theorem QaO (l:List UInt8):L ⟨l.toArray⟩=l:=by simp[L]
theorem Y8 {R:Type}{f:Nat->Int->Option R}{n:Nat}{p:Nat->Bool}{no yes:R}(hno:∀i:Nat,i<n->p i=false->Ev (λk=>f k i) no)
  (hyes:∀(i:Nat) r,i<n->p i=true->Ev (λk=>f k ((i:Int)+1)) r->Ev (λk=>f k i) r) (hend:Ev (λk=>f k n) yes) :
  ∀m i:Nat,i+m=n->Ev (λk=>f k i) (if(List.range' i m).all p=true then yes else no)
 |0,i,h=>by
  rw[show i=n by omega]
  exact hend
 |m+1,i,h=>by
  rw[List.range'_succ,List.all_cons]
  cases hp:p i with
  |false=>exact hno i (by omega) hp
  |true=>
   rw[Bool.true_and]
   exact hyes i _ (by omega) hp (Y8 hno hyes hend m (i+1) (by omega))
theorem Gq {α:Type}(xs:List α)(d:α)(q:α->Bool):(List.range' 0 xs.length).all (λi=>q (xs.getD i d))=xs.all q:=by
 rw[Bool.eq_iff_iff]
 simp only[List.all_eq_true,List.mem_range'_1,Nat.zero_add,Nat.zero_le,true_and]
 constructor
 ·intro h x hx
  obtain⟨i,hi,rfl⟩:=List.getElem_of_mem hx
  have:=h i hi
  simpa[List.getD,hi]using this
 ·intro h i hi
  simpa[List.getD,hi]using h _ (List.getElem_mem hi)
end Go.Gx
end
