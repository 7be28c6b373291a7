/- Rows: data that was trodden is plain data in memory;a law's contract out of its call's answer. -/
import Derived.Test.YtkbichbahpnmmaaDoorMpq3
import Derived.ChangeSame
import Derived.Carry
import Derived.WideKeyArgs
import Derived.Deep.Slices
import Derived.ProofKit
import Derived.Lib.LaidTab
import Derived.Lib.Strings
import Derived.Test.YtkbichbahpnmmaaDoorMpq1
import Derived.Laws.StructEq
set_option linter.unusedVariables false
set_option linter.unusedSimpArgs false
set_option maxRecDepth 100000
section
namespace Go.Gx
open Go.RowKit Go.ChangeShapes Go.WideShapes
inductive WF:(τ:Ty)->den τ->Prop
 |int (k:IntKind) (n:Int) (h:(Lit.int k n).wf=true):WF (.int k) n
 |bool (b:Bool):WF .bool b
 |str (s:ByteArray) (h:s.size<=maxLen):WF .str s
 |sl (e:Ty) (xs:List (den e)) (hm:xs.length<=maxLen) (h:∀i (hi:i<xs.length),WF e xs[i]):WF (.sl e) xs
 |date (d:Date) (hy:WF (.int .i64) d.y) (hm:WF (.int .i64) d.m) (hd:WF (.int .i64) d.d):WF .date d
 |abbr (a:Abbr) (h1:WF .str a.word) (h2:WF .str a.short):WF .abbr a
 |name (n:Name) (h1:WF (.sl .str) n.given) (h2:WF .str n.particle) (h3:WF .str n.family) (h4:WF .str n.suffix):WF .name n
 |entry (e:Entry) (h1:WF .str e.key) (h2:WF (.int .i64) e.kind) (h3:WF (.sl .name) e.authors) (h4:WF (.sl .name) e.editors) (h5:WF .str e.title) (h6:WF .str e.container) (h7:WF .str e.publisher)
   (h8:WF .date e.date) (h9:WF (.int .i64) e.volume) (h10:WF .str e.pages) (h11:WF .str e.cross):WF .entry e
 |lib (l:Library) (h:WF (.sl .entry) l.entries):WF .lib l
 |cur (q:Cur) (h1:WF (.sl (.int .u8)) q.code) (h2:WF (.int .i64) q.at_) (h3:WF (.int .u64) q.seed):WF .cur q
 |query (q:Query) (h1:WF (.int .i64) q.op) (h2:WF .str q.field) (h3:WF .str q.word) (h4:WF (.sl .query) q.parts):WF .query q
def noA:Ty->Bool
 |.arr _ _=>false
 |.sl e=>noA e
 |_=>true
section
variable {H:Type} {enc:TypeId×Value->H} {P:Program} {E:Env} {w:World} {spare:Nat->Bool} {held:Bool} {S:Nat->Prop}
abbrev Lt (w:World):Nat->Prop:=λb=>b<w.heap.size
theorem cell_lt {a:Addr}{v:Value}(h:w.cell? a=some v):a.block<w.heap.size:=by
 unfold World.cell? at h
 split at h
 ·rename_i c e f hb;exact(Array.getElem?_eq_some_iff.1 hb).1
 ·cases h
theorem Q4r (hty:∀T τ,E.ty T=some τ->TyOk P E T τ):∀(fuel:Nat) (T:Nat) (τ:Ty) (cs:List Value) (y:DataW H×List MemPlace),noA τ=true->E.ty T=some τ->DataW.trod enc P w 0 spare held fuel T cs=some y->∃x:den τ,WF τ x/\CR (Lt w) w τ x cs
 |0,T,τ,cs,y,_,_,h=>by simp[DataW.trod]at h
 |fuel+1,T,τ,cs,y,hn,hT,h=>by
  have ih:=Q4r hty fuel
  have hu:=hty T τ hT
  obtain⟨i,hi,hsz,-,-⟩:=hu.info
  have hcells:P.cellsOf T=nc τ:=by simp[Program.cellsOf,hi,hsz]
  have cellsOf:∀{t σ},E.ty t=some σ->P.cellsOf t=nc σ:=λ{t σ} ht=>by
   obtain⟨i,hi,hsz,-,-⟩:=(hty t σ ht).info
   simp[Program.cellsOf,hi,hsz]
  have hund:=hu.und
  have fields:∀fs,P.underlying T=some (.struct fs)->fs.size=(fty τ).length->(∀(f:Nat) (d:Field),fs[f]? =some d->∃σ,(fty τ)[f]? =some σ/\d.offset=Qy (fty τ) f/\E.ty d.type=some σ)->
    cs.length=nc τ/\∀(f:Nat) σ,(fty τ)[f]? =some σ->noA σ=true->∃x:den σ,WF σ x/\CR (Lt w) w σ x ((cs.drop (Qy (fty τ) f)).take (nc σ)):=λfs hfs hl hf=>by
   obtain⟨xs,n,hn,_,hlen,hxl,hx⟩:=DataW.trod_struct hfs h
   cases hn
   refine⟨hlen.trans hcells,λf σ hσ hno=>?_⟩
   have hfl:f<fs.size:=by have:=(List.getElem?_eq_some_iff.1 hσ).1;omega
   obtain⟨σ',h1,h2,h3⟩:=hf f fs[f] (Array.getElem?_eq_getElem hfl)
   rw[hσ]at h1
   cases h1
   have h4:=hx f fs[f] (Array.getElem?_eq_getElem hfl)
   rw[List.getElem?_eq_getElem (show f<xs.length by omega),h2,cellsOf h3]at h4
   exact ih _ σ _ _ hno h3 h4
  cases τ with
  |int k=>obtain⟨n,rfl,_,hw⟩:=DataW.trod_int hund h;exact⟨n,.int k n hw,.int k n⟩
  |bool=>obtain⟨b,rfl,_⟩:=DataW.trod_bool hund h;exact⟨b,.bool b,.bool b⟩
  |str=>obtain⟨s,rfl,_,hs⟩:=DataW.trod_string hund h;exact⟨s,.str s hs,.str s⟩
  |arr n e=>cases hn
  |sl e=>
   obtain⟨t,h1,h2,h3,h4,h5⟩:=hund
   rcases DataW.trod_slice h1 h with⟨rfl,_⟩|⟨a,len,cap,elems,rest,n,hfn,rfl,_,hb,hl,hm,hlen,hel,_⟩
   ·exact⟨[],.sl e [] (Nat.zero_le _) (λi hi=>absurd hi (Nat.not_lt_zero i)),Jq _ _ e⟩
   ·cases hfn
    have key:∀i,∃x:den e,∃c:List Value,i<len->WF e x/\CR (Lt w) w e x c/\a.spot=none/\a.block<w.heap.size/\∀j v,c[j]? =some v->w.cell? ⟨a.block,a.off+(i*nc e+j),none⟩=some v:=λi=>by
     by_cases hi:i<len
     ·have h6:=hel i hi
      rw[List.getElem?_eq_getElem (show i<elems.length by omega)]at h6
      obtain⟨c,h7,h8⟩:=Option.bind_eq_some_iff.1 h6
      rw[cellsOf h3]at h7
      obtain⟨x,h9,h10⟩:=ih t e c _ hn h3 h8
      obtain⟨_,hcl,hcc⟩:=World.cells?_some h7
      have hcell:∀j v,c[j]? =some v->w.cell? ((a.add (i*nc e)).add j)=some v:=λj v hj=>by
       have:j<c.length:=(List.getElem?_eq_some_iff.1 hj).1
       rw[hcc j (by omega),hj]
      have h0:∃v,c[0]? =some v:=⟨c[0],List.getElem?_eq_getElem (by omega)⟩
      obtain⟨v0,hv0⟩:=h0
      have hlt:a.block<w.heap.size:=by
       have:=cell_lt (hcell 0 v0 hv0)
       simpa[Addr.add]using(show(a.add (i*nc e)).block<w.heap.size by simpa[Addr.add]using this) |> λh=>by unfold Addr.add at h;split at h<;>exact h
      have hsp:a.spot=none:=by
       have h11:=hel 0 (by omega)
       rw[List.getElem?_eq_getElem (show 0<elems.length by omega)]at h11
       obtain⟨c',h12,_⟩:=Option.bind_eq_some_iff.1 h11
       rw[cellsOf h3]at h12
       obtain⟨_,hcl',hcc'⟩:=World.cells?_some h12
       have h13:=hcc' 0 (by omega)
       rw[List.getElem?_eq_getElem (show 0<c'.length by omega)]at h13
       have:=World.cell?_spot h13
       simpa[Addr.add]using this
      refine⟨x,c,λ_=>⟨h9,h10,hsp,hlt,λj v hj=>?_⟩⟩
      have:=hcell j v hj
      rw[Go.Deep.add_add]at this
      obtain⟨ab,ao,asp⟩:=a
      cases hsp
      simp only[Addr.add]at this
      split at this
      ·rename_i hz
       have h14:i*nc e+j=0:=hz
       rw[h14];exact this
      ·exact this
     ·exact⟨Q7 e,[],λh=>absurd h hi⟩
    let xf:=λi=>Classical.choose (key i)
    have hxf:∀i,∃c:List Value,i<len->WF e (xf i)/\CR (Lt w) w e (xf i) c/\a.spot=none/\a.block<w.heap.size/\∀j v,c[j]? =some v->w.cell? ⟨a.block,a.off+(i*nc e+j),none⟩=some v:=λi=>Classical.choose_spec (key i)
    let cf:=λi=>Classical.choose (hxf i)
    have hcf:=λi=>Classical.choose_spec (hxf i)
    have hxl:((List.range len).map xf).length=len:=by simp
    refine⟨(List.range len).map xf,.sl e _ (by rw[hxl];omega) (λi hi=>?_),?_⟩
    ·rw[hxl]at hi
     simp only[List.getElem_map,List.getElem_range]
     exact(hcf i hi).1
    ·have:=CR.sl (S:=Lt w) (w:=w) e ((List.range len).map xf) (some a) cap cf (by rw[hxl];exact hl) hm (λi hi=>by
      rw[hxl]at hi
      simp only[List.getElem_map,List.getElem_range]
      exact(hcf i hi).2.1) (λi hi=>by
      rw[hxl]at hi
      obtain⟨_,_,h6,h7,h8⟩:=hcf i hi
      obtain⟨ab,ao,asp⟩:=a
      cases h6
      exact⟨ab,ao,rfl,h7,h8⟩)
     rw[hxl]at this
     exact this
  |date=>
   obtain⟨fs,h1,h2,h3⟩:=hund
   obtain⟨hl,hf⟩:=fields fs h1 h2 h3
   match cs,hl with
   |[c0,c1,c2,c3],_=>
    obtain⟨x0,g0,k0⟩:=hf 0 _ rfl rfl
    obtain⟨x1,g1,k1⟩:=hf 1 _ rfl rfl
    obtain⟨x2,g2,k2⟩:=hf 2 _ rfl rfl
    obtain⟨x3,g3,k3⟩:=hf 3 _ rfl rfl
    simp[Qy,nc]at k0 k1 k2 k3
    cases k0;cases k1;cases k2;cases k3
    exact⟨⟨x0,x1,x2,x3⟩,.date _ g0 g1 g2,.date ⟨x0,x1,x2,x3⟩⟩
  |abbr=>
   obtain⟨fs,h1,h2,h3⟩:=hund
   obtain⟨hl,hf⟩:=fields fs h1 h2 h3
   match cs,hl with
   |[c0,c1],_=>
    obtain⟨x0,g0,k0⟩:=hf 0 _ rfl rfl
    obtain⟨x1,g1,k1⟩:=hf 1 _ rfl rfl
    simp[Qy,nc]at k0 k1
    cases k0;cases k1
    exact⟨⟨x0,x1⟩,.abbr _ g0 g1,.abbr ⟨x0,x1⟩⟩
  |cur=>
   obtain⟨fs,h1,h2,h3⟩:=hund
   obtain⟨hl,hf⟩:=fields fs h1 h2 h3
   match cs,hl with
   |[c0,c1,c2],_=>
    obtain⟨x0,g0,k0⟩:=hf 0 _ rfl rfl
    obtain⟨x1,g1,k1⟩:=hf 1 _ rfl rfl
    obtain⟨x2,g2,k2⟩:=hf 2 _ rfl rfl
    simp[Qy,nc]at k0 k1 k2
    obtain⟨v,rfl⟩:∃v,c0=v:=⟨_,rfl⟩
    cases k1;cases k2
    exact⟨⟨x0,x1,x2⟩,.cur _ g0 g1 g2,.cur ⟨x0,x1,x2⟩ _ k0⟩
  |name=>
   obtain⟨fs,h1,h2,h3⟩:=hund
   obtain⟨hl,hf⟩:=fields fs h1 h2 h3
   match cs,hl with
   |[c0,c1,c2,c3],_=>
    obtain⟨x0,g0,k0⟩:=hf 0 _ rfl rfl
    obtain⟨x1,g1,k1⟩:=hf 1 _ rfl rfl
    obtain⟨x2,g2,k2⟩:=hf 2 _ rfl rfl
    obtain⟨x3,g3,k3⟩:=hf 3 _ rfl rfl
    simp[Qy,nc]at k0 k1 k2 k3
    cases k1;cases k2;cases k3
    exact⟨⟨x0,x1,x2,x3⟩,.name _ g0 g1 g2 g3,.name ⟨x0,x1,x2,x3⟩ _ k0⟩
  |query=>
   obtain⟨fs,h1,h2,h3⟩:=hund
   obtain⟨hl,hf⟩:=fields fs h1 h2 h3
   match cs,hl with
   |[c0,c1,c2,c3],_=>
    obtain⟨x0,g0,k0⟩:=hf 0 _ rfl rfl
    obtain⟨x1,g1,k1⟩:=hf 1 _ rfl rfl
    obtain⟨x2,g2,k2⟩:=hf 2 _ rfl rfl
    obtain⟨x3,g3,k3⟩:=hf 3 _ rfl rfl
    simp[Qy,nc]at k0 k1 k2 k3
    cases k0;cases k1;cases k2
    exact⟨.mk x0 x1 x2 x3,.query _ g0 g1 g2 g3,.query (.mk x0 x1 x2 x3) _ k3⟩
  |lib=>
   obtain⟨fs,h1,h2,h3⟩:=hund
   obtain⟨hl,hf⟩:=fields fs h1 h2 h3
   match cs,hl with
   |[c0],_=>
    obtain⟨x0,g0,k0⟩:=hf 0 _ rfl rfl
    simp[Qy,nc]at k0
    exact⟨⟨x0⟩,.lib _ g0,.lib ⟨x0⟩ _ k0⟩
  |entry=>
   obtain⟨fs,h1,h2,h3⟩:=hund
   obtain⟨hl,hf⟩:=fields fs h1 h2 h3
   match cs,hl with
   |[c0,c1,c2,c3,c4,c5,c6,c7,c8,c9,c10,c11,c12,c13],_=>
    obtain⟨x0,g0,k0⟩:=hf 0 _ rfl rfl
    obtain⟨x1,g1,k1⟩:=hf 1 _ rfl rfl
    obtain⟨x2,g2,k2⟩:=hf 2 _ rfl rfl
    obtain⟨x3,g3,k3⟩:=hf 3 _ rfl rfl
    obtain⟨x4,g4,k4⟩:=hf 4 _ rfl rfl
    obtain⟨x5,g5,k5⟩:=hf 5 _ rfl rfl
    obtain⟨x6,g6,k6⟩:=hf 6 _ rfl rfl
    obtain⟨x7,g7,k7⟩:=hf 7 _ rfl rfl
    obtain⟨x8,g8,k8⟩:=hf 8 _ rfl rfl
    obtain⟨x9,g9,k9⟩:=hf 9 _ rfl rfl
    obtain⟨x10,g10,k10⟩:=hf 10 _ rfl rfl
    simp[Qy,nc]at k0 k1 k2 k3 k4 k5 k6 k7 k8 k9 k10
    cases k0;cases k1;cases k4;cases k5;cases k6;cases k7;cases k8;cases k9;cases k10
    exact⟨⟨x0,x1,x2,x3,x4,x5,x6,x7,x8,x9,x10⟩,.entry _ g0 g1 g2 g3 g4 g5 g6 g7 g8 g9 g10,.entry ⟨x0,x1,x2,x3,x4,x5,x6,x7,x8,x9,x10⟩ _ _ k2 k3⟩
def WFs:(l:List Ty)->TX l->Prop
 |[],_=>True
 |τ::l,x=>WF τ x.1/\WFs l x.2
def Q1J (E:Env):List Nat->List Ty->Bool
 |[],[]=>true
 |T::l,τ::m=>(match E.ty T with
  |some σ=>Gz σ τ
  |none=>false)&&(noA τ&&Q1J E l m)
 |_,_=>false
theorem Q88 (hty:∀T τ,E.ty T=some τ->TyOk P E T τ){T:Nat}{τ:Ty}(hn:noA τ=true)(hT:E.ty T=some τ){base:Nat}{v:Value}(hv:Value.okWide P w .any base T v){x:den τ}{S:Nat->Prop}:v=valOf (.t τ x) v.cells.toList:=by
 have hund:=(hty T τ hT).und
 cases τ with
 |int k=>obtain⟨n,rfl⟩:=okWide_int hund hv;rfl
 |bool=>obtain⟨n,rfl⟩:=okWide_bool hund hv;rfl
 |str=>obtain⟨n,rfl⟩:=okWide_string hund hv;rfl
 |sl e=>obtain⟨t,h1,_⟩:=hund;obtain⟨a,l,c,rfl⟩:=okWide_slice h1 hv;rfl
 |arr n e=>cases hn
 |date|name|entry|lib|abbr|query|cur=>obtain⟨fs,h1,_⟩:=hund;obtain⟨cs,rfl,_⟩:=okWide_struct h1 hv;rfl
theorem Q19 (hty:∀T τ,E.ty T=some τ->TyOk P E T τ){base:Nat}{pv:Nat->Value}:∀{Ts:List Nat} {τs:List Ty} {vs:List Value} {ds:List (DataW H)} {ps:List MemPlace},Q1J E Ts τs=true->DataW.TrodAll enc P w 0 spare held Ts vs ds ps->
  (∀(j:Nat) t v,Ts[j]? =some t->vs[j]? =some v->Value.okWide P w .any base t v)->∃x:TX τs,WFs τs x/\J1 (Lt w) w pv (Q9 τs x) vs
 |[],[],[],[],ps,_,_,_=>⟨(),trivial,rfl,λi a v h=>by simp[Q9]at h⟩
 |T::Ts,τ::τs,vs,ds,ps,hp,h,hv=>by
  obtain⟨v,vs',d,ds',p,q,rfl,rfl,rfl,hd,hr⟩:=trodAll_cons h
  simp only[Q1J,Bool.and_eq_true]at hp
  obtain⟨hT,hn,hp⟩:=hp
  cases hE:E.ty T with
  |none=>rw[hE]at hT;cases hT
  |some σ=>
   rw[hE]at hT
   have:=Xv hT
   subst this
   obtain⟨x,hx,hlen,hargs⟩:=Q19 hty (pv:=pv) hp hr λj t v h1 h2=>hv (j+1) t v (by simpa using h1) (by simpa using h2)
   obtain⟨fuel,hf⟩:=hd
   obtain⟨x0,hw0,hc0⟩:=Q4r hty fuel T σ _ _ hn hE hf
   refine⟨(x0,x),⟨hw0,hx⟩,by simp[Q9,hlen],λi a u h1 h2=>?_⟩
   cases i with
   |zero=>
    cases h1;cases h2
    exact⟨_,.t σ x0 _ hc0,Q88 hty hn hE (hv 0 T v rfl rfl) (S:=Lt w)⟩
   |succ i=>exact hargs i a u (by simpa[Q9]using h1) (by simpa using h2)
 |[],_::_,_,_,_,hp,_,_=>by cases hp
 |_::_,[],_,_,_,hp,_,_=>by cases hp
 |[],[],_::_,_,_,_,h,_=>by cases h
 |[],[],[],_::_,_,_,h,_=>by cases h
theorem Q1K (hE:EnvOk P E){f:FuncId}{fn:Func}{c:Code}(hfn:P.funcs[f]? =some fn)(hbody:fn.body=some c)(hname:(fn.name== "runtime.NumGoroutine")=false){τs:List Ty}(hps:Q1J E fn.params.toList τs=true){tb:Nat}(hres:fn.resultTypes= #[tb])(hb:P.underlying tb=some .bool)
  (hl:laidOutB P=true) (hr:∀t∈fn.params.toList,P.readableRec t=true/\t<P.types.size) {s:ChangeSpec}
  {W:World} {base:Nat} {args:Array Value} {ds gs:List (DataW H)} {before:List MemPlace} {r:AV} (hrt:r= .t .bool true)
  (hlaw:∀x:TX τs,WFs τs x->Qd P E (λ_=>undef) (.f f) (Q9 τs x) r)
  (hspec:s.fn H (ds++gs)={results:=[.lit (.bool true)],args:=ds,vars:=gs})
  (Yj:∀(j:Nat) t v,fn.params[j]? =some t->args[j]? =some v->Value.okWide P W .any base t v)
  (hW:DataW.Whole enc P fn.params.toList s.vars false W args.toList ds gs before) (hgl:Qo E (λ_=>undef) (Lt W) W)
  (hv:∀q,DataW.TrodVars enc P W (λ_=>true) s.vars gs q->∀W',Below W.heap.size W W'->DataW.TrodVars enc P W' (λb=>decide (b<W.heap.size)) s.vars gs q) :
  Calls P f args W λe W'=>∃v,e= .returned v/\s.post enc P fn false true false false W args v W':=by
 have hW':=hW
 obtain⟨p,q,hA,hV,rfl,hfz,hnd⟩:=hW
 obtain⟨x,hx,hargs⟩:=Q19 (spare:=λ_=>true) (held:=true) hE.ty (pv:=λ_=>undef) hps hA λj t v h1 h2=>Yj j t v (by simpa using h1) (by simpa using h2)
 subst hrt
 have hgo:=hlaw x hx (Lt W) W args.toList (λb hb=>hb) hgl hargs
 have hcall:(callFunc f args).run P W= .ok (.enter f args) W:=by
  have hn':fn.name≠ "runtime.NumGoroutine":=by simpa using hname
  simp[callFunc,hfn,hn',hbody]
 have hgo2:Calls P f args W λe w''=>∃v,e= .returned v/\(Below W.heap.size W w''/\∃S':Nat->Prop,(∀b,Lt W b->S' b)/\(∀b,S' b->Lt W b\/(W.heap.size<=b/\b<w''.heap.size))/\RR S' w'' W.heap.size (λ_=>undef) (.t .bool true) v):=by
  have h:=hgo
  simp only[Goes]at h
  rw[hcall]at h
  exact h
 refine hgo2.mono λe W' ⟨v,he,hbl,S',_,_,hrr⟩=>?_
 subst he
 obtain⟨g,hr1⟩:=hrr
 have hvb:v= .bool true:=by
  cases hr1 with
  |plain _ cs ha=>cases ha with|t _ _ _ hc=>cases hc;rfl
 subst hvb
 have hlt:∀y∈p++q,y.block<W.heap.size:=λy hy=>hW'.lt y hy
 refine⟨_,rfl,ds,gs,p++q,[],p,q,hW',?_,?_,?_,hbl.frame _,λh=>by cases h⟩
 ·rw[hspec,hres]
  exact trodAll_mk1 (shut_bool hb true)
 ·rw[hspec]
  have all:∀{Ts:List Nat} {vs:List Value} {ds:List (DataW H)} {p:List MemPlace},DataW.TrodAll enc P W 0 (λ_=>true) true Ts vs ds p->(∀t∈Ts,P.readableRec t=true/\t<P.types.size)->(∀y∈p,y.block<W.heap.size)->DataW.TrodAll enc P W' 0 (λb=>decide (b<W.heap.size)) true Ts vs ds p:=by
   intro Ts
   induction Ts with
   |nil=>
    intro vs ds p h _ _
    obtain⟨rfl,rfl,rfl⟩:=trodAll_nil h
    exact trodAll_mk0
   |cons t Ts ih=>
    intro vs ds p h h1 h2
    obtain⟨v,vs',d,ds',p1,q1,rfl,rfl,rfl,hd,hr'⟩:=trodAll_cons h
    exact⟨p1,q1,Go.WideElems.Trod_stays hl (h1 t List.mem_cons_self).1 (h1 t List.mem_cons_self).2 hd (λy hy=>hbl.same (h2 y (List.mem_append_left _ hy))) (λy hy=>by simpa using h2 y (List.mem_append_left _ hy)),ih hr' (λt ht=>h1 t (List.mem_cons_of_mem _ ht)) (λy hy=>h2 y (List.mem_append_right _ hy)),rfl⟩
  exact all hA hr (λy hy=>hlt y (List.mem_append_left _ hy))
 ·rw[hspec]
  exact hv q hV W' hbl
end
end Go.Gx
end
section
/- A package-level array of texts that a row lists. -/
namespace Go.Gx
open Go.RowKit Go.ChangeShapes Go.WideShapes
def Gg {H:Type}(ss:List (List UInt8)):DataW H:=.agg (ss.map λs=>.lit (.string s))
theorem Q0v {H:Type}{enc:TypeId×Value->H}{P:Program}{w:World}{base:Nat}{sp:Nat->Bool}{held:Bool}{fuel:Nat}{t e:TypeId}{n:Nat}{cs:List Value}{ss:List (List UInt8)}{p:List MemPlace}
  (ht:P.underlying t=some (.array n e)) (he:P.underlying e=some .string) (hce:P.cellsOf e=1) (hct:P.cellsOf t=n)
  (h:DataW.trod enc P w base sp held fuel t cs=some (Gg ss,p)):cs=ss.map λs=>Value.string ⟨s.toArray⟩:=by
 cases fuel with
 |zero=>simp[DataW.trod]at h
 |succ fuel=>
  simp only[DataW.trod,ht,hce,hct,Nat.mul_one]at h
  split at h
  ·rename_i hl
   obtain⟨xs,hm,hx⟩:=Option.map_eq_some_iff.1 h
   have hxs:xs.map (·.1)=ss.map λs=>(DataW.lit (.string s):DataW H):=by
    have:=congrArg Prod.fst hx
    simpa[Gg]using this
   have hxl:xs.length=n:=by simpa using Lib.mapM_length hm
   have hzl:ss.length=n:=by
    have:=congrArg List.length hxs
    simp at this
    omega
   apply List.ext_getElem?
   intro i
   by_cases hi:i<n
   ·obtain⟨b,hb,hf⟩:=Lib.mapM_at hm i i (by simp[hi])
    obtain⟨s,hc,rfl,_⟩:=DataW.trod_string he hf
    have h1:cs[i]? =some (.string s):=by
     have:=congrArg (·[0]?) hc
     simpa[List.getElem?_take,List.getElem?_drop]using this
    have h2:(xs.map (·.1))[i]? =some (DataW.lit (.string s.data.toList):DataW H):=by simp[hb]
    rw[hxs]at h2
    simp only[List.getElem?_map,Option.map_eq_some_iff,DataW.lit.injEq,Lit.string.injEq]at h2
    obtain⟨z',hz',e'⟩:=h2
    rw[h1,List.getElem?_map,hz',Option.map_some,e']
   ·rw[List.getElem?_eq_none (by omega),List.getElem?_eq_none (by simp;omega)]
  ·cases h
theorem Q0h {P:Program}{W:World}{name:String}{d:DataW Unit}{g t:Nat}(hg:P.globalNamed name=some g)(hty:(P.globals[g]?).map (·.type)=some t):∀{l:List (String×DataW Unit)} (i:Nat),laidMet P l W->l[i]? =some (name,d)->
  ∃cs ty fr,W.heap[g]? =some (.cells cs ty fr)/\∃(enc:TypeId×Value->Unit) (base:Nat) (sp:Nat->Bool) (held:Bool) (fuel:Nat) (p:List MemPlace),DataW.trod enc P W base sp held fuel t cs.toList=some (d,p)
 |[],i,_,hl=>by simp at hl
 |x::l,i+1,h,hl=>by
  refine Q0h hg hty (l:=l) i ?_ (by simpa using hl)
  obtain⟨ps,hv,hnd,hrows⟩:=h
  obtain⟨n,d⟩:=x
  obtain⟨g,t,cs,fuel,p,q,_,_,_,_,hq,rfl⟩:=hv
  exact⟨q,hq,List.Nodup.sublist (List.sublist_append_right _ _) hnd,λb off hm=>hrows b off (List.mem_append_right _ hm)⟩
 |x::l,0,h,hl=>by
  simp only[List.getElem?_cons_zero,Option.some.injEq]at hl
  subst hl
  obtain⟨ps,⟨g',t',cs,fuel,p,q,hg',ht',hvar,hd,_,_⟩,_⟩:=h
  obtain rfl:=Option.some.inj (hg.symm.trans hg')
  obtain rfl:=Option.some.inj (hty.symm.trans ht')
  unfold World.var? at hvar
  rw[hg']at hvar
  simp only[Option.bind_some]at hvar
  split at hvar
  ·rename_i cs' ty fr hblock
   cases hvar
   exact⟨_,ty,fr,hblock,_,_,_,_,_,_,hd⟩
  ·cases hvar
theorem Q5n {α:Type}(f:Nat->Value)(xs:List α)(g:α->Value)(h:∀i (hi:i<xs.length),f i=g xs[i]):(List.range xs.length).flatMap (λi=>[f i])=xs.map g:=by
 have:∀(l:List Nat),(l.flatMap λi=>[f i])=l.map f:=λl=>by
  induction l with
  |nil=>rfl
  |cons a l ih=>simp[List.flatMap_cons,ih]
 rw[this]
 apply List.ext_getElem?
 intro i
 by_cases hi:i<xs.length
 ·simp[List.getElem?_map,List.getElem?_range hi,hi,h i hi]
 ·rw[List.getElem?_eq_none (by simp;omega),List.getElem?_eq_none (by simp;omega)]
theorem Q5o {P:Program}{W:World}{name:String}{ss:List (List UInt8)}{l:List (String×DataW Unit)}{g t e n:Nat}(i:Nat)
  (hg:P.globalNamed name=some g) (hty:(P.globals[g]?).map (·.type)=some t) (ht:P.underlying t=some (.array n e)) (he:P.underlying e=some .string) (hce:P.cellsOf e=1) (hct:P.cellsOf t=n) (hn:ss.length=n)
  (h:laidMet P l W) (hl:l[i]? =some (name,Gg ss)):∃τ,∃x:den τ,∃cs,AV.t (.arr n .str) (ss.map λs=>(⟨s.toArray⟩:ByteArray))= .t τ x/\CR (Lt W) W τ x cs/\Lt W g/\∃t f,W.heap[g]? =some (.cells cs.toArray t f):=by
 obtain⟨cs,ty,fr,hblock,_,_,_,_,_,_,hd⟩:=Q0h hg hty i h hl
 have hcs:=Q0v ht he hce hct hd
 have hcr:=CR.arr (S:=Lt W) (w:=W) n .str (ss.map λs=>(⟨s.toArray⟩:ByteArray)) (λi=>[.string ((ss.map λs=>(⟨s.toArray⟩:ByteArray)).getD i ⟨#[]⟩)]) (by simpa using hn) (λi hi=>by
  simp only[List.getD,List.getElem?_eq_getElem hi,Option.getD_some]
  exact .str _)
 refine⟨_,_,_,rfl,hcr,(Array.getElem?_eq_some_iff.1 hblock).1,ty,fr,?_⟩
 subst hn
 rw[Q5n _ ss (λs=>Value.string ⟨s.toArray⟩) (λi hi=>by simp[List.getD,hi]),<-hcs]
 exact hblock
theorem Q1a {H:Type}{enc:TypeId×Value->H}{P:Program}(hl:laidOutB P=true){W W':World}(hb:Below W.heap.size W W'):∀{names:List String} {gs:List (DataW H)} {q:List MemPlace},
  (∀n∈names,∀g t,P.globalNamed n=some g->(P.globals[g]?).map (·.type)=some t->P.readableRec t=true/\t<P.types.size)->DataW.TrodVars enc P W (λ_=>true) names gs q->DataW.TrodVars enc P W' (λb=>decide (b<W.heap.size)) names gs q
 |[],[],q,_,h=>h
 |n::ns,d::ds,ps,hr,h=>by
  have hlt:=DataW.TrodVars.lt h
  obtain⟨g,t,cs,fuel,p,q,h1,h2,h3,h4,h5,rfl⟩:=h
  obtain⟨hr1,hr2⟩:=hr n List.mem_cons_self g t h1 h2
  have hst:=Go.WideElems.Trod_stays (sp':=λb=>decide (b<W.heap.size)) (W':=W') (v:=.agg cs) hl hr1 hr2 ⟨fuel,h4⟩ (λy hy=>hb.same (hlt y (List.mem_append_left _ (List.mem_append_right _ hy)))) (λy hy=>by simpa using hlt y (List.mem_append_left _ (List.mem_append_right _ hy)))
  obtain⟨fuel',h4'⟩:=hst
  refine⟨g,t,cs,fuel',p,q,h1,h2,?_,h4',Q1a hl hb (λn hn=>hr n (List.mem_cons_of_mem _ hn)) h5,rfl⟩
  unfold World.var? at h3 ⊢
  rw[h1]at h3 ⊢
  simp only[Option.bind_some]at h3 ⊢
  split at h3
  ·rename_i cs' ty fr hblock
   have hg:g<W.heap.size:=(Array.getElem?_eq_some_iff.1 hblock).1
   rw[hb.block g hg,hblock]
   exact h3
  ·cases h3
 |[],_::_,_,_,h=>by cases h
 |_::_,[],_,_,h=>by cases h
end Go.Gx
end
section
/- What a printed function answers with rounds enough;plain lemmas. -/
namespace Go.Gx
def Ev {α:Type}(f:Nat->Option α)(r:α):Prop:=∃K,∀k,K<=k->f k=some r
theorem Ev.pure {α:Type}(r:α):Ev (λ_=>some r) r:=⟨0,λ_ _=>rfl⟩
theorem Ev.bind {α β:Type}{f:Nat->Option α}{g:Nat->α->Option β}{a:α}{b:β}(hf:Ev f a)(hg:Ev (λk=>g k a) b):Ev (λk=>(f k).bind (g k)) b:=by
 obtain⟨K,hK⟩:=hf
 obtain⟨L,hL⟩:=hg
 exact⟨max K L,λk hk=>by show(f k).bind (g k)=some b;rw[hK k (by omega),Option.bind_some];exact hL k (by omega)⟩
theorem Ev.bind0 {α β:Type}{f:Option α}{g:Nat->α->Option β}{a:α}{b:β}(hf:f=some a)(hg:Ev (λk=>g k a) b):Ev (λk=>f.bind (g k)) b:=by
 subst hf;exact hg
theorem Ev.step {α:Type}{f g:Nat->Option α}{r:α}(h:∀k,f (k+1)=g k)(hg:Ev g r):Ev f r:=by
 obtain⟨K,hK⟩:=hg
 exact⟨K+1,λk hk=>by obtain⟨m,rfl⟩:∃m,k=m+1:=⟨k-1,by omega⟩;rw[h];exact hK m (by omega)⟩
theorem Ev.eq {α:Type}{f:Nat->Option α}{r s:α}(h:Ev f r)(e:r=s):Ev f s:=e▸h
theorem Ev.get {α:Type}{f:Nat->Option α}{r:α}(h:Ev f r):∃k,f k=some r:=by
 obtain⟨K,hK⟩:=h;exact⟨K,hK K (Nat.le_refl K)⟩
theorem QW {α:Type}{p:Prop}[Decidable p]{a b:α}(h:p):cond (decide p) a b=a:=by rw[decide_eq_true h];rfl
theorem Jj {α:Type}{p:Prop}[Decidable p]{a b:α}(h:¬p):cond (decide p) a b=b:=by rw[decide_eq_false h];rfl
theorem Q1L {α:Type}{n m:Nat}{a b:α}(h:n<=m):cond (Nat.ble n m) a b=a:=by rw[Nat.ble_eq_true_of_le h];rfl
theorem wrap_in {x:Int}(h1 : -9223372036854775808<=x)(h2:x<=9223372036854775807):IntKind.wrap .i64 x=x:=by
 rw[IntKind.wrap_i64];omega
def L (s:ByteArray):List UInt8:=s.data.toList
theorem XM {s t:ByteArray}(h:L s=L t):s=t:=by
 cases s;cases t
 simp only[L]at h
 rw[Array.toList_inj.1 h]
theorem Qb (s:ByteArray):(L s).length=s.size:=rfl
theorem toList_eq (s:ByteArray):s.toList=s.data.toList:=ByteArray.toList_eq s
theorem YO {s t:ByteArray}:Qk s t=true ↔ s=t:=by
 unfold Qk
 rw[beq_iff_eq,toList_eq,toList_eq]
 exact⟨λh=>XM h,λh=>by rw[h]⟩
theorem Jk (s:ByteArray):Qk s s=true:=YO.2 rfl
theorem Q1M (s t:ByteArray):Qk s t=(L s==L t):=by
 unfold Qk;rw[toList_eq,toList_eq];rfl
theorem Q7t (s:ByteArray)(i:Nat):bt s i=(((L s).getD i 0).toNat:Int):=by
 simp[bt,L,Array.getD_eq_getD_getElem?,List.getD_eq_getElem?_getD]
theorem JB (s:ByteArray)(a b:Nat):L (s.extract a b)=((L s).take b).drop a:=by
 simp[L,ByteArray.data_extract,List.drop_take]
theorem Uo (s t:ByteArray):L (s++t)=L s++L t:=by simp[L,ByteArray.data_append]
theorem YP (l:List UInt8):L ⟨l.toArray⟩=l:=by simp[L]
end Go.Gx
end
section
/- Functions whose answers are trees of their own,functions that mark trees: what is interpreted of them is what the machine does. -/
namespace Go.Gx
open Go.RowKit
section
variable {P:Program} {E:Env} {pv:Nat->Value} {G:Cal->List AV->AV->Prop} {LG:Nat->St->Ex->St->Prop}
theorem DO {st:St}:∀{rs as:List AV},Uy st rs=some as->as.length=rs.length/\∀(i:Nat) (b:AV),as[i]? =some b->∃a,rs[i]? =some a/\Q23 st a=some b
 |[],as,h=>by cases h;exact⟨rfl,λi b h=>by simp at h⟩
 |a::l,as,h=>by
  simp only[Uy]at h
  split at h
  ·rename_i b hb
   split at h
   ·rename_i m hm
    cases h
    obtain⟨h1,h2⟩:=DO hm
    refine⟨by simp[h1],λi c hc=>?_⟩
    cases i with
    |zero=>cases hc;exact⟨a,rfl,hb⟩
    |succ i=>simpa using h2 i c (by simpa using hc)
   ·cases h
  ·cases h
theorem Q89 {w0 w1:World}{B:Old}{S1:Nat->Prop}{ρ:Nat->Option Loc}{st:St}{a:Act}(hs:Sim w0 B pv S1 ρ st a w1){n0:Nat}{O:Nat->Prop}(hB:∀b,¬B b->n0<=b\/O b){r b:AV}{v:Value}(hr:Q23 st r=some b)(hv:VR S1 w1 ρ st.row pv r v)(hd:Qi (Qq 6 r)=true) :
  (∀l,b≠ .tup l)/\RT1 w1 pv b v (ownB ρ (Qq 6 r))/\∀x,x∈Qq 6 r->(∃τ,∃y:den τ,b= .tr τ y\/∃e,∃xs:List (den τ),b= .fr e τ xs)->st.row x≠none:=by
 have other:(match Q2 st.row 6 r with
   |some (.t τ x)=>match slT τ with
    |false=>some (.t τ x)
    |true=>cond (Y4 st.row 6 r) (some (.tr τ x)) none
   |_=>none)=some b->r≠ .any->(∀l,b≠ .tup l)/\RT1 w1 pv b v (ownB ρ (Qq 6 r))/\∀x,x∈Qq 6 r->(∃τ,∃y:den τ,b= .tr τ y\/∃e,∃xs:List (den τ),b= .fr e τ xs)->st.row x≠none:=λh hne=>by
  split at h
  ·rename_i τ x hc
   obtain⟨cs,h1,h2⟩:=Qx hv hne
   have Yj:v=valOf (.t τ x) cs:=by rw[h2,valOf,valOf,Jy hc]
   split at h
   ·rename_i hsl
    cases h
    have:=Jf (ρ0:=λ_=>none) (row0:=λ_=>none) (S1:=λb=>b<w1.heap.size) hs.hs hs.hs.stab hc h1 (.inl λ_ h=>h)
    rw[Yj]
    refine⟨λl e=>(by cases e),.flat τ x cs _ hsl (QU hsl (KA this)),λx' _ hx=>?_⟩
    obtain⟨τ',y',e|⟨_,_,e⟩⟩:=hx<;>cases e
   ·rename_i hsl
    obtain⟨ht,h⟩:=Q4 h
    cases h
    rw[Yj]
    exact⟨λl e=>(by cases e),.tr τ x cs _ hsl (Q1A hs.hs ht hc (by simp[asT]) h1 hd),λx' hx' _=>Uj ht x' hx'⟩
  ·cases h
 cases r with
 |own id=>
  simp only[Q23]at hr
  split at hr
  ·rename_i e τ xs hrow
   cases hsl:slT τ with
   |true=>rw[hsl]at hr;cases hr
   |false=>
    rw[hsl]at hr
    cases hr
    refine⟨λl e=>(by cases e),?_,λx hx _=>?_⟩
    ·rcases Yw hv hrow with⟨g,c,hl,rfl⟩|⟨hl,rfl,rfl⟩
     ·have:=hs.hs.rows id _ _ hrow hl
      refine .fr e τ xs g c _ hsl ⟨id,by simp[Qq],_,hl,rfl⟩ ?_
      obtain⟨cur,f,h1,h2,h3,h4,h5,h6,h7,h8⟩:=this
      exact⟨cur,f,h1,h2,h3,h4,h5,h6,h7,λi hi=>(h8 i hi).imp λcs hc=>⟨QU hsl hc.1,hc.2⟩⟩
     ·obtain⟨_,_,hpos⟩:=hs.hs.rows id _ _ hrow hl
      exact .frNil e τ _ hsl hpos
    ·simp only[Qq,List.mem_singleton]at hx
     subst hx
     rw[hrow];simp
  ·cases hr
 |nil=>
  cases hr
  have:=GA hv
  subst this
  exact⟨λl e=>(by cases e),.nil _,λx hx=>by simp[Qq]at hx⟩
 |any=>simp[Q23,Q2]at hr
 |_=>exact other hr (by simp)
theorem Q1N {w0 w1:World}{B:Old}{S1:Nat->Prop}{ρ:Nat->Option Loc}{st:St}{a:Act}(hs:Sim w0 B pv S1 ρ st a w1){n0:Nat}{O:Nat->Prop}(hB:∀b,¬B b->n0<=b\/O b){ids:List Nat}(h:∀x,x∈ids->st.row x≠none):Q2h w1 n0 O (ownB ρ ids):=λb ⟨i,hi,l,hl,hb⟩=>by
 cases hr:st.row i with
 |none=>exact absurd hr (h i hi)
 |some r=>exact⟨hB b (hs.hs.apart0 i r l b hl hr hb).1,Q6p hs.hs hr hl hb⟩
theorem Q7u (hE:EnvOk P E){w0 w1:World}{B:Old}{S1:Nat->Prop}{ρ:Nat->Option Loc}{st:St}{a:Act}(hs:Sim w0 B pv S1 ρ st a w1){n0:Nat}{O:Nat->Prop}(hB:∀b,¬B b->n0<=b\/O b){fn:Func}{rs as:List AV}(hvals:JR E st fn.results.toList=some rs)(hdis:Qi (JE rs)=true)(hret:Uy st rs=some as) :
  ∃v,(results fn a.tmps).run P w1= .ok v w1/\RT w1 n0 O pv (one as) v:=by
 obtain⟨vs',hvl,hvv,hres⟩:=Q1F hE hs hvals
 obtain⟨hal,hag⟩:=DO hret
 let Tk:AV->AV->Nat->Prop:=λr b=>match b with
  |.tr _ _=>ownB ρ (Qq 6 r)
  |.fr _ _ _=>ownB ρ (Qq 6 r)
  |_=>λ_=>False
 have comp:∀(i:Nat) (b:AV) (v:Value),as[i]? =some b->vs'[i]? =some v->∃r,rs[i]? =some r/\(∀l,b≠ .tup l)/\RT1 w1 pv b v (Tk r b)/\Q2h w1 n0 O (Tk r b)/\(∀x,Tk r b x->ownB ρ (Qq 6 r) x)/\((∀x,Tk r b x->False)\/∀x,x∈Qq 6 r->st.row x≠none):=λi b v hb hv=>by
  obtain⟨r,h1,h2⟩:=hag i b hb
  obtain⟨h3,h4,h5⟩:=Q89 hs hB h2 (hvv i r v h1 hv) (J8 (f:=Qq 6) hdis h1 h1).1
  refine⟨r,h1,h3,?_⟩
  cases h4 with
  |flat τ x cs _ hsl hc=>exact⟨.flat τ x cs _ hsl hc,λb h=>h.elim,λx h=>h.elim,.inl λx h=>h⟩
  |weak τ x _ _ hsl=>exact⟨.weak τ x _ _ hsl,λb h=>h.elim,λx h=>h.elim,.inl λx h=>h⟩
  |nil=>exact⟨.nil _,λb h=>h.elim,λx h=>h.elim,.inl λx h=>h⟩
  |fr e τ xs g cap _ hsl hT hrow=>exact⟨.fr e τ xs g cap _ hsl hT hrow,Q1N hs hB λx hx=>h5 x hx ⟨τ,Q7 τ,.inr ⟨e,xs,rfl⟩⟩,λx h=>h,.inr λx hx=>h5 x hx ⟨τ,Q7 τ,.inr ⟨e,xs,rfl⟩⟩⟩
  |frNil e τ _ hsl hpos=>exact⟨.frNil e τ _ hsl hpos,Q1N hs hB λx hx=>h5 x hx ⟨τ,Q7 τ,.inr ⟨e,[],rfl⟩⟩,λx h=>h,.inr λx hx=>h5 x hx ⟨τ,Q7 τ,.inr ⟨e,[],rfl⟩⟩⟩
  |tr τ x cs _ hsl hc=>exact⟨.tr τ x cs _ hsl hc,Q1N hs hB λy hy=>h5 y hy ⟨τ,x,.inl rfl⟩,λx h=>h,.inr λy hy=>h5 y hy ⟨τ,x,.inl rfl⟩⟩
 by_cases h1:as.length=1
 ·match as,h1,hal,comp with
  |[b],_,hal,comp=>
  match vs',hvl,hres,comp with
  |[v],hvl,hres,comp=>
   obtain⟨r,_,h3,h4,h5,_⟩:=comp 0 b v rfl rfl
   refine⟨v,by simpa using hres,?_⟩
   show RT w1 n0 O pv b v
   cases b with
   |tup l=>exact absurd rfl (h3 l)
   |_=>exact⟨_,h4,h5⟩
  |[],hvl,_,_=>simp at hvl;simp only[List.length_cons,List.length_nil]at hal;omega
  |_::_::_,hvl,_,_=>simp only[List.length_cons,List.length_nil]at hvl hal;omega
 ·have hone:one as= .tup as:=by
   match as,h1 with
   |[],_=>rfl
   |[_],h1=>exact absurd rfl h1
   |_::_::_,_=>rfl
  refine⟨.tuple vs'.toArray,?_,?_⟩
  ·rw[hres,dif_neg (by simp only[List.size_toArray];omega)]
  ·rw[hone]
   refine⟨vs',λi=>Tk (rs.getD i .any) (as.getD i .any),rfl,by omega,λi b v hb hv=>?_,λi j x hne hx hx'=>?_⟩
   ·obtain⟨r,h2,_,h4,h5,_⟩:=comp i b v hb hv
    have e1:rs.getD i .any=r:=by simp[List.getD,h2]
    have e2:as.getD i .any=b:=by simp[List.getD,hb]
    simp only[e1,e2]
    exact⟨h4,h5⟩
   ·have in_:∀k x,Tk (rs.getD k .any) (as.getD k .any) x->k<as.length:=λk x hx=>by
     apply Classical.byContradiction
     intro hn
     have e2:as.getD k .any= .any:=by simp[List.getD,List.getElem?_eq_none (show as.length<=k by omega)]
     rw[e2]at hx
     exact hx
    have get:∀k x,Tk (rs.getD k .any) (as.getD k .any) x->∃r,rs[k]? =some r/\ownB ρ (Qq 6 r) x/\∀y,y∈Qq 6 r->st.row y≠none:=λk x hx=>by
     have hk:=in_ k x hx
     have hb:as[k]? =some as[k]:=List.getElem?_eq_getElem hk
     have hv:vs'[k]? =some (vs'[k]'(by omega)):=List.getElem?_eq_getElem _
     obtain⟨r,h2,_,h4,h5,h6,h7⟩:=comp k _ _ hb hv
     have e1:rs.getD k .any=r:=by simp[List.getD,h2]
     have e2:as.getD k .any=as[k]:=by simp[List.getD,hb]
     rw[e1,e2]at hx
     refine⟨r,h2,h6 x hx,h7.resolve_left λh=>h x hx⟩
    obtain⟨r,h2,h3,h4⟩:=get i x hx
    obtain⟨r',h2',h3',h4'⟩:=get j x hx'
    exact D9 hs.hs ((J8 (f:=Qq 6) hdis h2 h2').2 hne) h4 h4' h3 h3'
structure FunT (E:Env)(G:Cal->List AV->AV->Prop)(LG:Nat->St->Ex->St->Prop)(fn:Func)(c:Code)(st0:St)(e:Ex)(st:St)(rs as:List AV):Prop where
 body:fn.body=some c
 run:CodeR E G LG 0 c st0 e st
 out:∀id,e≠ .exit id
 vals:JR E st fn.results.toList=some rs
 dis:Qi (JE rs)=true
 ret:Uy st rs=some as
theorem Q5p {C:Orc}{L:UU}(hC:Jn C G)(hL:LIs L LG){fn:Func}{c:Code}(hc:fn.body=some c){st0:St}{R:Type}{K:AV->Option R}{r:R}(h:Jp E C L 0 c st0 (Q8k E fn K)=some r) :
  ∃e st rs as,FunT E G LG fn c st0 e st rs as/\K (one as)=some r:=by
 obtain⟨e,st,h1,h2⟩:=Yd hC hL c 0 _ h
 have go:(match JR E st fn.results.toList with
  |some rs=>match Qi (JE rs)with
   |true=>match Uy st rs with
    |some as=>K (one as)
    |none=>none
   |false=>none
  |none=>none)=some r->(∀id,e≠ .exit id)->∃e st rs as,FunT E G LG fn c st0 e st rs as/\K (one as)=some r:=λh2 he=>by
  split at h2
  ·rename_i rs hrs
   split at h2
   ·rename_i hd
    split at h2
    ·rename_i as has
     exact⟨e,st,rs,as,⟨hc,h1,he,hrs,hd,has⟩,h2⟩
    ·cases h2
   ·cases h2
  ·cases h2
 cases e with
 |exit id=>cases h2
 |normal=>exact go h2 (λid h=>by cases h)
 |ret=>exact go h2 (λid h=>by cases h)
theorem Q3N (hE:EnvOk P E)(hG:GOk P E pv G){f:FuncId}{fn:Func}(hf:P.funcs[f]? =some fn)(hname:(fn.name== "runtime.NumGoroutine")=false){c:Code}{args:List AV}{e:Ex}{st:St}{rs as:List AV}
  (h:FunT E G LG fn c (start fn.ntmps args) e st rs as) (hn:args.length<=fn.ntmps) (hl:∀w0 B,∀p∈QL 0 c,JA P E w0 B pv p.2 (LG p.1)):UE P E pv f args (one as):=by
 intro S w vs hst hgl hargs
 obtain⟨hvl,hva⟩:=hargs
 show Qu P _ ((callFunc f vs.toArray).run P w)
 rw[Q0e hf h.body hname]
 refine calls_of_wp hf h.body ?_
 have hs0:Sim w ⟨λb=>b<w.heap.size,none⟩ pv S (λ_=>none) (start fn.ntmps args) {tmps:=vs.toArray++Array.replicate (fn.ntmps-vs.toArray.size) undef,defers:=[]} w:=by
  refine⟨by simp[start];omega,rfl,λt=>?_,⟨hst,λid r l h1 _=>(by cases h1),λid id' l l' b h1=>(by cases h1),λid r l b h1=>(by cases h1),λl hl=>(by cases hl)⟩,Blw.refl _ _,λ_ h=>h⟩
  rw[Array.getD_eq_getD_getElem?]
  simp only[start]
  by_cases ht:t<args.length
  ·have ha:args[t]? =some args[t]:=List.getElem?_eq_getElem ht
   have hv:vs[t]? =some vs[t]:=List.getElem?_eq_getElem (by omega)
   obtain⟨cs,h1,h2⟩:=hva t _ _ ha hv
   rw[Array.getElem?_append_left (by simp;omega)]
   simp only[List.getElem?_toArray,ha,hv,Option.getD_some]
   exact .inr ⟨cs,h1,h2⟩
  ·have ha:args[t]? =none:=List.getElem?_eq_none (by omega)
   rw[ha,Array.getElem?_append_right (by simp;omega)]
   simp only
   rw[Q0f]
   exact J6
 refine Ge hE hG h.run (hl w ⟨λb=>b<w.heap.size,none⟩) hs0 hgl λS1 ρ a w1 hs hgl1 hg=>?_
 suffices hfin:a.defers=[]/\∃v,(results fn a.tmps).run P w1= .ok v w1/\(∃v',Ending.returned v= .returned v'/\(Below w.heap.size w w1/\RT w1 w.heap.size (λ_=>False) pv (one as) v')) by
  cases e with
  |normal=>exact hfin
  |ret=>exact hfin
  |exit id=>exact absurd rfl (h.out id)
 obtain⟨v,hres,hrt⟩:=Q7u (n0:=w.heap.size) (O:=λ_=>False) hE hs (λb hb=>.inl (Nat.le_of_not_lt hb)) h.vals h.dis h.ret
 exact⟨hs.defers,v,hres,v,rfl,hs.below.to,hrt⟩
structure FunX (E:Env)(G:Cal->List AV->AV->Prop)(LG:Nat->St->Ex->St->Prop)(fn:Func)(c:Code)(τ:Ty)(x:den τ)(k:Int)(y:den τ)(m:Int)(e:Ex)(st:St):Prop where
 body:fn.body=some c
 run:CodeR E G LG 0 c (U0 fn.ntmps τ x k) e st
 out:∀id,e≠ .exit id
 vals:JR E st fn.results.toList=some [.t (.int .i64) m]
 row:∃σ a b,st.row Q6=some (.box σ (.tup [a,b,.t τ y]))
theorem Q6L {C:Orc}{L:UU}(hC:Jn C G)(hL:LIs L LG){fn:Func}{τ:Ty}{x:den τ}{k:Int}{R:Type}{K:AV->Option R}{r:R}(h:runX E C L fn τ x k K=some r) :
  ∃c y m e st,FunX E G LG fn c τ x k y m e st/\K (.kep (.t τ y) (.t (.int .i64) m))=some r:=by
 unfold runX at h
 split at h
 ·rename_i c hc
  obtain⟨e,st,h1,h2⟩:=Yd hC hL c 0 _ h
  have go:(match JR E st fn.results.toList with
   |some [.t (.int .i64) m]=>match st.row Q6 with
    |some (.box _ (.tup [_,_,.t σ y]))=>match decEq σ τ with
     |.isTrue _=>K (.kep (.t σ y) (.t (.int .i64) m))
     |.isFalse _=>none
    |_=>none
   |_=>none)=some r->(∀id,e≠ .exit id)->∃c y m e st,FunX E G LG fn c τ x k y m e st/\K (.kep (.t τ y) (.t (.int .i64) m))=some r:=λh3 he=>by
   clear h2
   have h2:=h3
   clear h3
   split at h2
   ·rename_i m hm
    split at h2
    ·rename_i σ0 a b σ y hr
     split at h2
     ·rename_i e1 _
      subst e1
      exact⟨c,y,m,e,st,⟨hc,h1,he,hm,_,_,_,hr⟩,h2⟩
     ·cases h2
    ·cases h2
   ·cases h2
  cases e with
  |exit id=>cases h2
  |normal=>exact go h2 (λid h=>by cases h)
  |ret=>exact go h2 (λid h=>by cases h)
 ·cases h
theorem Q3O (hE:EnvOk P E)(hG:GOk P E pv G){f:FuncId}{fn:Func}(hf:P.funcs[f]? =some fn)(hname:(fn.name== "runtime.NumGoroutine")=false){c:Code}{τ:Ty}{x y:den τ}{k m:Int}{e:Ex}{st:St}
  (h:FunX E G LG fn c τ x k y m e st) (hsl:slT τ=true) (hn:2<=fn.ntmps) (hl:∀w0 B,∀p∈QL 0 c,JA P E w0 B pv p.2 (LG p.1)):U3 P E pv f τ x k y m:=by
 intro S T v w cs hst hgl hST hsw htr
 show Qu P _ ((callFunc f #[valOf (.t τ x) cs,.int .i64 k]).run P w)
 rw[Q0e hf h.body hname]
 refine calls_of_wp hf h.body ?_
 have hrow1:(U0 fn.ntmps τ x k).row Q6=some (QK 0 false τ x):=by simp[U0]
 have hrow2:∀id r,(U0 fn.ntmps τ x k).row id=some r->id=Q6/\r=QK 0 false τ x:=λid r h1=>by
  simp only[U0,Qf]at h1
  by_cases e1:id=Q6
  ·rw[decide_eq_true e1]at h1
   simp only[cond_true,Option.some.injEq]at h1
   exact⟨e1,h1.symm⟩
  ·rw[decide_eq_false e1]at h1;cases h1
 have hs0:Sim w ⟨λb=>b<w.heap.size/\¬T b,some (.tree cs T v)⟩ pv S (λid=>if id=Q6 then some (.tree cs T v)else none) (U0 fn.ntmps τ x k) {tmps:=#[valOf (.t τ x) cs,.int .i64 k]++Array.replicate (fn.ntmps - #[valOf (.t τ x) cs,Value.int .i64 k].size) undef,defers:=[]} w:=by
  refine⟨by simp[U0];omega,rfl,λt=>?_,⟨hst,λid r l1 h1 h2=>?_,λid id' l1 l2 b h1 h2 h3 h4 _ _=>?_,λid r l1 g h1 h2 hg=>?_,λl1 hl1=>?_⟩,Blw.refl _ _,λ_ h=>h.1⟩
  ·rw[Array.getD_eq_getD_getElem?]
   match t with
   |0=>
    rw[Array.getElem?_append_left (by simp)]
    exact .inr ⟨cs,.tv Q6 τ _ cs T v hrow1 (by simp) htr.cr.len htr.cr.one,rfl⟩
   |1=>
    rw[Array.getElem?_append_left (by simp)]
    exact .inr ⟨_,.t _ _ _ (.int .i64 k),rfl⟩
   |t+2=>
    have:(#[valOf (.t τ x) cs,Value.int .i64 k]++Array.replicate (fn.ntmps - #[valOf (.t τ x) cs,Value.int .i64 k].size) undef)[t+2]? =(Array.replicate (fn.ntmps - #[valOf (.t τ x) cs,Value.int .i64 k].size) undef)[t]?:=by
     rw[Array.getElem?_append_right (by simp)]
     simp
    rw[this,Q0f]
    exact J6
  ·obtain⟨rfl,rfl⟩:=hrow2 id r h1
   rw[if_pos rfl]at h2
   cases h2
   exact⟨hsl,hsw,0,false,x,rfl,htr,λh=>by cases h⟩
  ·cases hx:(U0 fn.ntmps τ x k).row id with
   |none=>exact absurd hx h3
   |some r=>
    cases hy:(U0 fn.ntmps τ x k).row id' with
    |none=>exact absurd hy h4
    |some r'=>exact(hrow2 id r hx).1.trans (hrow2 id' r' hy).1.symm
  ·obtain⟨rfl,rfl⟩:=hrow2 id r h2
   rw[if_pos rfl]at h1
   have h1:=Option.some.inj h1
   subst h1
   exact⟨λhb=>hb.2 hg,λ_ hS=>hST g hS hg,λhz=>by cases hz⟩
  ·simpa using hl1
 refine Ge hE hG h.run (hl w _) hs0 hgl λS1 ρ a w1 hs hgl1 hg=>?_
 suffices hfin:a.defers=[]/\∃u,(results fn a.tmps).run P w1= .ok u w1/\(∃v',Ending.returned u= .returned v'/\(v'= .int .i64 m/\Blw ⟨λb=>b<w.heap.size/\¬T b,none⟩ w w1/\Jt T v w1/\TR w1 T τ y cs)) by
  cases e with
  |normal=>exact hfin
  |ret=>exact hfin
  |exit id=>exact absurd rfl (h.out id)
 refine⟨hs.defers,?_⟩
 obtain⟨σ,a',b',hr0⟩:=h.row
 have hpin:ρ Q6=some (.tree cs T v):=hs.hs.pin _ rfl
 obtain⟨_,_,hsw1,htr1,_⟩:=Jh hs.hs hr0 hpin
 obtain⟨vs',hvl',hvv,hres⟩:=Q1F hE hs h.vals
 match vs',hvl' with
 |[u],_=>
  exact⟨u,by simpa using hres,u,rfl,Qe (hvv 0 _ u rfl rfl),⟨hs.below.os,hs.below.tape,hs.below.output,hs.below.size,hs.below.block⟩,hsw1,htr1⟩
end
end Go.Gx
end
section
/- What is printed of functions about trees,tied to the machine. -/
namespace Go.Gx
open Go.RowKit
inductive TK where
 |t (τ:Ty)
 |fr (e:Nat) (τ:Ty)
 |tr (τ:Ty)
@[reducible] def TK.X:TK->Type
 |.t τ=>den τ
 |.fr _ τ=>List (den τ)
 |.tr τ=>den τ
def TK.val:(k:TK)->k.X->AV
 |.t τ,x=>.t τ x
 |.fr e τ,x=>.fr e τ x
 |.tr τ,x=>.tr τ x
def TK.view:(k:TK)->AV->Option k.X
 |.t τ,a=>match a with
  |.t σ x=>match decEq σ τ with
   |.isTrue h=>some (h▸x)
   |.isFalse _=>none
  |_=>none
 |.fr e τ,a=>match a with
  |.fr e' σ xs=>match decEq σ τ,Nat.beq e' e with
   |.isTrue h,true=>some (h▸xs)
   |_,_=>none
  |.nil=>match Nat.blt 0 (nc τ)&& !slT τ with
   |true=>some []
   |false=>none
  |_=>none
 |.tr τ,a=>match a with
  |.tr σ x=>match decEq σ τ with
   |.isTrue h=>some (h▸x)
   |.isFalse _=>none
  |.nil=>match τ with
   |.sl _=>some []
   |_=>none
  |_=>none
theorem Q2O {w:World}{pv:Nat->Value}{k:TK}{a:AV}{x:k.X}{v:Value}{T:Nat->Prop}(h:k.view a=some x)(hr:RT1 w pv a v T):RT1 w pv (k.val x) v T:=by
 cases k with
 |t τ=>
  simp only[TK.view]at h
  split at h
  ·split at h
   ·rename_i e _
    subst e
    cases h
    exact hr
   ·cases h
  ·cases h
 |fr e τ=>
  simp only[TK.view]at h
  split at h
  ·split at h
   ·rename_i e1 _ he
    subst e1
    cases h
    have:=Nat.eq_of_beq_eq_true he
    subst this
    exact hr
   ·cases h
  ·split at h
   ·rename_i hp
    simp only[Bool.and_eq_true,Bool.not_eq_true']at hp
    cases h
    cases hr
    exact .frNil e τ _ hp.2 (Nat.le_of_ble_eq_true hp.1)
   ·cases h
  ·cases h
 |tr τ=>
  simp only[TK.view]at h
  split at h
  ·split at h
   ·rename_i e _
    subst e
    cases h
    exact hr
   ·cases h
  ·split at h
   ·cases h
    cases hr
    exact .tr _ _ [.slice none 0 0] _ rfl (.nil _ _)
   ·cases h
  ·cases h
def Q3P (k l:TK):AV->Option (k.X×l.X)
 |.tup [a,b]=>match k.view a,l.view b with
  |some x,some y=>some (x,y)
  |_,_=>none
 |_=>none
def Q3Q (k l m:TK):AV->Option (k.X×l.X×m.X)
 |.tup [a,b,c]=>match k.view a,l.view b,m.view c with
  |some x,some y,some z=>some (x,y,z)
  |_,_,_=>none
 |_=>none
def Kt (r r':AV):Prop:=∀(w:World) (n0:Nat) (O:Nat->Prop) (pv:Nat->Value) (v:Value),RT w n0 O pv r v->RT w n0 O pv r' v
theorem Q6M {k l:TK}{r:AV}{y:k.X×l.X}(h:Q3P k l r=some y):Kt r (.tup [k.val y.1,l.val y.2]):=λw n0 O pv v hr=>by
 unfold Q3P at h
 split at h
 ·rename_i a b
  split at h
  ·rename_i x z hx hz
   cases h
   obtain⟨vs,Ts,h1,h2,h3,h4⟩:=hr
   refine⟨vs,Ts,h1,h2,λi r v hr hv=>?_,h4⟩
   match i,hr with
   |0,hr=>
    cases hr
    obtain⟨k1,k2⟩:=h3 0 a v rfl hv
    exact⟨Q2O hx k1,k2⟩
   |1,hr=>
    cases hr
    obtain⟨k1,k2⟩:=h3 1 b v rfl hv
    exact⟨Q2O hz k1,k2⟩
   |i+2,hr=>simp at hr
  ·cases h
 ·cases h
theorem Q6N {k l m:TK}{r:AV}{y:k.X×l.X×m.X}(h:Q3Q k l m r=some y):Kt r (.tup [k.val y.1,l.val y.2.1,m.val y.2.2]):=λw n0 O pv v hr=>by
 unfold Q3Q at h
 split at h
 ·rename_i a b c
  split at h
  ·rename_i x z u hx hz hu
   cases h
   obtain⟨vs,Ts,h1,h2,h3,h4⟩:=hr
   refine⟨vs,Ts,h1,h2,λi r v hr hv=>?_,h4⟩
   match i,hr with
   |0,hr=>
    cases hr
    obtain⟨k1,k2⟩:=h3 0 a v rfl hv
    exact⟨Q2O hx k1,k2⟩
   |1,hr=>
    cases hr
    obtain⟨k1,k2⟩:=h3 1 b v rfl hv
    exact⟨Q2O hz k1,k2⟩
   |2,hr=>
    cases hr
    obtain⟨k1,k2⟩:=h3 2 c v rfl hv
    exact⟨Q2O hu k1,k2⟩
   |i+3,hr=>simp at hr
  ·cases h
 ·cases h
def UO (τ:Ty)(r:AV):Option (den τ×Int):=match r with
 |.kep (.t σ z) (.t (.int .i64) m)=>(match decEq σ τ with
  |.isTrue h=>some ((h▸z:den τ),m)
  |.isFalse _=>none)
 |_=>none
theorem Q6O {τ:Ty}{r:AV}{y:den τ×Int}(h:UO τ r=some y):r= .kep (.t τ y.1) (.t (.int .i64) y.2):=by
 unfold UO at h
 split at h
 ·split at h
  ·rename_i e _
   subst e
   cases h
   rfl
  ·cases h
 ·cases h
section
variable {P:Program} {E:Env} {pv:Nat->Value}
theorem Q6P (hE:EnvOk P E){t:Nat->Cal->Option CArm}(k:Nat)(hG:∀k',k'<=k->∀cal A,t k' cal=some A->QB P E pv cal A){fn:Func}{c:Code}(hb:fn.body=some c){lt:Nat->Option LArm}(hok:Xr fn=true)(hlt:∀b A,lt b=some A->A.Ok)
  (hS:∀b A,lt b=some A->∀k x,Jp E (QE (t k)) (Qw fn.ntmps k lt) b (Ja fn b) (YF fn.ntmps A.sp x) (A.cont fn.ntmps k)=A.l (k+1) x):∀w0 B,∀p∈QL 0 c,JA P E w0 B pv p.2 (LG (Qw fn.ntmps k lt) p.1):=
 λw0 B p hp st e st' S ρ a w Q h hs hgl hQ=>
  wp_loop_rounds k (Dn hE (C:=λk=>QE (t k)) (L:=λk=>Qw fn.ntmps k lt) (λk=>UL _) (λk=>UN _ _ _) hb hok (n:=k) (λk' hk'=>UM (hG k' (Nat.le_of_lt hk'))) (Q17 hlt) (λk b e st st' _ h=>Q18 (C:=λk=>QE (t k)) hlt hS k b e st st' h) k (Nat.le_refl k) w0 B p hp st e st' S ρ a w Q h hs hgl hQ)
theorem Q5q (hE:EnvOk P E){C:Orc}{L:UU}(hC:Jn C (CG C))(hL:LIs L (LG L))(hG:GOk P E pv (CG C)){f:FuncId}{fn:Func}{c:Code}(hf:P.funcs[f]? =some fn)(hb:fn.body=some c)(hname:(fn.name== "runtime.NumGoroutine")=false)
  (hl:∀w0 B,∀p∈QL 0 c,JA P E w0 B pv p.2 (LG L p.1)) {args:List AV} (hn:args.length<=fn.ntmps) {R:Type} {K:AV->Option R} {y:R} (hrun:runT E C L fn args K=some y) {r':AV} (hw:∀r,K r=some y->Kt r r'):UE P E pv f args r':=by
 unfold runT at hrun
 rw[hb]at hrun
 obtain⟨e,st,rs,as,hfr,hk⟩:=Q5p hC hL hb hrun
 intro S w vs hst hgl hargs
 exact Qu.mono (Q3N hE hG hf hname hfr hn hl S w vs hst hgl hargs) λu w' ⟨hb',hr⟩=>⟨hb',hw _ hk _ _ _ _ _ hr⟩
theorem Q0i (hE:EnvOk P E){t:Cal->Option CArm}(hG:∀cal A,t cal=some A->QB P E pv cal A){f:FuncId}{fn:Func}{c:Code}(hf:P.funcs[f]? =some fn)(hb:fn.body=some c)
  (hname:(fn.name== "runtime.NumGoroutine")=false) {args:List AV} (hn:Nat.ble args.length fn.ntmps=true) {R:Type} {K:AV->Option R} {y:R} (hrun:runT E (QE t) (Qw fn.ntmps 0 fun _=>none) fn args K=some y) {r':AV} (hw:∀r,K r=some y->Kt r r'):UE P E pv f args r':=
 Q5q hE (UL t) (UN _ _ _) (UM hG) hf hb hname (Q0d (λb st e st' h=>by unfold LG Qw at h;cases h) _) (Nat.le_of_ble_eq_true hn) hrun hw
theorem Q1b (hE:EnvOk P E){C:Orc}{L:UU}(hC:Jn C (CG C))(hL:LIs L (LG L))(hG:GOk P E pv (CG C)){f:FuncId}{fn:Func}{c:Code}(hf:P.funcs[f]? =some fn)(hb:fn.body=some c)(hname:(fn.name== "runtime.NumGoroutine")=false)
  (hl:∀w0 B,∀p∈QL 0 c,JA P E w0 B pv p.2 (LG L p.1)) (hn:2<=fn.ntmps) {τ:Ty} (hsl:slT τ=true) {x:den τ} {k:Int} {y:den τ×Int} (hrun:runX E C L fn τ x k (UO τ)=some y):U3 P E pv f τ x k y.1 y.2:=by
 obtain⟨c',z,m,e,st,hfr,hk⟩:=Q6L hC hL hrun
 have hcc:c'=c:=by have:=hfr.body;rw[hb]at this;cases this;rfl
 subst hcc
 have:=Q6O hk
 cases this
 exact Q3O hE hG hf hname hfr hsl hn hl
theorem Q3R (hE:EnvOk P E){t:Cal->Option CArm}(hG:∀cal A,t cal=some A->QB P E pv cal A){f:FuncId}{fn:Func}{c:Code}(hf:P.funcs[f]? =some fn)(hb:fn.body=some c)
  (hname:(fn.name== "runtime.NumGoroutine")=false) (hn:Nat.ble 2 fn.ntmps=true) {τ:Ty} (hsl:slT τ=true) {x:den τ} {k:Int} {y:den τ×Int} (hrun:runX E (QE t) (Qw fn.ntmps 0 fun _=>none) fn τ x k (UO τ)=some y):U3 P E pv f τ x k y.1 y.2:=
 Q1b hE (UL t) (UN _ _ _) (UM hG) hf hb hname (Q0d (λb st e st' h=>by unfold LG Qw at h;cases h) _) (Nat.le_of_ble_eq_true hn) hsl hrun
theorem Q3S (hE:EnvOk P E){t:Nat->Cal->Option CArm}(k:Nat)(hG:∀k',k'<=k->∀cal A,t k' cal=some A->QB P E pv cal A){f:FuncId}{fn:Func}{c:Code}(hf:P.funcs[f]? =some fn)(hb:fn.body=some c)
  (hname:(fn.name== "runtime.NumGoroutine")=false) (hn:Nat.ble 2 fn.ntmps=true) {lt:Nat->Option LArm} (hok:Xr fn=true) (hlt:∀b A,lt b=some A->A.Ok)
  (hS:∀b A,lt b=some A->∀k x,Jp E (QE (t k)) (Qw fn.ntmps k lt) b (Ja fn b) (YF fn.ntmps A.sp x) (A.cont fn.ntmps k)=A.l (k+1) x)
  {τ:Ty} (hsl:slT τ=true) {x:den τ} {k0:Int} {y:den τ×Int} (hrun:runX E (QE (t k)) (Qw fn.ntmps k lt) fn τ x k0 (UO τ)=some y):U3 P E pv f τ x k0 y.1 y.2:=
 Q1b hE (UL _) (UN _ _ _) (UM (hG k (Nat.le_refl k))) hf hb hname (Q6P hE k hG hb hok hlt hS) (Nat.le_of_ble_eq_true hn) hsl hrun
end
end Go.Gx
end
section
/- '==' of dates and abbreviations. -/
namespace Go.Gx
theorem Q4s {P:Program}{w:World}{d:Nat}{xs ys:Array Value}:(Op.eqFields d xs ys []).run P w= .ok true w:=by simp[Op.eqFields]
theorem Up {P:Program}{w:World}{d:Nat}{xs ys:Array Value}{f:Field}{fs:List Field}{a b:Value}{r s:Bool}(hn:f.name≠ "_")(h1:(part f.type xs f.offset).run P w= .ok a w)(h2:(part f.type ys f.offset).run P w= .ok b w)
  (h3:(Op.equalIn d f.type a b).run P w= .ok r w) (h4:(Op.eqFields d xs ys fs).run P w= .ok s w):(Op.eqFields d xs ys (f::fs)).run P w= .ok (r&&s) w:=by
 cases r<;>simp[Op.eqFields,hn,h1,h2,h3,h4]
theorem Jw {P:Program}{E:Env}{w:World}{T:Nat}{τ:Ty}(ht:TyOk P E T τ)(hg:agT τ=false){cs:Array Value}{o:Nat}{v:Value}(hv:cs[o]? =some v):(part T cs o).run P w= .ok v w:=by
 simp[part,YD ht,hg,hv]
theorem Q4t {P:Program}{E:Env}(ht:∀T τ,E.ty T=some τ->TyOk P E T τ){T:Nat}(hT:E.ty T=some .date)(hg:P.eqGuardType P.depth T=false)(hs:P.stoodInHeld T=false)(hn:(P.fieldsOf T).all (fun f=>f.name != "_")=true) :
  P.eqGuardType P.depth T=false/\∀(x y:Date) (w:World),(Op.equalIn 10000 T (.agg #[.int .i64 x.y,.int .i64 x.m,.int .i64 x.d,.bool x.c]) (.agg #[.int .i64 y.y,.int .i64 y.m,.int .i64 y.d,.bool y.c])).run P w= .ok (x.y==y.y&&(x.m==y.m&&(x.d==y.d&&x.c==y.c))) w:=by
 refine⟨hg,λx y w=>?_⟩
 obtain⟨fs,hu,hsz,hf⟩:=(ht T _ hT).und
 have hfo:P.fieldsOf T=fs:=by simp[Program.fieldsOf,hu]
 rw[run_equalIn_agg (P:=P) w 9999 T _ _ (by rw[hfo];exact hu) hs,hfo]
 rw[hfo,Array.all_eq_true']at hn
 have hname:∀f∈fs.toList,f.name≠ "_" :=fun f hm=>by simpa using hn f (by simpa using hm)
 have hget:∀i f,fs.toList[i]? =some f->∃σ,(fty .date)[i]? =some σ/\f.offset=Qy (fty .date) i/\E.ty f.type=some σ:=λi f h=>hf i f (by simpa using h)
 have hlen:fs.toList.length=4:=by simpa[fty]using hsz
 match hl:fs.toList,hlen with
 |[f0,f1,f2,f3],_=>
  rw[hl]at hname hget
  obtain⟨s0,a0,b0,c0⟩:=hget 0 f0 rfl
  obtain⟨s1,a1,b1,c1⟩:=hget 1 f1 rfl
  obtain⟨s2,a2,b2,c2⟩:=hget 2 f2 rfl
  obtain⟨s3,a3,b3,c3⟩:=hget 3 f3 rfl
  cases a0;cases a1;cases a2;cases a3
  have e3:=Up (P:=P) (w:=w) (d:=9999) (xs:=#[.int .i64 x.y,.int .i64 x.m,.int .i64 x.d,.bool x.c]) (ys:=#[.int .i64 y.y,.int .i64 y.m,.int .i64 y.d,.bool y.c]) (hname f3 (by simp)) (Jw (v:=.bool x.c) (ht _ _ c3) rfl (by rw[b3];rfl)) (Jw (v:=.bool y.c) (ht _ _ c3) rfl (by rw[b3];rfl)) (run_equalIn_bool' w 9998 f3.type _ _ (ht _ _ c3).und) Q4s
  have e2:=Up (hname f2 (by simp)) (Jw (v:=.int .i64 x.d) (ht _ _ c2) rfl (by rw[b2];rfl)) (Jw (v:=.int .i64 y.d) (ht _ _ c2) rfl (by rw[b2];rfl)) (run_equalIn_int w 9998 f2.type _ _ _ _ (ht _ _ c2).und) e3
  have e1:=Up (hname f1 (by simp)) (Jw (v:=.int .i64 x.m) (ht _ _ c1) rfl (by rw[b1];rfl)) (Jw (v:=.int .i64 y.m) (ht _ _ c1) rfl (by rw[b1];rfl)) (run_equalIn_int w 9998 f1.type _ _ _ _ (ht _ _ c1).und) e2
  have e0:=Up (hname f0 (by simp)) (Jw (v:=.int .i64 x.y) (ht _ _ c0) rfl (by rw[b0];rfl)) (Jw (v:=.int .i64 y.y) (ht _ _ c0) rfl (by rw[b0];rfl)) (run_equalIn_int w 9998 f0.type _ _ _ _ (ht _ _ c0).und) e1
  rw[e0]
  simp
theorem Q4u {P:Program}{E:Env}(ht:∀T τ,E.ty T=some τ->TyOk P E T τ){T:Nat}(hT:E.ty T=some .abbr)(hg:P.eqGuardType P.depth T=false)(hs:P.stoodInHeld T=false)(hn:(P.fieldsOf T).all (fun f=>f.name != "_")=true) :
  P.eqGuardType P.depth T=false/\∀(x y:Abbr) (w:World),(Op.equalIn 10000 T (.agg #[.string x.word,.string x.short]) (.agg #[.string y.word,.string y.short])).run P w= .ok (Qk x.word y.word&&Qk x.short y.short) w:=by
 refine⟨hg,λx y w=>?_⟩
 obtain⟨fs,hu,hsz,hf⟩:=(ht T _ hT).und
 have hfo:P.fieldsOf T=fs:=by simp[Program.fieldsOf,hu]
 rw[run_equalIn_agg (P:=P) w 9999 T _ _ (by rw[hfo];exact hu) hs,hfo]
 rw[hfo,Array.all_eq_true']at hn
 have hname:∀f∈fs.toList,f.name≠ "_" :=fun f hm=>by simpa using hn f (by simpa using hm)
 have hget:∀i f,fs.toList[i]? =some f->∃σ,(fty .abbr)[i]? =some σ/\f.offset=Qy (fty .abbr) i/\E.ty f.type=some σ:=λi f h=>hf i f (by simpa using h)
 have hlen:fs.toList.length=2:=by simpa[fty]using hsz
 match hl:fs.toList,hlen with
 |[f0,f1],_=>
  rw[hl]at hname hget
  obtain⟨s0,a0,b0,c0⟩:=hget 0 f0 rfl
  obtain⟨s1,a1,b1,c1⟩:=hget 1 f1 rfl
  cases a0;cases a1
  have e1:=Up (P:=P) (w:=w) (d:=9999) (xs:=#[.string x.word,.string x.short]) (ys:=#[.string y.word,.string y.short]) (hname f1 (by simp)) (Jw (v:=.string x.short) (ht _ _ c1) rfl (by rw[b1];rfl)) (Jw (v:=.string y.short) (ht _ _ c1) rfl (by rw[b1];rfl)) (run_equalIn_string w 9998 f1.type _ _ (ht _ _ c1).und) Q4s
  have e0:=Up (hname f0 (by simp)) (Jw (v:=.string x.word) (ht _ _ c0) rfl (by rw[b0];rfl)) (Jw (v:=.string y.word) (ht _ _ c0) rfl (by rw[b0];rfl)) (run_equalIn_string w 9998 f0.type _ _ (ht _ _ c0).und) e1
  rw[e0]
  simp[Qk]
end Go.Gx
end
