/- The interpreter's operations are the machine's: numbers,texts,places,pieces. -/
import Derived.Test.YtlnhmbnbloakmaaGreatDoorMfd1
import Derived.Laws.Strings
import Derived.Laws.Concat
import Derived.Laws.StructEq
import Derived.Laws.Small
import Derived.Laws.Cover1
set_option linter.unusedVariables false
set_option linter.unusedSimpArgs false
set_option maxRecDepth 100000
section
namespace Go.Gx
open Go.RowKit
theorem Uy:∀{vs:List AV} {css:List (List Value)},vs.length=css.length->∀{i:Nat} {b:AV},vs[i]? =some b->∃cs,css[i]? =some cs/\(valsOf vs css)[i]? =some (valOf b cs)
 |[],_,_,i,b,hb=>by simp at hb
 |a::l,[],h,_,_,_=>by simp at h
 |a::l,c::m,h,0,b,hb=>by
  simp only[List.getElem?_cons_zero,Option.some.injEq]at hb
  subst hb
  exact⟨c,rfl,rfl⟩
 |a::l,c::m,h,i+1,b,hb=>by
  obtain⟨cs,h1,h2⟩:=Uy (vs:=l) (css:=m) (by simpa using h) (i:=i) (by simpa using hb)
  exact⟨cs,by simpa using h1,by simpa[valsOf]using h2⟩
theorem GL {lo hi:Option Int}{n a b:Nat}(h:YV lo hi n a b):a<=b/\b<=n/\(lo=none->a=0)/\(hi=none->b=n)/\(∀l,lo=some l->0<=l/\l=(a:Int))/\(∀l,hi=some l->0<=l/\l=(b:Int)):=by
 unfold YV at h
 cases lo<;>cases hi<;>simp only[cut]at h
 ·cases h
  exact⟨Nat.zero_le _,Nat.le_refl _,λ_=>rfl,λ_=>rfl,λl e=>(by cases e),λl e=>(by cases e)⟩
 ·rename_i l
  obtain⟨h1,h⟩:=Q5 h
  obtain⟨h2,h⟩:=Q5 h
  have h1:=of_decide_eq_true h1
  have h2:=of_decide_eq_true h2
  cases h
  exact⟨Nat.zero_le _,by omega,λ_=>rfl,λe=>(by cases e),λl e=>(by cases e),λl e=>by cases e;omega⟩
 ·rename_i l
  obtain⟨h1,h⟩:=Q5 h
  obtain⟨h2,h⟩:=Q5 h
  have h1:=of_decide_eq_true h1
  have h2:=of_decide_eq_true h2
  cases h
  exact⟨by omega,Nat.le_refl _,λe=>(by cases e),λe=>rfl,λl e=>(by cases e;omega),λl e=>by cases e⟩
 ·rename_i l l'
  obtain⟨h1,h⟩:=Q5 h
  obtain⟨h2,h⟩:=Q5 h
  obtain⟨h3,h⟩:=Q5 h
  obtain⟨h4,h⟩:=Q5 h
  have h1:=of_decide_eq_true h1
  have h2:=of_decide_eq_true h2
  have h3:=of_decide_eq_true h3
  have h4:=of_decide_eq_true h4
  cases h
  exact⟨by omega,by omega,λe=>(by cases e),λe=>(by cases e),λl e=>(by cases e;omega),λl e=>(by cases e;omega)⟩
theorem Q6C {α:Type}{lo hi:Option Int}{xs:List α}{a b:Nat}(h:YV lo hi xs.length a b):Jg lo hi xs a b=(xs.take b).drop a:=by
 obtain⟨h1,h2,h3,h4,_,_⟩:=GL h
 cases lo with
 |none=>
  have e:=h3 rfl
  subst e
  cases hi with
  |none=>
   have e:=h4 rfl
   subst e
   simp[Jg]
  |some l=>simp[Jg]
 |some l=>
  cases hi with
  |none=>
   have e:=h4 rfl
   subst e
   simp[Jg]
  |some l'=>simp[Jg]
theorem Uz {P:Program}{w:World}{isSlice:Bool}{lo hi:Option Int}{n cap a b:Nat}(h:YV lo hi n a b)(hc:n<=cap) :
  (Instr.sliceBounds isSlice n cap (lo.map (Value.int .i64)) (hi.map (Value.int .i64)) none).run P w= .ok (a,b,cap) w:=by
 obtain⟨h1,h2,h3,h4,h5,h6⟩:=GL h
 cases lo with
 |none=>
  cases hi with
  |none=>simp[Instr.sliceBounds,h3 rfl,h4 rfl]
  |some l=>
   obtain⟨h7,h8⟩:=h6 l rfl
   have h9:l<=(cap:Int):=by omega
   have e:l.toNat=b:=by omega
   simp[Instr.sliceBounds,Instr.sliceBound,asIntOf,h7,h9,e,h3 rfl]
 |some l=>
  obtain⟨h7,h8⟩:=h5 l rfl
  have e:l.toNat=a:=by omega
  cases hi with
  |none=>
   have h9:l<=(n:Int):=by rw[h8];exact_mod_cast (h4 rfl▸h1)
   simp[Instr.sliceBounds,Instr.sliceBound,asIntOf,h7,h9,e,h4 rfl]
  |some l'=>
   obtain⟨h10,h11⟩:=h6 l' rfl
   have e':l'.toNat=b:=by omega
   have h9:l'<=(cap:Int):=by omega
   have h12:l<=(b:Int):=by omega
   simp[Instr.sliceBounds,Instr.sliceBound,asIntOf,h7,h9,h10,e,e',h12]
theorem GM {S:Nat->Prop}{w:World}{e:Ty}{xs:List (den e)}{A:Option Addr}{c a b:Nat}(h:CR S w (.sl e) xs [.slice A xs.length c]){lo hi:Option Int}(hc:YV lo hi xs.length a b) :
  CR S w (.sl e) (Jg lo hi xs a b) [.slice (if c=a then A else A.map (·.add (a*nc e))) (b-a) (c-a)]:=by
 obtain⟨A',c',cv,e1,h1,h2,h3,h4⟩:=Jn h
 cases e1
 obtain⟨h5,h6,_⟩:=GL hc
 rw[Q6C hc]
 have hl:((xs.take b).drop a).length=b-a:=by simp;omega
 have key:=CR.sl (S:=S) (w:=w) e ((xs.take b).drop a) (if c=a then A else A.map (·.add (a*nc e))) (c-a) (λi=>cv (a+i)) (by omega) (by omega) (λi hi=>?_) (λi hi=>?_)
 ·rw[hl]at key;exact key
 ·have:=h3 (a+i) (by omega)
  simpa using this
 ·obtain⟨g,o,rfl,hS,hv⟩:=h4 (a+i) (by omega)
  refine⟨g,o+a*nc e,?_,hS,λj v hj=>?_⟩
  ·rw[if_neg (by omega)]
   simp[Addr.add_lit]
  ·have:=hv j v hj
   rw[Nat.add_mul]at this
   rw[<-this]
   congr 2
   omega
theorem Q6D {z:Array Value}{n k:Nat}(hk:k<n)(hz:0<z.size):(madeCells z n)[k]? =z[k % z.size]?:=by
 have:k % z.size<z.size:=Nat.mod_lt _ hz
 simp[madeCells,hk,this]
section
variable {P:Program} {E:Env} {w0:World} {B:Old} {pv:Nat->Value} {S:Nat->Prop} {ρ:Nat->Option Loc} {st:St} {a:Act} {w:World} {o:Oper} {id:Nat} {K:Act->World->Prop} {Q:Exit->Act->World->Prop}
variable (hE:EnvOk P E) (hs:Sim w0 B pv S ρ st a w) (hgl:Qr E pv S w) (hd:J9 o st.nt=true)
include hs hgl hd
theorem Q1R {x:Operand}{i:Nat}{vs:List AV}{b:AV}(ho:o.op= .extract x i)(hx:ev E st x= .tup vs)(hb:vs[i]? =some b)(hK:Nx E w0 B pv S ρ st o.dst (quiet b) id K):o.wp P a w K Q:=by
 have h1:=Qj hgl hs x
 rw[hx]at h1
 obtain⟨cs,h',h2⟩:=Qw h1 (by simp)
 cases h' with
 |tup _ css hl hh=>
  obtain⟨c,h3,h4⟩:=Uy hl hb
  refine Q8 hs hgl hd (v:=valOf b c) ?_ (.inr ⟨c,hh i b c hb h3,rfl⟩) hK
  simp only[valOf,isAg,cond_false,List.headD_cons]at h2
  unfold execOp
  simp only[ho,Instr.extract,h2]
  simp[h4,valOf]
include hE in
theorem Q3O {T:TypeId}{x ix:Operand}{s:ByteArray}{k:IntKind}{i:Int}(ho:o.op= .index T x ix)(hT:E.ty T=some .str)(hx:ev E st x= .t .str s)(hi:ev E st ix= .t (.int k) i)(h0:0<=i)(h1:i<(s.size:Int))
  (hK:Nx E w0 B pv S ρ st o.dst (quiet (.t (.int .u8) (bt s i.toNat))) id K):o.wp P a w K Q:=by
 have e1:=Qj hgl hs x
 have e2:=Qj hgl hs ix
 rw[hx]at e1
 rw[hi]at e2
 have hu:P.underlying T=some .string:=(hE.ty _ _ hT).und
 have hlt:i.toNat<s.size:=by omega
 refine Q8 hs hgl hd (v:=.int .u8 (bt s i.toNat)) ?_ (.inr ⟨_,.t _ _ _ (.int _ _),rfl⟩) hK
 unfold execOp
 have hg:s[i.toNat]? =some s[i.toNat]:=getElem?_pos s i.toNat hlt
 have hb:bt s i.toNat=((s[i.toNat]).toNat:Int):=by
  unfold bt
  rw[Array.getD_eq_getD_getElem?,Array.getElem?_eq_getElem (by exact hlt)]
  rfl
 simp[ho,Js e1,Qm e2,Instr.index,asIntOf,run_underlying hu,h0,hg,hb]
include hE in
theorem Q0G {T:TypeId}{x ix:Operand}{n:Nat}{xs:List ByteArray}{i:Int}(ho:o.op= .index T x ix)(hT:E.ty T=some (.arr n .str))(hx:ev E st x= .t (.arr n .str) xs)(hi:ev E st ix= .t (.int .i64) i)(h0:0<=i)(h1:i<(n:Int))
  (hK:Nx E w0 B pv S ρ st o.dst (quiet (.t .str (xs.getD i.toNat ⟨#[]⟩))) id K):o.wp P a w K Q:=by
 have e1:=Qj hgl hs x
 have e2:=Qj hgl hs ix
 rw[hx]at e1
 rw[hi]at e2
 obtain⟨t,hu,hte⟩:=(hE.ty _ _ hT).und
 obtain⟨cs,h3,h4⟩:=Qw e1 (by simp)
 have h3:=KE h3
 cases h3 with
 |arr _ _ _ cv hl hh=>
  have hlt:i.toNat<xs.length:=by omega
  have eg:xs.getD i.toNat (⟨#[]⟩:ByteArray)=xs[i.toNat]:=by simp[List.getD,hlt]
  rw[eg]at hK
  have hcv:∀k,(hk:k<n)->cv k=[.string (xs[k]'(by omega))]:=λk hk=>by
   have:=hh k (by omega)
   generalize cv k=c at this ⊢
   cases this
   rfl
  have hget:((List.range n).flatMap cv)[i.toNat]? =some (.string xs[i.toNat]):=by
   have:∀m,m<=n->(List.range m).flatMap cv=(List.range m).map λk=>.string (xs.getD k ⟨#[]⟩):=λm=>by
    induction m with
    |zero=>simp
    |succ m ih=>
     intro hm
     rw[List.range_succ,List.flatMap_append,List.map_append,ih (by omega)]
     have hm2:m<xs.length:=by omega
     simp[hcv m (by omega),List.getD,hm2]
   rw[this n (Nat.le_refl _)]
   have hn:i.toNat<n:=by omega
   simp[hn,List.getD,hlt]
  have Yw:a.eval x= .agg ((List.range n).flatMap cv).toArray:=by rw[h4];rfl
  have hpt:=KD (w:=w) (S:=S) (ρ:=ρ) (row:=st.row) (pv:=pv) (cur:=(List.range n).flatMap cv) (o:=i.toNat) (hE.ty _ _ hte) (b:=.t .str xs[i.toNat]) (.t _ _) (by
   obtain⟨hb,he⟩:=List.getElem?_eq_some_iff.1 hget
   have:(((List.range n).flatMap cv).drop i.toNat).take (nc .str)=[.string xs[i.toNat]]:=by
    show(((List.range n).flatMap cv).drop i.toNat).take 1=_
    rw[List.take_one,List.head?_drop,hget];rfl
   rw[this]
   exact .t _ _ _ (.str _)) (by
   obtain⟨hb,he⟩:=List.getElem?_eq_some_iff.1 hget
   show i.toNat+1<=_
   omega)
  have hpv:(((List.range n).flatMap cv).drop i.toNat).take (nc .str)=[.string xs[i.toNat]]:=by
   show(((List.range n).flatMap cv).drop i.toNat).take 1=_
   rw[List.take_one,List.head?_drop,hget];rfl
  rw[hpv]at hpt
  refine Q8 hs hgl hd (v:=.string xs[i.toNat]) ?_ (.inr ⟨_,.t _ _ _ (.str _),rfl⟩) hK
  have h1':i<(n:Int):=h1
  have hsz:∀w,(sizeOf t).run P w= .ok 1 w:=λw=>Qz (hE.ty _ _ hte) w
  have hpt':(part t ((List.range n).flatMap cv).toArray i.toNat).run P w= .ok (.string xs[i.toNat]) w:=hpt
  unfold execOp
  simp[ho,Yw,Qm e2,Instr.index,asIntOf,run_underlying hu,h0,h1',hsz,hpt']
include hE in
theorem GN {T:TypeId}{x ix:Operand}{i:Int}{u:Upd}(ho:o.op= .indexAddr T x ix)(hi:ev E st ix= .t (.int .i64) i)(h0:0<=i)
  (h:(∃τ,∃xs:List (den τ),E.ty T=some (.sl τ)/\ev E st x= .t (.sl τ) xs/\i<(xs.length:Int)/\u=quiet (.tp (.t τ (xs.getD i.toNat (Q9 τ)))))\/
    (∃j e τ,∃xs:List (den τ),∃fz app,E.ty T=some (.sl τ)/\ev E st x= .own j/\st.row j=some (.flat e τ xs fz app)/\i<(xs.length:Int)/\u=quiet (.ep j (some i.toNat) []))\/
    (∃n τ,∃xs:List (den τ),E.ty T=some (.arr n τ)/\ev E st x= .tp (.t (.arr n τ) xs)/\1<n/\i<(n:Int)/\u=quiet (.tp (.t τ (xs.getD i.toNat (Q9 τ))))))
  (hK:Nx E w0 B pv S ρ st o.dst u id K):o.wp P a w K Q:=by
 have e2:=Qj hgl hs ix
 rw[hi]at e2
 have e1:=Qj hgl hs x
 rcases h with⟨τ,xs,hT,hx,h1,rfl⟩|⟨j,e,τ,xs,fz,app,hT,hx,hr,h1,rfl⟩|⟨n,τ,xs,hT,hx,hn,h1,rfl⟩
 ·rw[hx]at e1
  obtain⟨t,hu,_,hte,_⟩:=(hE.ty _ _ hT).und
  obtain⟨A,c,cv,e3,h2,h3,h4,h5⟩:=Jn (Q2E e1)
  have hlt:i.toNat<xs.length:=by omega
  obtain⟨g,off,rfl,hS,hv⟩:=h5 _ hlt
  have eg:xs.getD i.toNat (Q9 τ)=xs[i.toNat]:=by simp[List.getD,hlt]
  rw[eg]at hK
  refine Q8 hs hgl hd (v:=.pointer (some ⟨g,off+i.toNat*nc τ,none⟩)) ?_ (.inr ⟨_,.tp τ _ _ g _ (h4 _ hlt) hS (λj v hj=>by rw[Nat.add_assoc];exact hv j v hj),rfl⟩) hK
  unfold execOp
  simp[ho,e3,Qm e2,Instr.indexAt,asIntOf,run_underlying hu,h0,h1,Qz (hE.ty _ _ hte),Addr.add_lit]
 ·rw[hx]at e1
  obtain⟨t,hu,_,hte,_⟩:=(hE.ty _ _ hT).und
  have hlt:i.toNat<xs.length:=by omega
  rcases Yv e1 hr with⟨g,c,hl,e3⟩|⟨_,rfl,_⟩
  ·refine Q8 hs hgl hd (v:=.pointer (some ⟨g,i.toNat*nc τ,none⟩)) ?_ (.inr ⟨_,.epF j e τ τ xs fz app g c i.toNat [] hr hl hlt rfl,by simp[valOf,isAg,Qk]⟩) hK
   unfold execOp
   simp[ho,e3,Qm e2,Instr.indexAt,asIntOf,run_underlying hu,h0,h1,Qz (hE.ty _ _ hte),Addr.add_lit]
  ·simp at hlt
 ·rw[hx]at e1
  obtain⟨t,hu,hte⟩:=(hE.ty _ _ hT).und
  obtain⟨τ',y',cs,g,off,e,h3,h4,h5,h6⟩:=Q2F e1
  cases e
  cases h4 with
  |arr _ _ _ cv hl hh=>
   have hlt:i.toNat<xs.length:=by omega
   have eg:xs.getD i.toNat (Q9 τ)=xs[i.toNat]:=by simp[List.getD,hlt]
   rw[eg]at hK
   have hcl:∀k,k<n->(cv k).length=nc τ:=λk hk=>(hh k (by omega)).len
   have hseg:∀j v,(cv i.toNat)[j]? =some v->((List.range n).flatMap cv)[i.toNat*nc τ+j]? =some v:=by
    intro j v hj
    have hj':j<nc τ:=by have:=(List.getElem?_eq_some_iff.1 hj).1;rw[hcl _ (by omega)]at this;exact this
    have split:∀m,m<=n->((List.range m).flatMap cv).length=m*nc τ:=λm=>by
     induction m with
     |zero=>simp
     |succ m ih=>
      intro hm
      rw[List.range_succ,List.flatMap_append,List.length_append,ih (by omega)]
      simp[hcl m (by omega),Nat.succ_mul]
    have e1:n=i.toNat+(1+(n-i.toNat-1)):=by omega
    rw[e1,List.range_add,List.flatMap_append,List.getElem?_append_right (by rw[split _ (by omega)];omega),split _ (by omega),Nat.add_sub_cancel_left,
     List.range_add,List.map_append,List.flatMap_append]
    simp only[List.range_one,List.map_cons,List.map_nil,List.flatMap_cons,List.flatMap_nil,List.append_nil,Nat.add_zero]
    rw[List.getElem?_append_left (by rw[hcl _ (by omega)];exact hj')]
    exact hj
   refine Q8 hs hgl hd (v:=.pointer (some ⟨g,off+i.toNat*nc τ,none⟩)) ?_ (.inr ⟨_,.tp τ _ _ g _ (hh _ hlt) h5 (λj v hj=>by rw[Nat.add_assoc];exact h6 _ v (hseg j v hj)),rfl⟩) hK
   unfold execOp
   have h1':i<(n:Int):=h1
   simp[ho,h3,Qm e2,Instr.indexAt,Instr.sureAddr,asIntOf,run_underlying hu,h0,h1',Qz (hE.ty _ _ hte),Addr.add_lit]
theorem Q3P {op:BinOp}{T:TypeId}{x y:Operand}{z:Nat}{b:AV}(ho:o.op= .binOp op T x y z)(hb:Q5b op (ev E st x) (ev E st y) some=some b)(hK:Nx E w0 B pv S ρ st o.dst (quiet b) id K):o.wp P a w K Q:=by
 have e1:=Qj hgl hs x
 have e2:=Qj hgl hs y
 unfold Q5b at hb
 split at hb
 ·rename_i k m k' n hx hy
  rw[hx]at e1
  rw[hy]at e2
  have go:∀{τ:Ty} {c:den τ} {v:Value},CR S w τ c [v]->isAg (.t τ c)=false->b= .t τ c->(execOp a.eval o).run P w= .ok (.value v) w->o.wp P a w K Q:=λhc hg e hr=>by
   subst e
   exact Q8 hs hgl hd hr (.inr ⟨_,.t _ _ _ hc,by simp[valOf,hg]⟩) hK
  split at hb
  ·obtain⟨h1,hb⟩:=Q5 hb
   have h1:¬(show Int from n)<0:=Int.not_lt.2 (of_decide_eq_true h1)
   cases hb
   exact go (.int _ _) rfl rfl (by unfold execOp;simp[ho,Qm e1,Qm e2,eqGuard_at_int,binOp,Op.shift,h1])
  split at hb
  ·rename_i e _
   subst e
   cases op<;>simp only[Q67]at hb
   case add=>cases hb;exact go (.int _ _) rfl rfl (by unfold execOp;simp[ho,Qm e1,Qm e2,eqGuard_at_int,binOp_add,Op.intArith])
   case sub=>cases hb;exact go (.int _ _) rfl rfl (by unfold execOp;simp[ho,Qm e1,Qm e2,eqGuard_at_int,binOp_sub,Op.intArith])
   case mul=>cases hb;exact go (.int _ _) rfl rfl (by unfold execOp;simp[ho,Qm e1,Qm e2,eqGuard_at_int,binOp_mul,Op.intArith])
   case quo=>
    cases hz:(n==0)with
    |true=>rw[hz]at hb;cases hb
    |false=>
     rw[hz]at hb
     cases hb
     have hz:n≠0:=by simpa using hz
     exact go (.int _ _) rfl rfl (by unfold execOp;simp[ho,Qm e1,Qm e2,eqGuard_at_int,binOp_quo,Op.intDiv,hz])
   case rem=>
    cases hz:(n==0)with
    |true=>rw[hz]at hb;cases hb
    |false=>
     rw[hz]at hb
     cases hb
     have hz:n≠0:=by simpa using hz
     exact go (.int _ _) rfl rfl (by unfold execOp;simp[ho,Qm e1,Qm e2,eqGuard_at_int,binOp_rem,Op.intDiv,hz])
   case eql=>cases hb;exact go (.bool _) rfl rfl (by unfold execOp;simp[ho,Qm e1,Qm e2,eqGuard_at_int,binOp_eql])
   case neq=>cases hb;exact go (.bool _) rfl rfl (by unfold execOp;simp[ho,Qm e1,Qm e2,eqGuard_at_int,binOp_neq])
   case lss=>cases hb;exact go (.bool _) rfl rfl (by unfold execOp;simp[ho,Qm e1,Qm e2,eqGuard_at_int,binOp_lss])
   case leq=>cases hb;exact go (.bool _) rfl rfl (by unfold execOp;simp[ho,Qm e1,Qm e2,eqGuard_at_int,binOp_leq])
   case gtr=>cases hb;exact go (.bool _) rfl rfl (by unfold execOp;simp[ho,Qm e1,Qm e2,eqGuard_at_int,binOp_gtr])
   case geq=>cases hb;exact go (.bool _) rfl rfl (by unfold execOp;simp[ho,Qm e1,Qm e2,eqGuard_at_int,binOp_geq])
   case and=>cases hb;exact go (.int _ _) rfl rfl (by unfold execOp;simp[ho,Qm e1,Qm e2,eqGuard_at_int,binOp,Op.intBits])
   all_goals cases hb
  ·cases hb
 ·rename_i s t hx hy
  rw[hx]at e1
  rw[hy]at e2
  have go:∀{τ:Ty} {c:den τ} {v:Value},CR S w τ c [v]->isAg (.t τ c)=false->b= .t τ c->(execOp a.eval o).run P w= .ok (.value v) w->o.wp P a w K Q:=λhc hg e hr=>by
   subst e
   exact Q8 hs hgl hd hr (.inr ⟨_,.t _ _ _ hc,by simp[valOf,hg]⟩) hK
  cases op<;>simp only[Q68]at hb
  case add=>
   obtain⟨h1,hb⟩:=Q5 hb
   cases hb
   exact go (.str _) rfl rfl (by unfold execOp;simp[ho,Js e1,Js e2,eqGuard_at_string,binOp_string_add,run_string_add_sum w s t (Nat.le_of_ble_eq_true h1)])
  case eql=>cases hb;exact go (.bool _) rfl rfl (by unfold execOp;simp[ho,Js e1,Js e2,eqGuard_at_string,binOp_string_eql,Ql])
  case neq=>cases hb;exact go (.bool _) rfl rfl (by unfold execOp;simp[ho,Js e1,Js e2,eqGuard_at_string,binOp_string_neq,Ql])
  case lss=>cases hb;exact go (.bool _) rfl rfl (by unfold execOp;simp[ho,Js e1,Js e2,eqGuard_at_string,binOp_string_lss,ltS])
  case leq=>cases hb;exact go (.bool _) rfl rfl (by unfold execOp;simp[ho,Js e1,Js e2,eqGuard_at_string,binOp,Op.stringOp,ltS,Ql])
  case gtr=>cases hb;exact go (.bool _) rfl rfl (by unfold execOp;simp[ho,Js e1,Js e2,eqGuard_at_string,binOp,Op.stringOp,ltS,Ql])
  case geq=>cases hb;exact go (.bool _) rfl rfl (by unfold execOp;simp[ho,Js e1,Js e2,eqGuard_at_string,binOp,Op.stringOp,ltS,Ql])
  all_goals cases hb
 ·cases hb
include hE in
theorem Q5r {op:BinOp}{T:TypeId}{x y:Operand}{z:Nat}{b:AV}(ho:o.op= .binOp op T x y z)(hb:Q3x op (E.ty T) (ev E st x) (ev E st y) some=some b)(hK:Nx E w0 B pv S ρ st o.dst (quiet b) id K):o.wp P a w K Q:=by
 have e1:=Qj hgl hs x
 have e2:=Qj hgl hs y
 unfold Q3x at hb
 split at hb
 ·rename_i p q hT hx hy
  rw[hx]at e1
  rw[hy]at e2
  have hu:P.underlying T=some .bool:=(hE.ty _ _ hT).und
  have hq:=run_eql_bool (P:=P) (w:=w) T p q hu
  have hn:(binOp .neq T (.bool p) (.bool q)).run P w= .ok (.bool (!(p==q))) w:=by
   simp[binOp,run_equal_bool w T p q hu]
  cases op<;>simp only at hb
  case eql=>cases hb;exact Q8 hs hgl hd (v:=.bool (p==q)) (by unfold execOp;simp only[ho,Yy e1,Yy e2,eqGuard_at_bool,Sem.run_bind,Sem.run_pure,Result.andThen_ok,hq]) (.inr ⟨_,.t _ _ _ (.bool _),rfl⟩) hK
  case neq=>cases hb;exact Q8 hs hgl hd (v:=.bool (!(p==q))) (by unfold execOp;simp only[ho,Yy e1,Yy e2,eqGuard_at_bool,Sem.run_bind,Sem.run_pure,Result.andThen_ok,hn]) (.inr ⟨_,.t _ _ _ (.bool _),rfl⟩) hK
  all_goals cases hb
 ·rename_i p q hT hx hy
  rw[hx]at e1
  rw[hy]at e2
  obtain⟨hg,heq⟩:=hE.eqDate T hT
  have f:∀{d:Date} {v:Value},VR S w ρ st.row pv (.t .date d) v->v= .agg #[.int .i64 d.y,.int .i64 d.m,.int .i64 d.d,.bool d.c]:=λh=>by
   obtain⟨cs,h',rfl⟩:=Qw h (by simp)
   rw[Q1I (KE h')];rfl
  have hq:=run_eql_struct (P:=P) (w:=w) T #[.int .i64 p.y,.int .i64 p.m,.int .i64 p.d,.bool p.c] #[.int .i64 q.y,.int .i64 q.m,.int .i64 q.d,.bool q.c]
  have hn:=run_neq_struct (P:=P) (w:=w) T #[.int .i64 p.y,.int .i64 p.m,.int .i64 p.d,.bool p.c] #[.int .i64 q.y,.int .i64 q.m,.int .i64 q.d,.bool q.c]
  rw[heq p q w]at hq hn
  have hgd:∀op,(eqGuard op T x y (.agg #[.int .i64 p.y,.int .i64 p.m,.int .i64 p.d,.bool p.c]) (.agg #[.int .i64 q.y,.int .i64 q.m,.int .i64 q.d,.bool q.c])).run P w= .ok () w:=λop=>run_eqGuard_agg (P:=P) (w:=w) op T x y _ _ hg
  cases op<;>simp only at hb
  case eql=>cases hb;exact Q8 hs hgl hd (v:=.bool _) (by unfold execOp;simp only[ho,f e1,f e2,hgd,Sem.run_bind,Sem.run_pure,Result.andThen_ok,hq]) (.inr ⟨_,.t _ _ _ (.bool _),rfl⟩) hK
  case neq=>cases hb;exact Q8 hs hgl hd (v:=.bool _) (by unfold execOp;simp only[ho,f e1,f e2,hgd,Sem.run_bind,Sem.run_pure,Result.andThen_ok,hn]) (.inr ⟨_,.t _ _ _ (.bool _),rfl⟩) hK
  all_goals cases hb
 ·rename_i p q hT hx hy
  rw[hx]at e1
  rw[hy]at e2
  obtain⟨hg,heq⟩:=hE.eqAbbr T hT
  have f:∀{d:Abbr} {v:Value},VR S w ρ st.row pv (.t .abbr d) v->v= .agg #[.string d.word,.string d.short]:=λh=>by
   obtain⟨cs,h',rfl⟩:=Qw h (by simp)
   rw[Q4y (KE h')];rfl
  have hq:=run_eql_struct (P:=P) (w:=w) T #[.string p.word,.string p.short] #[.string q.word,.string q.short]
  have hn:=run_neq_struct (P:=P) (w:=w) T #[.string p.word,.string p.short] #[.string q.word,.string q.short]
  rw[heq p q w]at hq hn
  have hgd:∀op,(eqGuard op T x y (.agg #[.string p.word,.string p.short]) (.agg #[.string q.word,.string q.short])).run P w= .ok () w:=λop=>run_eqGuard_agg (P:=P) (w:=w) op T x y _ _ hg
  cases op<;>simp only at hb
  case eql=>cases hb;exact Q8 hs hgl hd (v:=.bool _) (by unfold execOp;simp only[ho,f e1,f e2,hgd,Sem.run_bind,Sem.run_pure,Result.andThen_ok,hq]) (.inr ⟨_,.t _ _ _ (.bool _),rfl⟩) hK
  case neq=>cases hb;exact Q8 hs hgl hd (v:=.bool _) (by unfold execOp;simp only[ho,f e1,f e2,hgd,Sem.run_bind,Sem.run_pure,Result.andThen_ok,hn]) (.inr ⟨_,.t _ _ _ (.bool _),rfl⟩) hK
  all_goals cases hb
 ·exact Q3P hs hgl hd ho hb hK
theorem Q5s {op:UnOp}{c:Nat}{x:Operand}{b:AV}(ho:o.op= .unOp op c x)(hb:unA op (ev E st x) some=some b)(hK:Nx E w0 B pv S ρ st o.dst (quiet b) id K):o.wp P a w K Q:=by
 have e1:=Qj hgl hs x
 unfold unA at hb
 split at hb
 ·rename_i v hx
  rw[hx]at e1
  cases hb
  exact Q8 hs hgl hd (by unfold execOp;simp[ho,Yy e1,Op.unary];rfl) (.inr ⟨_,.t _ _ _ (.bool _),rfl⟩) hK
 ·rename_i k n hx
  rw[hx]at e1
  cases hb
  exact Q8 hs hgl hd (by unfold execOp;simp[ho,Qm e1,Op.unary,Op.intArith];rfl) (.inr ⟨_,.t _ _ _ (.int _ _),by simp[valOf,isAg,agT]⟩) hK
 ·cases hb
end
end Go.Gx
end
section
/- The interpreter's operations are the machine's: pieces,conversions,rows made,writes. -/
namespace Go.Gx
open Go.RowKit
theorem below_setRow {B:Old}{w0 w:World}(h:Blw B w0 w){g:Nat}(hg:¬B g)(cs:Array Value):Blw B w0 (w.setRow g cs):=
 h.trans ⟨rfl,rfl,rfl,by simp[World.setRow],λk hk=>setRow_other w g k cs (by rintro rfl;exact hg hk)⟩
theorem KG {w:World}{S:Nat->Prop}{ρ:Nat->Option Loc}{row:Nat->Option Row}{pv:Nat->Value}{ev:Operand->AV}{ρv:Operand->Value}(hev:∀x,VR S w ρ row pv (ev x) (ρv x)){x:Option Operand}{l:Option Int}(h:evO ev x=some l):x.map ρv=l.map (Value.int .i64):=by
 cases x with
 |none=>simp only[evO,Option.some.injEq]at h;subst h;rfl
 |some x=>
  simp only[evO]at h
  split at h
  ·rename_i n hx
   simp only[Option.some.injEq]at h
   subst h
   have:=hev x
   rw[hx]at this
   simp[Qm this]
  ·cases h
section
variable {P:Program} {E:Env} {w0:World} {B:Old} {pv:Nat->Value} {S:Nat->Prop} {ρ:Nat->Option Loc} {st:St} {a:Act} {w:World} {o:Oper} {id:Nat} {K:Act->World->Prop} {Q:Exit->Act->World->Prop}
variable (hE:EnvOk P E) (hs:Sim w0 B pv S ρ st a w) (hgl:Qr E pv S w) (hd:J9 o st.nt=true)
include hs hgl hd
omit hd hgl in
theorem Q87 {j e:Nat}{τ:Ty}{xs:List (den τ)}{fz app:Bool}(hr:st.row j=some (.flat e τ xs fz app)){ids:List Nat}(hj:j∈ids){v:Value}(hv:VR S w ρ st.row pv (.own j) v) :
  ∃A c,v= .slice A xs.length c/\CR (Y4 S ρ st.row ids) w (.sl τ) xs [v]:=by
 rcases Yv hv hr with⟨g,c,hl,rfl⟩|⟨hl,rfl,rfl⟩
 ·exact⟨_,_,rfl,XV hs.hs (λ_ h=>.inl h) hr hl (.inr ⟨j,hj,_,c,hr,rfl,hl⟩)⟩
 ·exact⟨none,0,rfl,Jr _ _ _⟩
theorem Q8P {ids:List Nat}{b:AV}{v:Value}(hrun:(execOp a.eval o).run P w= .ok (.value v) w)
  (hv:VR (Y4 S ρ st.row ids) w ρ (st.freeze ids).row pv b v) (hK:Nx E w0 B pv S ρ st o.dst ⟨b,[],ids,none,none⟩ id K):o.wp P a w K Q:=by
 refine Oper.wp_value hrun (hK _ ρ _ w ((hs.frzs ids).put (st:=st.freeze ids) ?_ hv) (hgl.mono (λ_ h=>.inl h) (λ_ _=>rfl)) (JR hs _) (λ_ h _=>h))
 rw[(QL ids st).2]
 exact QK hd
include hE in
theorem Q3Q {dr:Bool}{T:TypeId}{x:Operand}{lo hi:Option Operand}{l h:Option Int}{u:Upd}(ho:o.op= .slice T x lo hi none)(hl:evO (ev E st) lo=some l)(hh:evO (ev E st) hi=some h)
  (hx:(∃s a b,E.ty T=some .str/\ev E st x= .t .str s/\YV l h s.size a b/\u=quiet (.t .str (s.extract a b)))\/
    (∃τ,∃xs:List (den τ),∃a b,E.ty T=some (.sl τ)/\ev E st x= .t (.sl τ) xs/\YV l h xs.length a b/\u=quiet (.t (.sl τ) (Jg l h xs a b)))\/
    (dr=false/\∃j e τ,∃xs:List (den τ),∃fz app a b,E.ty T=some (.sl τ)/\ev E st x= .own j/\st.row j=some (.flat e τ xs fz app)/\YV l h xs.length a b/\u=⟨.t (.sl τ) (Jg l h xs a b),[],[j],none,none⟩)\/
    (∃n τ,∃xs:List (den τ),l=none/\h=none/\ev E st x= .tp (.t (.arr n τ) xs)/\E.ty T=some (.arr n τ)/\n<=9223372036854775807/\u=quiet (.t (.sl τ) xs))\/
    (∃j e τ,∃xs:List (den τ),∃app a b,E.ty T=some (.sl τ)/\ev E st x= .own j/\st.row j=some (.flat e τ xs true app)/\YV l h xs.length a b/\u=quiet (.t (.sl τ) (Jg l h xs a b))))
  (hK:Nx E w0 B pv S ρ st o.dst u id K):o.wp P a w K Q:=by
 have hev:=Qj hgl hs
 have e1:=hev x
 have el:=KG hev hl
 have eh:=KG hev hh
 have runSl:∀{τ:Ty} {A:Option Addr} {n c m k:Nat},E.ty T=some (.sl τ)->a.eval x= .slice A n c->YV l h n m k->n<=c->(execOp a.eval o).run P w= .ok (.value (.slice (if c=m then A else A.map (·.add (m*nc τ))) (k-m) (c-m))) w:=by
  intro τ A n c m k hT hv hc hn
  obtain⟨t,hu,_,hte,_⟩:=(hE.ty _ _ hT).und
  unfold execOp
  simp only[ho,Instr.sliceAt,Sem.run_bind,run_underlying hu,Result.andThen_ok,Instr.slice,hv,el,eh,Option.map_none,Uz hc hn,Qz (hE.ty _ _ hte),Sem.run_pure]
 rcases hx with⟨s,m,k,hT,hx,hc,rfl⟩|⟨τ,xs,m,k,hT,hx,hc,rfl⟩|⟨_,j,e,τ,xs,fz,app,m,k,hT,hx,hr,hc,rfl⟩|⟨n,τ,xs,rfl,rfl,hx,hT,hn,rfl⟩|⟨j,e,τ,xs,app,m,k,hT,hx,hr,hc,rfl⟩
 rotate_left 4
 ·rw[hx]at e1
  have hcr:∃A c,a.eval x= .slice A xs.length c/\CR S w (.sl τ) xs [a.eval x]:=by
   rcases Yv e1 hr with⟨g,c,hl,h9⟩|⟨hl,h9,h8⟩
   ·rw[h9]
    exact⟨_,_,rfl,XV hs.hs (λ_ h=>h) hr hl ((hs.hs.apart j _ g c hl hr).2.2 rfl)⟩
   ·subst h9
    rw[h8]
    exact⟨none,0,rfl,Jr _ _ _⟩
  obtain⟨A,c,e3,hcr⟩:=hcr
  rw[e3]at hcr
  obtain⟨_,_,_,e4,h2,_,_,_⟩:=Jn hcr
  cases e4
  exact Q8 hs hgl hd (runSl hT e3 hc h2) (.inr ⟨_,.t _ _ _ (GM hcr hc),rfl⟩) hK
 ·rw[hx]at e1
  have hu:P.underlying T=some .string:=(hE.ty _ _ hT).und
  refine Q8 hs hgl hd (v:=.string (s.extract m k)) ?_ (.inr ⟨_,.t _ _ _ (.str _),rfl⟩) hK
  unfold execOp
  simp only[ho,Instr.sliceAt,Sem.run_bind,run_underlying hu,Result.andThen_ok,Instr.slice,Js e1,el,eh,Option.map_none,Sem.run_pure]
  have hb:=Uz (P:=P) (w:=w) (isSlice:=false) hc (Nat.le_refl _)
  simp[hb]
 ·rw[hx]at e1
  have hcr:=Q2E e1
  obtain⟨A,c,cv,e3,h2,h3,h4,h5⟩:=Jn hcr
  rw[e3]at hcr
  exact Q8 hs hgl hd (runSl hT e3 hc h2) (.inr ⟨_,.t _ _ _ (GM hcr hc),rfl⟩) hK
 ·rw[hx]at e1
  obtain⟨A,c,e3,hcr⟩:=Q87 hs hr (ids:=[j]) List.mem_cons_self e1
  rw[e3]at hcr
  obtain⟨_,_,_,e4,h2,_,_,_⟩:=Jn hcr
  cases e4
  exact Q8P hs hgl hd (runSl hT e3 hc h2) (.inr ⟨_,.t _ _ _ (GM hcr hc),rfl⟩) hK
 ·rw[hx]at e1
  obtain⟨t,hu,hte⟩:=(hE.ty _ _ hT).und
  obtain⟨τ',y',cs,g,off,e,h3,h4,h5,h6⟩:=Q2F e1
  cases e
  cases h4 with
  |arr _ _ _ cv hl' hh'=>
   have hlt:=hl'
   refine Q8 hs hgl hd (v:=.slice (some ⟨g,off,none⟩) xs.length xs.length) ?_ (.inr ⟨_,.t _ _ _ (.sl τ xs _ _ cv (Nat.le_refl _) (by simp only[maxLen];omega) hh' λi hi=>⟨g,off,rfl,h5,λj v hj=>?_⟩),rfl⟩) hK
   ·unfold execOp
    have hb:=Uz (P:=P) (w:=w) (isSlice:=false) (lo:=none) (hi:=none) (n:=n) (cap:=n) (a:=0) (b:=n) rfl (Nat.le_refl _)
    simp only[Option.map_none]at hb el eh
    simp only[ho,Instr.sliceAt,Sem.run_bind,run_underlying hu,Result.andThen_ok,h3,Instr.sureAddr,Sem.run_pure,el,eh,Option.map_none,hb,Qz (hE.ty _ _ hte),Nat.zero_mul,Addr.add_zero',Nat.sub_zero,hl']
    simp
   ·refine h6 _ v ?_
    have hcl:∀k,k<n->(cv k).length=nc τ:=λk hk=>(hh' k (by omega)).len
    have hj':j<nc τ:=by have:=(List.getElem?_eq_some_iff.1 hj).1;rw[hcl _ (by omega)]at this;exact this
    have split:∀m,m<=n->((List.range m).flatMap cv).length=m*nc τ:=λm=>by
     induction m with
     |zero=>simp
     |succ m ih=>
      intro hm
      rw[List.range_succ,List.flatMap_append,List.length_append,ih (by omega)]
      simp[hcl m (by omega),Nat.succ_mul]
    have e1:n=i+(1+(n-i-1)):=by omega
    rw[e1,List.range_add,List.flatMap_append,List.getElem?_append_right (by rw[split _ (by omega)];omega),split _ (by omega),Nat.add_sub_cancel_left,
     List.range_add,List.map_append,List.flatMap_append]
    simp only[List.range_one,List.map_cons,List.map_nil,List.flatMap_cons,List.flatMap_nil,List.append_nil,Nat.add_zero]
    rw[List.getElem?_append_left (by rw[hcl _ (by omega)];exact hj')]
    exact hj
include hE in
theorem GO {T:TypeId}{τ:Ty}{l c:Operand}{n:Int}(hid:ρ id=none)(ho:o.op= .makeSlice T l c)(hT:E.ty T=some (.sl τ))(hl:ev E st l= .t (.int .i64) n)(hc:ev E st c= .t (.int .i64) n)(h0:0<=n)(hb:n.toNat*nb τ<=140737488355328)
  (hK:Nx E w0 B pv S ρ st o.dst (makes (.own id) [(id,.flat (E.el T) τ (List.replicate n.toNat (Q9 τ)) false true)]) id K):o.wp P a w K Q:=by
 have e1:=Qj hgl hs l
 have e2:=Qj hgl hs c
 rw[hl]at e1
 rw[hc]at e2
 obtain⟨t,hu,het,hte,hpos,hnb⟩:=(hE.ty _ _ hT).und
 obtain⟨i,hi,hsz,hby,hz⟩:=(hE.ty _ _ hte).info
 have hn:n.toNat<=140737488355328:=Nat.le_trans (Nat.le_mul_of_pos_right _ hnb) hb
 have hbz:(i.bytes:Int)*n<=281474976710656:=by
  have h1:((n.toNat*nb τ:Nat):Int)<=((140737488355328:Nat):Int):=Int.ofNat_le.2 hb
  rw[hby,Int.mul_comm]
  rw[Int.natCast_mul,Int.toNat_of_nonneg h0]at h1
  omega
 have hr:=run_make (P:=P) w T t i _ hu hi hz .i64 .i64 n n h0 (Int.le_refl _) hbz (by omega)
 rw[hsz]at hr
 have hzc:(valOf (.t τ (Q9 τ)) (zc τ)).cells.toList=zc τ:=J7 (S:=S) (w:=w) (ρ:=ρ) (row:=st.row) (pv:=pv) (.t τ (Q9 τ)) (.t τ _ _ (Jl S w τ))
 have hzs:(valOf (.t τ (Q9 τ)) (zc τ)).cells.size=nc τ:=by rw[<-Array.length_toList,hzc];exact(Jl S w τ).len
 refine Q1P (cur:=madeCells (valOf (.t τ (Q9 τ)) (zc τ)).cells (n.toNat*nc τ)) (T:=t) (c:=n.toNat) hs hgl hd hid rfl (v:=.slice (some ⟨w.heap.size,0,none⟩) n.toNat n.toNat) (by unfold execOp;simp only[ho,Qm e1,Qm e2,Sem.run_bind,hr,Result.andThen_ok,Sem.run_pure]) ?_ ?_ hK
 ·intro ρ' row' _
  rw[het]
  refine⟨_,_,heap_alloc_new w _,?_,?_,?_,λ_=>rfl,.inl (Nat.le_refl _),hpos,λk hk=>⟨zc τ,?_,λj v hj=>?_⟩⟩
  ·simp[madeCells]
  ·simp
  ·simp only[maxLen];omega
  ·simp only[List.getElem_replicate];exact Jl _ _ τ
  ·simp only[List.length_replicate]at hk
   have hj':j<nc τ:=by have:=(List.getElem?_eq_some_iff.1 hj).1;rw[(Jl S w τ).len]at this;exact this
   have hlt:k*nc τ+j<n.toNat*nc τ:=by
    have:(k+1)*nc τ<=n.toNat*nc τ:=Nat.mul_le_mul_right _ hk
    rw[Nat.succ_mul]at this
    omega
   rw[Q6D hlt (by omega),hzs,Nat.mul_comm k,Nat.mul_add_mod,Nat.mod_eq_of_lt hj',<-Array.getElem?_toList,hzc]
   exact hj
 ·intro w' ρ' row' h1 h2
  refine .inr ⟨_,.own id _ τ _ false true w.heap.size n.toNat h2 h1,?_⟩
  simp[valOf,isAg]
end
end Go.Gx
end
section
/- The interpreter's operations are the machine's: conversions,writes. -/
namespace Go.Gx
open Go.RowKit
section
variable {S:Nat->Prop} {w:World} {ρ:Nat->Option Loc} {row:Nat->Option Row} {pv:Nat->Value} {B:Old}
theorem Q5t (h:HS S w ρ row pv B){b:AV}{τ:Ty}{xs:List (den τ)}(hl:listOf row τ b=some xs){v:Value}(hv:VR S w ρ row pv b v):CR (λg=>g<w.heap.size) w (.sl τ) xs [v]:=by
 have hsub:∀g,S g->g<w.heap.size:=h.stab
 unfold listOf at hl
 split at hl
 ·cases hl
  rw[Q1O hv]
  exact Jr _ _ _
 ·rename_i σ ys
  split at hl
  ·rename_i e _
   subst e
   cases hl
   exact(Q2E hv).mono hsub (λ_ _=>rfl)
  ·cases hl
 ·rename_i j
  split at hl
  ·rename_i e σ ys fz app hr
   split at hl
   ·rename_i e' _
    subst e'
    cases hl
    rcases Yv hv hr with⟨g,c,hl,rfl⟩|⟨hl,rfl,rfl⟩
    ·exact XV h hsub hr hl (h.rows j _ _ hr hl).lt
    ·exact Jr _ _ _
   ·cases hl
  ·cases hl
 ·cases hl
end
theorem GP {P:Program}{w:World}(A:Option Addr)(c:Nat):(Conv.bytesToString (.slice A 0 c)).run P w= .ok (.string ⟨#[]⟩) w:=by
 cases A<;>simp[Conv.bytesToString,loadCells,loadCellsFrom]<;>rfl
section
variable {P:Program} {E:Env} {w0:World} {B:Old} {pv:Nat->Value} {S:Nat->Prop} {ρ:Nat->Option Loc} {st:St} {a:Act} {w:World} {o:Oper} {id:Nat} {K:Act->World->Prop} {Q:Exit->Act->World->Prop}
variable (hE:EnvOk P E) (hs:Sim w0 B pv S ρ st a w) (hgl:Qr E pv S w) (hd:J9 o st.nt=true)
include hs hgl hd
include hE in
theorem Q1S {S0 T:TypeId}{x:Operand}{u:Upd}(hid:ρ id=none)(ho:o.op= .convert S0 T x)(h :
   (∃j k n,∃i,E.ty S0=some (.int i)/\E.ty T=some (.int k)/\ev E st x= .t (.int j) n/\u=quiet (.t (.int k) (k.wrap n)))\/
   (∃s,E.ty S0=some .str/\E.ty T=some .str/\ev E st x= .t .str s/\u=quiet (.t .str s))\/
   (∃s,E.ty S0=some .str/\E.ty T=some (.sl (.int .u8))/\ev E st x= .t .str s/\s.size<=9223372036854775807/\u=makes (.own id) [(id,.flat (E.el T) (.int .u8) (Q6 s) false false)])\/
   (∃xs,E.ty S0=some (.sl (.int .u8))/\E.ty T=some .str/\listOf st.row (.int .u8) (ev E st x)=some xs/\u=quiet (.t .str (YU xs)))\/
   (∃i j n,E.ty S0=some (.int i)/\E.ty T=some .str/\ev E st x= .t (.int j) n/\u=quiet (.t .str (Utf8.encode n))))
  (hK:Nx E w0 B pv S ρ st o.dst u id K):o.wp P a w K Q:=by
 have e1:=Qj hgl hs x
 rcases h with⟨j,k,n,i,hS,hT,hx,rfl⟩|⟨s,hS,hT,hx,rfl⟩|⟨s,hS,hT,hx,hsz,rfl⟩|⟨xs,hS,hT,hx,rfl⟩|⟨i,j,n,hS,hT,hx,rfl⟩
 ·rw[hx]at e1
  have hu:P.underlying S0=some (.int i):=(hE.ty _ _ hS).und
  have hu':P.underlying T=some (.int k):=(hE.ty _ _ hT).und
  exact Q8 hs hgl hd (v:=.int k (k.wrap n)) (by unfold execOp;simp[ho,Qm e1,convert,run_underlying hu,run_underlying hu',Conv.intToInt]) (.inr ⟨_,.t _ _ _ (.int _ _),rfl⟩) hK
 ·rw[hx]at e1
  have hu:P.underlying S0=some .string:=(hE.ty _ _ hS).und
  have hu':P.underlying T=some .string:=(hE.ty _ _ hT).und
  exact Q8 hs hgl hd (v:=.string s) (by unfold execOp;simp[ho,Js e1,convert,run_underlying hu,run_underlying hu']) (.inr ⟨_,.t _ _ _ (.str _),rfl⟩) hK
 ·rw[hx]at e1
  have hu:P.underlying S0=some .string:=(hE.ty _ _ hS).und
  obtain⟨t,hu',het,hte,_⟩:=(hE.ty _ _ hT).und
  have hut:P.underlying t=some (.int .u8):=(hE.ty _ _ hte).und
  have hr:=run_bytes_of_string (P:=P) w S0 T t s hu hu' hut
  have hsz':s.size<=maxLen:=by simp only[maxLen];omega
  have hm:=Sim.make (w':=w.drew.alloc (.cells (bytesRow s (grownCap w s.size 0 t)) t ((bytesRow s (grownCap w s.size 0 t)).size,(bytesRow s (grownCap w s.size 0 t)).size+1)))
   (r:=.flat t (.int .u8) (Q6 s) false false) (l:=.at w.heap.size (grownCap w s.size 0 t)) hs.drew (hs.drew.below.alloc hs.drew.hB _) (by rw[World.size_alloc'];omega) (λb hb=>heap_alloc_old w.drew _ b hb) hid rfl
   (λg e=>by cases e;exact Nat.le_refl _) ?_
  ·rw[het]at hK
   refine Oper.wp_value (w':=_) (v:=.slice (some ⟨w.heap.size,0,none⟩) s.size (grownCap w s.size 0 t)) (by unfold execOp;simp only[ho,Js e1,Sem.run_bind,hr,Result.andThen_ok,Sem.run_pure]) (hK S _ _ _ (hm.put (QK hd) ?_) (hgl.mono (λ_ h=>h) λb hb=>?_) (Grew.refl _ _) (Xr ⟨Nat.le_refl _,by omega⟩))
   ·have hl:(Q6 s).length=s.size:=by simp only[Q6,List.length_map,Array.length_toList];rfl
    refine .inr ⟨_,.own id t (.int .u8) (Q6 s) false false w.heap.size _ (by rw[Q1,if_pos rfl]) (Qp _ _ _),?_⟩
    rw[hl];rfl
   ·exact heap_alloc_old w.drew _ b (hs.hs.stab b hb)
  ·intro ρ' row' _
   have hge:=grownCap_ge w s.size 0 t
   refine⟨_,_,heap_alloc_new w.drew _,?_,?_,grownCap_le_maxLen w _ _ _ hsz',λe=>(by cases e),.inr (Nat.le_refl _),Nat.one_pos,λi hi=>?_⟩
   ·have e1:(bytesRow s (grownCap w s.size 0 t)).size=s.data.size+(grownCap w s.size 0 t-s.size):=by simp only[bytesRow,Array.size_append,Array.size_map,Array.size_replicate]
    have e2:s.data.size=s.size:=rfl
    rw[e1,e2]
    simp only[nc,Nat.mul_one]
    omega
   ·have e1:(Q6 s).length=s.size:=by simp only[Q6,List.length_map,Array.length_toList];rfl
    rw[e1];exact hge
   ·refine⟨_,.int _ _,λj v hj=>?_⟩
    cases j with
    |succ j=>simp at hj
    |zero=>
     simp only[List.getElem?_cons_zero,Option.some.injEq]at hj
     subst hj
     have hi':i<s.data.size:=by simpa[Q6]using hi
     simp only[bytesRow,nc,Nat.mul_one,Nat.add_zero]
     rw[Array.getElem?_append_left (by simpa using hi')]
     simp[Q6,hi']
     exact⟨_,Array.getElem?_eq_getElem hi',rfl⟩
 ·have hu:∃t,P.underlying S0=some (.slice t)/\E.el S0=t/\E.ty t=some (.int .u8)/\_:=(hE.ty _ _ hS).und
  obtain⟨t,hu,het,hte,_⟩:=hu
  have hut:P.underlying t=some (.int .u8):=(hE.ty _ _ hte).und
  have hu':P.underlying T=some .string:=(hE.ty _ _ hT).und
  obtain⟨A,c,cv,e3,h2,h3,h4,h5⟩:=Jn (Q5t hs.hs hx e1)
  refine Q8 hs hgl hd (v:=.string (YU xs)) ?_ (.inr ⟨_,.t _ _ _ (.str _),rfl⟩) hK
  unfold execOp
  simp only[ho,Sem.run_bind,e3]
  by_cases h0:xs.length=0
  ·have:xs=[]:=List.eq_nil_of_length_eq_zero h0
   subst this
   simp only[List.length_nil,run_convert_bytes_string w S0 T t A 0 c hu hut hu',GP,Result.andThen_ok,Sem.run_pure]
   rfl
  ·obtain⟨g,off,rfl,hS',hv⟩:=h5 0 (by omega)
   have hcell:∀i,i<xs.length->w.cell? ⟨g,off+i,none⟩=some (.int .u8 (xs.getD i 0)):=λi hi=>by
    obtain⟨g',off',e,_,hv⟩:=h5 i hi
    cases e
    have hc:=h4 i hi
    have:=hv 0 (.int .u8 xs[i]) (by rw[YG hc];rfl)
    simp only[nc,Nat.mul_one,Nat.add_zero]at this
    rw[this]
    simp[List.getD,hi]
   simp only[run_convert_bytes_arg w S0 t hu hut g off xs.length c xs rfl hcell T hu',Result.andThen_ok,Sem.run_pure]
   rfl
 ·rw[hx]at e1
  have hu:P.underlying S0=some (.int i):=(hE.ty _ _ hS).und
  have hu':P.underlying T=some .string:=(hE.ty _ _ hT).und
  exact Q8 hs hgl hd (v:=.string (Utf8.encode n)) (by unfold execOp;simp[ho,Qm e1,convert,run_underlying hu,run_underlying hu',Conv.intToString]) (.inr ⟨_,.t _ _ _ (.str _),rfl⟩) hK
include hE in
theorem Q3R {T:TypeId}{τ:Ty}{x v:Operand}{u:Upd}(ho:o.op= .store T x v)(hτ:E.ty T=some τ)(hf:Fit τ (ev E st v))(h :
   (∃j p σ a b,ev E st x= .ep j none p/\st.row j=some (.box σ a)/\tyP σ p=some τ/\XG a p (ev E st v)=some b/\u=⟨QV,[],[],none,some (j,.box σ b)⟩)\/
    (∃j i p e σ xs app b y,ev E st x= .ep j (some i) p/\st.row j=some (.flat e σ xs false app)/\tyP σ p=some τ/\XG (.t σ (xs.getD i (Q9 σ))) p (ev E st v)=some b/\asC E.on p σ b=some y/\
     u=⟨QV,[],[],none,some (j,.flat e σ (xs.set i y) false app)⟩))
  (hK:Nx E w0 B pv S ρ st o.dst u id K):o.wp P a w K Q:=by
 have ht:=hE.ty T τ hτ
 have e1:=Qj hgl hs x
 obtain⟨d,h1,h2,h3⟩:=GI hf (Qj hgl hs v)
 have hdl:=AR.len hf h1
 rcases h with⟨j,p,σ,c,b,hx,hr,hp,hb,rfl⟩|⟨j,i,p,e,σ,xs,app,b,y,hx,hr,hp,hb,hy,rfl⟩
 ·rw[hx]at e1
  obtain⟨g,cap,τ',h4,h5,h6⟩:=Q1Q e1 hr
  obtain⟨cur,T',h7,h8,h9⟩:=hs.hs.rows j _ _ hr h5
  obtain⟨h10,h11,h12⟩:=Q1K h8 h9 hp hf h1 hb
  have hrun:=Uu ht hf h1 h7 (.inl (Nat.le_refl _)) (o:=Qk σ p) (by simpa using h12)
  have hap:=hs.hs.apart j _ g cap h5 hr
  have hm:=hs.sto (w':=w.setRow g (splice cur.toList (Qk σ p) d).toArray) (r':=.box σ b) (below_setRow hs.below hap.1 _) hr h5 (.box _ _ _) rfl rfl (by simp[World.setRow])
   (λk _ hk=>setRow_other w g k _ hk) ?_
  ·exact Oper.wp_skip (by unfold execOp;simp only[ho,h6,h2,Sem.run_bind,hrun,Result.andThen_ok,Sem.run_pure])
    (hK S ρ _ _ (hm.put (QK hd) Jm) (hgl.mono (λ_ h=>h) λk hk=>setRow_other w g k _ λe=>hap.2.1 rfl (e▸hk)) (Grew.refl _ _) (λ_ h _=>h))
  ·intro row' hk
   refine⟨_,_,setRow_heap w g cur _ _ _ h7,h10,?_⟩
   exact h11.ext (P:=λ_=>True) (λ_ h=>h) (λk hk=>setRow_other w g k _ λe=>hap.2.1 rfl (e▸hk)) (λi l r _ h13 h14=>⟨h13,hk i l r h13 h14⟩) (λ_ _=>trivial)
 ·rw[hx]at e1
  obtain⟨g,cap,τ',h4,h5,hi,h6⟩:=Q6A e1 hr (by first|(rw[hp];rfl)|(rw[h1];rfl)|(rw[h2];rfl)|(rw[h3];rfl))
  obtain⟨cur,f,h7,h8,h9,h10,h11,h12,h13,h14⟩:=hs.hs.rows j _ _ hr h5
  have eg:xs.getD i (Q9 σ)=xs[i]:=by simp[List.getD,hi]
  rw[eg]at hb
  obtain⟨cs,hc1,hc2⟩:=h14 i hi
  have hc1:=hc1.un
  obtain⟨h15,h16,h17⟩:=Q1K (ρ:=ρ) (row:=st.row) (pv:=pv) (.t σ _) (.t σ _ cs hc1) hp hf h1 hb
  have hcl:=hc1.len
  have hsz:i*nc σ+nc σ<=cur.size:=by
   rw[h8,<-Nat.succ_mul]
   exact Nat.mul_le_mul_right _ (by omega)
  have hrun:=Uu ht hf h1 h7 h12 (o:=i*nc σ+Qk σ p) (by omega)
  have hap:=hs.hs.apart j _ g cap h5 hr
  have hm:=hs.sto (w':=w.setRow g (splice cur.toList (i*nc σ+Qk σ p) d).toArray) (r':=.flat e σ (xs.set i y) false app) (below_setRow hs.below hap.1 _) hr h5 (.flat _ _ _ _ _ _ _ _ _ (by simp)) rfl rfl (by simp[World.setRow])
   (λk _ hk=>setRow_other w g k _ hk) ?_
  ·exact Oper.wp_skip (by unfold execOp;simp only[ho,h6,h2,Sem.run_bind,hrun,Result.andThen_ok,Sem.run_pure])
    (hK S ρ _ _ (hm.put (QK hd) Jm) (hgl.mono (λ_ h=>h) λk hk=>setRow_other w g k _ λe=>hap.2.1 rfl (e▸hk)) (Grew.refl _ _) (λ_ h _=>h))
  ·intro row' hk
   have hw:∀k,S k->(w.setRow g (splice cur.toList (i*nc σ+Qk σ p) d).toArray).heap[k]? =w.heap[k]?:=λk hk=>setRow_other w g k _ λe=>hap.2.1 rfl (e▸hk)
   have hlen:(splice cur.toList (i*nc σ+Qk σ p) d).length=cur.size:=by rw[Jh (by simp;omega)];simp
   have hget:=QT (cs:=cur.toList) (c:=d) (o:=i*nc σ+Qk σ p) (by simp;omega)
   refine⟨_,_,setRow_heap w g cur _ _ _ h7,by simpa[hlen]using h8,by simpa using h9,h10,h11,(by simpa[hlen]using h12),h13,λk hk'=>?_⟩
   have hk2:k<xs.length:=by simpa using hk'
   by_cases e:k=i
   ·subst e
    refine⟨splice cs (Qk σ p) d,?_,λm u hm=>?_⟩
    ·simp only[List.getElem_set_self]
     exact(hgl.upC hy h16).mono (λb hb=>hb.mono (λh=>h) (hw b hb.1)) λb hb=>hw b hb.1
    ·have hml:=(List.getElem?_eq_some_iff.1 hm).1
     rw[Jh (by omega)]at hml
     rw[QT (by omega)]at hm
     simp only[List.getElem?_toArray]
     rw[hget]
     by_cases c1:m<Qk σ p
     ·rw[if_pos c1]at hm
      rw[if_pos (by omega)]
      simpa using hc2 m u hm
     ·rw[if_neg c1]at hm
      rw[if_neg (by omega)]
      by_cases c2:m<Qk σ p+d.length
      ·rw[if_pos c2]at hm
       rw[if_pos (by omega)]
       rw[show k*nc σ+m-(k*nc σ+Qk σ p)=m-Qk σ p by omega]
       exact hm
      ·rw[if_neg c2]at hm
       rw[if_neg (by omega)]
       simpa using hc2 m u hm
   ·obtain⟨cs',hc3,hc4⟩:=h14 k hk2
    refine⟨cs',?_,λm u hm=>?_⟩
    ·rw[List.getElem_set_ne (λh=>e h.symm)]
     exact hc3.mono (λb hb=>hb.mono (λh=>h) (hw b hb.1)) λb hb=>hw b hb.1
    ·have hml:=(List.getElem?_eq_some_iff.1 hm).1
     rw[hc3.len]at hml
     simp only[List.getElem?_toArray]
     rw[hget]
     have:=hc4 m u hm
     rcases Nat.lt_or_gt_of_ne e with c1|c1
     ·have:(k+1)*nc σ<=i*nc σ:=Nat.mul_le_mul_right _ c1
      rw[Nat.succ_mul]at this
      rw[if_pos (by omega)]
      simpa using hc4 m u hm
     ·have:(i+1)*nc σ<=k*nc σ:=Nat.mul_le_mul_right _ c1
      rw[Nat.succ_mul]at this
      rw[if_neg (by omega),if_neg (by omega)]
      simpa using hc4 m u hm
end
end Go.Gx
end
section
/- The interpreter's operations are the machine's: literals. -/
namespace Go.Gx
open Go.RowKit
theorem Q2G (cs:List Value)(o:Nat)(v:Value)(vs:List Value)(h:o+(vs.length+1)<=cs.length):splice (cs.set o v) (o+1) vs=splice cs o (v::vs):=by
 apply List.ext_getElem?
 intro i
 rw[QT (by simp;omega),QT (by simp;omega)]
 simp only[List.length_cons,List.getElem?_set]
 by_cases h1:i<o
 ·rw[if_pos (by omega),if_pos h1,if_neg (by omega)]
 ·by_cases h2:i=o
  ·subst h2
   rw[if_pos (by omega),if_neg h1,if_pos (by omega)]
   simp
   omega
  ·rw[if_neg (by omega),if_neg h1]
   by_cases h3:i<o+1+vs.length
   ·rw[if_pos h3,if_pos (by omega),show i-o=(i-(o+1))+1 by omega,List.getElem?_cons_succ]
   ·rw[if_neg h3,if_neg (by omega),if_neg (by omega)]
theorem foldl_set (off:Nat):∀(vs:List Value) (k:Nat) (cells:Array Value),off+k+vs.length<=cells.size->
  ((vs.zipIdx k).foldl (λcs (p:Value×Nat)=>cs.setIfInBounds (off+p.2) p.1) cells).toList=splice cells.toList (off+k) vs
 |[],k,cells,h=>by simp[splice]
 |v::vs,k,cells,h=>by
  simp only[List.length_cons]at h
  rw[List.zipIdx_cons,List.foldl_cons,foldl_set off vs (k+1) _ (by simp;omega),Array.toList_setIfInBounds,<-Q2G _ _ _ _ (by simp;omega)]
  rfl
theorem Q6E (place:Nat->Option (Nat×Nat))(cells:Array Value)(i:Nat)(v:Value)(rest:List (Nat×Value)){off size:Nat}(hp:place i=some (off,size))(hs:v.cells.size=size)(hf:off+size<=cells.size) :
  Instr.fill place cells ((i,v)::rest)=Instr.fill place (splice cells.toList off v.cells.toList).toArray rest:=by
 have key:(v.cells.zipIdx.foldl (λcs (p:Value×Nat)=>cs.setIfInBounds (off+p.2) p.1) cells)=(splice cells.toList off v.cells.toList).toArray:=by
  apply Array.ext'
  rw[<-Array.foldl_toList,Array.toList_zipIdx,foldl_set off v.cells.toList 0 cells (by simp[hs];omega)]
  rfl
 rw[Instr.fill]
 simp only[hp]
 rw[if_neg (by simp[hs];omega)]
 rw[<-key]
section
variable {S:Nat->Prop} {w:World} {ρ:Nat->Option Loc} {row:Nat->Option Row} {pv:Nat->Value}
theorem KH {ev:Operand->AV}{ρv:Operand->Value}(hev:∀x,VR S w ρ row pv (ev x) (ρv x)){l:List Ty}{place:Nat->Option (Nat×Nat)}(hpl:∀i σ,l[i]? =some σ->place i=some (QB l i,nc σ)) :
  ∀(ps:List (Nat×Operand)) (fs fs':List AV) (css:List (List Value)),Jk ev l ps fs=some fs'->fs.length=l.length->css.length=l.length->
   (∀(i:Nat) (σ:Ty) (b:AV),l[i]? =some σ->fs[i]? =some b->Fit σ b)->(∀(i:Nat) (b:AV) (c:List Value),fs[i]? =some b->css[i]? =some c->AR S w ρ row pv b c)->
   ∃css':List (List Value),Instr.fill place css.flatten.toArray (ps.map λp=>(p.1,ρv p.2))=some css'.flatten.toArray/\fs'.length=l.length/\css'.length=l.length/\
    (∀(i:Nat) (σ:Ty) (b:AV),l[i]? =some σ->fs'[i]? =some b->Fit σ b)/\(∀(i:Nat) (b:AV) (c:List Value),fs'[i]? =some b->css'[i]? =some c->AR S w ρ row pv b c)
 |[],fs,fs',css,h,h1,h2,h3,h4=>by
  simp only[Jk,Option.some.injEq]at h
  subst h
  exact⟨css,rfl,h1,h2,h3,h4⟩
 |(i,x)::ps,fs,fs',css,h,h1,h2,h3,h4=>by
  simp only[Jk]at h
  split at h
  ·rename_i σ hσ
   split at h
   ·rename_i hf
    have hf:=KB hf
    obtain⟨c,h5,h6,h7⟩:=GI hf (hev x)
    have hi:i<l.length:=(List.getElem?_eq_some_iff.1 hσ).1
    have hclen:∀(k:Nat) (τ:Ty) (d:List Value),l[k]? =some τ->css[k]? =some d->d.length=nc τ:=λk τ d hk hd=>by
     have hkl:k<fs.length:=by rw[h1];exact(List.getElem?_eq_some_iff.1 hk).1
     exact AR.len (h3 k τ _ hk (List.getElem?_eq_getElem hkl)) (h4 k _ d (List.getElem?_eq_getElem hkl) hd)
    have hcl:=AR.len hf h5
    have hset:=Q1J h2 hclen i c σ hσ hcl
    obtain⟨css',h8,h9,h10,h11,h12⟩:=KH hev hpl ps (fs.set i (ev x)) fs' (css.set i c) h (by simpa using h1) (by simpa using h2) (λk τ b hk hb=>by
     rw[List.getElem?_set]at hb
     split at hb
     ·rename_i e
      subst e
      split at hb
      ·simp only[Option.some.injEq]at hb
       subst hb
       rw[hσ]at hk
       simp only[Option.some.injEq]at hk
       subst hk
       exact hf
      ·cases hb
     ·exact h3 k τ b hk hb) (λk b d hb hd=>by
     rw[List.getElem?_set]at hb hd
     split at hb
     ·rename_i e
      rw[if_pos e]at hd
      split at hb
      ·split at hd
       ·simp only[Option.some.injEq]at hb hd
        subst hb;subst hd
        exact h5
       ·cases hd
      ·cases hb
     ·rename_i e
      rw[if_neg e]at hd
      exact h4 k b d hb hd)
    refine⟨css',?_,h9,h10,h11,h12⟩
    obtain⟨hs1,hs2⟩:=seg h2 hclen
    have hle:QB l i+nc σ<=css.flatten.length:=by
     exact(hs2 i _ σ (List.getElem?_eq_getElem (by omega)) hσ).2
    rw[List.map_cons,Q6E _ _ _ _ _ (hpl i σ hσ) (by rw[<-Array.length_toList,h7,hcl]) (by simpa using hle),h7]
    rw[hset]at h8
    exact h8
   ·cases h
  ·cases h
end
theorem GQ {P:Program}:∀{fs:List Field},(∀d∈fs,∃i,P.info? d.type=some i)->∃places,fs.mapM (λf=>(P.info? f.type).map λi=>(f.offset,i.size))=some places/\∀(k:Nat) (d:Field) (i:TypeInfo),fs[k]? =some d->P.info? d.type=some i->places[k]? =some (d.offset,i.size)
 |[],_=>⟨[],rfl,λk d i h=>by simp at h⟩
 |f::fs,h=>by
  obtain⟨i,hi⟩:=h f List.mem_cons_self
  obtain⟨places,h1,h2⟩:=GQ (fs:=fs) λd hd=>h d (List.mem_cons_of_mem _ hd)
  refine⟨(f.offset,i.size)::places,by simp[List.mapM_cons,hi,h1],λk d j hk hj=>?_⟩
  cases k with
  |zero=>
   simp only[List.getElem?_cons_zero,Option.some.injEq]at hk
   subst hk
   rw[hi]at hj
   cases hj
   rfl
  |succ k=>exact h2 k d j (by simpa using hk) hj
theorem QX (e:Ty):∀(n i:Nat),i<=n->QB (List.replicate n e) i=i*nc e
 |0,i,h=>by
  have:i=0:=by omega
  subst this
  simp[QB]
 |n+1,0,h=>by simp[List.replicate_succ,QB]
 |n+1,i+1,h=>by rw[List.replicate_succ,QB,QX e n i (by omega),Nat.succ_mul,Nat.add_comm]
theorem Xu (z:Array Value):∀n,(madeCells z (n*z.size)).toList=(List.replicate n z.toList).flatten
 |0=>by simp[madeCells]
 |n+1=>by
  rw[List.replicate_succ',List.flatten_append,<-Xu z n]
  simp only[madeCells,Nat.succ_mul,Array.toList_map,Array.toList_range,List.range_add,List.map_append,List.map_map]
  congr 1
  simp only[List.flatten_cons,List.flatten_nil,List.append_nil]
  apply List.ext_getElem
  ·simp
  ·intro i h1 h2
   simp only[List.length_map,List.length_range]at h1
   simp[Nat.mul_comm n,Nat.mul_add_mod,Nat.mod_eq_of_lt h1,h1]
theorem Y7 {id:Nat}:∀{l:List AV} {b:AV},b∈l->id∈J3 6 b->id∈QQ l
 |[],b,h,_=>by cases h
 |c::l,b,h,hi=>by
  rcases List.mem_cons.1 h with rfl|h
  ·exact List.mem_append_left _ hi
  ·exact List.mem_append_right _ (Y7 h hi)
theorem Yz {row:Nat->Option Row}{τ:Ty}:∀{fs:List AV} {xs:List (den τ)},Je row τ fs=some xs->xs.length=fs.length/\∀(i:Nat) (h:i<xs.length),∃b c,fs[i]? =some b/\Q2 row 6 b=some c/\asT τ c=some xs[i]
 |[],xs,h=>by
  simp only[Je,Option.some.injEq]at h
  subst h
  exact⟨rfl,λi h=>absurd h (Nat.not_lt_zero i)⟩
 |a::l,xs,h=>by
  simp only[Je]at h
  split at h
  ·rename_i b hb
   split at h
   ·rename_i x hx
    split at h
    ·rename_i ys hys
     simp only[Option.some.injEq]at h
     subst h
     obtain⟨h1,h2⟩:=Yz hys
     refine⟨by simp[h1],λi hi=>?_⟩
     cases i with
     |zero=>exact⟨a,b,rfl,hb,hx⟩
     |succ i=>
      obtain⟨c,d,h3,h4,h5⟩:=h2 i (by simpa using hi)
      exact⟨c,d,by simpa using h3,h4,by simpa using h5⟩
    ·cases h
   ·cases h
  ·cases h
theorem Q88 {S:Nat->Prop}{w:World}{ρ:Nat->Option Loc}{row:Nat->Option Row}{pv:Nat->Value}{e:Nat}{τ:Ty}{xs:List (den τ)}{fz app:Bool}{g cap:Nat}(h:QG S w ρ row pv (.flat e τ xs fz app) (.at g cap))(hg:S g):CR S w (.sl τ) xs [.slice (some ⟨g,0,none⟩) xs.length cap]:=by
 obtain⟨cur,f,h1,h2,h3,h4,h5,h6,h7,h8⟩:=h
 have hx:∀i,∃cs,∀(hi:i<xs.length),CR S w τ xs[i] cs/\∀j v,cs[j]? =some v->cur[i*nc τ+j]? =some v:=λi=>by
  by_cases hi:i<xs.length
  ·obtain⟨cs,hc⟩:=h8 i hi
   exact⟨cs,λ_=>⟨hc.1.un,hc.2⟩⟩
  ·exact⟨[],λh=>absurd h hi⟩
 refine .sl τ xs _ cap (λi=>Classical.choose (hx i)) h3 h4 (λi hi=>(Classical.choose_spec (hx i) hi).1) λi hi=>⟨g,0,rfl,hg,λj v hj=>?_⟩
 have:=(Classical.choose_spec (hx i) hi).2 j v hj
 simp only[World.cell?,h1,Nat.zero_add]
 simpa using this
theorem Q2H {S S':Nat->Prop}{w:World}{ρ ρ':Nat->Option Loc}{row row':Nat->Option Row}{pv:Nat->Value}{e:Nat}{τ:Ty}{xs:List (den τ)}{fz app:Bool}{l:Loc}(hS:∀b,S b->S' b)(h:QG S w ρ row pv (.flat e τ xs fz app) l):QG S' w ρ' row' pv (.flat e τ xs fz app) l:=by
 cases l with
 |nilrow=>exact h
 |soft T v=>exact h
 |tree cs T v=>exact h
 |«at» g c=>
  obtain⟨cur,f,h1,h2,h3,h4,h5,h6,h7,h8⟩:=h
  exact⟨cur,f,h1,h2,h3,h4,h5,h6,h7,λi hi=>by
   obtain⟨cs,h9,h10⟩:=h8 i hi
   exact⟨cs,h9.mono (λb hb=>hb.mono (hS b) rfl) (λ_ _=>rfl),h10⟩⟩
section
variable {P:Program} {E:Env} {w0:World} {B:Old} {pv:Nat->Value} {S:Nat->Prop} {ρ:Nat->Option Loc} {st:St} {a:Act} {w:World} {o:Oper} {id:Nat} {K:Act->World->Prop} {Q:Exit->Act->World->Prop}
variable (hE:EnvOk P E) (hs:Sim w0 B pv S ρ st a w) (hgl:Qr E pv S w) (hd:J9 o st.nt=true)
include hs hgl hd
include hE in
theorem Q3S {T:TypeId}{τ:Ty}{ps:Array (Nat×Operand)}{fs:List AV}(ho:o.op= .build T ps)(hτ:E.ty T=some τ)(hag:agT τ=true)(hfs:Jk (ev E st) (fty τ) ps.toList (XH τ)=some fs)
  (hK:Nx E w0 B pv S ρ st o.dst (quiet (Q1A τ fs)) id K):o.wp P a w K Q:=by
 have ht:=hE.ty T τ hτ
 obtain⟨h1,h2⟩:=Ue (ρ:=ρ) (row:=st.row) (pv:=pv) S w hag
 obtain⟨css,h3,h4,h5⟩:=h1.agg_parts
 obtain⟨_,hl,hfit⟩:=h2.agg_len
 obtain⟨i,hi,hsz,_,hz⟩:=ht.info
 have hzc:(valOf (.t τ (Q9 τ)) (zc τ)).cells.toList=zc τ:=J7 (S:=S) (w:=w) (ρ:=ρ) (row:=st.row) (pv:=pv) (.t τ (Q9 τ)) (.t τ _ _ (Jl S w τ))
 have hzc':(valOf (.t τ (Q9 τ)) (zc τ)).cells=css.flatten.toArray:=by apply Array.ext';rw[hzc,h3]
 have fin:∀place:Nat->Option (Nat×Nat),(∀i σ,(fty τ)[i]? =some σ->place i=some (QB (fty τ) i,nc σ))->(∀cells,Instr.fill place (valOf (.t τ (Q9 τ)) (zc τ)).cells (ps.map λp=>(p.1,a.eval p.2)).toList=some cells->P.built T (ps.map λp=>(p.1,a.eval p.2)).toList=some cells)->o.wp P a w K Q:=λplace hpl hb=>by
  obtain⟨css',h6,h7,h8,h9,h10⟩:=KH (Qj hgl hs) hpl ps.toList _ fs css hfs hl (by omega) hfit h5
  have hrun:=run_build (P:=P) w T (ps.map λp=>(p.1,a.eval p.2)) css'.flatten.toArray (hb _ (by rw[hzc',Array.toList_map];exact h6))
  have hF:Fit τ (.agg τ fs):=.agg τ fs hag h7 h9
  have hA:AR S w ρ st.row pv (.agg τ fs) css'.flatten:=.agg τ fs css' (by omega) h10
  obtain⟨h11,h12⟩:=Q4A hF hA
  refine Q8 hs hgl hd (v:=.agg css'.flatten.toArray) (by unfold execOp;simp only[ho,Sem.run_bind,hrun,Result.andThen_ok,Sem.run_pure]) (.inr ⟨_,h11,?_⟩) hK
  rw[valOf,h12.isAg,hag];rfl
 have goS:(∃fs,P.underlying T=some (.struct fs)/\fs.size=(fty τ).length/\∀(f:Nat) (d:Field),fs[f]? =some d->∃σ,(fty τ)[f]? =some σ/\d.offset=QB (fty τ) f/\E.ty d.type=some σ)->o.wp P a w K Q:=λ⟨fds,hu,hn,hh⟩=>by
  obtain⟨places,h6,h7⟩:=GQ (P:=P) (fs:=fds.toList) λd hd'=>by
   obtain⟨k,hk⟩:=List.getElem?_of_mem hd'
   obtain⟨σ,_,_,h8⟩:=hh k d (by simpa using hk)
   obtain⟨i,hi,_⟩:=(hE.ty _ _ h8).info
   exact⟨i,hi⟩
  refine fin (places.toArray[·]?) (λk σ hk=>?_) (λcells hc=>?_)
  ·have hlt:k<fds.size:=by rw[hn];exact(List.getElem?_eq_some_iff.1 hk).1
   obtain⟨σ',h8,h9,h10⟩:=hh k fds[k] (Array.getElem?_eq_getElem hlt)
   rw[hk]at h8
   cases h8
   obtain⟨i,hi,hsz,_⟩:=(hE.ty _ _ h10).info
   have:=h7 k fds[k] i (by simp[hlt]) hi
   rw[h9,hsz]at this
   simpa using this
  ·unfold Program.built
   simp only[hi,hu,hz,h6]
   exact hc
 have goA:∀n e,τ= .arr n e->(∃t,P.underlying T=some (.array n t)/\E.ty t=some e)->o.wp P a w K Q:=λn e he ⟨t,hu,hte⟩=>by
  obtain⟨ie,hie,hse,_⟩:=(hE.ty _ _ hte).info
  refine fin (λi=>some (i*ie.size,ie.size)) (λk σ hk=>?_) (λcells hc=>?_)
  ·subst he
   simp only[fty]at hk ⊢
   obtain⟨h6,h7⟩:=List.getElem?_eq_some_iff.1 hk
   simp only[List.length_replicate]at h6
   simp only[List.getElem_replicate]at h7
   subst h7
   rw[QX _ _ _ (by omega),hse]
  ·unfold Program.built
   simp only[hi,hu,hz,hie]
   exact hc
 have hu:=ht.und
 cases τ<;>simp only[Q2D]at hu<;>first
  |exact goS hu
  |exact goA _ _ rfl hu
  |cases hag
include hE in
theorem G8 {T:TypeId}{τ:Ty}{n:Nat}{ps:Array (Nat×Operand)}{fs:List AV}{xs:List (den τ)}(hid:ρ id=none)(ho:o.op= .buildSlice T n ps)(hT:E.ty T=some (.sl τ))(hon:(E.on&&slT τ)=false)(hn:n*nc τ<=16777216)
  (hfs:Jk (ev E st) (List.replicate n τ) ps.toList (List.replicate n (.t τ (Q9 τ)))=some fs) (hxs:Je st.row τ fs=some xs) (hep:JL (JA 6) fs=false)
  (hK:Nx E w0 B pv S ρ st o.dst ⟨.own id,[(id,.flat (E.el T) τ xs false true)],QQ fs,none,none⟩ id K):o.wp P a w K Q:=by
 obtain⟨t,hu,het,hte,hpos,hnb⟩:=(hE.ty _ _ hT).und
 obtain⟨i,hi,hsz,hby,hz⟩:=(hE.ty _ _ hte).info
 have hzc:(valOf (.t τ (Q9 τ)) (zc τ)).cells.toList=zc τ:=J7 (S:=S) (w:=w) (ρ:=ρ) (row:=st.row) (pv:=pv) (.t τ (Q9 τ)) (.t τ _ _ (Jl S w τ))
 have hzs:(valOf (.t τ (Q9 τ)) (zc τ)).cells.size=nc τ:=by rw[<-Array.length_toList,hzc];exact(Jl S w τ).len
 have hpl:∀i σ,(List.replicate n τ)[i]? =some σ->(λi=>some (i*nc τ,nc τ)) i=some (QB (List.replicate n τ) i,nc σ):=λk σ hk=>by
  obtain⟨h6,h7⟩:=List.getElem?_eq_some_iff.1 hk
  simp only[List.length_replicate]at h6
  simp only[List.getElem_replicate]at h7
  subst h7
  rw[QX _ _ _ (by omega)]
 obtain⟨css',h6,h7,h8,h9,h10⟩:=KH (Qj hgl hs) hpl ps.toList _ fs (List.replicate n (zc τ)) hfs (by simp) (by simp) (λk σ b hk hb=>by
  have e1:=(List.getElem?_eq_some_iff.1 hk).2
  have e2:=(List.getElem?_eq_some_iff.1 hb).2
  simp only[List.getElem_replicate]at e1 e2
  subst e1;subst e2
  exact .t _ _) (λk b c hb hc=>by
  have e1:=(List.getElem?_eq_some_iff.1 hb).2
  have e2:=(List.getElem?_eq_some_iff.1 hc).2
  simp only[List.getElem_replicate]at e1 e2
  subst e1;subst e2
  exact .t _ _ _ (Jl S w τ))
 simp only[List.length_replicate]at h7 h8
 have hcells:(Array.range (n*i.size)).map ((valOf (.t τ (Q9 τ)) (zc τ)).cells[· % (valOf (.t τ (Q9 τ)) (zc τ)).cells.size]!)=(List.replicate n (zc τ)).flatten.toArray:=by
  apply Array.ext'
  have:=Xu (valOf (.t τ (Q9 τ)) (zc τ)).cells n
  rw[hzc,hzs]at this
  rw[hsz]
  simpa[madeCells]using this
 have hrun:(execOp a.eval o).run P w= .ok (.value (.slice (some ⟨w.heap.size,0,none⟩) n n)) (w.alloc (.cells css'.flatten.toArray t)):=by
  unfold execOp
  by_cases h0:n=0
  ·subst h0
   have e1:ps.toList=[]:=by
    cases hps:ps.toList with
    |nil=>rfl
    |cons p l=>rw[hps]at hfs;simp[Jk]at hfs
   have e2:ps= #[]:=Array.toList_eq_nil_iff.1 e1
   have e3:css'=[]:=List.eq_nil_of_length_eq_zero h8
   subst e2;subst e3
   simp[ho,Instr.buildSlice,run_underlying hu,sizeOf,typeInfo,hi,Instr.fill,newRow,Array.range_zero',Array.map_empty]
  ·have hr:=run_buildSlice (P:=P) w T t n (ps.map λp=>(p.1,a.eval p.2)) css'.flatten.toArray i _ hu hi hz (by rw[hsz];omega) (by rw[hsz];intro h;rcases Nat.mul_eq_zero.1 h with h|h<;>omega)
    (by rw[hcells,hsz,Array.toList_map];exact h6)
   simp only[ho,Sem.run_bind,hr,Result.andThen_ok,Sem.run_pure]
 obtain⟨hxl,hxg⟩:=Yz hxs
 have hzf:=hs.frzs (QQ fs)
 obtain⟨hm,hg2⟩:=Sim.alloc (E:=E) (w:=w) (cur:=css'.flatten.toArray) (T:=t) (r:=.flat t τ xs false true) (c:=n) hzf (hgl.mono (λ_ h=>.inl h) (λ_ _=>rfl)) hid rfl (λρ' row' _=>by
  have hclen:∀(k:Nat) (σ:Ty) (d:List Value),(List.replicate n τ)[k]? =some σ->css'[k]? =some d->d.length=nc σ:=λk σ d hk hd=>by
   have hkl:k<fs.length:=by have:=(List.getElem?_eq_some_iff.1 hk).1;simp at this;omega
   exact AR.len (h9 k σ _ hk (List.getElem?_eq_getElem hkl)) (h10 k _ d (List.getElem?_eq_getElem hkl) hd)
  obtain⟨hs1,hs2⟩:=seg (by simp[h8]) hclen
  refine⟨_,_,heap_alloc_new w _,?_,by omega,?_,λ_=>rfl,.inl (Nat.le_refl _),hpos,λk hk=>?_⟩
  ·simp[hs1,JV]
  ·have:=Nat.le_mul_of_pos_right n hpos
   simp only[maxLen]
   omega
  ·have hkn:k<n:=by omega
   obtain⟨b,c,h11,h12,h13⟩:=hxg k hk
   have hck:css'[k]? =some css'[k]:=List.getElem?_eq_getElem (by omega)
   have hbm:=List.mem_of_getElem? h11
   obtain⟨kb,hkb⟩:=List.getElem?_of_mem hbm
   have hcl:=Jc (ρ0:=ρ) (row0:=st.row) (S1:=Y4 S ρ st.row (QQ fs)) hs.hs (λ_ h=>.inl h) h12 (h10 k b _ h11 hck) (.inr ⟨QS (f:=JA 6) hep hkb,λj hj r g cc hr hzr hl=>?_⟩)
   ·refine⟨css'[k],(hgl.up hon (Qq h13 hcl)).mono (λb hb=>hb.mono (λh=>h) (heap_alloc_old w _ b (hzf.hs.stab b hb.1))) (λb hb=>heap_alloc_old w _ b (hzf.hs.stab b hb.1)),λj v hj=>?_⟩
    obtain⟨h14,h15⟩:=hs2 k _ τ hck (by simp[hkn])
    rw[QX _ _ _ (by omega)]at h14 h15
    rw[<-h14]at hj
    rw[List.getElem?_take]at hj
    split at hj
    ·simpa using hj
    ·cases hj
   ·exact .inr ⟨j,Y7 hbm hj,r,cc,hr,hzr,hl⟩)
 rw[het]at hK
 refine Oper.wp_value hrun (hK _ _ _ _ (hm.put (st:=(st.freeze (QQ fs)).setRow id _) (by show∀d,o.dst=some d->d<(st.freeze (QQ fs)).nt;rw[(QL _ st).2];exact QK hd) ?_) hg2 (JR hs _) (Xr ⟨Nat.le_refl _,by omega⟩))
 refine .inr ⟨_,.own id t τ xs false true w.heap.size n (by rw[Q1,if_pos rfl]) (Qp _ _ _),?_⟩
 have:xs.length=n:=by omega
 rw[this];rfl
include hE in
theorem Uf {T:TypeId}{τ:Ty}{n:Nat}{ps:Array (Nat×Operand)}{fs:List AV}{xs:List (den τ)}(hid:ρ id=none)(ho:o.op= .buildSlice T n ps)(hT:E.ty T=some (.sl τ))(hon:(E.on&&slT τ)=false)(hn:n*nc τ<=16777216)
  (hfs:Jk (ev E st) (List.replicate n τ) ps.toList (List.replicate n (.t τ (Q9 τ)))=some fs) (hxs:Je st.row τ fs=some xs) (hep:JL (JA 6) fs=false) (hids:QQ fs=[])
  (hK:Nx E w0 B pv S ρ st o.dst (quiet (.t (.sl τ) xs)) id K):o.wp P a w K Q:=by
 obtain⟨t,hu,het,hte,hpos,hnb⟩:=(hE.ty _ _ hT).und
 obtain⟨i,hi,hsz,hby,hz⟩:=(hE.ty _ _ hte).info
 have hzc:(valOf (.t τ (Q9 τ)) (zc τ)).cells.toList=zc τ:=J7 (S:=S) (w:=w) (ρ:=ρ) (row:=st.row) (pv:=pv) (.t τ (Q9 τ)) (.t τ _ _ (Jl S w τ))
 have hzs:(valOf (.t τ (Q9 τ)) (zc τ)).cells.size=nc τ:=by rw[<-Array.length_toList,hzc];exact(Jl S w τ).len
 have hpl:∀i σ,(List.replicate n τ)[i]? =some σ->(λi=>some (i*nc τ,nc τ)) i=some (QB (List.replicate n τ) i,nc σ):=λk σ hk=>by
  obtain⟨h6,h7⟩:=List.getElem?_eq_some_iff.1 hk
  simp only[List.length_replicate]at h6
  simp only[List.getElem_replicate]at h7
  subst h7
  rw[QX _ _ _ (by omega)]
 obtain⟨css',h6,h7,h8,h9,h10⟩:=KH (Qj hgl hs) hpl ps.toList _ fs (List.replicate n (zc τ)) hfs (by simp) (by simp) (λk σ b hk hb=>by
  have e1:=(List.getElem?_eq_some_iff.1 hk).2
  have e2:=(List.getElem?_eq_some_iff.1 hb).2
  simp only[List.getElem_replicate]at e1 e2
  subst e1;subst e2
  exact .t _ _) (λk b c hb hc=>by
  have e1:=(List.getElem?_eq_some_iff.1 hb).2
  have e2:=(List.getElem?_eq_some_iff.1 hc).2
  simp only[List.getElem_replicate]at e1 e2
  subst e1;subst e2
  exact .t _ _ _ (Jl S w τ))
 simp only[List.length_replicate]at h7 h8
 have hcells:(Array.range (n*i.size)).map ((valOf (.t τ (Q9 τ)) (zc τ)).cells[· % (valOf (.t τ (Q9 τ)) (zc τ)).cells.size]!)=(List.replicate n (zc τ)).flatten.toArray:=by
  apply Array.ext'
  have:=Xu (valOf (.t τ (Q9 τ)) (zc τ)).cells n
  rw[hzc,hzs]at this
  rw[hsz]
  simpa[madeCells]using this
 have hrun:(execOp a.eval o).run P w= .ok (.value (.slice (some ⟨w.heap.size,0,none⟩) n n)) (w.alloc (.cells css'.flatten.toArray t)):=by
  unfold execOp
  by_cases h0:n=0
  ·subst h0
   have e1:ps.toList=[]:=by
    cases hps:ps.toList with
    |nil=>rfl
    |cons p l=>rw[hps]at hfs;simp[Jk]at hfs
   have e2:ps= #[]:=Array.toList_eq_nil_iff.1 e1
   have e3:css'=[]:=List.eq_nil_of_length_eq_zero h8
   subst e2;subst e3
   simp[ho,Instr.buildSlice,run_underlying hu,sizeOf,typeInfo,hi,Instr.fill,newRow,Array.range_zero',Array.map_empty]
  ·have hr:=run_buildSlice (P:=P) w T t n (ps.map λp=>(p.1,a.eval p.2)) css'.flatten.toArray i _ hu hi hz (by rw[hsz];omega) (by rw[hsz];intro h;rcases Nat.mul_eq_zero.1 h with h|h<;>omega)
    (by rw[hcells,hsz,Array.toList_map];exact h6)
   simp only[ho,Sem.run_bind,hr,Result.andThen_ok,Sem.run_pure]
 obtain⟨hxl,hxg⟩:=Yz hxs
 have hzf:=hs.frzs (QQ fs)
 obtain⟨hm,hg2⟩:=Sim.alloc (E:=E) (w:=w) (cur:=css'.flatten.toArray) (T:=t) (r:=.flat t τ xs false true) (c:=n) hzf (hgl.mono (λ_ h=>.inl h) (λ_ _=>rfl)) hid rfl (λρ' row' _=>by
  have hclen:∀(k:Nat) (σ:Ty) (d:List Value),(List.replicate n τ)[k]? =some σ->css'[k]? =some d->d.length=nc σ:=λk σ d hk hd=>by
   have hkl:k<fs.length:=by have:=(List.getElem?_eq_some_iff.1 hk).1;simp at this;omega
   exact AR.len (h9 k σ _ hk (List.getElem?_eq_getElem hkl)) (h10 k _ d (List.getElem?_eq_getElem hkl) hd)
  obtain⟨hs1,hs2⟩:=seg (by simp[h8]) hclen
  refine⟨_,_,heap_alloc_new w _,?_,by omega,?_,λ_=>rfl,.inl (Nat.le_refl _),hpos,λk hk=>?_⟩
  ·simp[hs1,JV]
  ·have:=Nat.le_mul_of_pos_right n hpos
   simp only[maxLen]
   omega
  ·have hkn:k<n:=by omega
   obtain⟨b,c,h11,h12,h13⟩:=hxg k hk
   have hck:css'[k]? =some css'[k]:=List.getElem?_eq_getElem (by omega)
   have hbm:=List.mem_of_getElem? h11
   obtain⟨kb,hkb⟩:=List.getElem?_of_mem hbm
   have hcl:=Jc (ρ0:=ρ) (row0:=st.row) (S1:=Y4 S ρ st.row (QQ fs)) hs.hs (λ_ h=>.inl h) h12 (h10 k b _ h11 hck) (.inr ⟨QS (f:=JA 6) hep hkb,λj hj r g cc hr hzr hl=>?_⟩)
   ·refine⟨css'[k],(hgl.up hon (Qq h13 hcl)).mono (λb hb=>hb.mono (λh=>h) (heap_alloc_old w _ b (hzf.hs.stab b hb.1))) (λb hb=>heap_alloc_old w _ b (hzf.hs.stab b hb.1)),λj v hj=>?_⟩
    obtain⟨h14,h15⟩:=hs2 k _ τ hck (by simp[hkn])
    rw[QX _ _ _ (by omega)]at h14 h15
    rw[<-h14]at hj
    rw[List.getElem?_take]at hj
    split at hj
    ·simpa using hj
    ·cases hj
   ·exact .inr ⟨j,Y7 hbm hj,r,cc,hr,hzr,hl⟩)
 have hlen:xs.length=n:=by omega
 have hrow:=hm.hs.rows id _ _ (by rw[Q1,if_pos rfl]) (Qp _ _ _)
 have hbl:∀b,b<w.heap.size->(w.alloc (.cells css'.flatten.toArray t)).heap[b]? =w.heap[b]?:=λb hb=>heap_alloc_old w _ b hb
 have hnf:∀b,Y4 S ρ st.row (QQ fs) b->S b:=λb hb=>hb.resolve_right λ⟨j,hj,_⟩=>by rw[hids]at hj;cases hj
 have hs2:=hs.growX (w':=w.alloc (.cells css'.flatten.toArray t)) (S':=λb=>S b\/b=w.heap.size) hm.below (by rw[World.size_alloc'];omega) (λb hb=>hbl b (hs.hs.stab b hb)) (λj r l g h1 h2 h3=>hbl g ((hs.hs.rows j r l h2 h1).has_lt h3)) (λ_ h=>.inl h)
  (λb hb=>hb.imp _root_.id λe=>⟨λj r l h1 h2 h3=>by have:=(hs.hs.rows j r l h2 h1).has_lt h3;omega,by rw[World.size_alloc'];omega⟩)
 have hv:=Q88 (Q2H (S':=λb=>S b\/b=w.heap.size) (ρ':=ρ) (row':=st.row) (λb hb=>.inl (hnf b hb)) hrow) (.inr rfl)
 rw[hlen]at hv
 refine Oper.wp_value hrun (hK _ _ _ _ (hs2.put (QK hd) (.inr ⟨_,.t _ _ _ hv,rfl⟩)) (hgl.mono (λ_ h=>.inl h) λb hb=>hbl b (hs.hs.stab b hb)) ⟨λb hb _=>.inl hb,λb hb=>hb.imp _root_.id λe hB=>by have:=hs.hB b hB;omega⟩ (λ_ h _=>h))
end
end Go.Gx
end
section
/- The interpreter's operations are the machine's: len,min,max,append. -/
namespace Go.Gx
open Go.RowKit
theorem Xa {cv:Nat->List Value}{s:Nat}:∀{n:Nat},(∀k,k<n->(cv k).length=s)->((List.range n).flatMap cv).length=n*s
 |0,_=>by simp
 |n+1,h=>by
  rw[List.range_succ,List.flatMap_append,List.length_append,Xa λk hk=>h k (by omega)]
  simp[h n (by omega),Nat.succ_mul]
theorem flat_get {cv:Nat->List Value}{s n:Nat}(h:∀k,k<n->(cv k).length=s){i j:Nat}(hi:i<n)(hj:j<s):((List.range n).flatMap cv)[i*s+j]? =(cv i)[j]?:=by
 have e1:n=i+(1+(n-i-1)):=by omega
 rw[e1,List.range_add,List.flatMap_append,List.getElem?_append_right (by rw[Xa λk hk=>h k (by omega)];omega),Xa λk hk=>h k (by omega),Nat.add_sub_cancel_left,
  List.range_add,List.map_append,List.flatMap_append]
 simp only[List.range_one,List.map_cons,List.map_nil,List.flatMap_cons,List.flatMap_nil,List.append_nil,Nat.add_zero]
 rw[List.getElem?_append_left (by rw[h _ hi];exact hj)]
section
variable {S:Nat->Prop} {w:World} {ρ:Nat->Option Loc} {row:Nat->Option Row} {pv:Nat->Value} {B:Old}
theorem Q5u (h:HS S w ρ row pv B){b:AV}{τ:Ty}{xs:List (den τ)}(hl:listOf row τ b=some xs){v:Value}(hv:VR S w ρ row pv b v) :
  ∃A c,v= .slice A xs.length c/\∀i (hi:i<xs.length),∃g o cs,A=some ⟨g,o,none⟩/\CR S w τ xs[i] cs/\∀j u,cs[j]? =some u->w.cell? ⟨g,o+(i*nc τ+j),none⟩=some u:=by
 unfold listOf at hl
 split at hl
 ·cases hl
  exact⟨none,0,Q1O hv,λi hi=>absurd hi (Nat.not_lt_zero i)⟩
 ·rename_i σ ys
  split at hl
  ·rename_i e _
   subst e
   cases hl
   obtain⟨A,c,cv,e3,h2,h3,h4,h5⟩:=Jn (Q2E hv)
   refine⟨A,c,e3,λi hi=>?_⟩
   obtain⟨g,o,e,_,hc⟩:=h5 i hi
   exact⟨g,o,cv i,e,h4 i hi,hc⟩
  ·cases hl
 ·rename_i j
  split at hl
  ·rename_i e σ ys fz app hr
   split at hl
   ·rename_i e' _
    subst e'
    cases hl
    rcases Yv hv hr with⟨g,c,hl,rfl⟩|⟨hl,rfl,rfl⟩
    ·obtain⟨cur,f,h1,h2,h3,h4,h5,h6,h7,h8⟩:=h.rows j _ _ hr hl
     refine⟨_,_,rfl,λi hi=>?_⟩
     obtain⟨cs,hc,hv⟩:=h8 i hi
     refine⟨g,0,cs,rfl,hc.un,λk u hk=>?_⟩
     have:=hv k u hk
     simp only[World.cell?,h1,Nat.zero_add]
     simpa using this
    ·exact⟨none,0,rfl,λi hi=>absurd hi (Nat.not_lt_zero i)⟩
   ·cases hl
  ·cases hl
 ·cases hl
theorem Gi {τ:Ty}{xs:List (den τ)}{A:Option Addr}(hpos:0<nc τ)(h:∀i (hi:i<xs.length),∃g o cs,A=some ⟨g,o,none⟩/\CR S w τ xs[i] cs/\∀j u,cs[j]? =some u->w.cell? ⟨g,o+(i*nc τ+j),none⟩=some u)(h0:xs.length≠0) :
  ∃g o,A=some ⟨g,o,none⟩/\∃news:List Value,news.length=xs.length*nc τ/\(∀j u,news[j]? =some u->w.cell? ⟨g,o+j,none⟩=some u)/\(∀u∈news,u.oneCell'=true)/\
   ∀i (hi:i<xs.length),∃cs,CR S w τ xs[i] cs/\∀j u,cs[j]? =some u->news[i*nc τ+j]? =some u:=by
 obtain⟨g,o,cs0,hA,_,_⟩:=h 0 (by omega)
 subst hA
 have hx:∀i,∃cs,∀(hi:i<xs.length),CR S w τ xs[i] cs/\∀j u,cs[j]? =some u->w.cell? ⟨g,o+(i*nc τ+j),none⟩=some u:=λi=>by
  by_cases hi:i<xs.length
  ·obtain⟨g',o',cs,e,h1,h2⟩:=h i hi
   cases e
   exact⟨cs,λ_=>⟨h1,h2⟩⟩
  ·exact⟨[],λh=>absurd h hi⟩
 let cv:=λi=>Classical.choose (hx i)
 have hcv:∀i (hi:i<xs.length),CR S w τ xs[i] (cv i)/\∀j u,(cv i)[j]? =some u->w.cell? ⟨g,o+(i*nc τ+j),none⟩=some u:=λi=>Classical.choose_spec (hx i)
 have hlen:∀k,k<xs.length->(cv k).length=nc τ:=λk hk=>(hcv k hk).1.len
 refine⟨g,o,rfl,(List.range xs.length).flatMap cv,Xa hlen,λj u hj=>?_,λu hu=>?_,λi hi=>⟨cv i,(hcv i hi).1,λj u hj=>?_⟩⟩
 ·have hjl:=(List.getElem?_eq_some_iff.1 hj).1
  rw[Xa hlen]at hjl
  have hi:j / nc τ<xs.length:=(Nat.div_lt_iff_lt_mul hpos).2 hjl
  have hr:j % nc τ<nc τ:=Nat.mod_lt _ hpos
  have hd:j / nc τ*nc τ+j % nc τ=j:=by rw[Nat.mul_comm];exact Nat.div_add_mod _ _
  have:=flat_get hlen hi hr
  rw[hd]at this
  rw[this]at hj
  have:=(hcv _ hi).2 _ u hj
  rwa [hd]at this
 ·obtain⟨i,hi,hu⟩:=List.mem_flatMap.1 hu
  exact(hcv i (by simpa using hi)).1.one u hu
 ·have hj':j<nc τ:=by have:=(List.getElem?_eq_some_iff.1 hj).1;rw[hlen i hi]at this;exact this
  rw[flat_get hlen hi hj']
  exact hj
theorem Di {w':World}{τ:Ty}{xs ys:List (den τ)}{cur':Array Value}{e g' cap':Nat}{ρ':Nat->Option Loc}{row':Nat->Option Row}(hheap:w'.heap[g']? =some (.cells cur' e (0,0)))(hsize:cur'.size=cap'*nc τ)(hcap:xs.length+ys.length<=cap')(hm:cap'<=maxLen)(hpos:0<nc τ)
  (hS:∀b,S b->w'.heap[b]? =w.heap[b]?) (hold:∀i (hi:i<xs.length),∃cs,CR (cS pv S w) w τ xs[i] cs/\∀j v,cs[j]? =some v->cur'[i*nc τ+j]? =some v)
  (hnew:∀i (hi:i<ys.length),∃cs,CR (cS pv S w) w τ ys[i] cs/\∀j v,cs[j]? =some v->cur'[(xs.length+i)*nc τ+j]? =some v):QG S w' ρ' row' pv (.flat e τ (xs++ys) false true) (.at g' cap'):=by
 refine⟨cur',(0,0),hheap,hsize,by simpa using hcap,hm,λ_=>rfl,.inl (Nat.le_refl _),hpos,λi hi=>?_⟩
 by_cases h:i<xs.length
 ·obtain⟨cs,h1,h2⟩:=hold i h
  exact⟨cs,by rw[List.getElem_append_left h];exact h1.mono (λb hb=>hb.mono (λh=>h) (hS b hb.1)) λb hb=>hS b hb.1,h2⟩
 ·simp only[List.length_append]at hi
  obtain⟨cs,h1,h2⟩:=hnew (i-xs.length) (by omega)
  rw[show xs.length+(i-xs.length)=i by omega]at h2
  exact⟨cs,by rw[List.getElem_append_right (by omega)];exact h1.mono (λb hb=>hb.mono (λh=>h) (hS b hb.1)) λb hb=>hS b hb.1,h2⟩
end
theorem Jt {P:Program}{w:World}{t ty e:TypeId}{i:TypeInfo}(ht:P.underlying t=some (.slice e))(hi:P.info? e=some i)(A A':Option Addr)(n cap c:Nat)(hn:n<=cap) :
  (Builtin.append_ #[t,t] ty #[.slice A n cap,.slice A' 0 c]).run P w= .ok (.slice A n cap) w:=by
 cases A<;>cases A'<;>simp[Builtin.append_,run_underlying ht,sizeOf,typeInfo,hi,Builtin.lenOf,hn,Builtin.firstCells,loadCells,loadCellsFrom,storeCells]
section
variable {P:Program} {E:Env} {w0:World} {B:Old} {pv:Nat->Value} {S:Nat->Prop} {ρ:Nat->Option Loc} {st:St} {a:Act} {w:World} {o:Oper} {id:Nat} {K:Act->World->Prop} {Q:Exit->Act->World->Prop}
variable (hE:EnvOk P E) (hs:Sim w0 B pv S ρ st a w) (hgl:Qr E pv S w) (hd:J9 o st.nt=true)
include hs hgl hd
omit hs hgl hd in
theorem Y8 {f:Operand->AV}:∀l:List Operand,Qx f l=l.map f
 |[]=>rfl
 |x::l=>by simp[Qx,Y8 l]
omit hs hgl hd in
theorem Jf {b:Builtin}{args:Array Operand}{ats:Array TypeId}{v:Value}{w':World}(ho:o.op= .call {callee:=.builtin b,args:=args,argTypes:=ats})
  (h:(builtin b ats o.type (args.map fun|.const _=>true|_=>false) (args.map a.eval)).run P w= .ok (.value v) w'):(execOp a.eval o).run P w= .ok (.value v) w':=by
 unfold execOp
 simp only[ho,resolve,invoke,Sem.run_bind,Sem.run_pure,Result.andThen_ok]
 exact h
include hE in
omit hE hs hgl hd in
theorem Q8Q {j:Nat}{e:Ty}{xs:List (den e)}{v:Value}(h:VR S w ρ st.row pv (.ds j (.sl e) xs) v):∃A c,v= .slice A xs.length c:=by
 obtain⟨cs,h',rfl⟩:=Qw h (by simp)
 cases h' with
 |ds _ _ _ _ r T v hr hl hc=>
  obtain⟨u,rfl⟩:=UV hc
  obtain⟨A,c,cv,rfl,_⟩:=Jn hc
  exact⟨A,c,rfl⟩
include hE in
theorem Q6F {args:Array Operand}{T:TypeId}{b:AV}{n:Int}(ho:o.op= .call {callee:=.builtin .len,args:=args,argTypes:=#[T]})(hargs:Qx (ev E st) args.toList=[b])(hl:Q3y st.row (E.ty T) b=some n)
  (hK:Nx E w0 B pv S ρ st o.dst (quiet (.t (.int .i64) n)) id K):o.wp P a w K Q:=by
 obtain⟨x,hx⟩:∃x,args= #[x]/\ev E st x=b:=by
  rw[Y8]at hargs
  match h:args.toList,hargs with
  |[x],hargs=>exact⟨x,Array.toList_inj.1 (by rw[h]),by simpa using hargs⟩
  |[],hargs=>simp at hargs
  |_::_::_,hargs=>simp at hargs
 obtain⟨rfl,rfl⟩:=hx
 have e1:=Qj hgl hs x
 refine Q8 hs hgl hd (v:=.int .i64 n) (Jf ho ?_) (.inr ⟨_,.t _ _ _ (.int _ _),rfl⟩) hK
 unfold Q3y at hl
 split at hl
 ·rename_i hT hx
  rw[hx]at e1
  cases hl
  obtain⟨t,hu,_⟩:=(hE.ty _ _ hT).und
  simp[builtin,Builtin.len_,run_underlying hu,Q1O e1,goInt]
 ·rename_i s hT hx
  rw[hx]at e1
  cases hl
  have hu:P.underlying T=some .string:=(hE.ty _ _ hT).und
  simp[builtin,Builtin.len_,run_underlying hu,Js e1,goInt]
 ·rename_i _ τ xs hT hx
  rw[hx]at e1
  cases hl
  obtain⟨t,hu,_⟩:=(hE.ty _ _ hT).und
  obtain⟨A,c,cv,e3,_⟩:=Jn (Q2E e1)
  simp[builtin,Builtin.len_,run_underlying hu,e3,goInt]
 ·rename_i _ j hT hx
  rw[hx]at e1
  obtain⟨t,hu,_⟩:=(hE.ty _ _ hT).und
  split at hl
  ·rename_i e τ xs fz app hr
   cases hl
   rcases Yv e1 hr with⟨g,c,_,e3⟩|⟨_,rfl,e3⟩
   ·simp[builtin,Builtin.len_,run_underlying hu,e3,goInt]
   ·simp[builtin,Builtin.len_,run_underlying hu,e3,goInt]
  ·cases hl
 ·rename_i _ j τ xs hT hx
  rw[hx]at e1
  cases hl
  obtain⟨t,hu,_⟩:=(hE.ty _ _ hT).und
  obtain⟨A,c,e3⟩:=Q8Q e1
  simp[builtin,Builtin.len_,run_underlying hu,e3,goInt]
 ·cases hl
omit hs hgl hd in
theorem KI {args:Array Operand}{b c:AV}(hargs:Qx (ev E st) args.toList=[b,c]):∃x y,args= #[x,y]/\ev E st x=b/\ev E st y=c:=by
 rw[Y8]at hargs
 match h:args.toList,hargs with
 |[x,y],hargs=>exact⟨x,y,Array.toList_inj.1 (by rw[h]),by simpa using hargs⟩
 |[],hargs=>simp at hargs
 |[_],hargs=>simp at hargs
 |_::_::_::_,hargs=>simp at hargs
omit hs hgl hd in
theorem Q3T {args:Array Operand}{b c d:AV}(hargs:Qx (ev E st) args.toList=[b,c,d]):∃x y z,args= #[x,y,z]/\ev E st x=b/\ev E st y=c/\ev E st z=d:=by
 rw[Y8]at hargs
 match h:args.toList,hargs with
 |[x,y,z],hargs=>exact⟨x,y,z,Array.toList_inj.1 (by rw[h]),by simpa using hargs⟩
 |[],hargs=>simp at hargs
 |[_],hargs=>simp at hargs
 |[_,_],hargs=>simp at hargs
 |_::_::_::_::_,hargs=>simp at hargs
theorem Xb {bi:Builtin}{args:Array Operand}{ats:Array TypeId}{u:Upd}(ho:o.op= .call {callee:=.builtin bi,args:=args,argTypes:=ats})(h :
   (bi= .min/\∃x y:Int,Qx (ev E st) args.toList=[.t (.int .i64) x,.t (.int .i64) y]/\u=quiet (.t (.int .i64) (if y<x then y else x)))\/
   (bi= .max/\∃x y:Int,Qx (ev E st) args.toList=[.t (.int .i64) x,.t (.int .i64) y]/\u=quiet (.t (.int .i64) (if y > x then y else x)))\/
   (bi= .min/\∃x y z:Int,Qx (ev E st) args.toList=[.t (.int .i64) x,.t (.int .i64) y,.t (.int .i64) z]/\u=quiet (.t (.int .i64) (if z<(if y<x then y else x)then z else(if y<x then y else x)))))
  (hK:Nx E w0 B pv S ρ st o.dst u id K):o.wp P a w K Q:=by
 rcases h with⟨rfl,x,y,hargs,rfl⟩|⟨rfl,x,y,hargs,rfl⟩|⟨rfl,x,y,z,hargs,rfl⟩
 ·obtain⟨p,q,rfl,hp,hq⟩:=KI hargs
  have e1:=Qj hgl hs p
  have e2:=Qj hgl hs q
  rw[hp]at e1
  rw[hq]at e2
  exact Q8 hs hgl hd (v:=.int .i64 (if y<x then y else x)) (Jf ho (by simp[builtin,Builtin.min_,Builtin.min2,Qm e1,Qm e2])) (.inr ⟨_,.t _ _ _ (.int _ _),rfl⟩) hK
 ·obtain⟨p,q,rfl,hp,hq⟩:=KI hargs
  have e1:=Qj hgl hs p
  have e2:=Qj hgl hs q
  rw[hp]at e1
  rw[hq]at e2
  exact Q8 hs hgl hd (v:=.int .i64 (if y > x then y else x)) (Jf ho (by simp[builtin,Builtin.max_,Builtin.max2,Qm e1,Qm e2])) (.inr ⟨_,.t _ _ _ (.int _ _),rfl⟩) hK
 ·obtain⟨p,q,r,rfl,hp,hq,hr⟩:=Q3T hargs
  have e1:=Qj hgl hs p
  have e2:=Qj hgl hs q
  have e3:=Qj hgl hs r
  rw[hp]at e1
  rw[hq]at e2
  rw[hr]at e3
  exact Q8 hs hgl hd (v:=.int .i64 (if z<(if y<x then y else x)then z else(if y<x then y else x))) (Jf ho (by simp[builtin,Builtin.min_,Builtin.min2,Qm e1,Qm e2,Qm e3])) (.inr ⟨_,.t _ _ _ (.int _ _),rfl⟩) hK
end
end Go.Gx
end
section
/- The interpreter's operations are the machine's: append. -/
namespace Go.Gx
open Go.RowKit
section
variable {P:Program} {E:Env} {w0:World} {B:Old} {pv:Nat->Value} {S:Nat->Prop} {ρ:Nat->Option Loc} {st:St} {a:Act} {w:World} {o:Oper} {id:Nat} {K:Act->World->Prop} {Q:Exit->Act->World->Prop}
variable (hE:EnvOk P E) (hs:Sim w0 B pv S ρ st a w) (hgl:Qr E pv S w) (hd:J9 o st.nt=true)
include hs hgl hd
theorem XW {j:Nat}(hj:j≠Q7){r r':Row}{l l':Loc}{w':World}{v:Value}(hrun:(execOp a.eval o).run P w= .ok (.value v) w')(hb:Blw B w0 w')(hr:st.row j=some r)(hl:ρ j=some l)(hf:frz r=false)(hf':frz r'=false)
  (hsz:w.heap.size<=w'.heap.size) (hold:∀b,b<w.heap.size->¬l.has b->w'.heap[b]? =w.heap[b]?)
  (hl':∀b,l'.has b->l.has b\/w.heap.size<=b) (hok:∀ρ' row',QG S w' ρ' row' pv r' l')
  (hv:∀ρ' row',ρ' j=some l'->row' j=some r'->VR S w' ρ' row' pv (.own j) v)
  (hK:Nx E w0 B pv S ρ st o.dst ⟨.own j,[],[],some (j,r'),none⟩ id K):o.wp P a w K Q:=by
 have hm:=hs.app hb hj hr hl hf hf' hsz hold hl' hok
 refine Oper.wp_value hrun (hK S _ _ _ (hm.put (QK hd) (hv _ _ (Qp _ _ _) (by rw[Q1,if_pos rfl]))) (hgl.mono (λ_ h=>h) λb hb=>hold b (hs.hs.stab b hb) λe=>(hs.hs.apart0 j r l b hl hr e).2.1 hf hb) (Grew.refl _ _) λi hi _=>?_)
 have:i≠j:=by rintro rfl;rw[hl]at hi;cases hi
 simp only[upd,if_neg this,killL,hi]
 cases inR j (j+1) i<;>rfl
include hE in
theorem Q2I {args:Array Operand}{T:TypeId}{b c:AV}{u:Upd}(hid:ρ id=none)(ho:o.op= .call {callee:=.builtin .append,args:=args,argTypes:=#[T,T]})(hargs:Qx (ev E st) args.toList=[b,c])(h:Q6o E T b c id st.row u)
  (hK:Nx E w0 B pv S ρ st o.dst u id K):o.wp P a w K Q:=by
 obtain⟨x,y,rfl,rfl,rfl⟩:=KI hargs
 obtain⟨τ,ys,hT,hon,hys,h⟩:=h
 obtain⟨t,hu,het,hte,hpos,hnb⟩:=(hE.ty _ _ hT).und
 obtain⟨i,hi,hsz,hby,hz⟩:=(hE.ty _ _ hte).info
 have hzc:(valOf (.t τ (Q9 τ)) (zc τ)).cells.toList=zc τ:=J7 (S:=S) (w:=w) (ρ:=ρ) (row:=st.row) (pv:=pv) (.t τ (Q9 τ)) (.t τ _ _ (Jl S w τ))
 have hzs:(valOf (.t τ (Q9 τ)) (zc τ)).cells.size=nc τ:=by rw[<-Array.length_toList,hzc];exact(Jl S w τ).len
 have e1:=Qj hgl hs x
 have e2:=Qj hgl hs y
 obtain⟨A,c,hy,hel⟩:=Q5u hs.hs hys e2
 have run:∀{v:Value} {w':World},(Builtin.append_ #[T,T] o.type #[a.eval x,a.eval y]).run P w= .ok v w'->(execOp a.eval o).run P w= .ok (.value v) w':=λhr=>Jf ho (by simp[builtin,hr])
 have hnil:([]:List Value).toArray= #[]:=rfl
 have small:∀n,room n τ=true->n<=140737488355328/\n*i.bytes<=140737488355328:=λn hn=>by
  have h1:=Nat.le_of_ble_eq_true hn
  exact⟨Nat.le_trans (Nat.le_mul_of_pos_right _ hnb) h1,by rw[hby];exact h1⟩
 have hS:∀(w':World),(∀b,b<w.heap.size->w'.heap[b]? =w.heap[b]?)->∀b,S b->w'.heap[b]? =w.heap[b]?:=λw' hw b hb=>hw b (hs.hs.stab b hb)
 have fresh:∀(olds news:List Value) (xs:List (den τ)) (n cap:Nat),n=xs.length+ys.length->olds.length=xs.length*nc τ->news.length=ys.length*nc τ->
   (∀i (hi:i<xs.length),∃cs,CR (cS pv S w) w τ xs[i] cs/\∀j v,cs[j]? =some v->olds[i*nc τ+j]? =some v)->(∀i (hi:i<ys.length),∃cs,CR (cS pv S w) w τ ys[i] cs/\∀j v,cs[j]? =some v->news[i*nc τ+j]? =some v)->n<=cap->cap<=maxLen->
   ∀ρ' row',QG S (w.drew.alloc (.cells (olds.toArray++news.toArray++Builtin.zeroCells (valOf (.t τ (Q9 τ)) (zc τ)).cells (cap-n)) t)) ρ' row' pv (.flat t τ (xs++ys) false true) (.at w.heap.size cap):=by
  intro olds news xs n cap hn ho hn2 h1 h2 h3 h4 ρ' row'
  refine Di (w:=w) (heap_alloc_new w.drew _) ?_ (by omega) h4 hpos (hS _ λb hb=>heap_alloc_old w.drew _ b hb) (λk hk=>?_) (λk hk=>?_)
  ·simp only[Array.size_append,List.size_toArray,size_zeroCells,hzs,ho,hn2,<-Nat.add_mul]
   congr 1
   omega
  ·obtain⟨cs,h5,h6⟩:=h1 k hk
   refine⟨cs,h5,λj v hj=>?_⟩
   have:=h6 j v hj
   have hlt:=(List.getElem?_eq_some_iff.1 this).1
   rw[Array.append_assoc,Array.getElem?_append_left (by simpa using hlt)]
   simpa using this
  ·obtain⟨cs,h5,h6⟩:=h2 k hk
   refine⟨cs,h5,λj v hj=>?_⟩
   have:=h6 j v hj
   have hlt:=(List.getElem?_eq_some_iff.1 this).1
   rw[Nat.add_mul,Nat.add_assoc,Array.append_assoc,Array.getElem?_append_right (by simp[ho]),Array.getElem?_append_left (by simp[ho];omega)]
   simp only[List.size_toArray,ho,Nat.add_sub_cancel_left]
   simpa using this
 have hdold:∀(o':Obj) (b:Nat),b<w.heap.size->(w.drew.alloc o').heap[b]? =w.heap[b]?:=λo' b hb=>heap_alloc_old w.drew _ b hb
 have hdb:∀o':Obj,Blw B w0 (w.drew.alloc o'):=λo'=>hs.drew.below.alloc hs.drew.hB _
 have hdsz:∀o':Obj,w.heap.size<=(w.drew.alloc o').heap.size:=λo'=>by rw[World.size_alloc'];exact Nat.le_succ _
 rcases h with⟨hx,hroom,rfl⟩|⟨j,xs,hx,hjm,hr,hroom,rfl⟩
 ·rw[hx]at e1
  have hv:=Q1O e1
  obtain⟨hm1,hm2⟩:=small _ hroom
  by_cases h0:ys.length=0
  ·have:ys=[]:=List.eq_nil_of_length_eq_zero h0
   subst this
   have hrun:=Jt (P:=P) (w:=w) (ty:=o.type) hu hi none A 0 0 c (Nat.le_refl _)
   have hm:=hs.make (w':=w) (r:=.flat (E.el T) τ [] false true) (l:=.nilrow) hs.below (Nat.le_refl _) (λ_ _=>rfl) hid rfl (λg e=>False.elim e) (λρ' row' _=>⟨rfl,rfl,hpos⟩)
   refine Oper.wp_value (run (by rw[hv,hy];exact hrun)) (hK S _ _ _ (hm.put (QK hd) (.inr ⟨_,.ownNil id _ τ _ _ (by rw[Q1,if_pos rfl]) (Qp _ _ _),rfl⟩)) hgl (Grew.refl _ _) (Xr ⟨Nat.le_refl _,by omega⟩))
  ·obtain⟨g,off,hA,news,hn1,hn2,hn3,hn4⟩:=Gi hpos hel h0
   have hn4:=λi hi=>(hn4 i hi).imp λcs h=>And.imp_left (hgl.up hon) h
   have hrun:=run_append_nil (P:=P) w T o.type t i _ hu hi hz ⟨g,off,none⟩ ys.length c news (by rw[hn1,hsz]) (λj v hj=>by rw[Addr.add_lit];exact hn2 j v hj) (by omega) (by omega) (by omega)
   have hcm:grownCap w ys.length 0 t<=maxLen:=grownCap_le_maxLen w _ _ _ (by simp only[maxLen];omega)
   have hfr:=fresh [] news [] ys.length (grownCap w ys.length 0 t) (by simp) (by simp) hn1 (λi hi=>absurd hi (Nat.not_lt_zero i)) hn4 (grownCap_ge _ _ _ _) hcm
   simp only[List.nil_append,hnil,Array.empty_append]at hfr
   have hm:=hs.make (w':=_) (l:=.at w.heap.size (grownCap w ys.length 0 t)) (r:=.flat (E.el T) τ ys false true) (hdb _) (hdsz _) (hdold _) hid rfl (λg e=>by cases e;exact Nat.le_refl _) (λρ' row' _=>by rw[het];exact hfr ρ' row')
   refine Oper.wp_value (run (by rw[hv,hy,hA];exact hrun)) (hK S _ _ _ (hm.put (QK hd) (.inr ⟨_,.own id _ τ _ _ _ _ _ (by rw[Q1,if_pos rfl]) (Qp _ _ _),rfl⟩)) (hgl.mono (λ_ h=>h) (hS _ (hdold _))) (Grew.refl _ _) (Xr ⟨Nat.le_refl _,by omega⟩))
 ·rw[hx]at e1
  obtain⟨hm1,hm2⟩:=small _ hroom
  rw[het]at hr hK
  rcases Yv e1 hr with⟨g,cap,hl,hv⟩|⟨hl,rfl,hv⟩
  ·obtain⟨cur,f,h1,h2,h3,h4,h5,h6,h7,h8⟩:=hs.hs.rows j _ _ hr hl
   have hf0:=h5 rfl
   subst hf0
   have hap:=hs.hs.apart j _ g cap hl hr
   by_cases h0:ys.length=0
   ·have:ys=[]:=List.eq_nil_of_length_eq_zero h0
    subst this
    have hrun:=Jt (P:=P) (w:=w) (ty:=o.type) hu hi (some ⟨g,0,none⟩) A xs.length cap c h3
    refine XW hs hgl hd hjm (l':=.at g cap) (run (by rw[hv,hy];exact hrun)) hs.below hr hl rfl rfl (Nat.le_refl _) (λ_ _ _=>rfl) (λg' e=>.inl e) (λρ' row'=>?_) (λρ' row' h9 h10=>?_) hK
    ·exact Di (w:=w) h1 h2 (by simpa using h3) h4 hpos (λ_ _=>rfl) h8 (λi hi=>absurd hi (Nat.not_lt_zero i))
    ·refine .inr ⟨_,.own j t τ (xs++[]) false true g cap h10 h9,?_⟩
     simp[valOf,isAg]
   ·obtain⟨ga,off,hA,news,hn1,hn2,hn3,hn4⟩:=Gi hpos hel h0
    have hn4:=λi hi=>(hn4 i hi).imp λcs h=>And.imp_left (hgl.up hon) h
    have hxl:(cur.toList.take (xs.length*nc τ)).length=xs.length*nc τ:=by
     have e:cur.toList.length=cur.size:=Array.length_toList
     rw[List.length_take,e,h2]
     exact Nat.min_eq_left (Nat.mul_le_mul_right _ h3)
    by_cases hfit:xs.length+ys.length<=cap
    ·have hfit2:xs.length*nc τ+news.length<=cur.size:=by rw[hn1,h2,<-Nat.add_mul];exact Nat.mul_le_mul_right _ hfit
     have hrun:=run_append_room (P:=P) w T o.type t i hu hi g xs.length cap cur h1 ⟨ga,off,none⟩ ys.length c news (by rw[hn1,hsz]) (λj v hj=>by rw[Addr.add_lit];exact hn2 j v hj) hn3 hfit (by rw[hsz];exact hfit2)
     rw[hsz]at hrun
     refine XW hs hgl hd hjm (l':=.at g cap) (run (by rw[hv,hy,hA];exact hrun)) (below_setRow hs.below hap.1 _) hr hl rfl rfl (by simp[World.setRow]) (λb hb hne=>setRow_other w g b _ hne) (λg' e=>.inl e) (λρ' row'=>?_) (λρ' row' h9 h10=>?_) hK
     ·refine Di (w:=w) (setRow_heap w g cur _ t _ h1) ?_ hfit h4 hpos (λb hb=>setRow_other w g b _ λe=>hap.2.1 rfl (e▸hb)) (λk hk=>?_) (λk hk=>?_)
      ·simp only[List.size_toArray,List.length_append,hxl,List.length_drop,Array.length_toList]
       omega
      ·obtain⟨cs,h9,h10⟩:=h8 k hk
       refine⟨cs,h9,λm v hm=>?_⟩
       have:=h10 m v hm
       have hml:m<nc τ:=by have:=(List.getElem?_eq_some_iff.1 hm).1;rw[h9.len]at this;exact this
       have hlt:k*nc τ+m<xs.length*nc τ:=by
        have:(k+1)*nc τ<=xs.length*nc τ:=Nat.mul_le_mul_right _ hk
        rw[Nat.succ_mul]at this
        omega
       simp only[List.getElem?_toArray,List.append_assoc]
       rw[List.getElem?_append_left (by rw[hxl];exact hlt),List.getElem?_take,if_pos hlt]
       simpa using this
      ·obtain⟨cs,h9,h10⟩:=hn4 k hk
       refine⟨cs,h9,λm v hm=>?_⟩
       have:=h10 m v hm
       have hlt:=(List.getElem?_eq_some_iff.1 this).1
       simp only[List.getElem?_toArray,List.append_assoc]
       rw[Nat.add_mul,Nat.add_assoc,List.getElem?_append_right (by rw[hxl];omega),hxl,Nat.add_sub_cancel_left,List.getElem?_append_left hlt]
       exact this
     ·refine .inr ⟨_,.own j t τ (xs++ys) false true g cap h10 h9,?_⟩
      simp[valOf,isAg]
    ·have holds:∀m v,(cur.toList.take (xs.length*nc τ))[m]? =some v->w.cell? ((⟨g,0,none⟩:Addr).add m)=some v:=λm v hm=>by
      rw[Addr.add_lit]
      rw[List.getElem?_take]at hm
      split at hm
      ·exact KF h1 m v hm
      ·cases hm
     have hrun:=run_append_grow (P:=P) w T o.type t i _ hu hi hz ⟨g,0,none⟩ xs.length cap (cur.toList.take (xs.length*nc τ)) (by rw[hxl,hsz]) holds ⟨ga,off,none⟩ ys.length c news (by rw[hn1,hsz]) (λj v hj=>by rw[Addr.add_lit];exact hn2 j v hj)
      (by omega) (by omega) (growslice_fits (by omega) hm2)
     have hcm:grownCap w (xs.length+ys.length) cap t<=maxLen:=grownCap_le_maxLen w _ _ _ (by simp only[maxLen];omega)
     refine XW hs hgl hd hjm (l':=.at w.heap.size (grownCap w (xs.length+ys.length) cap t)) (run (by rw[hv,hy,hA];exact hrun)) (hdb _) hr hl rfl rfl (hdsz _) (λb hb _=>hdold _ b hb) (λg' e=>by cases e;exact .inr (Nat.le_refl _)) (λρ' row'=>?_) (λρ' row' h9 h10=>?_) hK
     ·refine fresh _ news xs _ _ rfl hxl hn1 (λk hk=>?_) hn4 (grownCap_ge _ _ _ _) hcm ρ' row'
      obtain⟨cs,h9,h10⟩:=h8 k hk
      refine⟨cs,h9,λm v hm=>?_⟩
      have:=h10 m v hm
      have hml:m<nc τ:=by have:=(List.getElem?_eq_some_iff.1 hm).1;rw[h9.len]at this;exact this
      have hlt:k*nc τ+m<xs.length*nc τ:=by
       have:(k+1)*nc τ<=xs.length*nc τ:=Nat.mul_le_mul_right _ hk
       rw[Nat.succ_mul]at this
       omega
      rw[List.getElem?_take,if_pos hlt]
      simpa using this
     ·refine .inr ⟨_,.own j t τ (xs++ys) false true _ _ h10 h9,?_⟩
      simp[valOf,isAg]
  ·by_cases h0:ys.length=0
   ·have:ys=[]:=List.eq_nil_of_length_eq_zero h0
    subst this
    have hrun:=Jt (P:=P) (w:=w) (ty:=o.type) hu hi none A 0 0 c (Nat.le_refl _)
    refine XW hs hgl hd hjm (l':=.nilrow) (run (by rw[hv,hy];exact hrun)) hs.below hr hl rfl rfl (Nat.le_refl _) (λ_ _ _=>rfl) (λg' e=>False.elim e) (λρ' row'=>?_) (λρ' row' h9 h10=>?_) hK
    ·exact⟨rfl,rfl,hpos⟩
    exact .inr ⟨_,.ownNil j t τ false true h10 h9,rfl⟩
   ·obtain⟨g,off,hA,news,hn1,hn2,hn3,hn4⟩:=Gi hpos hel h0
    have hn4:=λi hi=>(hn4 i hi).imp λcs h=>And.imp_left (hgl.up hon) h
    have hrun:=run_append_nil (P:=P) w T o.type t i _ hu hi hz ⟨g,off,none⟩ ys.length c news (by rw[hn1,hsz]) (λj v hj=>by rw[Addr.add_lit];exact hn2 j v hj) (by omega) (by simp at hm1;omega) (by simp at hm2;omega)
    have hcm:grownCap w ys.length 0 t<=maxLen:=grownCap_le_maxLen w _ _ _ (by simp only[maxLen];simp at hm1;omega)
    have hfr:=fresh [] news [] ys.length (grownCap w ys.length 0 t) (by simp) (by simp) hn1 (λi hi=>absurd hi (Nat.not_lt_zero i)) hn4 (grownCap_ge _ _ _ _) hcm
    simp only[List.nil_append,hnil,Array.empty_append]at hfr
    refine XW hs hgl hd hjm (l':=.at w.heap.size (grownCap w ys.length 0 t)) (run (by rw[hv,hy,hA];exact hrun)) (hdb _) hr hl rfl rfl (hdsz _) (λb hb _=>hdold _ b hb) (λg' e=>by cases e;exact .inr (Nat.le_refl _)) (λρ' row'=>hfr ρ' row') (λρ' row' h9 h10=>?_) hK
    exact .inr ⟨_,.own j t τ ys false true _ _ h10 h9,rfl⟩
end
end Go.Gx
end
section
/- Calls: what a callee's answer is in memory,and how the caller takes it. -/
namespace Go.Gx
open Go.RowKit
def QD (P:Program)(R:Value->World->Prop):Result Next->Prop
 |.ok (.value v) w'=>R v w'
 |.ok (.enter f args) w'=>Calls P f args w' λe w''=>∃v,e= .returned v/\R v w''
 |.ok (.row row args) w'=>Rows P row args w' R
 |_=>False
def Goes (P:Program)(f:FuncId)(args:Array Value)(w:World)(R:Value->World->Prop):Prop:=QD P R ((callFunc f args).run P w)
def Q8A (P:Program)(fv:Value)(args:Array Value)(w:World)(R:Value->World->Prop):Prop:=
 QD P R ((do let d <-Deferred.ofValue fv args;invoke d.target d.args:Sem Next).run P w)
theorem Jz {P:Program}{o:Oper}{a:Act}{w:World}{K:Act->World->Prop}{Q:Exit->Act->World->Prop}(h:QD P (λv w'=>K (a.put o.dst v) w') ((execOp a.eval o).run P w)):o.wp P a w K Q:=by
 unfold Oper.wp
 generalize (execOp a.eval o).run P w=r at*
 cases r with
 |halt x w'=>exact h.elim
 |ok n w'=>
  cases n<;>first
   |exact h
   |exact h.elim
   |exact Calls.mono h λe w'' ⟨v,he,hv⟩=>by subst he;exact hv
theorem QD.mono {P:Program}{R R':Value->World->Prop}{r:Result Next}(h:QD P R r)(hr:∀v w,R v w->R' v w):QD P R' r:=by
 cases r with
 |halt x w'=>exact h.elim
 |ok n w'=>
  cases n<;>first
   |exact hr _ _ h
   |exact h.elim
   |exact Calls.mono h λe w'' ⟨v,he,hv⟩=>⟨v,he,hr _ _ hv⟩
   |exact Rows.mono h λv w'' hv=>hr _ _ hv
inductive R1 (S:Nat->Prop)(w:World)(n0:Nat)(pv:Nat->Value):AV->Value->Option Nat->Prop
 |plain (a:AV) (cs:List Value) (h:AR S w (λ_=>none) (λ_=>none) pv a cs):R1 S w n0 pv a (valOf a cs) none
 |fr (e:Nat) (τ:Ty) (xs:List (den τ)) (g cap:Nat) (hg:n0<=g) (hS:¬S g) (h:QG S w (λ_=>none) (λ_=>none) pv (.flat e τ xs false true) (.at g cap)):R1 S w n0 pv (.fr e τ xs) (.slice (some ⟨g,0,none⟩) xs.length cap) (some g)
 |frNil (e:Nat) (τ:Ty) (h:0<nc τ):R1 S w n0 pv (.fr e τ []) (.slice none 0 0) none
 |agf (τ:Ty) (fs:List AV) (css:List (List Value)) (k:Nat) (e:Nat) (σ:Ty) (xs:List (den σ)) (g cap:Nat) (hl:fs.length=css.length) (hk:fs[k]? =some (.fr e σ xs)) (hc:css[k]? =some [.slice (some ⟨g,0,none⟩) xs.length cap])
   (ho:∀(i:Nat) a cs,i≠k->fs[i]? =some a->css[i]? =some cs->AR S w (λ_=>none) (λ_=>none) pv a cs) (hg:n0<=g) (hS:¬S g) (h:QG S w (λ_=>none) (λ_=>none) pv (.flat e σ xs false true) (.at g cap)):R1 S w n0 pv (.agg τ fs) (.agg css.flatten.toArray) (some g)
 |agfNil (τ:Ty) (fs:List AV) (css:List (List Value)) (k:Nat) (e:Nat) (σ:Ty) (hl:fs.length=css.length) (hk:fs[k]? =some (.fr e σ [])) (hc:css[k]? =some [.slice none 0 0])
   (ho:∀(i:Nat) a cs,i≠k->fs[i]? =some a->css[i]? =some cs->AR S w (λ_=>none) (λ_=>none) pv a cs) (h:0<nc σ):R1 S w n0 pv (.agg τ fs) (.agg css.flatten.toArray) none
theorem GR {S:Nat->Prop}{w:World}{ρ:Nat->Option Loc}{row:Nat->Option Row}{pv:Nat->Value}{id:Nat}:∀{fs:List AV} {css:List (List Value)},fs.length=css.length->(∀(i:Nat) a cs,fs[i]? =some a->css[i]? =some cs->AR S w ρ row pv a cs)->XI id fs=(fs,[])
 |[],_,_,_=>rfl
 |a::l,[],h,_=>by cases h
 |a::l,c::m,h,hh=>by
  have ih:=GR (fs:=l) (css:=m) (id:=id) (by simpa using h) λi a cs h1 h2=>hh (i+1) a cs (by simpa using h1) (by simpa using h2)
  have ha:=hh 0 a c rfl rfl
  unfold XI
  rw[ih]
  cases ha<;>rfl
theorem XX {S:Nat->Prop}{w:World}{ρ:Nat->Option Loc}{row:Nat->Option Row}{pv:Nat->Value}{id e:Nat}{σ:Ty}{xs:List (den σ)}:∀{fs:List AV} {css:List (List Value)} {k:Nat},fs.length=css.length->fs[k]? =some (.fr e σ xs)->(∀(i:Nat) a cs,i≠k->fs[i]? =some a->css[i]? =some cs->AR S w ρ row pv a cs)->
  XI id fs=(fs.set k (.own id),[(id,.flat e σ xs false true)])
 |[],_,k,_,h,_=>by simp at h
 |a::l,[],_,h,_,_=>by cases h
 |a::l,c::m,0,h,hk,hh=>by
  cases hk
  rfl
 |a::l,c::m,k+1,h,hk,hh=>by
  have ih:=XX (fs:=l) (css:=m) (k:=k) (id:=id) (by simpa using h) (by simpa using hk) λi a cs h0 h1 h2=>hh (i+1) a cs (by omega) (by simpa using h1) (by simpa using h2)
  have ha:=hh 0 a c (by omega) rfl rfl
  unfold XI
  rw[ih]
  cases ha<;>rfl
def RR (S:Nat->Prop)(w:World)(n0:Nat)(pv:Nat->Value)(r:AV)(v:Value):Prop:=
 match r with
 |.tup rs=>∃(vs:List Value) (gs:List (Option Nat)),v= .tuple vs.toArray/\vs.length=rs.length/\gs.length=rs.length/\
   (∀(i:Nat) r v g,rs[i]? =some r->vs[i]? =some v->gs[i]? =some g->R1 S w n0 pv r v g)/\(∀(i j g:Nat),i≠j->gs[i]? =some (some g)->gs[j]? ≠some (some g))
 |r=>∃g,R1 S w n0 pv r v g
def QY (S:Nat->Prop)(w:World)(pv:Nat->Value)(args:List AV)(vs:List Value):Prop:=
 vs.length=args.length/\∀(i:Nat) a v,args[i]? =some a->vs[i]? =some v->∃cs,AR S w (λ_=>none) (λ_=>none) pv a cs/\v=valOf a cs
def Qa (P:Program)(E:Env)(pv:Nat->Value)(cal:Cal)(args:List AV)(r:AV):Prop:=
 ∀(S:Nat->Prop) (w:World) (vs:List Value),(∀b,S b->b<w.heap.size)->Qr E pv S w->QY S w pv args vs->
  (match cal with
   |.f n=>Goes P n vs.toArray w
   |.par i=>Q8A P (pv i) vs.toArray w) λv w'=>Below w.heap.size w w'/\∃S':Nat->Prop,(∀b,S b->S' b)/\(∀b,S' b->S b\/(w.heap.size<=b/\b<w'.heap.size))/\RR S' w' w.heap.size pv r v
def Yw:AV->Loc->Value
 |.fr _ _ xs,.at g cap=>.slice (some ⟨g,0,none⟩) xs.length cap
 |.fr _ _ _,.nilrow=>.slice none 0 0
 |.bx _ _,.at g _=>.pointer (some ⟨g,0,none⟩)
 |_,_=>undef
abbrev GT (S:Nat->Prop)(w:World)(pv:Nat->Value)(r:Row)(l:Loc):Prop:=QG S w (λ_=>none) (λ_=>none) pv r l
def Q9k (S:Nat->Prop)(w:World)(n0:Nat)(pv:Nat->Value)(a0:AV)(l:Loc)(r:AV)(v:Value):Prop:=
 match r with
 |.kep o r'=>RR S w n0 pv r' v/\∃r0 ro,rowOf a0=some r0/\rowOf o=some ro/\GT S w pv ro l/\Same r0 ro/\∀g c,l= .at g c->¬S g
 |.pc false τ y=>slT τ=false/\∃cs,v=valOf (.t τ y) cs/\CR S w τ y cs
 |.mov e τ ys=>∃l',GT S w pv (.flat e τ ys false true) l'/\v=Yw (.fr e τ ys) l'/\∀g c,l'= .at g c->¬S g/\((∃c0,l= .at g c0)\/n0<=g)
 |_=>False
def J6 (P:Program)(E:Env)(pv:Nat->Value)(f:Nat)(a0:AV)(args:List AV)(r:AV):Prop:=
 ∀(S:Nat->Prop) (w:World) (v0:Value) (vs:List Value) (l:Loc) (r0:Row),(∀b,S b->b<w.heap.size)->Qr E pv S w->QY S w pv args vs->rowOf a0=some r0->GT S w pv r0 l->(∀g c,l= .at g c->¬S g)->v0=Yw a0 l->
  Goes P f (v0::vs).toArray w λv w'=>Blw ⟨λb=>b<w.heap.size/\∀g c,l= .at g c->b≠g,none⟩ w w'/\∃S':Nat->Prop,(∀b,S b->S' b)/\(∀b,S' b->S b\/(∃c,l= .at b c)\/(w.heap.size<=b/\b<w'.heap.size))/\Q9k S' w' w.heap.size pv a0 l r v
def Loc.hard (l:Loc):Prop:=(∀T v,l≠ .soft T v)/\∀cs T v,l≠ .tree cs T v
theorem Loc.hard.at {l:Loc}(h:l.hard){b:Nat}(hb:l.has b):∃c,l= .at b c:=by
 cases l with
 |«at» g c=>cases hb;exact⟨c,rfl⟩
 |nilrow=>exact hb.elim
 |soft T v=>exact absurd rfl (h.1 T v)
 |tree cs T v=>exact absurd rfl (h.2 cs T v)
theorem KJ {S:Nat->Prop}{w:World}{ρ:Nat->Option Loc}{row:Nat->Option Row}{pv:Nat->Value}{a:AV}{r:Row}{l:Loc}(ha:rowOf a=some r)(h:QG S w ρ row pv r l):l.hard:=by
 refine⟨λT v e=>?_,λcs T v e=>?_⟩
 ·subst e
  cases a<;>cases ha
  ·exact h.elim
  ·obtain⟨h0,⟨b,h1,_⟩,_⟩:=h
   cases h1
   cases h0
 ·subst e
  cases a<;>cases ha
  ·exact h.elim
  ·obtain⟨_,_,e,ap,x,h1,_⟩:=h
   cases h1
def Q6G (P:Program)(E:Env)(pv:Nat->Value)(f:Nat)(τ:Ty)(x:den τ)(k m:Int):Prop:=
 ∀(S T:Nat->Prop) (v w:World) (cs:List Value),(∀b,S b->b<w.heap.size)->Qr E pv S w->(∀b,S b->¬T b)->JD T v w->CR T v τ x cs->
  Goes P f #[valOf (.t τ x) cs,.int .i64 k] w λu w'=>u= .int .i64 m/\Blw ⟨λb=>b<w.heap.size/\¬T b,none⟩ w w'/\JD T v w'
def Q6H (P:Program)(E:Env)(pv:Nat->Value)(f:Nat)(args:List AV)(r:AV):Prop:=
 ∀(S:Nat->Prop) (w:World) (vs:List Value),(∀b,S b->b<w.heap.size)->Qr E pv S w->QY S w pv args vs->
  Goes P f vs.toArray w λu w'=>Below w.heap.size w w'/\∃τ x T cs,(r= .pc true τ x\/r= .t τ x)/\u=valOf (.t τ x) cs/\(∀b,T b->w.heap.size<=b/\b<w'.heap.size/\OB w' b)/\CR T w' τ x cs
inductive RT1 (w:World)(pv:Nat->Value):AV->Value->(Nat->Prop)->Prop
 |flat (τ:Ty) (x:den τ) (cs:List Value) (T:Nat->Prop) (hs:slT τ=false) (h:CR (λ_=>False) w τ x cs):RT1 w pv (.t τ x) (valOf (.t τ x) cs) T
 |weak (τ:Ty) (x:den τ) (v:Value) (T:Nat->Prop) (hs:slT τ=true):RT1 w pv (.t τ x) v T
 |nil (T:Nat->Prop):RT1 w pv .nil (.slice none 0 0) T
 |fr (e:Nat) (τ:Ty) (xs:List (den τ)) (g cap:Nat) (T:Nat->Prop) (hs:slT τ=false) (hT:T g) (h:QG (λ_=>False) w (λ_=>none) (λ_=>none) pv (.flat e τ xs false true) (.at g cap)):RT1 w pv (.fr e τ xs) (.slice (some ⟨g,0,none⟩) xs.length cap) T
 |frNil (e:Nat) (τ:Ty) (T:Nat->Prop) (hs:slT τ=false) (h:0<nc τ):RT1 w pv (.fr e τ []) (.slice none 0 0) T
 |tr (τ:Ty) (x:den τ) (cs:List Value) (T:Nat->Prop) (hs:slT τ=true) (h:TR w T τ x cs):RT1 w pv (.tr τ x) (valOf (.t τ x) cs) T
def Q5v (w:World)(n0:Nat)(O T:Nat->Prop):Prop:=∀b,T b->(n0<=b\/O b)/\OB w b
def RT (w:World)(n0:Nat)(O:Nat->Prop)(pv:Nat->Value)(r:AV)(v:Value):Prop:=match r with
 |.tup rs=>∃(vs:List Value) (Ts:Nat->Nat->Prop),v= .tuple vs.toArray/\vs.length=rs.length/\(∀(i:Nat) r v,rs[i]? =some r->vs[i]? =some v->RT1 w pv r v (Ts i)/\Q5v w n0 O (Ts i))/\∀i j b,i≠j->Ts i b->¬Ts j b
 |r=>∃T,RT1 w pv r v T/\Q5v w n0 O T
def Q6I (P:Program)(E:Env)(pv:Nat->Value)(f:Nat)(args:List AV)(r:AV):Prop:=
 ∀(S:Nat->Prop) (w:World) (vs:List Value),(∀b,S b->b<w.heap.size)->Qr E pv S w->QY S w pv args vs->
  Goes P f vs.toArray w λu w'=>Below w.heap.size w w'/\RT w' w.heap.size (λ_=>False) pv r u
def Q6J (P:Program)(E:Env)(pv:Nat->Value)(f:Nat)(τ:Ty)(x:den τ)(args:List AV)(y:den τ):Prop:=
 ∀(S T:Nat->Prop) (v w:World) (cs vs:List Value),(∀b,S b->b<w.heap.size)->Qr E pv S w->(∀b,S b->¬T b)->JD T v w->TR w T τ x cs->QY S w pv args vs->
  Goes P f (valOf (.t τ x) cs::vs).toArray w λu w'=>Blw ⟨λb=>b<w.heap.size/\¬T b,none⟩ w w'/\RT w' w.heap.size T pv (.tr τ y) u
def Q6K (P:Program)(E:Env)(pv:Nat->Value)(f:Nat)(τ:Ty)(x:den τ)(k:Int)(y:den τ)(m:Int):Prop:=
 ∀(S T:Nat->Prop) (v w:World) (cs:List Value),(∀b,S b->b<w.heap.size)->Qr E pv S w->(∀b,S b->¬T b)->JD T v w->TR w T τ x cs->
  Goes P f #[valOf (.t τ x) cs,.int .i64 k] w λu w'=>u= .int .i64 m/\Blw ⟨λb=>b<w.heap.size/\¬T b,none⟩ w w'/\JD T v w'/\TR w' T τ y cs
def Q6L (P:Program)(E:Env)(pv:Nat->Value)(cal:Cal)(args:List AV)(r:AV):Prop:=
 (∀f as,cal= .f f->args= .pc false .bool false::as->Q6I P E pv f as r)/\
 (∀f τ x as y,cal= .f f->args= .pc false τ x::as->slT τ=true->r= .tr τ y->Q6J P E pv f τ x as y)/\
 ∀f τ x k y m,cal= .f f->args=[.pc false τ x,.t (.int .i64) k]->slT τ=true->r= .kep (.t τ y) (.t (.int .i64) m)->Q6K P E pv f τ x k y m
def Q8B (P:Program)(E:Env)(pv:Nat->Value)(cal:Cal)(args:List AV)(r:AV):Prop:=
 ((∀c τ x l,args≠ .pc c τ x::l)->Qa P E pv cal args r/\∀f a0 rest,cal= .f f->args=a0::rest->rowOf a0≠none->J6 P E pv f a0 rest r)/\
 (∀f τ x k m,cal= .f f->args=[.pc true τ x,.t (.int .i64) k]->r= .t (.int .i64) m->Q6G P E pv f τ x k m)/\
 (∀f as,cal= .f f->args= .pc false .bool true::as->Q6H P E pv f as r)/\Q6L P E pv cal args r
theorem Ug {P:Program}{E:Env}{pv:Nat->Value}{cal:Cal}{args:List AV}{r:AV}(h:∀τ x l,args≠ .pc false τ x::l):Q6L P E pv cal args r:=
 ⟨λ_ _ _ e=>absurd e (h _ _ _),λ_ _ _ _ _ _ e=>absurd e (h _ _ _),λ_ _ _ _ _ _ _ e=>absurd e (h _ _ _)⟩
def GOk (P:Program)(E:Env)(pv:Nat->Value)(G:Cal->List AV->AV->Prop):Prop:=∀cal args r,G cal args r->Q8B P E pv cal args r
theorem Q4G {S S':Nat->Prop}{w w':World}{ρ ρ':Nat->Option Loc}{row row':Nat->Option Row}{pv:Nat->Value}:∀{n:Nat} {a:AV} {cs:List Value},leads n a=false->AR S w ρ row pv a cs->AR S' w' ρ' row' pv a cs
 |0,_,_,h,_=>by cases h
 |n+1,a,cs,h,ha=>by
  cases ha with
  |t τ x _ hx=>exact .t τ x _ (J5 h hx)
  |nil=>exact .nil
  |tup vs css hl hh=>
   refine .tup vs css hl λi b c hb hc=>Q4G (n:=n) (QS (f:=leads n) h hb) (hh i b c hb hc)
  |_=>cases h
theorem Q4H {S S':Nat->Prop}{w:World}{n0:Nat}{pv:Nat->Value}{n:Nat}{a:AV}{v:Value}{g:Option Nat}(h:leads n a=false)(hS:∀b,S' b->b<n0)(hr:R1 S w n0 pv a v g):R1 S' w n0 pv a v g:=by
 cases hr with
 |plain a cs ha=>exact .plain a cs (Q4G h ha)
 |fr e τ xs g cap hg hS' hrow=>
  have hsl:slT τ=false:=by cases n with
   |zero=>simp[leads]at h
   |succ n=>simpa[leads]using h
  refine .fr e τ xs g cap hg (λhb=>by have:=hS g hb;omega) ?_
  obtain⟨cur,f,h1,h2,h3,h4,h5,h6,h7,h8⟩:=hrow
  refine⟨cur,f,h1,h2,h3,h4,h5,h6,h7,λi hi=>?_⟩
  obtain⟨cs,h9,h10⟩:=h8 i hi
  exact⟨cs,J5 hsl h9,h10⟩
 |frNil e τ h'=>exact .frNil e τ h'
 |agf=>cases n<;>cases h
 |agfNil=>cases n<;>cases h
theorem Q4I {S S':Nat->Prop}{w:World}{n0:Nat}{pv:Nat->Value}{r:AV}{v:Value}(h:leads 4 r=false)(hS:∀b,S' b->b<n0)(hr:RR S w n0 pv r v):RR S' w n0 pv r v:=by
 cases r with
 |tup rs=>
  obtain⟨vs,gs,h1,h2,h3,h4,h5⟩:=hr
  exact⟨vs,gs,h1,h2,h3,λi r v g hi hv hg=>Q4H (n:=3) (QS (f:=leads 3) h hi) hS (h4 i r v g hi hv hg),h5⟩
 |_=>obtain⟨g,hg⟩:=hr;exact⟨g,Q4H h hS hg⟩
section
variable {w0:World} {B:Old} {pv:Nat->Value} {S S':Nat->Prop} {ρ ρ':Nat->Option Loc} {st:St} {a:Act} {w w':World}
theorem Sim.adopt (h:Sim w0 B pv S ρ st a w){id:Nat}(hid:ρ id=none){r:Row}{l:Loc}(hf:frz r=false)(hl:∀g,l.has g->¬B g/\¬S g/\∀j l',ρ j=some l'->l'.has g->st.row j=none)
  (hflat:∀ρ' row',QG S w ρ' row' pv r l):Sim w0 B pv S (upd ρ id l) (st.setRow id r) a w:=by
 have hne:∀i l0,ρ i=some l0->i≠id:=λi l0 h1 e=>by subst e;rw[hid]at h1;cases h1
 have hk:∀i l0 r0,True->ρ i=some l0->st.row i=some r0->upd ρ id l i=some l0/\∃r',(st.setRow id r).row i=some r'/\Same r0 r':=λi l0 r0 _ h1 h2=>by
  have:=hne i l0 h1
  refine⟨by simp[upd,this,h1],r0,?_,.refl r0⟩
  rw[Q1,if_neg this];exact h2
 refine⟨h.size,h.defers,λt=>VR.ext (P:=λ_=>True) (λ_ h=>h) (λ_ _=>rfl) hk (h.slots t) (λ_ _=>trivial),⟨h.hs.stab,λi r0 l0 h1 h2=>?_,λi i' l1 l2 b h1 h2 h3 h4 h5 h6=>?_,λi r0 l1 b h1 h2 hb=>?_,λl0 hl0=>(by
  have:=h.hs.pin l0 hl0
  have hne':Q7≠id:=hne _ _ this
  simp only[upd,if_neg hne']
  exact this)⟩,h.below,h.hB⟩
 ·by_cases e:i=id
  ·subst e
   rw[Q1,if_pos rfl]at h1
   rw[Qp]at h2
   cases h1;cases h2
   exact hflat _ _
  ·rw[Q1,if_neg e]at h1
   simp only[upd,if_neg e]at h2
   exact(h.hs.rows i r0 l0 h1 h2).ext (P:=λ_=>True) (λ_ h=>h) (λ_ _=>rfl) hk (λ_ _=>rfl) (λ_ _ _ _ _=>trivial)
 ·rw[Q1]at h3 h4
  by_cases e:i=id<;>by_cases e':i'=id
  ·exact e.trans e'.symm
  ·subst e
   rw[Qp]at h1
   simp only[upd,if_neg e']at h2
   rw[if_neg e']at h4
   cases h1
   exact absurd ((hl b h5).2.2 i' l2 h2 h6) h4
  ·subst e'
   rw[Qp]at h2
   simp only[upd,if_neg e]at h1
   rw[if_neg e]at h3
   cases h2
   exact absurd ((hl b h6).2.2 i l1 h1 h5) h3
  ·simp only[upd,if_neg e]at h1
   simp only[upd,if_neg e']at h2
   rw[if_neg e]at h3
   rw[if_neg e']at h4
   exact h.hs.inj0 i i' l1 l2 b h1 h2 h3 h4 h5 h6
 ·by_cases e:i=id
  ·subst e
   rw[Q1,if_pos rfl]at h2
   rw[Qp]at h1
   cases h2
   cases h1
   obtain⟨h3,h4,_⟩:=hl b hb
   exact⟨h3,λ_=>h4,λh5=>by rw[hf]at h5;cases h5⟩
  ·rw[Q1,if_neg e]at h2
   simp only[upd,if_neg e]at h1
   exact h.hs.apart0 i r0 l1 b h1 h2 hb
theorem Dj (h:Sim w0 B pv S ρ st a w){n0:Nat}(hB:∀k,B k->k<n0){r:AV}{v:Value}{g:Option Nat}(hr:R1 S w n0 pv r v g){id:Nat}(hid:ρ id=none){b:AV}{l:List (Nat×Row)}(hi:Y0 id r (λb l=>some (b,l))=some (b,l))
  (hg:∀g0,g=some g0->∀j l',ρ j=some l'->l'.has g0->st.row j=none) :
  ∃ρ',Sim w0 B pv S ρ' (st.setRows l) a w/\(∃cs,AR S w ρ' (st.setRows l).row pv b cs/\v=valOf b cs)/\(∀j,j≠id->ρ' j=ρ j/\(st.setRows l).row j=st.row j)/\∀j l' g0,ρ' j=some l'->l'.has g0->(j≠id/\ρ j=some l')\/g=some g0:=by
 cases hr with
 |plain _ cs ha=>
  have hn:Y0 id r (λb l=>some (b,l))=some (r,[]):=by
   cases ha with
   |agg τ fs css hl hh=>simp only[Y0,GR hl hh]
   |_=>rfl
  rw[hn]at hi
  cases hi
  refine⟨ρ,h,⟨cs,?_,rfl⟩,λj _=>⟨rfl,rfl⟩,λj l' g0 hj _=>.inl ⟨?_,hj⟩⟩
  ·exact ha.ext (P:=λ_=>True) (λ_ h=>h) (λ_ _=>rfl) (λi l r _ h1 _=>by cases h1) (λ_ _=>trivial)
  ·rintro rfl;rw[hid]at hj;cases hj
 |fr e τ xs g cap hg0 hS hrow=>
  cases hi
  refine⟨upd ρ id (.at g cap),h.adopt hid rfl (λg' e=>by cases e;exact⟨λhb=>absurd (hB _ hb) (by omega),hS,hg g rfl⟩) (λ_ _=>hrow),⟨_,.own id e τ xs false true g cap (by simp only[St.setRows];rw[Q1,if_pos rfl]) (Qp _ _ _),rfl⟩,λj hj=>⟨by simp[upd,hj],by simp only[St.setRows];rw[Q1,if_neg hj]⟩,λj l' g0 hj hb=>?_⟩
  by_cases e:j=id
  ·subst e
   rw[Qp]at hj
   cases hj
   cases hb
   exact .inr rfl
  ·simp only[upd,if_neg e]at hj
   exact .inl ⟨e,hj⟩
 |frNil e τ hpos=>
  cases hi
  refine⟨upd ρ id .nilrow,h.adopt hid rfl (λg' e=>False.elim e) (λ_ _=>⟨rfl,rfl,hpos⟩),⟨_,.ownNil id e τ false true (by simp only[St.setRows];rw[Q1,if_pos rfl]) (Qp _ _ _),rfl⟩,λj hj=>⟨by simp[upd,hj],by simp only[St.setRows];rw[Q1,if_neg hj]⟩,λj l' g0 hj hb=>?_⟩
  by_cases e:j=id
  ·subst e
   rw[Qp]at hj
   cases hj
   exact hb.elim
  ·simp only[upd,if_neg e]at hj
   exact .inl ⟨e,hj⟩
 |agf τ fs css k e σ xs g cap hl hk hc ho hg0 hS hrow=>
  simp only[Y0,XX (id:=id) hl hk ho,Option.some.injEq,Prod.mk.injEq]at hi
  obtain⟨rfl,rfl⟩:=hi
  refine⟨upd ρ id (.at g cap),h.adopt hid rfl (λg' e=>by cases e;exact⟨λhb=>absurd (hB _ hb) (by omega),hS,hg g rfl⟩) (λ_ _=>hrow),⟨_,.agg τ _ css (by simpa using hl) λi a cs h1 h2=>?_,rfl⟩,λj hj=>⟨by simp[upd,hj],by simp only[St.setRows];rw[Q1,if_neg hj]⟩,λj l' g0 hj hb=>?_⟩
  ·by_cases e1:i=k
   ·subst e1
    rw[hc]at h2
    cases h2
    have hkl:i<fs.length:=(List.getElem?_eq_some_iff.1 hk).1
    rw[List.getElem?_set_self hkl]at h1
    cases h1
    exact .own id e σ xs false true g cap (by simp only[St.setRows];rw[Q1,if_pos rfl]) (Qp _ _ _)
   ·rw[List.getElem?_set_ne (Ne.symm e1)]at h1
    exact(ho i a cs e1 h1 h2).ext (P:=λ_=>True) (λ_ h=>h) (λ_ _=>rfl) (λi l r _ h1 _=>by cases h1) (λ_ _=>trivial)
  ·by_cases e:j=id
   ·subst e
    rw[Qp]at hj
    cases hj
    cases hb
    exact .inr rfl
   ·simp only[upd,if_neg e]at hj
    exact .inl ⟨e,hj⟩
 |agfNil τ fs css k e σ hl hk hc ho hpos=>
  simp only[Y0,XX (id:=id) hl hk ho,Option.some.injEq,Prod.mk.injEq]at hi
  obtain⟨rfl,rfl⟩:=hi
  refine⟨upd ρ id .nilrow,h.adopt hid rfl (λg' e=>False.elim e) (λ_ _=>⟨rfl,rfl,hpos⟩),⟨_,.agg τ _ css (by simpa using hl) λi a cs h1 h2=>?_,rfl⟩,λj hj=>⟨by simp[upd,hj],by simp only[St.setRows];rw[Q1,if_neg hj]⟩,λj l' g0 hj hb=>?_⟩
  ·by_cases e1:i=k
   ·subst e1
    rw[hc]at h2
    cases h2
    have hkl:i<fs.length:=(List.getElem?_eq_some_iff.1 hk).1
    rw[List.getElem?_set_self hkl]at h1
    cases h1
    exact .ownNil id e σ false true (by simp only[St.setRows];rw[Q1,if_pos rfl]) (Qp _ _ _)
   ·rw[List.getElem?_set_ne (Ne.symm e1)]at h1
    exact(ho i a cs e1 h1 h2).ext (P:=λ_=>True) (λ_ h=>h) (λ_ _=>rfl) (λi l r _ h1 _=>by cases h1) (λ_ _=>trivial)
  ·by_cases e:j=id
   ·subst e
    rw[Qp]at hj
    cases hj
    exact hb.elim
   ·simp only[upd,if_neg e]at hj
    exact .inl ⟨e,hj⟩
theorem Ja:∀(l m:List (Nat×Row)) (st:St),st.setRows (l++m)=(st.setRows l).setRows m
 |[],m,st=>rfl
 |p::l,m,st=>Ja l m (st.setRow p.1 p.2)
end
def YJ (id:Nat)(l:List (Nat×Row)):Prop:=∀st:St,(∀p∈l,(st.setRows l).row p.1=some p.2/\id<=p.1/\p.1<id+4)/\(∀j,(st.setRows l).row j=st.row j\/∃p∈l,p.1=j)/\(st.setRows l).slot=st.slot/\(st.setRows l).nt=st.nt
theorem QI (id:Nat):YJ id []:=λst=>⟨λp hp=>(by cases hp),λj=>.inl rfl,rfl,rfl⟩
theorem JS (id:Nat)(r:Row):YJ id [(id,r)]:=λst=>⟨λp hp=>by
 simp only[List.mem_singleton]at hp
 subst hp
 exact⟨by simp[St.setRows,Q1],Nat.le_refl _,by omega⟩,λj=>by
 by_cases e:id=j
 ·exact .inr ⟨_,List.mem_singleton.2 rfl,e⟩
 ·refine .inl ?_
  simp only[St.setRows,Q1,if_neg (Ne.symm e)],rfl,rfl⟩
theorem Yf {id0 id:Nat}(h:id0<=id/\id<id0+4){r:AV}{b:AV}{l:List (Nat×Row)}(hi:Y0 id r (λb l=>some (b,l))=some (b,l)):l=[]\/∃row,l=[(id,row)]:=by
 have hF:∀fs:List AV,(XI id fs).2=[]\/∃row,(XI id fs).2=[(id,row)]:=λfs=>by
  induction fs with
  |nil=>exact .inl rfl
  |cons a l ih=>cases a<;>first
   |exact ih
   |exact .inr ⟨_,rfl⟩
 cases r<;>simp only[Y0,Option.some.injEq,Prod.mk.injEq]at hi<;>(obtain⟨_,rfl⟩:=hi)<;>first
  |exact .inl rfl
  |exact .inr ⟨_,rfl⟩
  |exact hF _
theorem KL {id:Nat}{l:List (Nat×Row)}(h1:∀p∈l,id<=p.1/\p.1<id+4)(h2:l.Pairwise λp q=>p.1≠q.1):YJ id l:=by
 have key:∀(l:List (Nat×Row)) (st:St),l.Pairwise (λp q=>p.1≠q.1)->(∀p∈l,(st.setRows l).row p.1=some p.2)/\(∀j,(st.setRows l).row j=st.row j\/∃p∈l,p.1=j)/\(∀j,(∀p∈l,p.1≠j)->(st.setRows l).row j=st.row j)/\(st.setRows l).slot=st.slot/\(st.setRows l).nt=st.nt:=by
  intro l
  induction l with
  |nil=>exact λst _=>⟨λp hp=>(by cases hp),λj=>.inl rfl,λj _=>rfl,rfl,rfl⟩
  |cons p l ih=>
   intro st h2
   obtain⟨h3,h4⟩:=List.pairwise_cons.1 h2
   obtain⟨h5,h6,h7,h8,h9⟩:=ih (st.setRow p.1 p.2) h4
   refine⟨λq hq=>?_,λj=>?_,λj hj=>?_,h8,h9⟩
   ·rcases List.mem_cons.1 hq with rfl|hq
    ·show((st.setRow q.1 q.2).setRows l).row q.1=_
     rw[h7 q.1 λp hp e=>h3 p hp e.symm,Q1,if_pos rfl]
    ·exact h5 q hq
   ·rcases h6 j with h|⟨q,hq,e⟩
    ·by_cases e:p.1=j
     ·exact .inr ⟨p,List.mem_cons_self,e⟩
     ·refine .inl ?_
      show((st.setRow p.1 p.2).setRows l).row j=_
      rw[h,Q1,if_neg (Ne.symm e)]
    ·exact .inr ⟨q,List.mem_cons_of_mem _ hq,e⟩
   ·show((st.setRow p.1 p.2).setRows l).row j=_
    rw[h7 j λq hq=>hj q (List.mem_cons_of_mem _ hq),Q1,if_neg (Ne.symm (hj p List.mem_cons_self))]
 intro st
 obtain⟨h3,h4,_,h5,h6⟩:=key l st h2
 exact⟨λp hp=>⟨h3 p hp,h1 p hp⟩,h4,h5,h6⟩
theorem YK {id:Nat}{r:AV}{b:AV}{l:List (Nat×Row)}(hi:Jp id r (λb l=>some (b,l))=some (b,l)):YJ id l:=by
 have one:Y0 id r (λb l=>some (b,l))=some (b,l)->YJ id l:=λhi=>by
  rcases Yf (id0:=id) ⟨Nat.le_refl _,by omega⟩ hi with rfl|⟨row,rfl⟩
  ·exact QI id
  ·exact JS id row
 cases r with
 |tup rs=>
  match rs,hi with
  |[],hi=>cases hi;exact QI id
  |[_],hi=>simp[Jp]at hi
  |[x,y],hi=>
   simp only[Jp]at hi
   obtain⟨b1,l1,e1,hi⟩:=QN hi
   obtain⟨b2,l2,e2,hi⟩:=QN hi
   cases hi
   rcases Yf (id0:=id) ⟨Nat.le_refl _,by omega⟩ e1 with rfl|⟨r1,rfl⟩<;>rcases Yf (id0:=id) ⟨by omega,by omega⟩ e2 with rfl|⟨r2,rfl⟩<;>
    exact KL (by simp<;>omega) (by simp)
  |[x,y,z],hi=>
   simp only[Jp]at hi
   obtain⟨b1,l1,e1,hi⟩:=QN hi
   obtain⟨b2,l2,e2,hi⟩:=QN hi
   obtain⟨b3,l3,e3,hi⟩:=QN hi
   cases hi
   rcases Yf (id0:=id) ⟨Nat.le_refl _,by omega⟩ e1 with rfl|⟨r1,rfl⟩<;>rcases Yf (id0:=id) ⟨by omega,by omega⟩ e2 with rfl|⟨r2,rfl⟩<;>rcases Yf (id0:=id) ⟨by omega,by omega⟩ e3 with rfl|⟨r3,rfl⟩<;>
    exact KL (by simp<;>omega) (by simp)
  |_::_::_::_::_,hi=>simp[Jp]at hi
 |_=>exact one (by simpa only[Jp]using hi)
end Go.Gx
end
section
/- The interpreter's operations are the machine's: calls. -/
namespace Go.Gx
open Go.RowKit
theorem KN (i:Nat)(ro:Row):∀(l:List (Nat×Row)) (s:St),(∀p∈l,p.1≠i)->(s.setRow i ro).setRows l=(s.setRows l).setRow i ro
 |[],s,_=>rfl
 |p::l,s,h=>by
  have h9:(s.setRow i ro).setRow p.1 p.2=(s.setRow p.1 p.2).setRow i ro:=by
   have hpi:=h p List.mem_cons_self
   unfold St.setRow
   congr 1
   funext j
   simp only[Qn]
   by_cases e1:j=p.1
   ·have e2:j≠i:=λe=>hpi (e1▸e)
    rw[decide_eq_true e1,decide_eq_false e2];rfl
   ·rw[decide_eq_false e1];rfl
  show((s.setRow i ro).setRow p.1 p.2).setRows l=((s.setRow p.1 p.2).setRows l).setRow i ro
  rw[h9]
  exact KN i ro l (s.setRow p.1 p.2) λq hq=>h q (List.mem_cons_of_mem _ hq)
theorem Q5w {o x0:AV}{ro r0:Row}(h:Gv o x0=true)(h1:rowOf o=some ro)(h2:rowOf x0=some r0):frz ro=false/\frz r0=false:=by
 cases o<;>cases h1<;>cases x0<;>cases h2<;>first
  |exact⟨rfl,rfl⟩
  |cases h
theorem Q2J {S:Nat->Prop}{w:World}{pv:Nat->Value}{a:AV}{r:Row}{l:Loc}(ha:rowOf a=some r)(h:GT S w pv r l):∀ρ' row',QG S w ρ' row' pv r l:=by
 intro ρ' row'
 exact QG.ext (P:=λ_=>True) (λ_ h=>h) (λ_ _=>rfl) (λid l r _ h1=>by cases h1) h (λ_ _=>rfl) (λ_ _ _ _ _=>trivial)
theorem Q0Z {S S':Nat->Prop}{w:World}{pv:Nat->Value}{a:AV}{r:Row}{l:Loc}(hs:slR r=false)(ha:rowOf a=some r)(h:GT S' w pv r l):GT S w pv r l:=by
 have hh:=KJ ha h
 cases a<;>cases ha
 ·cases l with
  |nilrow=>exact h
  |soft T v=>exact absurd rfl (hh.1 T v)
  |tree cs T v=>exact absurd rfl (hh.2 cs T v)
  |«at» g c=>
   obtain⟨cur,f,h1,h2,h3,h4,h5,h6,h7,h8⟩:=h
   refine⟨cur,f,h1,h2,h3,h4,h5,h6,h7,λi hi=>?_⟩
   obtain⟨cs,h9,h10⟩:=h8 i hi
   exact⟨cs,J5 hs h9,h10⟩
 ·cases l with
  |nilrow=>exact h
  |soft T v=>exact absurd rfl (hh.1 T v)
  |tree cs T v=>exact absurd rfl (hh.2 cs T v)
  |«at» g c=>
   obtain⟨cur,T,h1,h2,h3⟩:=h
   exact⟨cur,T,h1,h2,.t _ _ _ (J5 hs (KE h3))⟩
theorem R1.ge {S:Nat->Prop}{w:World}{n0:Nat}{pv:Nat->Value}{a:AV}{v:Value}{g0:Nat}(h:R1 S w n0 pv a v (some g0)):n0<=g0:=by
 cases h<;>assumption
section
variable {w0:World} {B:Old} {pv:Nat->Value} {S S':Nat->Prop} {ρ ρ':Nat->Option Loc} {st:St} {a:Act} {w w':World}
theorem Q4J (h:Sim w0 B pv S ρ st a w){n0:Nat}(hB:∀k,B k->k<n0){r:AV}{v:Value}(hr:RR S w n0 pv r v){id:Nat}(hid:∀c,c<4->ρ (id+c)=none){b:AV}{l:List (Nat×Row)}(hi:Jp id r (λb l=>some (b,l))=some (b,l))
  (hlow:∀j l b,ρ j=some l->st.row j≠none->l.has b->b<n0) :
  ∃ρ',Sim w0 B pv S ρ' (st.setRows l) a w/\VR S w ρ' (st.setRows l).row pv b v/\(∀j,ρ j=none->¬(id<=j/\j<id+4)->ρ' j=none):=by
 have low:∀{r v g},R1 S w n0 pv r v g->∀g0,g=some g0->∀j l',ρ j=some l'->l'.has g0->st.row j=none:=λh1 g0 e j l' hj hb=>by
  subst e
  apply Classical.byContradiction
  intro hn
  have:=hlow j l' g0 hj hn hb
  have:=h1.ge
  omega
 have h0:ρ id=none:=by simpa using hid 0 (by omega)
 have single:∀{r},(∃g,R1 S w n0 pv r v g)->Y0 id r (λb l=>some (b,l))=some (b,l)->∃ρ',Sim w0 B pv S ρ' (st.setRows l) a w/\VR S w ρ' (st.setRows l).row pv b v/\(∀j,ρ j=none->¬(id<=j/\j<id+4)->ρ' j=none):=λ{r} ⟨g,hg⟩ hi=>by
  obtain⟨ρ',h1,⟨cs,h2,h3⟩,h4,h5⟩:=Dj h hB hg h0 hi (low hg)
  exact⟨ρ',h1,.inr ⟨cs,h2,h3⟩,λj hj hn=>by rw[(h4 j (by omega)).1];exact hj⟩
 cases r with
 |tup rs=>
  obtain⟨vs,gs,rfl,hvl,hgl,h1,hd⟩:=hr
  match rs,hi,hvl,hgl,h1 with
  |[],hi,hvl,hgl,h1=>
   cases hi
   have:vs=[]:=List.eq_nil_of_length_eq_zero hvl
   subst this
   exact⟨ρ,h,Jm,λj hj _=>hj⟩
  |[_],hi,_,_,_=>simp[Jp]at hi
  |[x,y],hi,hvl,hgl,h1=>
   match vs,gs,hvl,hgl with
   |[v1,v2],[g1,g2],_,_=>
    have r1:=h1 0 x v1 g1 rfl rfl rfl
    have r2:=h1 1 y v2 g2 rfl rfl rfl
    simp only[Jp]at hi
    obtain⟨b1,l1,e1,hi⟩:=QN hi
    obtain⟨b2,l2,e2,hi⟩:=QN hi
    cases hi
    obtain⟨ρ1,s1,⟨c1,a1,rfl⟩,k1,m1⟩:=Dj h hB r1 h0 e1 (low r1)
    have f1:ρ1 (id+1)=none:=by rw[(k1 _ (by omega)).1];exact hid 1 (by omega)
    obtain⟨ρ2,s2,⟨c2,a2,rfl⟩,k2,m2⟩:=Dj s1 hB r2 f1 e2 (λg0 e j c hj hb=>by
     rcases m1 j c g0 hj hb with⟨hj1,hj2⟩|e'
     ·rw[(k1 j hj1).2];exact low r2 g0 e j c hj2 hb
     ·subst e;subst e'
      exact absurd rfl (hd 0 1 g0 (by omega) rfl))
    rw[Ja]
    have a1':=a1.ext (P:=λ_=>True) (S':=S) (w':=w) (ρ':=ρ2) (row':=((st.setRows l1).setRows l2).row) (λ_ h=>h) (λ_ _=>rfl) (λj l r _ h3 h4=>by
     have hj:j≠id+1:=by rintro rfl;rw[f1]at h3;cases h3
     exact⟨(k2 j hj).1.trans h3,r,(k2 j hj).2.trans h4,.refl r⟩) (λ_ _=>trivial)
    refine⟨ρ2,s2,.inr ⟨_,.tup [b1,b2] [c1,c2] rfl (λi b c hb hc=>?_),rfl⟩,λj hj hn=>?_⟩
    ·match i,hb,hc with
     |0,hb,hc=>cases hb;cases hc;exact a1'
     |1,hb,hc=>cases hb;cases hc;exact a2
     |i+2,hb,hc=>simp at hb
    ·rw[(k2 j (by omega)).1,(k1 j (by omega)).1];exact hj
  |[x,y,z],hi,hvl,hgl,h1=>
   match vs,gs,hvl,hgl with
   |[v1,v2,v3],[g1,g2,g3],_,_=>
    have r1:=h1 0 x v1 g1 rfl rfl rfl
    have r2:=h1 1 y v2 g2 rfl rfl rfl
    have r3:=h1 2 z v3 g3 rfl rfl rfl
    simp only[Jp]at hi
    obtain⟨b1,l1,e1,hi⟩:=QN hi
    obtain⟨b2,l2,e2,hi⟩:=QN hi
    obtain⟨b3,l3,e3,hi⟩:=QN hi
    cases hi
    obtain⟨ρ1,s1,⟨c1,a1,rfl⟩,k1,m1⟩:=Dj h hB r1 h0 e1 (low r1)
    have f1:ρ1 (id+1)=none:=by rw[(k1 _ (by omega)).1];exact hid 1 (by omega)
    obtain⟨ρ2,s2,⟨c2,a2,rfl⟩,k2,m2⟩:=Dj s1 hB r2 f1 e2 (λg0 e j c hj hb=>by
     rcases m1 j c g0 hj hb with⟨hj1,hj2⟩|e'
     ·rw[(k1 j hj1).2];exact low r2 g0 e j c hj2 hb
     ·subst e;subst e'
      exact absurd rfl (hd 0 1 g0 (by omega) rfl))
    have f2:ρ2 (id+2)=none:=by rw[(k2 _ (by omega)).1,(k1 _ (by omega)).1];exact hid 2 (by omega)
    obtain⟨ρ3,s3,⟨c3,a3,rfl⟩,k3,m3⟩:=Dj s2 hB r3 f2 e3 (λg0 e j c hj hb=>by
     rcases m2 j c g0 hj hb with⟨hj1,hj2⟩|e'
     ·rcases m1 j c g0 hj2 hb with⟨hj3,hj4⟩|e'
      ·rw[(k2 j hj1).2,(k1 j hj3).2];exact low r3 g0 e j c hj4 hb
      ·subst e;subst e'
       exact absurd rfl (hd 0 2 g0 (by omega) rfl)
     ·subst e;subst e'
      exact absurd rfl (hd 1 2 g0 (by omega) rfl))
    rw[Ja,Ja]
    have a1':=a1.ext (P:=λ_=>True) (S':=S) (w':=w) (ρ':=ρ3) (row':=(((st.setRows l1).setRows l2).setRows l3).row) (λ_ h=>h) (λ_ _=>rfl) (λj l r _ h3 h4=>by
     have hj:j≠id+1:=by rintro rfl;rw[f1]at h3;cases h3
     have hj2:j≠id+2:=by rintro rfl;rw[(k1 _ (by omega)).1,hid 2 (by omega)]at h3;cases h3
     exact⟨(k3 j hj2).1.trans ((k2 j hj).1.trans h3),r,(k3 j hj2).2.trans ((k2 j hj).2.trans h4),.refl r⟩) (λ_ _=>trivial)
    have a2':=a2.ext (P:=λ_=>True) (S':=S) (w':=w) (ρ':=ρ3) (row':=(((st.setRows l1).setRows l2).setRows l3).row) (λ_ h=>h) (λ_ _=>rfl) (λj l r _ h3 h4=>by
     have hj2:j≠id+2:=by rintro rfl;rw[f2]at h3;cases h3
     exact⟨(k3 j hj2).1.trans h3,r,(k3 j hj2).2.trans h4,.refl r⟩) (λ_ _=>trivial)
    refine⟨ρ3,s3,.inr ⟨_,.tup [b1,b2,b3] [c1,c2,c3] rfl (λi b c hb hc=>?_),rfl⟩,λj hj hn=>?_⟩
    ·match i,hb,hc with
     |0,hb,hc=>cases hb;cases hc;exact a1'
     |1,hb,hc=>cases hb;cases hc;exact a2'
     |2,hb,hc=>cases hb;cases hc;exact a3
     |i+3,hb,hc=>simp at hb
    ·rw[(k3 j (by omega)).1,(k2 j (by omega)).1,(k1 j (by omega)).1];exact hj
  |_::_::_::_::_,hi,_,_,_=>simp[Jp]at hi
 |_=>exact single hr (by simpa only[Jp]using hi)
end
theorem Q6M:∀{p:List Nat} {τ:Ty} {x:den τ} {c:AV},YT (.t τ x) p=some c->∃σ,∃y:den σ,c= .t σ y
 |[],τ,x,c,h=>by cases h;exact⟨τ,x,rfl⟩
 |f::p,τ,x,c,h=>by
  simp only[YT,QH]at h
  split at h
  ·rename_i b hb
   have:∃σ,∃y:den σ,b= .t σ y:=by
    have hm:=List.mem_of_getElem? hb
    cases τ<;>simp only[Q4,List.mem_cons,List.not_mem_nil,or_false]at hm<;>first
     |exact hm.elim
     |(rcases hm with rfl|rfl|rfl|rfl|rfl|rfl|rfl|rfl|rfl|rfl|rfl<;>exact⟨_,_,rfl⟩)
     |(rcases hm with rfl|rfl|rfl|rfl<;>exact⟨_,_,rfl⟩)
     |(rcases hm with rfl|rfl|rfl<;>exact⟨_,_,rfl⟩)
     |(rcases hm with rfl|rfl<;>exact⟨_,_,rfl⟩)
     |(subst hm;exact⟨_,_,rfl⟩)
     |(obtain⟨y,_,rfl⟩:=List.mem_map.1 hm;exact⟨_,_,rfl⟩)
   obtain⟨σ,y,rfl⟩:=this
   exact Q6M h
  ·cases h
theorem Q3U {row:Nat->Option Row}{n f:Nat}{caps:List AV}{b:AV}(h:Q2 row (n+1) (.clo f caps)=some b):∃gs,Yt (Q2 row n) caps=some gs/\b= .clo f gs:=by
 simp only[Q2]at h
 split at h
 ·rename_i gs hgs
  cases h
  exact⟨gs,hgs,rfl⟩
 ·cases h
theorem Q10 {row:Nat->Option Row}{i:Nat}:∀{l:List AV} {k:Nat} {a:AV},Ur row i l=true->l[k]? =some a->plA row i a=true
 |[],k,a,_,h=>by simp at h
 |b::l,0,a,hp,h=>by
  simp only[Ur,Bool.and_eq_true]at hp
  cases h;exact hp.1
 |b::l,k+1,a,hp,h=>by
  simp only[Ur,Bool.and_eq_true]at hp
  exact Q10 hp.2 (by simpa using h)
theorem Q6N {row:Nat->Option Row}{i n:Nat}:∀{l:List AV} {k:Nat} {a:AV},plL row i n l=true->l[k]? =some a->plE row i n a=true
 |[],k,a,_,h=>by simp at h
 |b::l,0,a,hp,h=>by
  simp only[plL,Bool.and_eq_true]at hp
  cases h;exact hp.1
 |b::l,k+1,a,hp,h=>by
  simp only[plL,Bool.and_eq_true]at hp
  exact Q6N hp.2 (by simpa using h)
section
variable {S:Nat->Prop} {w:World} {ρ ρ0:Nat->Option Loc} {row row0:Nat->Option Row} {pv:Nat->Value} {B:Old} {l:Loc} {i:Nat} {r0:Row}
theorem Q11 (h:HS S w ρ row pv B)(hri:row i=some r0)(hli:ρ i=some l)(hf:frz r0=false){n:Nat}{a b:AV}{cs:List Value}(hp:plE row i (n+2) a=true)(hc:Q2 row (n+2) a=some b)(ha:AR S w ρ row pv a cs) :
  AR (λb=>b<w.heap.size/\∀g c,l= .at g c->b≠g) w ρ0 row0 pv b cs:=by
 have hsub:∀b,S b->b<w.heap.size/\∀g c,l= .at g c->b≠g:=λb hb=>⟨h.stab b hb,λg c e e2=>(h.apart i r0 g c (e▸hli) hri).2.1 hf (e2▸hb)⟩
 have blk:∀j r g c,j≠i->row j=some r->ρ j=some (.at g c)->g<w.heap.size/\∀g' c',l= .at g' c'->g≠g':=λj r g c hj hr hl=>⟨(h.rows j r _ hr hl).lt,λg' c' e e2=>hj (h.inj j i g c c' hl (by rw[hli,e,e2]) (by rw[hr];simp) (by rw[hri];simp))⟩
 unfold plE at hp
 split at hp
 ·split at hp
  ·rename_i j p _ _ σ0 τ0 x0 hb hr
   have hj:j≠i:=λe=>by rw[e,Nat.beq_refl]at hb;cases hb
   cases ha with
   |epB _ τ σ b0 g cap _ hr' hl hp'=>
    rw[hr]at hr'
    cases hr'
    simp only[Q2,hr,hp']at hc
    split at hc
    ·rename_i c τ' hg hτ'
     simp only[Option.some.injEq]at hτ'
     subst hτ'
     split at hc
     ·rename_i d hd
      split at hc
      ·rename_i x hx
       simp only[Option.some.injEq]at hc
       subst hc
       obtain⟨cur,T,h1,h2,h3⟩:=h.rows j _ _ hr hl
       obtain⟨σ',h4,h5,h6,h7⟩:=YW h2 h3 hg
       rw[hp']at h4
       simp only[Option.some.injEq]at h4
       subst h4
       obtain⟨σ2,y2,rfl⟩:=Q6M hg
       cases hd
       have:AR (λb=>b<w.heap.size/\∀g c,l= .at g c->b≠g) w ρ0 row0 pv (.t σ2 y2) (List.take (nc σ) (List.drop (Qk σ0 p) cur.toList)):=by
        cases h6 with
        |t _ _ _ h8=>exact .t _ _ _ (h8.mono hsub (λ_ _=>rfl))
       refine .tp _ x _ g _ (Qq hx this) (blk j _ g cap hj hr hl) λq v hq=>?_
       simp only[World.cell?,h1]
       obtain⟨hj1,hj2⟩:=List.getElem?_eq_some_iff.1 hq
       simp only[List.getElem_take,List.getElem_drop,Array.getElem_toList]at hj2
       simp only[List.length_take,List.length_drop,Array.length_toList]at hj1
       simp[<-hj2]
      ·cases hc
     ·cases hc
    ·cases hc
  ·cases hp
 ·cases ha with
  |tp τ x cs g o hx hS hc'=>
   simp only[Q2,Option.some.injEq]at hc
   subst hc
   exact .tp τ x cs g o (hx.mono hsub (λ_ _=>rfl)) (hsub g hS) hc'
 ·simp only[Bool.and_eq_true,Bool.not_eq_true']at hp
  have hni:i ∉ J3 (n+2) a:=by simpa using hp.2
  exact Jc h hsub hc ha (.inr ⟨hp.1,λid hid r g c hr _ hl=>blk id r g c (λe=>hni (e▸hid)) hr hl⟩)
theorem Q5x (h:HS S w ρ row pv B)(hri:row i=some r0)(hli:ρ i=some l)(hf:frz r0=false){a b:AV}{cs:List Value}(hp:plA row i a=true)(hc:Q2 row 6 a=some b)(ha:AR S w ρ row pv a cs) :
  AR (λb=>b<w.heap.size/\∀g c,l= .at g c->b≠g) w ρ0 row0 pv b cs:=by
 unfold plA at hp
 split at hp
 ·rename_i f caps
  cases ha with
  |clo _ _ css hl hh=>
   obtain⟨gs,hgs,rfl⟩:=Q3U (n:=5) hc
   obtain⟨h1,h2⟩:=JH hgs
   rw[<-Uw hgs css]
   refine .clo f gs css (h1.trans hl) λk b cs hb hcs=>?_
   obtain⟨a,h3,h4⟩:=h2 k b hb
   exact Q11 (n:=3) h hri hli hf (Q6N hp h3) h4 (hh k a cs h3 hcs)
 ·exact Q11 (n:=4) h hri hli hf hp hc ha
end
section
variable {P:Program} {E:Env} {w0:World} {B:Old} {pv:Nat->Value} {S:Nat->Prop} {ρ:Nat->Option Loc} {st:St} {a:Act} {w:World} {o:Oper} {id:Nat} {K:Act->World->Prop} {Q:Exit->Act->World->Prop}
variable (hE:EnvOk P E) (hs:Sim w0 B pv S ρ st a w) (hgl:Qr E pv S w) (hd:J9 o st.nt=true) {G:Cal->List AV->AV->Prop} (hG:GOk P E pv G)
include hs hgl hd hG
omit hs hgl hd hG in
theorem Q5y {row:Nat->Option Row}{n:Nat}{a:AV}{c:Bool}{τ:Ty}{x:den τ}:Q2 row n a≠some (.pc c τ x):=λh=>by
 have key:∀{τ:Ty} {fs:List AV} {b:AV},QA τ fs=some b->∃x,b= .t τ x:=λ{τ fs b} h=>by
  unfold QA at h
  repeat' split at h
  all_goals first
   |(cases h;done)
   |(cases h;exact⟨_,rfl⟩)
 cases n with
 |zero=>cases h
 |succ n=>
  cases a with
  |agg τ fs=>
   simp only[Q2]at h
   split at h
   ·obtain⟨x,e⟩:=key h;cases e
   ·cases h
  |ep id i p=>
   cases i<;>simp only[Q2]at h<;>(repeat' split at h)<;>first
    |(cases h;done)
    |(simp at h;done)
  |_=>
   simp only[Q2]at h
   (repeat' split at h)<;>first
    |(cases h;done)
    |(simp at h;done)
omit hs hgl hd hG in
theorem Q5z {row:Nat->Option Row}{args cl:List AV}(h:Yt (Q2 row 6) args=some cl):∀c τ x l,cl≠ .pc c τ x::l:=λc τ x l e=>by
 obtain⟨a,_,h2⟩:=(JH h).2 0 (.pc c τ x) (by rw[e];rfl)
 exact Q5y h2
theorem GU {cal:Cal}{args:List AV}{vs:List Value}{dr:Bool}{u:Upd}(hid:∀c,c<4->ρ (id+c)=none)
  (hrun:∀R:Value->World->Prop,(match cal with|.f n=>Goes P n vs.toArray w|.par i=>Q8A P (pv i) vs.toArray w) R->QD P R ((execOp a.eval o).run P w))
  (hvl:vs.length=args.length) (hva:∀(i:Nat) b v,args[i]? =some b->vs[i]? =some v->VR S w ρ st.row pv b v) (h:DU G st.row dr id cal args u)
  (hK:Nx E w0 B pv S ρ st o.dst u id K):o.wp P a w K Q:=by
 obtain⟨cl,r,av,news,hcl,hg,hi,hu⟩:=h
 have hm:=((hG cal cl r hg).1 (Q5z hcl)).1
 obtain⟨hl1,hl2⟩:=JH hcl
 have argsOk:∀S1:Nat->Prop,(∀b,S b->S1 b)->(∀b,b∈args->Cov S1 w ρ st.row 6 b)->QY S1 w pv cl vs:=λS1 hsub hcov=>by
  refine⟨hvl.trans hl1.symm,λi b v hb hv=>?_⟩
  obtain⟨c,h1,h2⟩:=hl2 i b hb
  obtain⟨cs,h3,h4⟩:=Qw (hva i c v h1 hv) (by rintro rfl;simp[Q2]at h2)
  exact⟨cs,Jc hs.hs hsub h2 h3 (hcov c (List.mem_of_getElem? h1)),by rw[h4,valOf,valOf,Jy h2]⟩
 have fin:∀{S1 S2:Nat->Prop} {st1:St} {v:Value} {w':World},Sim w0 B pv S1 ρ st1 a w->Grew B S S1->Qr E pv S1 w->Below w.heap.size w w'->(∀b,S1 b->S2 b)->(∀b,S2 b->S1 b\/(w.heap.size<=b/\b<w'.heap.size))->RR S2 w' w.heap.size pv r v->
   (∀S3 ρ3,Sim w0 B pv S3 ρ3 (((st1.setRows news)).putO o.dst av) (a.put o.dst v) w'->Qr E pv S3 w'->Grew B S S3->(∀j,ρ j=none->¬(id<=j/\j<id+4)->ρ3 j=none)->K (a.put o.dst v) w')->st1.nt=st.nt->K (a.put o.dst v) w':=by
  intro S1 S2 st1 v w' h1 hsub hgl1 hb hS hS2 hrr hk hnt
  have hold:∀b,b<w.heap.size->w'.heap[b]? =w.heap[b]?:=λb hb'=>hb.block b hb'
  have h2:=h1.grow (w':=w') (S':=S2) (ρ':=ρ) (row':=st1.row) (h1.below.trans (Blw.of hb h1.hB)) hb.size hold hS hS2 (λid l h=>⟨h,rfl⟩) (λid r l h3 h4 _=>by rw[h3]at h4;cases h4) (λid id' l1 l2 b h3 _ h4=>by rw[h3]at h4;cases h4)
  have h2:Sim w0 B pv S2 ρ st1 a w':=h2.cong rfl rfl rfl
  obtain⟨ρ3,h3,h4,h5⟩:=Q4J h2 h1.hB hrr hid hi (λj g c h6 h7 hb'=>by
   cases h8:st1.row j with
   |none=>exact absurd h8 h7
   |some r0=>exact(h1.hs.rows j r0 _ h8 h6).has_lt hb')
  refine hk S2 ρ3 (h3.put ?_ h4) (hgl1.mono hS λb hb'=>hold b (h1.hs.stab b hb')) (hsub.trans ⟨λb hb' _=>hS b hb',λb hb'=>(hS2 b hb').imp _root_.id λh hb3=>absurd (h1.hB _ hb3) (by omega)⟩) h5
  have:(st1.setRows news).nt=st.nt:=by
   rw[<-hnt]
   clear hi hu hk h3 h4
   generalize st1=s
   induction news generalizing s with
   |nil=>rfl
   |cons p l ih=>exact ih (s.setRow p.1 p.2)
  rw[this]
  exact QK hd
 rcases hu with⟨hl,rfl⟩|⟨heps,_,rfl⟩
 ·have hall:=argsOk (λb=>b<w.heap.size) hs.hs.stab (λb _=>.inl λ_ h=>h)
  refine Jz (hrun _ ?_)
  have:=hm (λb=>b<w.heap.size) w vs (λ_ h=>h) (hgl.mono hs.hs.stab λ_ _=>rfl) hall
  have step:∀v w',(Below w.heap.size w w'/\∃S':Nat->Prop,(∀b,b<w.heap.size->S' b)/\(∀b,S' b->b<w.heap.size\/(w.heap.size<=b/\b<w'.heap.size))/\RR S' w' w.heap.size pv r v)->K (a.put o.dst v) w':=λv w' ⟨hb,S',_,_,hrr⟩=>
   fin (S1:=S) (S2:=S) hs (Grew.refl _ _) hgl hb (λ_ h=>h) (λ_ h=>.inl h) (Q4I hl hs.hs.stab hrr) (λS3 ρ3 h1 h2 h3 h4=>hK S3 ρ3 _ _ h1 h2 h3 h4) rfl
  cases cal with
  |f n=>exact QD.mono this step
  |par i=>exact QD.mono this step
 ·have hzf:=hs.frzs (QQ args)
  have hall:=argsOk (Y4 S ρ st.row (QQ args)) (λ_ h=>.inl h) (λb hb=>by
   obtain⟨k,hk⟩:=List.getElem?_of_mem hb
   exact .inr ⟨QS (f:=JA 6) heps hk,λj hj r g c hr hz hl=>.inr ⟨j,Y7 hb hj,r,c,hr,hz,hl⟩⟩)
  refine Jz (hrun _ ?_)
  have hgl1:Qr E pv (Y4 S ρ st.row (QQ args)) w:=hgl.mono (λ_ h=>.inl h) (λ_ _=>rfl)
  have:=hm (Y4 S ρ st.row (QQ args)) w vs hzf.hs.stab hgl1 hall
  have step:∀v w',(Below w.heap.size w w'/\∃S':Nat->Prop,(∀b,Y4 S ρ st.row (QQ args) b->S' b)/\(∀b,S' b->Y4 S ρ st.row (QQ args) b\/(w.heap.size<=b/\b<w'.heap.size))/\RR S' w' w.heap.size pv r v)->K (a.put o.dst v) w':=λv w' ⟨hb,S',h1,h2,hrr⟩=>
   fin (S1:=Y4 S ρ st.row (QQ args)) (S2:=S') hzf (JR hs _) hgl1 hb h1 h2 hrr (λS3 ρ3 h1 h2 h3 h4=>hK S3 ρ3 _ _ h1 h2 h3 h4) (QL _ st).2
  cases cal with
  |f n=>exact QD.mono this step
  |par i=>exact QD.mono this step
omit hgl hd hG in
theorem Q89 {a0:AV}{i:Nat}{x0:AV}{v0:Value}(hh:Q1C st.row a0=some (i,x0))(hv:VR S w ρ st.row pv a0 v0) :
  ∃r0 l,st.row i=some r0/\rowOf x0=some r0/\ρ i=some l/\GT S w pv r0 l/\v0=Yw x0 l:=by
 unfold Q1C at hh
 split at hh
 ·rename_i j
  split at hh
  ·rename_i e τ xs hr
   cases hh
   rcases Yv hv hr with⟨g,cap,hl,rfl⟩|⟨hl,rfl,rfl⟩
   ·exact⟨_,_,hr,rfl,hl,hs.hs.rows _ _ _ hr hl,rfl⟩
   ·exact⟨_,_,hr,rfl,hl,hs.hs.rows _ _ _ hr hl,rfl⟩
  ·cases hh
 ·rename_i j
  split at hh
  ·rename_i σ σ' x hr
   split at hh
   ·rename_i e _
    subst e
    cases hh
    obtain⟨g,c,τ',h1,h2,h3⟩:=Q1Q hv hr
    have hro:=hs.hs.rows _ _ _ hr h2
    refine⟨_,_,hr,rfl,h2,?_,by rw[h3];simp[Yw,Qk]⟩
    obtain⟨cur,T,k1,k2,k3⟩:=hro
    exact⟨cur,T,k1,k2,.t _ _ _ (KE k3)⟩
   ·cases hh
  ·cases hh
 ·cases hh
theorem Q2K {g:Nat}{args:List AV}{vs:List Value}{dr:Bool}{u:Upd}(hid:∀c,c<4->ρ (id+c)=none)
  (hrun:∀R:Value->World->Prop,Goes P g vs.toArray w R->QD P R ((execOp a.eval o).run P w))
  (hvl:vs.length=args.length) (hva:∀(i:Nat) b v,args[i]? =some b->vs[i]? =some v->VR S w ρ st.row pv b v) (h:Q4C G st.row dr id g args u)
  (hK:Nx E w0 B pv S ρ st o.dst u id K):o.wp P a w K Q:=by
 obtain⟨_,a0,rest,i,x0,cl,r,rfl,hh,hcl,heps,hni,hg,hu⟩:=h
 match vs,hvl with
 |v0::vs,hvl=>
 have hv0:=hva 0 a0 v0 rfl rfl
 have hva':∀(i:Nat) b v,rest[i]? =some b->vs[i]? =some v->VR S w ρ st.row pv b v:=λi b v hb hv=>hva (i+1) b v (by simpa using hb) (by simpa using hv)
 obtain⟨r0,l,hri,hro,hli,hrow,rfl⟩:=Q89 hs hh hv0
 have hm:=((hG (.f g) (x0::cl) r hg).1 (λc τ x l' e=>by cases e;cases hro)).2 g x0 cl rfl rfl (by rw[hro];simp)
 have hard:=KJ hro hrow
 obtain⟨hl1,hl2⟩:=JH hcl
 have hvl':vs.length=rest.length:=by simpa using hvl
 have hzf:=hs.frzs (QQ rest)
 have hf0:frz r0=false:=by
  cases x0<;>cases hro<;>rfl
 have hSl:∀g c,l= .at g c->¬S g:=λg c e=>(hs.hs.apart i r0 g c (e▸hli) hri).2.1 hf0
 obtain⟨T,hT1,hT2,argsOk,hSl',hTe⟩:∃T:Nat->Prop,(∀b,S b->T b)/\(∀b,T b->b<w.heap.size)/\QY T w pv cl vs/\(∀g c,l= .at g c->¬T g)/\(JL (JA 6) rest=false->T=Y4 S ρ st.row (QQ rest)):=by
  cases he:JL (JA 6) rest with
  |false=>
   refine⟨Y4 S ρ st.row (QQ rest),λ_ h=>.inl h,hzf.hs.stab,⟨hvl'.trans hl1.symm,λi b v hb hv=>?_⟩,λg c e hS=>?_,λ_=>rfl⟩
   ·obtain⟨c,h1,h2⟩:=hl2 i b hb
    obtain⟨cs,h3,h4⟩:=Qw (hva' i c v h1 hv) (by rintro rfl;simp[Q2]at h2)
    exact⟨cs,Jc hs.hs (λ_ h=>.inl h) h2 h3 (.inr ⟨QS (f:=JA 6) he h1,λj hj r g c hr hz hl=>.inr ⟨j,Y7 (List.mem_of_getElem? h1) hj,r,c,hr,hz,hl⟩⟩),by rw[h4,valOf,valOf,Jy h2]⟩
   ·rcases hS with hS|⟨j,hj,r,c',hr,_,hl⟩
    ·exact hSl g c e hS
    ·have:=hs.hs.inj i j g c c' (e▸hli) hl (by rw[hri];simp) (by rw[hr];simp)
     subst this
     exact hni hj
  |true=>
   have hp:=heps.resolve_left (by rw[he];decide)
   refine⟨λb=>b<w.heap.size/\∀g c,l= .at g c->b≠g,λb hb=>⟨hs.hs.stab b hb,λg c e e2=>hSl g c e (e2▸hb)⟩,λb hb=>hb.1,⟨hvl'.trans hl1.symm,λi b v hb hv=>?_⟩,λg c e hS=>hS.2 g c e rfl,λh=>by cases h⟩
   obtain⟨c,h1,h2⟩:=hl2 i b hb
   obtain⟨cs,h3,h4⟩:=Qw (hva' i c v h1 hv) (by rintro rfl;simp[Q2]at h2)
   exact⟨cs,Q5x hs.hs hri hli hf0 (Q10 hp h1) h2 h3,by rw[h4,valOf,valOf,Jy h2]⟩
 have hgl1:Qr E pv T w:=hgl.mono hT1 (λ_ _=>rfl)
 have hrow1:GT T w pv r0 l:=QG.ext (P:=λ_=>True) hT1 (λ_ _=>rfl) (λid l r _ h1=>by cases h1) hrow (λ_ _=>rfl) (λ_ _ _ _ _=>trivial)
 have hgo:=hm T w (Yw x0 l) vs l r0 hT2 hgl1 argsOk hro hrow1 hSl' rfl
 refine Jz (hrun _ (QD.mono hgo λv w' ⟨hb,S',hS1,hS2,hans⟩=>?_))
 have hold:∀b,b<w.heap.size->(∀g c,l= .at g c->b≠g)->w'.heap[b]? =w.heap[b]?:=λb h1 h2=>hb.block b ⟨h1,h2⟩
 have hbw:Blw B w0 w':=hs.below.trans ⟨hb.os,hb.tape,hb.output,hb.size,λk hk=>hb.block k ⟨hs.hB k hk,λg c e=>by rintro rfl;exact(hs.hs.apart i r0 _ c (e▸hli) hri).1 hk⟩⟩
 have nt_setRows:∀(news:List (Nat×Row)) (s:St),(s.setRows news).nt=s.nt:=λnews=>by
  induction news with
  |nil=>exact λs=>rfl
  |cons p l ih=>exact λs=>ih (s.setRow p.1 p.2)
 rcases hu with⟨o',r',ro,av,news,rfl,hk,hro',hi,hu⟩|hu
 ·
  obtain⟨hrr,r0',ro',h1,h2,h3,h4,hng⟩:=hans
  have hS2:∀b,S' b->T b\/(w.heap.size<=b/\b<w'.heap.size):=λb hb'=>by
   rcases hS2 b hb' with h|⟨c,h⟩|h
   ·exact .inl h
   ·exact absurd hb' (hng b c h)
   ·exact .inr h
  rw[hro]at h1;cases h1
  rw[hro']at h2;cases h2
  have hfo:=(Q5w hk hro' hro).1
  have go:∀(S1 S2:Nat->Prop) (st1:St),Sim w0 B pv S1 ρ st1 a w->Grew B S S1->st1.row i=some r0->st1.nt=st.nt->(∀b,S1 b->S2 b)->(∀b,S2 b->S1 b\/(w.heap.size<=b/\b<w'.heap.size))->Qr E pv S1 w->(∀g c,l= .at g c->¬S1 g)->RR S2 w' w.heap.size pv r' v->GT S2 w' pv ro l->
    (∀S3 ρ3,Sim w0 B pv S3 ρ3 (((st1.setRows news).setRow i ro).putO o.dst av) (a.put o.dst v) w'->Qr E pv S3 w'->Grew B S S3->(∀j,ρ j=none->¬(id<=j/\j<id+4)->ρ3 j=none)->K (a.put o.dst v) w')->K (a.put o.dst v) w':=by
   intro S1 S2 st1 hsim hgr hr1 hnt hS hS2 hgl2 hSl2 hrr' hrow' hk'
   have hfz0:frz r0=false:=hf0
   have hw:∀b,S1 b->w'.heap[b]? =w.heap[b]?:=λb hb'=>hold b (hsim.hs.stab b hb') λg c e e2=>hSl2 g c e (e2▸hb')
   have hSl3:∀g c,l= .at g c->¬S2 g:=λg c e hS3=>by
    rcases hS2 g hS3 with h|h
    ·exact hSl2 g c e h
    ·have:=(hsim.hs.rows i r0 _ hr1 (e▸hli)).lt;omega
   have hrow'':∀ρ' row',QG S2 w' ρ' row' pv ro l:=Q2J hro' hrow'
   have hs2:Sim w0 B pv S2 ρ (st1.setRow i ro) a w':=by
    have hrowq:=Q1 st1 i ro
    have hkk:∀j l' r1,True->ρ j=some l'->st1.row j=some r1->ρ j=some l'/\∃r2,(st1.setRow i ro).row j=some r2/\Same r1 r2:=λj l' r1 _ h5 h6=>by
     refine⟨h5,?_⟩
     rw[hrowq]
     by_cases e:j=i
     ·subst e
      rw[hr1]at h6
      cases h6
      exact⟨ro,by rw[if_pos rfl],h4⟩
     ·exact⟨r1,by rw[if_neg e];exact h6,.refl _⟩
    refine⟨hsim.size,hsim.defers,λt=>VR.ext (P:=λ_=>True) hS hw hkk (hsim.slots t) (λ_ _=>trivial),⟨λb hb'=>?_,λj r1 l1 h5 h6=>?_,λj j' l1 l2 g h5 h6 h7 h8 h9 h10=>?_,λj r1 l1 g h5 h6 hbl=>?_,hsim.hs.pin⟩,hbw,λk hk=>Nat.lt_of_lt_of_le (hsim.hB k hk) hb.size⟩
    ·rcases hS2 b hb' with h|h
     ·exact Nat.lt_of_lt_of_le (hsim.hs.stab b h) hb.size
     ·exact h.2
    ·rw[hrowq]at h5
     by_cases e:j=i
     ·subst e
      rw[if_pos rfl]at h5
      rw[hli]at h6
      cases h5;cases h6
      exact hrow'' _ _
     ·rw[if_neg e]at h5
      refine(hsim.hs.rows j r1 l1 h5 h6).ext hS hw hkk (λg e2=>?_) (λ_ _ _ _ _=>trivial)
      refine hold g ((hsim.hs.rows j r1 _ h5 h6).has_lt e2) λg' c' e3 e4=>e ?_
      subst e4
      exact hsim.hs.inj0 j i _ _ g h6 hli (by rw[h5];simp) (by rw[hr1];simp) e2 (by rw[e3];rfl)
    ·rw[hrowq]at h7 h8
     refine hsim.hs.inj0 j j' l1 l2 g h5 h6 ?_ ?_ h9 h10
     ·by_cases e:j=i
      ·subst e;rw[hr1];simp
      ·rwa [if_neg e]at h7
     ·by_cases e:j'=i
      ·subst e;rw[hr1];simp
      ·rwa [if_neg e]at h8
    ·rw[hrowq]at h6
     have old:∀r2,st1.row j=some r2->¬B g/\(frz r2=false->¬S2 g)/\(frz r2=true->S2 g):=λr2 h7=>by
      obtain⟨k1,k2,k3⟩:=hsim.hs.apart0 j r2 l1 g h5 h7 hbl
      refine⟨k1,λh8 h9=>?_,λh8=>hS g (k3 h8)⟩
      rcases hS2 g h9 with h|h
      ·exact k2 h8 h
      ·have:=(hsim.hs.rows j r2 _ h7 h5).has_lt hbl;omega
     by_cases e:j=i
     ·subst e
      rw[if_pos rfl]at h6
      cases h6
      have:=old r0 hr1
      rw[hfo]
      exact⟨this.1,λ_=>this.2.1 hfz0,λh=>by cases h⟩
     ·rw[if_neg e]at h6
      exact old r1 h6
   obtain⟨ρ3,h5,h6,h7⟩:=Q4J hs2 hsim.hB hrr' hid hi (λj g c h6 h7 hb'=>by
    cases h8:st1.row j with
    |none=>
     rw[Q1]at h7
     by_cases e:j=i
     ·subst e;rw[hr1]at h8;cases h8
     ·rw[if_neg e]at h7;exact absurd h8 h7
    |some r1=>exact(hsim.hs.rows j r1 _ h8 h6).has_lt hb')
   have hne:∀p∈news,p.1≠i:=λp hp e=>by
    have hn:=YK hi
    obtain⟨h8,h9,h10⟩:=(hn st).1 p hp
    have:ρ p.1=none:=by
     obtain⟨c,hc⟩:∃c,p.1=id+c:=⟨p.1-id,by omega⟩
     rw[hc];exact hid c (by omega)
    rw[e,hli]at this
    cases this
   have hcomm:=KN i ro news st1 hne
   have hc1:=congrArg St.row hcomm
   have hc2:=congrArg St.slot hcomm
   have hc3:=congrArg St.nt hcomm
   have hfin:Sim w0 B pv S2 ρ3 ((st1.setRows news).setRow i ro) a w':=h5.cong hc2.symm hc1.symm hc3.symm
   have hv6:VR S2 w' ρ3 ((st1.setRows news).setRow i ro).row pv av v:=by rw[<-hc1];exact h6
   refine hk' S2 ρ3 (hfin.put ?_ hv6) (hgl2.mono hS hw) (hgr.trans ⟨λb hb' _=>hS b hb',λb hb'=>(hS2 b hb').imp _root_.id λh hb3=>absurd (hsim.hB _ hb3) (by omega)⟩) h7
   rw[show((st1.setRows news).setRow i ro).nt=(st1.setRows news).nt from rfl,nt_setRows,hnt]
   exact QK hd
  rcases hu with⟨hlead,hslr,rfl⟩|⟨he,rfl⟩
  ·
   have hrrS:RR S w' w.heap.size pv r' v:=Q4I hlead hs.hs.stab hrr
   exact go S S st hs (Grew.refl _ _) hri rfl (λ_ h=>h) (λ_ h=>.inl h) hgl hSl hrrS (Q0Z hslr hro' h3) (λS3 ρ3 k1 k2 k3 k4=>hK S3 ρ3 _ _ k1 k2 k3 k4)
  ·obtain rfl:=hTe he
   have hrf:(st.freeze (QQ rest)).row i=some r0:=by rw[JG,hri];simp[hni]
   exact go (Y4 S ρ st.row (QQ rest)) S' (st.freeze (QQ rest)) hzf (JR hs _) hrf (QL _ st).2 hS1 hS2 hgl1 hSl' hrr h3 (λS3 ρ3 k1 k2 k3 k4=>hK S3 ρ3 _ _ k1 k2 k3 k4)
 ·
  have go:∀(S1 S2:Nat->Prop) (st1:St) (e:Nat) (τ:Ty) (ys:List (den τ)) (l':Loc) (r:AV) (v:Value),i≠Q7->(∀g c,l'= .at g c->¬S' g/\((∃c0,l= .at g c0)\/w.heap.size<=g))->((r= .own i/\v=Yw (.fr e τ ys) l')\/∃σ,∃y:den σ,slT σ=false/\r= .t σ y/\∃cs,v=valOf (.t σ y) cs/\CR S w' σ y cs)->Sim w0 B pv S1 ρ st1 a w->Grew B S S1->st1.row i=some r0->st1.nt=st.nt->(∀b,S1 b->S2 b)->(∀b,S2 b->S1 b\/(∃c,l= .at b c)\/(w.heap.size<=b/\b<w'.heap.size))->Qr E pv S1 w->(∀g c,l= .at g c->¬S1 g)->(∀g c,l'= .at g c->¬S2 g)->GT S2 w' pv (.flat e τ ys false true) l'->
    (∀S3 ρ3,Sim w0 B pv S3 ρ3 (((st1.kill i (i+1)).setRow i (.flat e τ ys false true)).putO o.dst r) (a.put o.dst v) w'->Qr E pv S3 w'->Grew B S S3->(∀j,ρ j=none->¬(id<=j/\j<id+4)->ρ3 j=none)->K (a.put o.dst v) w')->K (a.put o.dst v) w':=by
   intro S1 S2 st1 e τ ys l' r v him h3 hrv hsim hgr hr1 hnt hS hS2' hgl2 hSl2 hSn hrow' hk'
   have hw:∀b,S1 b->w'.heap[b]? =w.heap[b]?:=λb hb'=>hold b (hsim.hs.stab b hb') λg c e e2=>hSl2 g c e (e2▸hb')
   have hkl:=hsim.kill i (i+1) (Ut him)
   have hne:∀j l0,killL i (i+1) ρ j=some l0->j≠i/\ρ j=some l0:=λj l0 h1=>by
    unfold killL at h1
    cases hb:inR i (i+1) j with
    |true=>rw[hb]at h1;cases h1
    |false=>
     rw[hb]at h1
     refine⟨?_,h1⟩
     rintro rfl
     exact(JM (by simpa[inR]using hb)) ⟨Nat.le_refl _,Nat.lt_succ_self _⟩
   have hnone:killL i (i+1) ρ i=none:=by
    cases hq:killL i (i+1) ρ i with
    |none=>rfl
    |some l0=>exact absurd rfl (hne i l0 hq).1
   have hg2:=hkl.growX (w':=w') (S':=S2) hbw hb.size hw (λj r1 l1 g h5 h6 hbl=>by
    obtain⟨h7,h8⟩:=hne j _ h5
    have h9:st1.row j≠none:=λh=>by
     have:Jj i (i+1) j (st1.row j)=some r1:=h6
     rw[h,Ji]at this
     cases this
    refine hold g ((hkl.hs.rows j r1 _ h6 h5).has_lt hbl) λg' c' e3 e4=>h7 ?_
    subst e4
    exact hsim.hs.inj0 j i _ _ g h8 hli h9 (by rw[hr1];simp) hbl (by rw[e3];rfl)) hS (λb hb'=>by
    rcases hS2' b hb' with h|⟨c0,h⟩|h
    ·exact .inl h
    ·refine .inr ⟨λj r1 l1 h5 h6 hbl=>?_,Nat.lt_of_lt_of_le (by subst h;exact(hsim.hs.rows i r0 _ hr1 hli).lt) hb.size⟩
     obtain⟨h7,h8⟩:=hne j _ h5
     refine h7 (hsim.hs.inj0 j i _ _ b h8 hli (λh10=>?_) (by rw[hr1];simp) hbl (by rw[h];rfl))
     have h11:Jj i (i+1) j (st1.row j)=some r1:=h6
     rw[h10,Ji]at h11
     cases h11
    ·exact .inr ⟨λj r1 l1 h5 h6 hbl=>by have:=(hkl.hs.rows j r1 _ h6 h5).has_lt hbl;omega,h.2⟩)
   have hg3:=hg2.adopt (r:=.flat e τ ys false true) (l:=l') hnone rfl (λg e0'=>by
    obtain⟨c,e'⟩:=(KJ (a:=.fr e τ ys) rfl hrow').at e0'
    refine⟨?_,hSn g c e',λj l1 hj hbl=>?_⟩
    ·rcases(h3 g c e').2 with⟨c0,e0⟩|h5
     ·exact(hsim.hs.apart i r0 g c0 (e0▸hli) hr1).1
     ·exact λhb3=>absurd (hs.hB g hb3) (by omega)
    ·obtain⟨h7,h8⟩:=hne j _ hj
     show Jj i (i+1) j (st1.row j)=none
     cases h9:st1.row j with
     |none=>exact Ji
     |some r1=>
      exfalso
      rcases(h3 g c e').2 with⟨c0,e0⟩|h5
      ·exact h7 (hsim.hs.inj0 j i _ _ g h8 hli (by rw[h9];simp) (by rw[hr1];simp) hbl (by rw[e0];rfl))
      ·have:=(hsim.hs.rows j r1 _ h9 h8).has_lt hbl;omega) (λρ' row'=>Q2J (a:=.fr e τ ys) rfl hrow' ρ' row')
   refine hk' S2 _ (hg3.put ?_ ?_) (hgl2.mono hS hw) (hgr.trans ⟨λb hb' _=>hS b hb',λb hb'=>(hS2' b hb').imp _root_.id λh hb3=>by
    rcases h with⟨c0,h⟩|h
    ·exact(hsim.hs.apart i r0 b c0 (h▸hli) hr1).1 hb3
    ·exact absurd (hsim.hB _ hb3) (by omega)⟩) (λj hj _=>?_)
   ·show∀n,o.dst=some n->n<st1.nt
    rw[hnt]
    exact QK hd
   ·have hrow3:((st1.kill i (i+1)).setRow i (.flat e τ ys false true)).row i=some (.flat e τ ys false true):=by rw[Q1,if_pos rfl]
    rcases hrv with⟨rfl,rfl⟩|⟨σ,y,hsl,rfl,cs,rfl,hcs⟩
    ·cases l' with
     |soft T v=>exact hrow'.elim
     |tree cs T v=>exact hrow'.elim
     |«at» g cap=>exact .inr ⟨_,.own i e τ ys false true g cap hrow3 (Qp _ _ _),rfl⟩
     |nilrow=>
      obtain⟨rfl,_,_⟩:=hrow'
      exact .inr ⟨_,.ownNil i e τ false true hrow3 (Qp _ _ _),rfl⟩
    ·exact .inr ⟨cs,.t _ _ _ (J5 hsl hcs),rfl⟩
   ·by_cases e1:j=i
    ·subst e1;rw[hli]at hj;cases hj
    ·simp only[upd,if_neg e1,killL]
     rw[hj]
     cases inR i (i+1) j<;>rfl
  rcases hu with⟨e,τ,ys,rfl,hk,him,hu⟩|⟨e,σ,xs,τ,y,rfl,rfl,him,hsl,rfl⟩
  ·obtain⟨l',h1,rfl,h3⟩:=hans
   rcases hu with⟨hsl,rfl⟩|⟨he,rfl⟩
   ·exact go S S st e τ ys l' _ _ him h3 (.inl ⟨rfl,rfl⟩) hs (Grew.refl _ _) hri rfl (λ_ h=>h) (λ_ h=>.inl h) hgl hSl (λg c e' hSg=>(h3 g c e').1 (hS1 g (hT1 g hSg))) (Q0Z (a:=.fr e τ ys) hsl rfl h1) (λS3 ρ3 k1 k2 k3 k4=>hK S3 ρ3 _ _ k1 k2 k3 k4)
   ·obtain rfl:=hTe he
    have hrf:(st.freeze (QQ rest)).row i=some r0:=by rw[JG,hri];simp[hni]
    exact go (Y4 S ρ st.row (QQ rest)) S' (st.freeze (QQ rest)) e τ ys l' _ _ him h3 (.inl ⟨rfl,rfl⟩) hzf (JR hs _) hrf (QL _ st).2 hS1 hS2 hgl1 hSl' (λg c e'=>(h3 g c e').1) h1 (λS3 ρ3 k1 k2 k3 k4=>hK S3 ρ3 _ _ k1 k2 k3 k4)
  ·
   obtain⟨_,cs,rfl,hcs⟩:=hans
   have hnc:0<nc σ:=by
    cases hro
    cases l with
    |«at» g c=>obtain⟨_,_,_,_,_,_,_,_,h,_⟩:=hrow;exact h
    |nilrow=>exact hrow.2.2
    |soft T v=>exact hrow.elim
    |tree cs T v=>exact hrow.elim
   exact go S S st e σ [] .nilrow _ _ him (λg c e'=>by cases e') (.inr ⟨τ,y,hsl,rfl,cs,rfl,J5 hsl hcs⟩) hs (Grew.refl _ _) hri rfl (λ_ h=>h) (λ_ h=>.inl h) hgl hSl (λg c e'=>by cases e') ⟨rfl,rfl,hnc⟩ (λS3 ρ3 k1 k2 k3 k4=>hK S3 ρ3 _ _ k1 k2 k3 k4)
theorem Q5A {args:Array Operand}{ats:Array TypeId}{f:Operand}{dr:Bool}{d':Nat->List AV->Bool}{u:Upd}(ho:o.op= .call {callee:=.value f,args:=args,argTypes:=ats})(hid:∀c,c<4->ρ (id+c)=none)
  (h:(∃g caps,ev E st f= .clo g caps/\Q2A E G st.row dr (d' g (Qx (ev E st) args.toList++caps)) id g (Qx (ev E st) args.toList++caps) u)\/(∃i,ev E st f= .par i/\DU G st.row dr id (.par i) (Qx (ev E st) args.toList) u))
  (hK:Nx E w0 B pv S ρ st o.dst u id K):o.wp P a w K Q:=by
 have ef:=Qj hgl hs f
 have hargs:∀(i:Nat) b v,(Qx (ev E st) args.toList)[i]? =some b->(args.toList.map a.eval)[i]? =some v->VR S w ρ st.row pv b v:=λi b v hb hv=>by
  rw[Y8,List.getElem?_map]at hb
  rw[List.getElem?_map]at hv
  cases hx:args.toList[i]? with
  |none=>rw[hx]at hb;cases hb
  |some x=>
   rw[hx]at hb hv
   cases hb;cases hv
   exact Qj hgl hs x
 have hlen:(args.toList.map a.eval).length=(Qx (ev E st) args.toList).length:=by simp[Y8]
 rcases h with⟨g,caps,hf,h⟩|⟨i,hf,h⟩
 ·rw[hf]at ef
  obtain⟨cs,h',h2⟩:=Qw ef (by simp)
  cases h' with
  |clo _ _ css hl hh=>
   simp only[valOf,isAg,cond_false,List.headD_cons]at h2
   have hcapl:(valsOf caps css).length=caps.length:=by
    have:∀(l:List AV) (m:List (List Value)),l.length=m.length->(valsOf l m).length=l.length:=λl=>by
     induction l with
     |nil=>intro m _;rfl
     |cons x l ih=>intro m hm;cases m with
      |nil=>simp at hm
      |cons c m=>simp[valsOf,ih m (by simpa using hm)]
    exact this caps css hl
   have hvs:∀(k:Nat) b v,(Qx (ev E st) args.toList++caps)[k]? =some b->(args.toList.map a.eval++valsOf caps css)[k]? =some v->VR S w ρ st.row pv b v:=λk b v hb hv=>by
    rw[List.getElem?_append]at hb hv
    rw[hlen]at hv
    split at hb
    ·rename_i hlt
     rw[if_pos hlt]at hv
     exact hargs k b v hb hv
    ·rename_i hlt
     rw[if_neg hlt]at hv
     obtain⟨c,h3,h4⟩:=Uy hl hb
     rw[h4]at hv
     cases hv
     exact .inr ⟨c,hh _ b c hb h3,rfl⟩
   have hrun:∀R:Value->World->Prop,Goes P g (args.toList.map a.eval++valsOf caps css).toArray w R->QD P R ((execOp a.eval o).run P w):=λR hR=>by
    have e:(execOp a.eval o).run P w=(callFunc g (args.toList.map a.eval++valsOf caps css).toArray).run P w:=by
     unfold execOp
     simp only[ho,resolve,h2,Deferred.ofValue,invoke,Sem.run_bind,Sem.run_pure,Result.andThen_ok]
     congr 2
     apply Array.ext'
     simp
    rw[e];exact hR
   rcases h with⟨_,h⟩|⟨_,h⟩
   ·exact GU hs hgl hd hG (cal:=.f g) (vs:=args.toList.map a.eval++valsOf caps css) hid hrun (by simp[hlen,hcapl]) hvs h hK
   ·exact Q2K hs hgl hd hG (vs:=args.toList.map a.eval++valsOf caps css) hid hrun (by simp[hlen,hcapl]) hvs h hK
 ·rw[hf]at ef
  obtain⟨cs,h',h2⟩:=Qw ef (by simp)
  cases h' with
  |par _ h1=>
   simp only[valOf,isAg,cond_false,List.headD_cons]at h2
   refine GU hs hgl hd hG (vs:=args.toList.map a.eval) hid (λR hR=>?_) hlen hargs h hK
   have e:(execOp a.eval o).run P w=(do let d <-Deferred.ofValue (pv i) (args.toList.map a.eval).toArray;invoke d.target d.args:Sem Next).run P w:=by
    unfold execOp
    have:args.map a.eval=(args.toList.map a.eval).toArray:=by apply Array.ext';simp
    simp only[ho,resolve,h2,this]
   rw[e];exact hR
end
end Go.Gx
end
section
/- The interpreter's operations are the machine's: pieces of a row that was handed over. -/
namespace Go.Gx
open Go.RowKit
section
variable {P:Program} {E:Env} {w0:World} {B:Old} {pv:Nat->Value} {S:Nat->Prop} {ρ:Nat->Option Loc} {st:St} {a:Act} {w:World} {o:Oper} {id:Nat} {K:Act->World->Prop} {Q:Exit->Act->World->Prop}
variable (hE:EnvOk P E) (hs:Sim w0 B pv S ρ st a w) (hgl:Qr E pv S w) (hd:J9 o st.nt=true)
theorem Q12 {l0:Int}{n m k:Nat}(h:YV (some l0) none n m k):m<=n/\k=n:=by
 unfold YV cut at h
 obtain⟨h1,h⟩:=Q5 h
 obtain⟨h2,h⟩:=Q5 h
 cases h
 have:=of_decide_eq_true h1
 have:=of_decide_eq_true h2
 omega
theorem Q13 {h0:Int}{n m k:Nat}(h:YV none (some h0) n m k):m=0/\k<=n:=by
 unfold YV cut at h
 obtain⟨h1,h⟩:=Q5 h
 obtain⟨h2,h⟩:=Q5 h
 cases h
 have:=of_decide_eq_true h1
 have:=of_decide_eq_true h2
 omega
include hE hs hgl hd
theorem Q2L {T:TypeId}{x:Operand}{lo hi:Option Operand}{l h:Option Int}{u:Upd}(ho:o.op= .slice T x lo hi none)(hl:evO (ev E st) lo=some l)(hh:evO (ev E st) hi=some h)
  (hx:Q6p E T l h (ev E st x) st.row u) (hK:Nx E w0 B pv S ρ st o.dst u id K):o.wp P a w K Q:=by
 have hev:=Qj hgl hs
 have e1:=hev x
 have el:=KG hev hl
 have eh:=KG hev hh
 obtain⟨j,e,τ,xs,app,m,k,hT,hx,hr,hag,hjm,hc,hu⟩:=hx
 have runSl:∀{A:Option Addr} {n c m k:Nat},a.eval x= .slice A n c->YV l h n m k->n<=c->(execOp a.eval o).run P w= .ok (.value (.slice (if c=m then A else A.map (·.add (m*nc τ))) (k-m) (c-m))) w:=by
  intro A n c m k hv hc hn
  obtain⟨t,hu,_,hte,_⟩:=(hE.ty _ _ hT).und
  unfold execOp
  simp only[ho,Instr.sliceAt,Sem.run_bind,run_underlying hu,Result.andThen_ok,Instr.slice,hv,el,eh,Option.map_none,Uz hc hn,Qz (hE.ty _ _ hte),Sem.run_pure]
 rw[hx]at e1
 rcases Yv e1 hr with⟨g,c,hlj,hv⟩|⟨hlj,rfl,hv⟩
 ·obtain⟨cur,f,h1,h2,h3,h4,h5,h6,h7,h8⟩:=hs.hs.rows j _ _ hr hlj
  rcases hu with⟨l0,rfl,rfl,rfl⟩|⟨h0,rfl,rfl,rfl⟩
  ·obtain⟨hm1,rfl⟩:=Q12 hc
   refine Q8 hs hgl hd (runSl hv hc h3) (.inr ⟨_,.tl j e τ xs false app (.at g c) m hr hlj hm1 hag,?_⟩) hK
   by_cases hcm:c=m
   ·simp[tailV,valOf,isAg,hcm]
   ·simp[tailV,valOf,isAg,hcm,Addr.add_lit]
  ·obtain⟨rfl,hk⟩:=Q13 hc
   refine XW hs hgl hd hjm (l':=.at g c) (runSl hv hc h3) hs.below hr hlj rfl rfl (Nat.le_refl _) (λ_ _ _=>rfl) (λg' e=>.inl e) (λρ' row'=>?_) (λρ' row' h9 h10=>?_) hK
   ·refine⟨cur,f,h1,h2,?_,h4,h5,h6,h7,λi hi=>?_⟩
    ·simp only[Jg,List.length_take];omega
    ·simp only[Jg,List.length_take]at hi
     have hi':i<xs.length:=by omega
     obtain⟨cs,hc1,hc2⟩:=h8 i hi'
     refine⟨cs,?_,hc2⟩
     simp only[Jg,List.getElem_take]
     exact hc1
   ·refine .inr ⟨_,.own j e τ _ false app g c h10 h9,?_⟩
    simp only[valOf,isAg,Jg,List.length_take,Nat.sub_zero,Nat.zero_mul,Nat.min_eq_left hk]
    by_cases hc0:c=0
    ·simp[hc0]
    ·simp[hc0,Addr.add_lit]
 ·obtain⟨h1,h2,h3⟩:=hs.hs.rows j _ _ hr hlj
  rcases hu with⟨l0,rfl,rfl,rfl⟩|⟨h0,rfl,rfl,rfl⟩
  ·obtain⟨hm1,rfl⟩:=Q12 hc
   have hm0:m=0:=by simpa using hm1
   subst hm0
   refine Q8 hs hgl hd (runSl hv hc (Nat.le_refl _)) (.inr ⟨_,.tl j e τ [] false app .nilrow 0 hr hlj (Nat.le_refl _) hag,?_⟩) hK
   simp[tailV,valOf,isAg]
  ·obtain⟨rfl,hk⟩:=Q13 hc
   have hk0:k=0:=by simpa using hk
   subst hk0
   refine XW hs hgl hd hjm (l':=.nilrow) (runSl hv hc (Nat.le_refl _)) hs.below hr hlj rfl rfl (Nat.le_refl _) (λ_ _ _=>rfl) (λg' e=>False.elim e) (λρ' row'=>?_) (λρ' row' h9 h10=>?_) hK
   ·exact⟨rfl,h2,h3⟩
   ·refine .inr ⟨_,.ownNil j e τ false app h10 h9,?_⟩
    simp[valOf,isAg]
theorem Q3V {args:Array Operand}{T:TypeId}{j i e:Nat}{τ:Ty}{xs:List (den τ)}{app:Bool}{p:List Nat}(ho:o.op= .call {callee:=.builtin .clear,args:=args,argTypes:=#[T]})(hargs:Qx (ev E st) args.toList=[.ep j (some i) p])
  (hT:E.ty T=some (.sl τ)) (hp:Gs p=true) (hr:st.row j=some (.flat e τ xs false app)) (hag:agT τ=false)
  (hK:Nx E w0 B pv S ρ st o.dst ⟨QV,[],[],none,some (j,.flat e τ (xs.take i++List.replicate (xs.length-i) (Q9 τ)) false app)⟩ id K):o.wp P a w K Q:=by
 obtain⟨x,hx⟩:∃x,args= #[x]/\ev E st x= .ep j (some i) p:=by
  rw[Y8]at hargs
  match h:args.toList,hargs with
  |[x],hargs=>exact⟨x,Array.toList_inj.1 (by rw[h]),by simpa using hargs⟩
  |[],hargs=>simp at hargs
  |_::_::_,hargs=>simp at hargs
 obtain⟨rfl,hx⟩:=hx
 have e1:=Qj hgl hs x
 rw[hx]at e1
 obtain⟨t,hu,het,hte,hpos,hnb⟩:=(hE.ty _ _ hT).und
 have hnc:nc τ=1:=by cases τ<;>first|rfl|cases hag
 obtain⟨cs,h',hv⟩:=Qw e1 (by simp)
 have hf:∃l,ρ j=some l/\i<=xs.length/\a.eval x=tailV l xs.length i (nc τ):=by
  cases h' with
  |epF _ e' τ' σ' xs' fz' app' g cap _ _ h1 hl hi hp'=>
   rw[hr]at h1
   cases h1
   match p,hp,hp' with
   |[f],_,hp'=>rw[Gt hag]at hp';cases hp'
  |tl _ e' τ' xs' fz' app' l _ h1 hl hi hm=>
   rw[hr]at h1
   cases h1
   exact⟨l,hl,hi,by rw[hv];rfl⟩
 obtain⟨l,hlj,hi,Yw⟩:=hf
 have same:xs.take i++List.replicate (xs.length-i) (Q9 τ)=xs->l= .nilrow\/xs.length-i=0->o.wp P a w K Q:=λhxs hcase=>by
  have hs':=hs.sto (w':=w) hs.below hr hlj (.flat _ _ _ _ _ e _ false app rfl) rfl rfl (Nat.le_refl _) (λ_ _ _=>rfl) λrow' hk=>QG.ext (P:=λ_=>True) (λ_ h=>h) (λ_ _=>rfl) (λi l r _ h1 h2=>⟨h1,hk i l r h1 h2⟩) (hs.hs.rows j _ _ hr hlj) (λ_ _=>rfl) (λ_ _ _ _ _=>trivial)
  rw[hxs]at hK
  refine Oper.wp_value (w':=w) (v:=.tuple #[]) (Jf ho ?_) (hK S ρ _ w (hs'.put (QK hd) Jm) hgl (Grew.refl _ _) (λ_ h _=>h))
  have hcl:(Builtin.clear_ #[T] o.type #[a.eval x]).run P w= .ok (.tuple #[]) w:=by
   rw[Yw]
   unfold Builtin.clear_
   rcases hcase with rfl|h0
   ·simp[tailV,run_underlying hu]
   ·cases l with
    |nilrow=>simp[tailV,run_underlying hu]
    |soft T' v'=>simp[tailV,run_underlying hu]
    |tree cs' T' v'=>simp[tailV,run_underlying hu]
    |«at» g cap=>simp[tailV,run_underlying hu,h0]
  simp[builtin,hcl]
 cases l with
 |nilrow=>
  obtain⟨rfl,_⟩:=hs.hs.rows j _ _ hr hlj
  have:i=0:=by simpa using hi
  subst this
  exact same rfl (.inl rfl)
 |soft T' v'=>exact(hs.hs.rows j _ _ hr hlj).elim
 |tree cs' T' v'=>exact(hs.hs.rows j _ _ hr hlj).elim
 |«at» g cap=>
  by_cases h0:xs.length-i=0
  ·exact same (by rw[h0,List.take_of_length_le (by omega)];simp) (.inr h0)
  ·obtain⟨cur,f,h1,h2,h3,h4,h5,h6,h7,h8⟩:=hs.hs.rows j _ _ hr hlj
   have hap:=hs.hs.apart j _ g cap hlj hr
   rw[hnc,Nat.mul_one]at h2
   have hci:¬cap=i:=by omega
   obtain⟨z0,hz0⟩:∃z0,zc τ=[z0]:=by
    have:=(Jl S w τ).len
    rw[hnc]at this
    match hq:zc τ,this with
    |[z0],_=>exact⟨z0,rfl⟩
   have hz:=Jl S w τ
   have hzc:(valOf (.t τ (Q9 τ)) (zc τ)).cells.toList=zc τ:=J7 (S:=S) (w:=w) (ρ:=ρ) (row:=st.row) (pv:=pv) (.t τ (Q9 τ)) (.t τ _ _ hz)
   have hzc':(valOf (.t τ (Q9 τ)) (zc τ)).cells= #[z0]:=Array.toList_inj.1 (by rw[hzc,hz0])
   have hcells:(Builtin.zeroCells (valOf (.t τ (Q9 τ)) (zc τ)).cells (xs.length-i)).toList=List.replicate (xs.length-i) z0:=by
    rw[hzc']
    simp only[Builtin.zeroCells,List.size_toArray,List.length_cons,List.length_nil,Nat.zero_add,Nat.mul_one,Array.toList_map,Array.toList_range]
    apply List.ext_getElem
    ·simp
    ·intro q q1 q2
     simp[Nat.mod_one]
   have hone:∀v∈List.replicate (xs.length-i) z0,v.oneCell'=true:=λv hv=>by
    rw[List.eq_of_mem_replicate hv]
    exact hz.one z0 (by rw[hz0];exact List.mem_cons_self)
   have hst:=UZ P g i e f (List.replicate (xs.length-i) z0) 0 cur w h1 h6 (by simp;omega) hone
   rw[Nat.add_zero]at hst
   have hsp:(cur.toList.take i++List.replicate (xs.length-i) z0++cur.toList.drop (i+(List.replicate (xs.length-i) z0).length))=splice cur.toList i (List.replicate (xs.length-i) z0):=rfl
   rw[hsp]at hst
   have hl2:i+(List.replicate (xs.length-i) z0).length<=cur.toList.length:=by simp;omega
   have hlen:(splice cur.toList i (List.replicate (xs.length-i) z0)).length=cur.size:=by rw[Jh hl2];simp
   have hget:=QT (cs:=cur.toList) (c:=List.replicate (xs.length-i) z0) (o:=i) hl2
   have hw:∀k,S k->(w.setRow g (splice cur.toList i (List.replicate (xs.length-i) z0)).toArray).heap[k]? =w.heap[k]?:=λk hk=>setRow_other w g k _ λe=>hap.2.1 rfl (e▸hk)
   have hm:=hs.sto (w':=w.setRow g (splice cur.toList i (List.replicate (xs.length-i) z0)).toArray) (r':=.flat e τ (xs.take i++List.replicate (xs.length-i) (Q9 τ)) false app) (below_setRow hs.below hap.1 _) hr hlj (.flat _ _ _ _ _ _ _ _ _ (by simp;omega)) rfl rfl (by simp[World.setRow])
    (λk _ hk=>setRow_other w g k _ hk) ?_
   ·refine Oper.wp_value (w':=w.setRow g (splice cur.toList i (List.replicate (xs.length-i) z0)).toArray) (v:=.tuple #[]) (Jf ho ?_) (hK S ρ _ _ (hm.put (QK hd) Jm) (hgl.mono (λ_ h=>h) hw) (Grew.refl _ _) (λ_ h _=>h))
    have hcl:(Builtin.clear_ #[T] o.type #[a.eval x]).run P w= .ok (.tuple #[]) (w.setRow g (splice cur.toList i (List.replicate (xs.length-i) z0)).toArray):=by
     rw[Yw]
     obtain⟨q,hq⟩:∃q,xs.length-i=q+1:=⟨xs.length-i-1,by omega⟩
     unfold Builtin.clear_
     simp only[tailV,if_neg hci,hnc,Nat.mul_one]
     rw[hq]at hcells hst ⊢
     simp[run_underlying hu,Q0V (hE.ty _ _ hte),hcells,hst]
    simp[builtin,hcl]
   ·intro row' hk
    refine⟨_,_,setRow_heap w g cur _ _ _ h1,by simpa[hlen,hnc]using h2,by simp;omega,h4,h5,(by simpa[hlen]using h6),h7,λk hk'=>?_⟩
    have hk2:k<xs.length:=by simp at hk';omega
    by_cases c:k<i
    ·obtain⟨cs',hc1,hc2⟩:=h8 k hk2
     refine⟨cs',?_,λm u hm=>?_⟩
     ·rw[List.getElem_append_left (by simp;omega),List.getElem_take]
      exact hc1.mono (λb hb=>hb.mono (λh=>h) (hw b hb.1)) λb hb=>hw b hb.1
     ·have hml:m<1:=by have:=(List.getElem?_eq_some_iff.1 hm).1;rw[hc1.len,hnc]at this;exact this
      have hx2:=hc2 m u hm
      simp only[hnc,Nat.mul_one]at hx2 ⊢
      simp only[List.getElem?_toArray]
      rw[hget,if_pos (by omega)]
      simpa using hx2
    ·refine⟨zc τ,?_,λm u hm=>?_⟩
     ·rw[List.getElem_append_right (by simp;omega),List.getElem_replicate]
      exact Jl _ _ τ
     ·have hml:m<1:=by have:=(List.getElem?_eq_some_iff.1 hm).1;rw[hz.len,hnc]at this;exact this
      have hm0:m=0:=by omega
      subst hm0
      rw[hz0]at hm
      simp only[List.getElem?_cons_zero,Option.some.injEq]at hm
      subst hm
      simp only[hnc,Nat.mul_one,Nat.add_zero,List.getElem?_toArray]
      rw[hget,if_neg c,if_pos (by simp;omega)]
      rw[List.getElem?_replicate,if_pos (by omega)]
end
end Go.Gx
end
section
/- Trees: their parts,and what becomes of them when a part is written anew. -/
namespace Go.Gx
open Go.RowKit
theorem Y9 {T:Nat->Prop}{v w:World}(h:JD T v w){g:Nat}(hg:T g):OB w g:=by
 obtain⟨_,⟨cur,e,f,h1,h2⟩,h3⟩:=h g hg
 obtain⟨cur',h4,h5,_⟩:=h3 cur e f h1
 exact⟨cur',e,f,h4,by rw[h5];exact h2⟩
theorem Yg {T:Nat->Prop}{w:World}(h:∀g,T g->OB w g):JD T w w:=λg hg=>by
 obtain⟨cur,e,f,h1,h2⟩:=h g hg
 exact⟨(Array.getElem?_eq_some_iff.1 h1).1,⟨cur,e,f,h1,h2⟩,.refl _⟩
theorem Q6O {S:Nat->Prop}{w:World}{τ:Ty}{x:den τ}{cs:List Value}(ha:agT τ=false)(hs:slT τ=false)(h:CR S w τ x cs){S':Nat->Prop}{w':World}{y:den τ}{ds:List Value}(k:CR S' w' τ y ds):∃u u',cs=[u]/\ds=[u']/\Yn u u':=by
 cases h<;>first
  |(cases ha;done)
  |(cases hs;done)
  |(cases k;exact⟨_,_,rfl,rfl,by simp[Yn]⟩)
theorem JY {w:World}{T:Nat->Prop}{s:ByteArray}{cs:List Value}(h:TR w T .str s cs):cs=[.string s]:=JP h.cr
theorem Dk {w:World}{T:Nat->Prop}{k:IntKind}{n:Int}{cs:List Value}(h:TR w T (.int k) n cs):cs=[.int k n]:=YG h.cr
theorem Q8a {w:World}{T:Nat->Prop}{b:Bool}{cs:List Value}(h:TR w T .bool b cs):cs=[.bool b]:=Q1H h.cr
theorem Q4K {w:World}{T:Nat->Prop}{d:Date}{cs:List Value}(h:TR w T .date d cs):cs=[.int .i64 d.y,.int .i64 d.m,.int .i64 d.d,.bool d.c]:=Q1I h.cr
theorem YL {w:World}{T:Nat->Prop}{e:Ty}{xs:List (den e)}{cs:List Value}(h:TR w T (.sl e) xs cs):∃v,cs=[v]:=UV h.cr
theorem TR.field {T:Nat->Prop}{w:World}{τ:Ty}{x:den τ}{cs:List Value}(h:TR w T τ x cs){f:Nat}{σ:Ty}{z:den σ}(hst:stT τ f=true)(hz:QH (.t τ x) f=some (.t σ z)) :
  (fty τ)[f]? =some σ/\QB (fty τ) f+nc σ<=cs.length/\∃T1:Nat->Prop,(∀b,T1 b->T b)/\TR w T1 σ z ((cs.drop (QB (fty τ) f)).take (nc σ))/\
   ∀(w':World) (z':den σ) (ds:List Value),(∀b,T b->¬T1 b->w'.heap[b]? =w.heap[b]?)->TR w' T1 σ z' ds->∃x',U7 (.t τ x) f (.t σ z')=some (.t τ x')/\TR w' T τ x' (splice cs (QB (fty τ) f) ds):=by
 simp only[QH]at hz
 cases h with
 |flat _ _ _ _ hs h=>
  cases h with
  |date d=>
   rcases f with _|_|_|_|f
   iterate 3
    ·cases hz
     refine⟨rfl,Nat.le_of_ble_eq_true rfl,λ_=>False,λ_ h=>h.elim,.flat _ _ _ _ rfl (.int _ _),λw' z' ds _ hd=>?_⟩
     obtain rfl:=Dk hd
     exact⟨_,rfl,.flat _ _ _ _ rfl (.date _)⟩
   ·cases hz
    refine⟨rfl,Nat.le_of_ble_eq_true rfl,λ_=>False,λ_ h=>h.elim,.flat _ _ _ _ rfl (.bool _),λw' z' ds _ hd=>?_⟩
    obtain rfl:=Q8a hd
    exact⟨_,rfl,.flat _ _ _ _ rfl (.date _)⟩
   ·simp[Q4]at hz
  |abbr a=>
   rcases f with _|_|f
   iterate 2
    ·cases hz
     refine⟨rfl,Nat.le_of_ble_eq_true rfl,λ_=>False,λ_ h=>h.elim,.flat _ _ _ _ rfl (.str _),λw' z' ds _ hd=>?_⟩
     obtain rfl:=JY hd
     exact⟨_,rfl,.flat _ _ _ _ rfl (.abbr _)⟩
   ·simp[Q4]at hz
  |arr=>cases hst
  |int=>simp[Q4]at hz
  |bool=>simp[Q4]at hz
  |str=>simp[Q4]at hz
  |sl=>cases hs
  |name=>cases hs
  |entry=>cases hs
  |lib=>cases hs
  |query=>cases hs
  |cur=>cases hs
 |nil=>simp[Q4]at hz
 |sl=>simp[Q4]at hz
 |name _ n v h=>
  rcases f with _|_|_|_|f
  ·cases hz
   refine⟨rfl,Nat.le_of_ble_eq_true rfl,T,λ_ h=>h,h,λw' z' ds _ hd=>?_⟩
   obtain⟨u,rfl⟩:=YL hd
   exact⟨_,rfl,.name _ _ _ hd⟩
  iterate 3
   ·cases hz
    refine⟨rfl,Nat.le_of_ble_eq_true rfl,λ_=>False,λ_ h=>h.elim,.flat _ _ _ _ rfl (.str _),λw' z' ds hw hd=>?_⟩
    obtain rfl:=JY hd
    exact⟨_,rfl,.name _ _ _ (h.mono (λ_ h=>h) λb hb=>hw b hb (λh=>h))⟩
  ·simp[Q4]at hz
 |entry _ T1 T2 e va ve ha he h1 h2 hd'=>
  have keep:∀w':World,(∀b,T b->¬False->w'.heap[b]? =w.heap[b]?)->TR w' T1 (.sl .name) e.authors [va]/\TR w' T2 (.sl .name) e.editors [ve]:=λw' hw=>
   ⟨ha.mono (λ_ h=>h) λb hb=>hw b (h1 b hb) (λh=>h),he.mono (λ_ h=>h) λb hb=>hw b (h2 b hb) (λh=>h)⟩
  rcases f with _|_|_|_|_|_|_|_|_|_|_|f
  case succ.succ.zero=>
   cases hz
   refine⟨rfl,Nat.le_of_ble_eq_true rfl,T1,h1,ha,λw' z' ds hw hd=>?_⟩
   obtain⟨u,rfl⟩:=YL hd
   exact⟨_,rfl,.entry _ T1 T2 _ _ _ hd (he.mono (λ_ h=>h) λb hb=>hw b (h2 b hb) λhb'=>hd' b hb' hb) h1 h2 hd'⟩
  case succ.succ.succ.zero=>
   cases hz
   refine⟨rfl,Nat.le_of_ble_eq_true rfl,T2,h2,he,λw' z' ds hw hd=>?_⟩
   obtain⟨u,rfl⟩:=YL hd
   exact⟨_,rfl,.entry _ T1 T2 _ _ _ (ha.mono (λ_ h=>h) λb hb=>hw b (h1 b hb) λhb'=>hd' b hb hb') hd h1 h2 hd'⟩
  case succ.succ.succ.succ.succ.succ.succ.zero=>
   cases hz
   refine⟨rfl,Nat.le_of_ble_eq_true rfl,λ_=>False,λ_ h=>h.elim,.flat _ _ _ _ rfl (.date _),λw' z' ds hw hd=>?_⟩
   obtain rfl:=Q4K hd
   obtain⟨k1,k2⟩:=keep w' hw
   exact⟨_,rfl,.entry _ T1 T2 _ _ _ k1 k2 h1 h2 hd'⟩
  case succ.succ.succ.succ.succ.succ.succ.succ.succ.succ.succ=>simp[Q4]at hz
  all_goals first
   |(cases hz;refine⟨rfl,Nat.le_of_ble_eq_true rfl,λ_=>False,λ_ h=>h.elim,.flat _ _ _ _ rfl (.str _),λw' z' ds hw hd=>?_⟩;obtain rfl:=JY hd;obtain⟨k1,k2⟩:=keep w' hw;exact⟨_,rfl,.entry _ T1 T2 _ _ _ k1 k2 h1 h2 hd'⟩)
   |(cases hz;refine⟨rfl,Nat.le_of_ble_eq_true rfl,λ_=>False,λ_ h=>h.elim,.flat _ _ _ _ rfl (.int _ _),λw' z' ds hw hd=>?_⟩;obtain rfl:=Dk hd;obtain⟨k1,k2⟩:=keep w' hw;exact⟨_,rfl,.entry _ T1 T2 _ _ _ k1 k2 h1 h2 hd'⟩)
 |lib _ l v h=>
  rcases f with _|f
  ·cases hz
   refine⟨rfl,Nat.le_of_ble_eq_true rfl,T,λ_ h=>h,h,λw' z' ds _ hd=>?_⟩
   obtain⟨u,rfl⟩:=YL hd
   exact⟨_,rfl,.lib _ _ _ hd⟩
  ·simp[Q4]at hz
 |query _ q v h=>
  rcases f with _|_|_|_|f
  ·cases hz
   refine⟨rfl,Nat.le_of_ble_eq_true rfl,λ_=>False,λ_ h=>h.elim,.flat _ _ _ _ rfl (.int _ _),λw' z' ds hw hd=>?_⟩
   obtain rfl:=Dk hd
   exact⟨_,rfl,.query _ _ _ (h.mono (λ_ h=>h) λb hb=>hw b hb (λh=>h))⟩
  iterate 2
   ·cases hz
    refine⟨rfl,Nat.le_of_ble_eq_true rfl,λ_=>False,λ_ h=>h.elim,.flat _ _ _ _ rfl (.str _),λw' z' ds hw hd=>?_⟩
    obtain rfl:=JY hd
    exact⟨_,rfl,.query _ _ _ (h.mono (λ_ h=>h) λb hb=>hw b hb (λh=>h))⟩
  ·cases hz
   refine⟨rfl,Nat.le_of_ble_eq_true rfl,T,λ_ h=>h,h,λw' z' ds _ hd=>?_⟩
   obtain⟨u,rfl⟩:=YL hd
   exact⟨_,rfl,.query _ _ _ hd⟩
  ·simp[Q4]at hz
theorem TR.path:∀{p:List Nat} {T:Nat->Prop} {w:World} {τ:Ty} {x:den τ} {cs:List Value},TR w T τ x cs->∀{σ:Ty} {z:den σ},pOk τ p=true->YT (.t τ x) p=some (.t σ z)->
  tyP τ p=some σ/\Qk τ p+nc σ<=cs.length/\∃T1:Nat->Prop,(∀b,T1 b->T b)/\TR w T1 σ z ((cs.drop (Qk τ p)).take (nc σ))/\
   ∀(w':World) (z':den σ) (ds:List Value),(∀b,T b->¬T1 b->w'.heap[b]? =w.heap[b]?)->TR w' T1 σ z' ds->∃x',XG (.t τ x) p (.t σ z')=some (.t τ x')/\TR w' T τ x' (splice cs (Qk τ p) ds)
 |[],T,w,τ,x,cs,h,σ,z,_,hz=>by
  cases hz
  have hl:=h.cr.len
  refine⟨rfl,by simp[Qk,hl],T,λ_ h=>h,?_,λw' z' ds _ hd=>⟨z',rfl,?_⟩⟩
  ·simp only[Qk,List.drop_zero,<-hl,List.take_length]
   exact h
  ·have:splice cs (Qk τ []) ds=ds:=by
    simp only[Qk,splice,List.take_zero,List.nil_append,Nat.zero_add]
    rw[hd.cr.len,<-hl,List.drop_length,List.append_nil]
   rw[this]
   exact hd
 |f::p,T,w,τ,x,cs,h,σ,z,hp,hz=>by
  simp only[pOk,Bool.and_eq_true]at hp
  simp only[YT]at hz
  split at hz
  ·rename_i b hb
   obtain⟨θ,y,rfl⟩:=GE (τ:=τ) (x:=x) (f:=f) (by simpa[QH]using hb)
   obtain⟨h1,h2,T1,h3,h4,h5⟩:=h.field hp.1 hb
   have hd:(fty τ).getD f .bool=θ:=by rw[List.getD_eq_getElem?_getD,h1];rfl
   rw[hd]at hp
   obtain⟨k1,k2,T2,k3,k4,k5⟩:=TR.path h4 hp.2 hz
   have hl:((cs.drop (QB (fty τ) f)).take (nc θ)).length=nc θ:=by simp;omega
   rw[hl]at k2
   refine⟨by simp only[tyP,h1];exact k1,by simp only[Qk,hd];omega,T2,λb hb=>h3 b (k3 b hb),?_,λw' z' ds hw hds=>?_⟩
   ·have e:(((cs.drop (QB (fty τ) f)).take (nc θ)).drop (Qk θ p)).take (nc σ)=(cs.drop (Qk τ (f::p))).take (nc σ):=by
     rw[List.drop_take,List.take_take,List.drop_drop]
     simp only[Qk,hd]
     congr 1
     omega
    rwa [e]at k4
   ·obtain⟨y',m1,m2⟩:=k5 w' z' ds (λb hb hn=>hw b (h3 b hb) hn) hds
    obtain⟨x',m3,m4⟩:=h5 w' y' _ (λb hb hn=>hw b hb λh=>hn (k3 b h)) m2
    refine⟨x',?_,?_⟩
    ·simp only[XG,hb,m1,m3]
    ·have hds':=hds.cr.len
     rw[XJ h2 (by omega)]at m4
     simp only[Qk,hd]
     exact m4
  ·cases hz
theorem cell_of {w:World}{g o:Nat}{cur:Array Value}{t:TypeId}{f:Nat×Nat}(h:w.heap[g]? =some (.cells cur t f)):w.cell? ⟨g,o,none⟩=cur[o]?:=by simp[World.cell?,h]
theorem TR.elem {T:Nat->Prop}{w:World}{e:Ty}{xs:List (den e)}{g n c:Nat}(h:TR w T (.sl e) xs [.slice (some ⟨g,0,none⟩) n c]){i:Nat}(hi:i<n) :
  n=xs.length/\T g/\OB w g/\∃hi:i<xs.length,∃cs,∃T1:Nat->Prop,TR w T1 e xs[i] cs/\(∀b,T1 b->T b/\b≠g)/\(∀j v,cs[j]? =some v->w.cell? ⟨g,i*nc e+j,none⟩=some v)/\
   ∀(w':World) (y':den e) (cs':List Value),(∀b,T b->b≠g->¬T1 b->w'.heap[b]? =w.heap[b]?)->OB w' g->(∀a,a<i*nc e\/i*nc e+nc e<=a->w'.cell? ⟨g,a,none⟩=w.cell? ⟨g,a,none⟩)->
    (∀j v,cs'[j]? =some v->w'.cell? ⟨g,i*nc e+j,none⟩=some v)->TR w' T1 e y' cs'->TR w' T (.sl e) (xs.set i y') [.slice (some ⟨g,0,none⟩) n c]:=by
 generalize hv:[Value.slice (some ⟨g,0,none⟩) n c]=v at h
 cases h with
 |flat _ _ _ _ hs _=>cases hs
 |nil=>cases hv
 |sl _ _ _ g' c' cv Ts hc hm hg hO h1 h2 h3 h4=>
  cases hv
  refine⟨rfl,hg,hO,hi,cv i,Ts i,h1 i hi,λb hb=>h3 i b hi hb,λj v hj=>h2 i j v hi hj,λw' y' cs' hw hO' hout hin hy=>?_⟩
  have hlen:∀k,(hk:k<xs.length)->(cv k).length=nc e:=λk hk=>(h1 k hk).cr.len
  have hsub:∀k b,k<xs.length->k≠i->Ts k b->w'.heap[b]? =w.heap[b]?:=λk b hk hne hb=>hw b (h3 k b hk hb).1 (h3 k b hk hb).2 λhb'=>h4 k i b hk hi hne hb hb'
  have:=TR.sl (w:=w') T e (xs.set i y') g c (λk=>if k=i then cs' else cv k) Ts (by rw[List.length_set];exact hc) hm hg hO' (λk hk=>?_) (λk j v hk hv=>?_) (λk b hk hb=>h3 k b (by rwa [List.length_set]at hk) hb) (λk k' b hk hk'=>h4 k k' b (by rwa [List.length_set]at hk) (by rwa [List.length_set]at hk'))
  ·rwa [List.length_set]at this
  ·rw[List.length_set]at hk
   by_cases e1:k=i
   ·subst e1
    simpa using hy
   ·rw[List.getElem_set_ne (Ne.symm e1)]
    simp only[if_neg e1]
    exact(h1 k hk).mono (λ_ h=>h) λb hb=>hsub k b hk e1 hb
  ·rw[List.length_set]at hk
   by_cases e1:k=i
   ·subst e1
    simp only[if_true]at hv
    exact hin j v hv
   ·simp only[if_neg e1]at hv
    have hj:j<nc e:=by rw[<-hlen k hk];exact(List.getElem?_eq_some_iff.1 hv).1
    rw[hout]
    ·exact h2 k j v hk hv
    ·rcases Nat.lt_or_gt_of_ne e1 with h|h
     ·refine .inl ?_
      have:(k+1)*nc e<=i*nc e:=Nat.mul_le_mul_right _ h
      rw[Nat.succ_mul]at this
      omega
     ·refine .inr ?_
      have:(i+1)*nc e<=k*nc e:=Nat.mul_le_mul_right _ h
      rw[Nat.succ_mul]at this
      omega
theorem DV {cs:List Value}{o:Nat}{u:Value}(h:cs[o]? =some u):splice cs o [u]=cs:=by
 obtain⟨h1,h2⟩:=List.getElem?_eq_some_iff.1 h
 apply List.ext_getElem?
 intro k
 rw[QT (by simp;omega)]
 by_cases c1:k<o
 ·rw[if_pos c1]
 ·rw[if_neg c1]
  by_cases c2:k<o+[u].length
  ·rw[if_pos c2]
   have:k=o:=by simp at c2;omega
   subst this
   simp[h]
  ·rw[if_neg c2]
theorem take_one {cs:List Value}{o:Nat}{u:Value}(h:cs[o]? =some u):(cs.drop o).take 1=[u]:=by
 rw[List.take_one,List.head?_drop,h];rfl
theorem Xc {e:Ty}{xs:List (den e)}{i:Nat}{p:List Nat}{a:AV}(hi:i<xs.length)(h:viewAt (.sl e) xs (some i) p=some a):YT (.t e xs[i]) p=some a:=by
 simp only[viewAt]at h
 have e1:List.getD xs i (Q9 e)=xs[i]:=by simp[List.getD,hi]
 rw[e1]at h
 exact h
theorem GV {e:Ty}{xs:List (den e)}{i:Nat}{p:List Nat}{a:AV}{y:den e}(hi:i<xs.length)(h:XG (.t e xs[i]) p a=some (.t e y)):setAt (.sl e) xs (some i) p a=some (xs.set i y):=by
 have e1:List.getD xs i (Q9 e)=xs[i]:=by simp[List.getD,hi]
 simp only[setAt,e1,h]
 have:decEq e e= .isTrue rfl:=by cases decEq e e<;>first|rfl|contradiction
 rw[this]
theorem Q3W {σ:Ty}{x x':den σ}{p:List Nat}{a:AV}(h:XG (.t σ x) p a=some (.t σ x')):setAt σ x none p a=some x':=by
 simp only[setAt,h]
 have:decEq σ σ= .isTrue rfl:=by cases decEq σ σ<;>first|rfl|contradiction
 rw[this]
theorem Q2M {u u':Value}{τ:Ty}{y:den (.sl τ)}{S:Nat->Prop}{w:World}(h:Yn u u')(k:CR S w (.sl τ) y [u']):u'=u:=by
 cases k
 cases u<;>simp only[Yn]at h<;>first
  |exact h
  |(cases h;done)
theorem TR.focus {T:Nat->Prop}{v w:World}(hs:JD T v w){σ:Ty}{x:den σ}{cs:List Value}(h:TR w T σ x cs){q:Option Nat}{p:List Nat}{τ:Ty}{y:den (.sl τ)}{u:Value}(hy:viewAt σ x q p=some (.t (.sl τ) y))(hp:PlaceAt v cs σ q p (.sl τ) u) :
  ∃T1:Nat->Prop,(∀b,T1 b->T b)/\TR w T1 (.sl τ) y [u]/\∀(w':World) (y':den (.sl τ)),(∀b,T b->¬T1 b->w'.heap[b]? =w.heap[b]?)->TR w' T1 (.sl τ) y' [u]->∃x',setAt σ x q p (.t (.sl τ) y')=some x'/\TR w' T σ x' cs:=by
 cases hp with
 |root _ _ _ _ h1 h0 h2=>
  obtain⟨k1,k2,T1,k3,k4,k5⟩:=h.path h0 hy
  rw[show nc (.sl τ)=1 from rfl,take_one h2]at k4
  refine⟨T1,k3,k4,λw' y' hw hy'=>?_⟩
  obtain⟨x',m1,m2⟩:=k5 w' y' [u] hw hy'
  rw[DV h2]at m2
  exact⟨x',Q3W m1,m2⟩
 |elem e i _ _ _ g n c hcs hi h1 h0 h2=>
  subst hcs
  obtain⟨rfl,hg,hO,hi,ds,T1,k1,k2,k3,k4⟩:=h.elem hi
  have hy:=Xc hi hy
  obtain⟨m1,m2,T2,m3,m4,m5⟩:=k1.path h0 hy
  have hlt:Qk e p<ds.length:=by simp[nc]at m2;omega
  have hu0:ds[Qk e p]? =some ds[Qk e p]:=List.getElem?_eq_getElem hlt
  rw[show nc (.sl τ)=1 from rfl,take_one hu0]at m4
  have e2:ds[Qk e p]=u:=by
   obtain⟨cur,t,f,n3,n4,u',n5,n6⟩:=Xo hs hg h2
   have n7:=k3 _ _ hu0
   rw[cell_of n3,n5]at n7
   cases n7
   exact Q2M n6 m4.cr
  rw[e2]at m4 hu0
  refine⟨T2,λb hb=>(k2 b (m3 b hb)).1,m4,λw' y' hw hy'=>?_⟩
  have hgs:w'.heap[g]? =w.heap[g]?:=hw g hg λhb=>(k2 g (m3 g hb)).2 rfl
  obtain⟨z',n1,n2⟩:=m5 w' y' [u] (λb hb hn=>hw b (k2 b hb).1 hn) hy'
  rw[DV hu0]at n2
  refine⟨_,GV hi n1,k4 w' z' ds (λb hb hn hn'=>hw b hb λhb'=>hn' (m3 b hb')) (hO.mono hgs) (λa _=>World.cell?_of_block (w:=w) (a:=⟨g,_,none⟩) hgs) (λj v hj=>?_) n2⟩
  exact(World.cell?_of_block (w:=w) (a:=⟨g,_,none⟩) hgs).trans (k3 j v hj)
theorem TR.store {T:Nat->Prop}{w:World}{e:Ty}{xs:List (den e)}{g n c:Nat}(h:TR w T (.sl e) xs [.slice (some ⟨g,0,none⟩) n c]){i:Nat}{p:List Nat}{σ:Ty}{z0 z:den σ}(hi:i<n)(hpo:pOk e p=true)(hv:viewAt (.sl e) xs (some i) p=some (.t σ z0))
  (hag:agT σ=false) (hsl:slT σ=false) {u1:Value} {S1:Nat->Prop} {w1:World} (hz:CR S1 w1 σ z [u1]) :
  ∃cur t f,w.heap[g]? =some (.cells cur t f)/\T g/\(f.2<=f.1\/cur.size<=f.1)/\i*nc e+Qk e p<cur.size/\(∃u0,cur[i*nc e+Qk e p]? =some u0/\Yn u0 u1)/\tyP e p=some σ/\
   ∀w':World,(∀b,b≠g->w'.heap[b]? =w.heap[b]?)->w'.heap[g]? =some (.cells (splice cur.toList (i*nc e+Qk e p) [u1]).toArray t f)->∃x',setAt (.sl e) xs (some i) p (.t σ z)=some x'/\TR w' T (.sl e) x' [.slice (some ⟨g,0,none⟩) n c]:=by
 obtain⟨rfl,hg,hO,hi,ds,T1,k1,k2,k3,k4⟩:=h.elem hi
 have hv:=Xc hi hv
 obtain⟨m1,m2,T2,m3,m4,m5⟩:=k1.path hpo hv
 have hn1:=UY hag
 rw[hn1]at m2 m4
 have hlt:Qk e p<ds.length:=by omega
 have hu0:ds[Qk e p]? =some ds[Qk e p]:=List.getElem?_eq_getElem hlt
 rw[take_one hu0]at m4
 obtain⟨cur,t,f,hh,hff⟩:=hO
 have hc0:=k3 _ _ hu0
 rw[cell_of hh]at hc0
 have hsz:i*nc e+Qk e p<cur.size:=(Array.getElem?_eq_some_iff.1 hc0).1
 obtain⟨a1,a2,e1,e2,hsv⟩:=Q6O hag hsl m4.cr hz
 cases e1;cases e2
 refine⟨cur,t,f,hh,hg,hff,hsz,⟨_,hc0,hsv⟩,m1,λw' hw hwg=>?_⟩
 obtain⟨z',n1,n2⟩:=m5 w' z [u1] (λb hb _=>hw b (k2 b hb).2) (.flat _ _ _ _ hsl (J5 hsl hz))
 have hdl:=k1.cr.len
 have hcell:∀a,w'.cell? ⟨g,a,none⟩=(splice cur.toList (i*nc e+Qk e p) [u1])[a]?:=λa=>by rw[cell_of hwg];simp
 have hcell0:∀a,w.cell? ⟨g,a,none⟩=cur.toList[a]?:=λa=>by rw[cell_of hh];simp
 have hsp:∀a,(splice cur.toList (i*nc e+Qk e p) [u1])[a]? =if a<i*nc e+Qk e p then cur.toList[a]? else if a<i*nc e+Qk e p+1 then[u1][a-(i*nc e+Qk e p)]? else cur.toList[a]?:=λa=>QT (by simp;omega) a
 refine⟨_,GV hi n1,k4 w' z' _ (λb _ hn _=>hw b hn) ⟨_,t,f,hwg,?_⟩ (λa ha=>?_) (λj v hj=>?_) n2⟩
 ·have:(splice cur.toList (i*nc e+Qk e p) [u1]).length=cur.size:=by rw[Jh (by simp;omega)];simp
  simpa[this]using hff
 ·rw[hcell,hcell0,hsp]
  by_cases c1:a<i*nc e+Qk e p
  ·rw[if_pos c1]
  ·rw[if_neg c1,if_neg (by omega)]
 ·rw[hcell,hsp]
  rw[QT (by simp;omega)]at hj
  by_cases c1:j<Qk e p
  ·rw[if_pos c1]at hj
   rw[if_pos (by omega),<-hcell0]
   exact k3 j v hj
  ·rw[if_neg c1]at hj
   rw[if_neg (by omega)]
   by_cases c2:j<Qk e p+[u1].length
   ·rw[if_pos c2]at hj
    simp at c2
    rw[if_pos (by omega)]
    rw[show i*nc e+j-(i*nc e+Qk e p)=j-Qk e p by omega]
    exact hj
   ·rw[if_neg c2]at hj
    simp at c2
    rw[if_neg (by omega),<-hcell0]
    exact k3 j v hj
end Go.Gx
end
section
/- Data in blocks of its own,deep down: the interpreter's steps are the machine's. -/
namespace Go.Gx
open Go.RowKit
section
variable {P:Program} {E:Env} {w0:World} {B:Old} {pv:Nat->Value} {S:Nat->Prop} {ρ:Nat->Option Loc} {st:St} {a:Act} {w:World} {o:Oper} {id:Nat} {K:Act->World->Prop} {Q:Exit->Act->World->Prop}
theorem Q6P {j:Nat}{τ:Ty}{x:den τ}{v:Value}(h:VR S w ρ st.row pv (.ds j τ x) v):∃cs r T u,st.row j=some r/\ρ j=some (.soft T u)/\CR T u τ x cs/\v=valOf (.t τ x) cs:=by
 obtain⟨cs,h',rfl⟩:=Qw h (by simp)
 cases h' with
 |ds _ _ _ _ r T u hr hl hc=>exact⟨cs,r,T,u,hr,hl,hc,rfl⟩
theorem Q4L {j:Nat}{τ:Ty}{x:den τ}{v:Value}(h:VR S w ρ st.row pv (.dq j τ x) v):∃cs r T u g i,st.row j=some r/\ρ j=some (.soft T u)/\T g/\CR T u τ x cs/\(∀k y,cs[k]? =some y->u.cell? ⟨g,i+k,none⟩=some y)/\v= .pointer (some ⟨g,i,none⟩):=by
 obtain⟨cs,h',rfl⟩:=Qw h (by simp)
 cases h' with
 |dq _ _ _ cs r T u g i hr hl hT hc hv=>exact⟨cs,r,T,u,g,i,hr,hl,hT,hc,hv,rfl⟩
theorem GW (h:HS S w ρ st.row pv B){j:Nat}{r:Row}{T:Nat->Prop}{u:World}(hr:st.row j=some r)(hl:ρ j=some (.soft T u)):JD T u w/\∃τ b,r= .box τ (.t .bool b)/\slT τ=true/\(b=true->∀g,T g->w.heap[g]? =u.heap[g]?):=by
 have:=h.rows j r _ hr hl
 cases r with
 |flat e τ xs fz app=>exact this.elim
 |box τ c=>
  obtain⟨h0,⟨b,rfl,h1⟩,h2⟩:=this
  exact⟨h2,τ,b,rfl,h0,h1⟩
variable (hE:EnvOk P E) (hs:Sim w0 B pv S ρ st a w) (hgl:Qr E pv S w) (hd:J9 o st.nt=true)
include hE hs hgl hd
theorem Q3X {T:TypeId}{x:Operand}{j:Nat}{e:Ty}{y:List (den e)}(ho:o.op= .load T x)(hT:E.ty T=some (.sl e))(hx:ev E st x= .dq j (.sl e) y)(hK:Nx E w0 B pv S ρ st o.dst (quiet (.ds j (.sl e) y)) id K):o.wp P a w K Q:=by
 have e1:=Qj hgl hs x
 rw[hx]at e1
 obtain⟨cs,r,D,u,g,i,hr,hl,hD,hc,hv,e2⟩:=Q4L e1
 obtain⟨z,rfl⟩:=UV hc
 obtain⟨A,c,cv,rfl,_⟩:=Jn hc
 obtain⟨cur,t,f,h1,h2,u',h3,h4⟩:=Xo (GW hs.hs hr hl).1 hD (hv 0 _ rfl)
 have h4:u'= .slice A y.length c:=h4
 subst h4
 have ht:=hE.ty _ _ hT
 have hcell:w.cell? ⟨g,i,none⟩=some (.slice A y.length c):=by simp only[World.cell?,h1];simpa using h3
 refine Q8 hs hgl hd (v:=.slice A y.length c) ?_ (.inr ⟨_,.ds j (.sl e) y _ r D u hr hl hc,rfl⟩) hK
 unfold execOp
 simp[ho,e2,Instr.loadAt,Instr.sureAddr,loadVar,YD ht,agT,hcell]
theorem Q2N {T:TypeId}{x v:Operand}{τ:Ty}{j:Nat}{y z:den τ}{ρ':Ty}{b:Bool}(ho:o.op= .store T x v)(hT:E.ty T=some τ)(hx:ev E st x= .dq j τ y)(hr:st.row j=some (.box ρ' (.t .bool b)))(hag:agT τ=false)(hsl:slT τ=false)(hv:ev E st v= .t τ z)
  (hK:Nx E w0 B pv S ρ st o.dst ⟨QV,[],[],none,some (j,.box ρ' (.t .bool false))⟩ id K):o.wp P a w K Q:=by
 have e1:=Qj hgl hs x
 rw[hx]at e1
 obtain⟨cs,r,D,u,g,i,hr',hl,hD,hc,hcv,e2⟩:=Q4L e1
 rw[hr]at hr'
 cases hr'
 have e3:=Qj hgl hs v
 rw[hv]at e3
 obtain⟨ds,h5,h6⟩:=Qw e3 (by simp)
 obtain⟨u0,u1,rfl,rfl,hsv⟩:=Q6O hag hsl hc (KE h5)
 obtain⟨hsw,_,_,e4,hsl',_⟩:=GW hs.hs hr hl
 cases e4
 obtain⟨cur,t,f,h1,h2,u',h3,h4⟩:=Xo hsw hD (hcv 0 _ rfl)
 rw[Nat.add_zero]at h3
 have hi:i<cur.size:=(Array.getElem?_eq_some_iff.1 h3).1
 have ht:=hE.ty _ _ hT
 have hrun:=Uu ht (.t τ z) h5 h1 h2 (o:=i) (by rw[UY hag];omega)
 have hap:=hs.hs.apart0 j _ _ g hl hr hD
 have hm:=hs.sto (w':=w.setRow g (splice cur.toList i [u1]).toArray) (r':=.box ρ' (.t .bool false)) (below_setRow hs.below hap.1 _) hr hl (.box _ _ _) rfl rfl (by simp[World.setRow])
   (λk _ hk=>setRow_other w g k _ λe=>hk (e▸hD)) ?_
 ·exact Oper.wp_skip (by unfold execOp;simp only[ho,e2,h6,Sem.run_bind,hrun,Result.andThen_ok,Sem.run_pure])
   (hK S ρ _ _ (hm.put (QK hd) Jm) (hgl.mono (λ_ h=>h) λk hk=>setRow_other w g k _ λe=>hap.2.1 rfl (e▸hk)) (Grew.refl _ _) (λ_ h _=>h))
 ·intro row' hk
  refine⟨hsl',⟨false,rfl,λh=>by cases h⟩,λk hk'=>?_⟩
  obtain⟨k1,k2,k3⟩:=hsw k hk'
  refine⟨by simpa[World.setRow]using k1,k2,?_⟩
  by_cases e:k=g
  ·subst e
   rw[setRow_heap w k cur _ _ _ h1]
   intro c0 e0 f0 h0
   obtain⟨c1,h7,h8,h9⟩:=k3 c0 e0 f0 h0
   rw[h1]at h7
   cases h7
   have hlen:(splice cur.toList i [u1]).length=cur.size:=by rw[Jh (by simp;omega)];simp
   refine⟨_,rfl,by simpa[hlen]using h8,λm p p' hp hp'=>?_⟩
   simp only[List.getElem?_toArray]at hp'
   rw[QT (by simp;omega)]at hp'
   by_cases c1:m<i
   ·rw[if_pos c1]at hp'
    exact h9 m p p' hp (by simpa using hp')
   ·rw[if_neg c1]at hp'
    by_cases c2:m<i+[u1].length
    ·rw[if_pos c2]at hp'
     have hmi:m=i:=by simp at c2;omega
     subst hmi
     simp at hp'
     subst hp'
     have h10:c0[m]? =some u0:=by simpa[World.cell?,h0]using hcv 0 _ rfl
     rw[h10]at hp
     cases hp
     exact hsv
    ·rw[if_neg c2]at hp'
     exact h9 m p p' hp (by simpa using hp')
  ·rw[setRow_other w g k _ e]
   exact k3
omit hE in
theorem Q5B {x:Operand}{j:Nat}{σ:Ty}{y:den σ}(ho:o.op= .nilCheck x)(hx:ev E st x= .dq j σ y)(hK:Nx E w0 B pv S ρ st o.dst (quiet (.dq j σ y)) id K):o.wp P a w K Q:=by
 have e1:=Qj hgl hs x
 rw[hx]at e1
 obtain⟨cs,r,D,u,g,i,hr,hl,hD,hc,hv,e2⟩:=Q4L e1
 refine Q8 hs hgl hd (v:=a.eval x) ?_ e1 hK
 unfold execOp
 simp[ho,e2]
theorem G9 {T:TypeId}{τ:Ty}{x:Operand}{f:Nat}{j:Nat}{y:den τ}{σ:Ty}{z:den σ}(ho:o.op= .fieldAddr T x f)(hτ:E.ty T=some τ)(hst:stT τ f=true)(hx:ev E st x= .dq j τ y)(hz:QH (.t τ y) f=some (.t σ z))
  (hK:Nx E w0 B pv S ρ st o.dst (quiet (.dq j σ z)) id K):o.wp P a w K Q:=by
 have ht:=hE.ty T τ hτ
 obtain⟨fs,d,σ',hu,hfd,hσ,hoff,hdt,hpos⟩:=Xt ht hst
 have e1:=Qj hgl hs x
 rw[hx]at e1
 obtain⟨cs,r,D,u,g,i,hr,hl,hD,hc,hv,e2⟩:=Q4L e1
 obtain⟨σ2,h7,h8,h9,h10⟩:=Ua (S:=D) (w:=u) (ρ:=ρ) (row:=st.row) (pv:=pv) (.t τ y) (.t τ y cs hc) hz
 rw[hσ]at h7
 cases h7
 cases h8 with
 |t _ _=>
 refine Q8 hs hgl hd (v:=.pointer (some ⟨g,i+QB (fty τ) f,none⟩)) ?_ (.inr ⟨_,.dq j _ z _ r D u g _ hr hl hD (KE h9) (Xs (w:=u) hv),rfl⟩) hK
 unfold execOp
 simp[ho,Instr.fieldAt,run_underlying hu,hfd,e2,Instr.sureAddr,fieldPlace,Qz (hE.ty _ _ hdt),Nat.ne_of_gt hpos,hoff,Addr.add_lit]
theorem Q2O {T:TypeId}{τ:Ty}{x:Operand}{f:Nat}{j:Nat}{y:den τ}{b:AV}(ho:o.op= .field T x f)(hτ:E.ty T=some τ)(hst:stT τ f=true)(hx:ev E st x= .ds j τ y)(hb:QH (.t τ y) f=some b)
  (hK:Nx E w0 B pv S ρ st o.dst (quiet (dsF j b)) id K):o.wp P a w K Q:=by
 have ht:=hE.ty T τ hτ
 obtain⟨fs,d,σ',hu,hfd,hσ,hoff,hdt,hpos⟩:=Xt ht hst
 have e1:=Qj hgl hs x
 rw[hx]at e1
 obtain⟨cs,r,D,u,hr,hl,hc,e2⟩:=Q6P e1
 obtain⟨σ,h4,h5,h6,h7⟩:=Ua (S:=D) (w:=u) (ρ:=ρ) (row:=st.row) (pv:=pv) (.t τ y) (.t τ y cs hc) hb
 rw[hσ]at h4
 cases h4
 have hag:agT τ=true:=by
  cases τ<;>simp only[stT]at hst<;>first
   |rfl
   |(simp[fty,Nat.blt]at hst;done)
   |cases hst
 obtain⟨σ3,z,rfl⟩:=Q0X (τ:=τ) (x:=y) (f:=f) (by simpa[QH]using hb)
 cases h5 with
 |t _ z=>
 have Yw:a.eval x= .agg cs.toArray:=by rw[e2,valOf,isAg,hag];rfl
 have hrun:(execOp a.eval o).run P w= .ok (.value (valOf (.t σ' z) ((cs.drop (QB (fty τ) f)).take (nc σ')))) w:=by
  unfold execOp
  simp only[ho,Instr.field,Sem.run_bind,run_underlying hu,Result.andThen_ok,hfd,Yw,asAgg,Sem.run_pure,hoff]
  have hp:=KD (w:=w) (S:=S) (ρ:=ρ) (row:=st.row) (pv:=pv) (cur:=cs) (o:=QB (fty τ) f) (hE.ty _ _ hdt) (.hole σ') (.hole σ' _ (by have:=(KE h6).len;exact this) (λq hq=>(KE h6).one q hq)) h7
  rw[hp]
  rfl
 refine Q8 hs hgl hd hrun ?_ hK
 simp only[dsF]
 cases hsl:slT σ' with
 |true=>exact .inr ⟨_,.ds j σ' z _ r D u hr hl (KE h6),rfl⟩
 |false=>exact .inr ⟨_,.t σ' z _ (J5 hsl (KE h6)),rfl⟩
theorem Q2P {T:TypeId}{x ix:Operand}{i:Int}{τ:Ty}{j:Nat}{xs:List (den τ)}(ho:o.op= .indexAddr T x ix)(hT:E.ty T=some (.sl τ))(hx:ev E st x= .ds j (.sl τ) xs)(hi:ev E st ix= .t (.int .i64) i)(h0:0<=i)(h1:i<(xs.length:Int))
  (hK:Nx E w0 B pv S ρ st o.dst (quiet (.dq j τ (xs.getD i.toNat (Q9 τ)))) id K):o.wp P a w K Q:=by
 have e2:=Qj hgl hs ix
 rw[hi]at e2
 have e1:=Qj hgl hs x
 rw[hx]at e1
 obtain⟨cs,r,D,u,hr,hl,hc,e3⟩:=Q6P e1
 obtain⟨t,hu,_,hte,_⟩:=(hE.ty _ _ hT).und
 obtain⟨z,rfl⟩:=UV hc
 obtain⟨A,c,cv,rfl,h2,h3,h4,h5⟩:=Jn hc
 have hlt:i.toNat<xs.length:=by omega
 obtain⟨g,off,rfl,hS,hv⟩:=h5 _ hlt
 have eg:xs.getD i.toNat (Q9 τ)=xs[i.toNat]:=by simp[List.getD,hlt]
 rw[eg]at hK
 refine Q8 hs hgl hd (v:=.pointer (some ⟨g,off+i.toNat*nc τ,none⟩)) ?_ (.inr ⟨_,.dq j τ _ _ r D u g _ hr hl hS (h4 _ hlt) (λk v hk=>by rw[Nat.add_assoc];exact hv k v hk),rfl⟩) hK
 have e3:a.eval x= .slice (some ⟨g,off,none⟩) xs.length c:=e3
 unfold execOp
 simp[ho,e3,Qm e2,Instr.indexAt,asIntOf,run_underlying hu,h0,h1,Qz (hE.ty _ _ hte),Addr.add_lit]
omit hE hd in
theorem Xd {args:Array Operand}{ats:Array TypeId}{f:Operand}{g:Nat}{caps:List AV}(ho:o.op= .call {callee:=.value f,args:=args,argTypes:=ats})(hf:ev E st f= .clo g caps) :
  ∃vs:List Value,vs.length=(Qx (ev E st) args.toList++caps).length/\(∀(k:Nat) b v,(Qx (ev E st) args.toList++caps)[k]? =some b->vs[k]? =some v->VR S w ρ st.row pv b v)/\
   ∀R:Value->World->Prop,Goes P g vs.toArray w R->QD P R ((execOp a.eval o).run P w):=by
 have ef:=Qj hgl hs f
 have hargs:∀(i:Nat) b v,(Qx (ev E st) args.toList)[i]? =some b->(args.toList.map a.eval)[i]? =some v->VR S w ρ st.row pv b v:=λi b v hb hv=>by
  rw[Y8,List.getElem?_map]at hb
  rw[List.getElem?_map]at hv
  cases hx:args.toList[i]? with
  |none=>rw[hx]at hb;cases hb
  |some x=>
   rw[hx]at hb hv
   cases hb;cases hv
   exact Qj hgl hs x
 have hlen:(args.toList.map a.eval).length=(Qx (ev E st) args.toList).length:=by simp[Y8]
 rw[hf]at ef
 obtain⟨cs,h',h2⟩:=Qw ef (by simp)
 cases h' with
 |clo _ _ css hl hh=>
  simp only[valOf,isAg,cond_false,List.headD_cons]at h2
  have hcapl:(valsOf caps css).length=caps.length:=by
   have:∀(l:List AV) (m:List (List Value)),l.length=m.length->(valsOf l m).length=l.length:=λl=>by
    induction l with
    |nil=>intro m _;rfl
    |cons x l ih=>intro m hm;cases m with
     |nil=>simp at hm
     |cons c m=>simp[valsOf,ih m (by simpa using hm)]
   exact this caps css hl
  refine⟨args.toList.map a.eval++valsOf caps css,by simp[hlen,hcapl],λk b v hb hv=>?_,λR hR=>?_⟩
  ·rw[List.getElem?_append]at hb hv
   rw[hlen]at hv
   split at hb
   ·rename_i hlt
    rw[if_pos hlt]at hv
    exact hargs k b v hb hv
   ·rename_i hlt
    rw[if_neg hlt]at hv
    obtain⟨c,h3,h4⟩:=Uy hl hb
    rw[h4]at hv
    cases hv
    exact .inr ⟨c,hh _ b c hb h3,rfl⟩
  ·have e:(execOp a.eval o).run P w=(callFunc g (args.toList.map a.eval++valsOf caps css).toArray).run P w:=by
    unfold execOp
    simp only[ho,resolve,h2,Deferred.ofValue,invoke,Sem.run_bind,Sem.run_pure,Result.andThen_ok]
    congr 2
    apply Array.ext'
    simp
   rw[e];exact hR
variable {G:Cal->List AV->AV->Prop} (hG:GOk P E pv G)
include hG
omit hE in
theorem Q3Y {args:Array Operand}{ats:Array TypeId}{f:Operand}{g:Nat}{caps:List AV}{u:Upd}(ho:o.op= .call {callee:=.value f,args:=args,argTypes:=ats})(hf:ev E st f= .clo g caps)(hid:ρ id=none)
  (h:Q6m G st.row id g (Qx (ev E st) args.toList++caps) u) (hK:Nx E w0 B pv S ρ st o.dst u id K):o.wp P a w K Q:=by
 obtain⟨vs,hvl,hva,hrun⟩:=Xd (P:=P) hs hgl ho hf
 obtain⟨cl,τ,x,hcl,hsl,hgu⟩:=h
 obtain⟨hl1,hl2⟩:=JH hcl
 have hall:QY (λb=>b<w.heap.size) w pv cl vs:=by
  refine⟨hvl.trans hl1.symm,λi b v hb hv=>?_⟩
  obtain⟨c,h1,h2⟩:=hl2 i b hb
  obtain⟨cs,h3,h4⟩:=Qw (hva i c v h1 hv) (by rintro rfl;simp[Q2]at h2)
  exact⟨cs,Jc hs.hs hs.hs.stab h2 h3 (.inl λ_ h=>h),by rw[h4,valOf,valOf,Jy h2]⟩
 rcases hgu with⟨hg,rfl⟩|⟨hg,rfl⟩
 case inr=>
  have hm:=(hG _ _ _ hg).2.2.1 g cl rfl rfl
  refine Jz (hrun _ (QD.mono (hm (λb=>b<w.heap.size) w vs (λ_ h=>h) (hgl.mono hs.hs.stab λ_ _=>rfl) hall) λv w' ⟨hb,τ',x',T,cs,e,hv,hT,hc⟩=>?_))
  have e:AV.t τ x= .t τ' x':=by rcases e with e|e<;>first|exact e|cases e
  cases e
  have hold:∀b,b<w.heap.size->w'.heap[b]? =w.heap[b]?:=λb hb'=>hb.block b hb'
  have h1:=hs.grow (S':=λb=>S b\/T b) (w':=w') (hs.below.trans (Blw.of hb hs.hB)) hb.size hold (λb hb=>.inl hb) (λb hb=>hb.imp _root_.id λh=>⟨(hT b h).1,(hT b h).2.1⟩) (ρ':=ρ) (row':=st.row) (λid l h=>⟨h,rfl⟩) (λid r l h1 h2=>by rw[h1]at h2;cases h2) (λid id' l l' b h1 _ h2=>by rw[h1]at h2;cases h2)
  refine hK (λb=>S b\/T b) ρ _ w' (h1.put (QK hd) ?_) (hgl.mono (λ_ h=>.inl h) λb hb'=>hold b (hs.hs.stab b hb')) ?_ (λ_ h _=>h)
  ·rw[hv]
   exact .inr ⟨cs,.t τ x cs (hc.mono (λb hb=>.inr hb) λ_ _=>rfl),rfl⟩
  ·exact⟨λb hb _=>.inl hb,λb hb=>hb.imp _root_.id λh hB=>by have:=hs.hB b hB;have:=(hT b h).1;omega⟩
 have hm:=(hG _ _ _ hg).2.2.1 g cl rfl rfl
 refine Jz (hrun _ (QD.mono (hm (λb=>b<w.heap.size) w vs (λ_ h=>h) (hgl.mono hs.hs.stab λ_ _=>rfl) hall) λv w' ⟨hb,τ',x',T,cs,e,hv,hT,hc⟩=>?_))
 have e:AV.pc true τ x= .pc true τ' x':=by rcases e with e|e<;>first|exact e|cases e
 cases e
 have hold:∀b,b<w.heap.size->w'.heap[b]? =w.heap[b]?:=λb hb'=>hb.block b hb'
 have h1:=hs.make (w':=w') (r:=.box τ (.t .bool true)) (l:=.soft T w') (hs.below.trans (Blw.of hb hs.hB)) hb.size hold hid rfl (λg hg=>(hT g hg).1) λρ' row' _=>
  ⟨hsl,⟨true,rfl,λ_ _ _=>rfl⟩,λg hg=>⟨(hT g hg).2.1,(hT g hg).2.2,.refl _⟩⟩
 refine hK S _ _ w' (h1.put (QK hd) ?_) (hgl.mono (λ_ h=>h) λb hb'=>hold b (hs.hs.stab b hb')) (Grew.refl _ _) (Xr ⟨Nat.le_refl _,by omega⟩)
 rw[hv]
 exact .inr ⟨cs,.ds id τ x cs _ T w' (by rw[Q1,if_pos rfl]) (Qp _ _ _) hc,rfl⟩
omit hE in
theorem Q3Z {args:Array Operand}{ats:Array TypeId}{f:Operand}{g:Nat}{caps:List AV}{u:Upd}{dr:Bool}(ho:o.op= .call {callee:=.value f,args:=args,argTypes:=ats})(hf:ev E st f= .clo g caps)
  (h:Q6n G st.row dr g (Qx (ev E st) args.toList++caps) u) (hK:Nx E w0 B pv S ρ st o.dst u id K):o.wp P a w K Q:=by
 obtain⟨vs,hvl,hva,hrun⟩:=Xd (P:=P) hs hgl ho hf
 obtain⟨_,j,τ,x,k,σ,b,m,e,hr,hg,rfl⟩:=h
 rw[e]at hvl hva
 match vs,hvl with
 |[v0,v1],_=>
 have e0:=hva 0 _ v0 rfl rfl
 have e1:=Qm (hva 1 _ v1 rfl rfl)
 subst e1
 obtain⟨cs,r,T,u,hr',hl,hc,rfl⟩:=Q6P e0
 rw[hr]at hr'
 cases hr'
 obtain⟨hsw,_,_,e4,hsl,_⟩:=GW hs.hs hr hl
 cases e4
 have hap:=λb hb=>hs.hs.apart0 j _ _ b hl hr hb
 have hm:=(hG _ _ _ hg).2.1 g τ x k m rfl rfl rfl S T u w cs hs.hs.stab hgl (λb hb hT=>(hap b hT).2.1 rfl hb) hsw hc
 refine Jz (hrun _ (QD.mono hm λv w' ⟨hv,hb,hsw'⟩=>?_))
 subst hv
 have h1:=hs.sto (w':=w') (r':=.box σ (.t .bool false)) (hs.below.trans ⟨hb.os,hb.tape,hb.output,hb.size,λq hq=>hb.block q ⟨hs.hB q hq,λhT=>(hap q hT).1 hq⟩⟩) hr hl (.box _ _ _) rfl rfl hb.size (λq hq hT=>hb.block q ⟨hq,hT⟩) λrow' _=>
  ⟨hsl,⟨false,rfl,λh=>by cases h⟩,hsw'⟩
 refine hK S ρ _ w' (h1.put (QK hd) (.inr ⟨_,.t _ _ _ (.int .i64 m),rfl⟩)) (hgl.mono (λ_ h=>h) λq hq=>hb.block q ⟨hs.hs.stab q hq,λhT=>(hap q hT).2.1 rfl hq⟩) (Grew.refl _ _) (λ_ h _=>h)
end
end Go.Gx
end
section
/- Values that are made of rows of their own are trees. -/
namespace Go.Gx
open Go.RowKit
def ownB (ρ:Nat->Option Loc)(ids:List Nat)(b:Nat):Prop:=∃id,id∈ids/\∃l,ρ id=some l/\l.has b
theorem ownB.mono {ρ:Nat->Option Loc}{ids ids':List Nat}(h:∀i,i∈ids->i∈ids'){b:Nat}(hb:ownB ρ ids b):ownB ρ ids' b:=by
 obtain⟨id,h1,h2⟩:=hb
 exact⟨id,h id h1,h2⟩
theorem Uh:∀{l m:List Nat},Qy (l++m)=true->Qy l=true/\Qy m=true/\∀x,x∈l->x ∉ m
 |[],m,h=>⟨rfl,h,λx hx=>by cases hx⟩
 |a::l,m,h=>by
  simp only[List.cons_append,Qy,Bool.and_eq_true,Bool.not_eq_true']at h
  obtain⟨h1,h2⟩:=h
  obtain⟨h3,h4,h5⟩:=Uh h2
  have h1:a ∉ l++m:=by simpa using h1
  rw[List.mem_append,not_or]at h1
  refine⟨?_,h4,λx hx=>?_⟩
  ·simp only[Qy,Bool.and_eq_true,Bool.not_eq_true']
   exact⟨by simpa using h1.1,h3⟩
  ·rcases List.mem_cons.1 hx with rfl|hx
   ·exact h1.2
   ·exact h5 x hx
theorem Ju {f:AV->Bool}:∀{l:List AV},Q0B.allL f l=true->∀a,a∈l->f a=true
 |[],_,a,h=>by cases h
 |b::l,h,a,ha=>by
  simp only[Q0B.allL,Bool.and_eq_true]at h
  rcases List.mem_cons.1 ha with rfl|ha
  ·exact h.1
  ·exact Ju h.2 a ha
theorem Q1T {f:AV->List Nat}{id:Nat}:∀{l:List AV},id∈J3.go f l->∃a,a∈l/\id∈f a
 |[],h=>by cases h
 |b::l,h=>by
  rcases List.mem_append.1 h with h|h
  ·exact⟨b,List.mem_cons_self,h⟩
  ·obtain⟨a,h1,h2⟩:=Q1T h
   exact⟨a,List.mem_cons_of_mem _ h1,h2⟩
theorem Xe {row:Nat->Option Row}:∀{n:Nat} {a:AV},Yd row n a=true->∀id,id∈QW n a->row id≠none
 |0,a,h,_,_=>by cases h
 |n+1,a,h,id,hid=>by
  cases a with
  |own j=>
   simp only[QW,List.mem_singleton]at hid
   subst hid
   simp only[Yd]at h
   split at h
   ·rename_i hr;rw[hr];simp
   ·cases h
  |tv j τ=>
   simp only[QW,List.mem_singleton]at hid
   subst hid
   simp only[Yd]at h
   intro e;rw[e]at h;cases h
  |vw j q p τ=>
   simp only[QW,List.mem_singleton]at hid
   subst hid
   simp only[Yd]at h
   intro e;rw[e]at h;cases h
  |agg τ fs=>
   simp only[Yd,Bool.and_eq_true]at h
   simp only[QW]at hid
   obtain⟨b,hb,hi⟩:=Q1T hid
   exact Xe (Ju h.2 b hb) id hi
  |_=>simp[QW]at hid
theorem JO {f:AV->List Nat}:∀{fs:List AV},Qy (J3.go f fs)=true->∀{i j:Nat} {a b:AV},fs[i]? =some a->fs[j]? =some b->Qy (f a)=true/\(i≠j->∀x,x∈f a->x ∉ f b)
 |[],_,i,j,a,b,hi,_=>by simp at hi
 |c::l,h,i,j,a,b,hi,hj=>by
  obtain⟨h1,h2,h3⟩:=Uh (l:=f c) (m:=J3.go f l) h
  cases i with
  |zero=>
   simp only[List.getElem?_cons_zero,Option.some.injEq]at hi
   subst hi
   refine⟨h1,λhne x hx=>?_⟩
   cases j with
   |zero=>exact absurd rfl hne
   |succ j=>exact λhb=>h3 x hx (Ux (f:=f) (i:=j) (by simpa using hj) hb)
  |succ i=>
   have hi:l[i]? =some a:=by simpa using hi
   cases j with
   |zero=>
    simp only[List.getElem?_cons_zero,Option.some.injEq]at hj
    subst hj
    exact⟨(JO h2 hi hi).1,λ_ x hx hb=>h3 x hb (Ux (f:=f) hi hx)⟩
   |succ j=>
    obtain⟨k1,k2⟩:=JO h2 hi (j:=j) (by simpa using hj)
    exact⟨k1,λhne=>k2 λe=>hne (by rw[e])⟩
theorem Q8b {τ:Ty}{fs:List AV}{a:AV}(h:QA τ fs=some a):∃x:den τ,a= .t τ x:=by
 unfold QA at h
 (repeat' split at h)<;>first
  |(cases h;done)
  |(simp only[Option.some.injEq]at h;subst h;exact⟨_,rfl⟩)
section
variable {S:Nat->Prop} {w:World} {ρ:Nat->Option Loc} {row:Nat->Option Row} {pv:Nat->Value} {B:Old}
theorem Q14 (h:HS S w ρ row pv B){l m:List Nat}(hd:∀x,x∈l->x ∉ m)(hl:∀x,x∈l->row x≠none)(hm:∀x,x∈m->row x≠none){b:Nat}(h1:ownB ρ l b)(h2:ownB ρ m b):False:=by
 obtain⟨i,hi,li,hli,hb⟩:=h1
 obtain⟨j,hj,lj,hlj,hb'⟩:=h2
 have:=h.inj0 i j li lj b hli hlj (hl i hi) (hm j hj) hb hb'
 subst this
 exact hd i hi hj
theorem Q8R (h:HS S w ρ row pv B){id e:Nat}{τ:Ty}{xs:List (den τ)}{fz app:Bool}{g cap:Nat}(hr:row id=some (.flat e τ xs fz app))(hl:ρ id=some (.at g cap))(hs:slT τ=false){T:Nat->Prop}(hT:T g):TR w T (.sl τ) xs [.slice (some ⟨g,0,none⟩) xs.length cap]:=by
 obtain⟨cur,f,h1,h2,h3,h4,h5,h6,h7,h8⟩:=h.rows id _ _ hr hl
 have:∀i,∃cs,∀(hi:i<xs.length),CR (cS pv S w) w τ xs[i] cs/\∀j v,cs[j]? =some v->cur[i*nc τ+j]? =some v:=λi=>by
  by_cases hi:i<xs.length
  ·obtain⟨cs,hc⟩:=h8 i hi
   exact⟨cs,λ_=>hc⟩
  ·exact⟨[],λh=>absurd h hi⟩
 have hcv:=λi=>Classical.choose_spec (this i)
 exact .sl T τ xs g cap (λi=>Classical.choose (this i)) (λ_ _=>False) h3 h4 hT ⟨cur,e,f,h1,h6⟩ (λi hi=>.flat _ _ _ _ hs (J5 hs (hcv i hi).1))
  (λi j v hi hv=>by rw[cell_of h1];exact(hcv i hi).2 j v hv) (λi b _ hb=>hb.elim) (λi j b _ _ _ hb=>hb.elim)
theorem Q4M (h:HS S w ρ row pv B):∀{n:Nat} {a b:AV} {τ:Ty} {x:den τ} {cs:List Value},Yd row n a=true->Q2 row n a=some b->asT τ b=some x->AR S w ρ row pv a cs->Qy (QW n a)=true->TR w (ownB ρ (QW n a)) τ x cs
 |0,a,b,τ,x,cs,ht,_,_,_,_=>by cases ht
 |n+1,a,b,τ,x,cs,ht,hc,hx,ha,hd=>by
  have own1:∀{σ:Ty} {y:den σ},b= .t σ y->TR w (ownB ρ (QW (n+1) a)) σ y cs->TR w (ownB ρ (QW (n+1) a)) τ x cs:=λ{σ y} e k=>by
   subst e
   simp only[asT]at hx
   split at hx
   ·rename_i e;subst e;cases hx;exact k
   ·cases hx
  cases ha with
  |t σ y _ hy=>
   simp only[Q2,Option.some.injEq]at hc
   simp only[Yd,Bool.not_eq_true']at ht
   exact own1 hc.symm (.flat _ _ _ _ ht (J5 ht hy))
  |nil=>
   simp only[Q2,Option.some.injEq]at hc
   subst hc
   cases τ<;>simp only[asT]at hx<;>cases hx
   exact .nil _ _
  |own id e σ xs fz app g cap hr hl=>
   simp only[Q2,hr,Option.some.injEq]at hc
   simp only[Yd,hr]at ht
   split at ht
   ·rename_i e1
    cases e1
    exact own1 hc.symm (Q8R h hr hl (by simpa using ht) ⟨id,by simp[QW],_,hl,rfl⟩)
   ·cases ht
  |ownNil id e σ fz app hr hl=>
   simp only[Q2,hr,Option.some.injEq]at hc
   exact own1 hc.symm (.nil _ _)
  |tv id σ b0 _ T v hr hl hcl h1=>
   obtain⟨_,h2,e,ap,y,rfl,h3,_⟩:=h.rows id _ _ hr hl
   simp only[Q2,hr]at hc
   split at hc
   ·cases hc
    exact own1 rfl (h3.mono (λb hb=>⟨id,by simp[QW],_,hl,hb⟩) λ_ _=>rfl)
   ·cases hc
  |vw id q p σ θ b0 cs0 T v u hr hl hv h1=>
   obtain⟨_,h2,e,ap,y,rfl,h3,_⟩:=h.rows id _ _ hr hl
   simp only[Q2,hr]at hc
   split at hc
   ·rename_i ρ' z hz
    split at hc
    ·rename_i e' _
     subst e'
     cases hc
     obtain⟨T1,k1,k2,_⟩:=h3.focus h2 hz hv
     exact own1 rfl (k2.mono (λb hb=>⟨id,by simp[QW],_,hl,k1 b hb⟩) λ_ _=>rfl)
    ·cases hc
   ·cases hc
  |agg σ fs css hl hh=>
   simp only[Yd,Bool.and_eq_true]at ht
   simp only[Q2]at hc
   split at hc
   ·rename_i gs hgs
    obtain⟨m1,m2⟩:=JH hgs
    obtain⟨y,rfl⟩:=Q8b hc
    refine own1 rfl ?_
    have kid:∀(i:Nat) (g:AV) (c:List Value) {θ:Ty} {z:den θ},gs[i]? =some g->css[i]? =some c->asT θ g=some z->∃a,fs[i]? =some a/\TR w (ownB ρ (QW n a)) θ z c:=λi g c {θ z} hg hcs hz=>by
     obtain⟨a,k1,k2⟩:=m2 i g hg
     have hm:=List.mem_of_getElem? k1
     refine⟨a,k1,Q4M h (Ju ht.2 a hm) k2 hz (hh i a c k1 hcs) ?_⟩
     exact(JO (f:=QW n) hd k1 k1).1
    have up:∀(i:Nat) (a:AV),fs[i]? =some a->∀j,j∈QW n a->j∈QW (n+1) (.agg σ fs):=λi a hi j hj=>Ux (f:=QW n) hi hj
    have sub:∀(i:Nat) (a:AV),fs[i]? =some a->∀b,ownB ρ (QW n a) b->ownB ρ (QW (n+1) (.agg σ fs)) b:=λi a hi b hb=>hb.mono (up i a hi)
    have hln:gs.length=css.length:=m1.trans hl
    cases σ<;>simp only[Bool.false_eq_true,false_and]at ht
    case name=>
     match gs,css,hln,hc,kid with
     |[g0,g1,g2,g3],[c0,c1,c2,c3],_,hc,kid=>
      simp only[QA]at hc
      split at hc
      ·rename_i y0 y1 y2 y3 e0 e1 e2 e3
       cases hc
       obtain⟨a0,f0,t0⟩:=kid 0 _ _ rfl rfl e0
       obtain⟨a1,f1,t1⟩:=kid 1 _ _ rfl rfl e1
       obtain⟨a2,f2,t2⟩:=kid 2 _ _ rfl rfl e2
       obtain⟨a3,f3,t3⟩:=kid 3 _ _ rfl rfl e3
       obtain⟨u,rfl⟩:=YL t0
       obtain rfl:=JY t1
       obtain rfl:=JY t2
       obtain rfl:=JY t3
       exact .name _ ⟨y0,y1,y2,y3⟩ u (t0.mono (sub 0 _ f0) λ_ _=>rfl)
      ·cases hc
     |[],_,_,hc,_|[_],_,_,hc,_|[_,_],_,_,hc,_|[_,_,_],_,_,hc,_|_::_::_::_::_::_,_,_,hc,_=>cases hc
     |[_,_,_,_],[],h,_,_|[_,_,_,_],[_],h,_,_|[_,_,_,_],[_,_],h,_,_|[_,_,_,_],[_,_,_],h,_,_|[_,_,_,_],_::_::_::_::_::_,h,_,_=>simp at h
    case lib=>
     match gs,css,hln,hc,kid with
     |[g0],[c0],_,hc,kid=>
      simp only[QA]at hc
      split at hc
      ·rename_i y0 e0
       cases hc
       obtain⟨a0,f0,t0⟩:=kid 0 _ _ rfl rfl e0
       obtain⟨u,rfl⟩:=YL t0
       exact .lib _ ⟨y0⟩ u (t0.mono (sub 0 _ f0) λ_ _=>rfl)
      ·cases hc
     |[],_,_,hc,_|_::_::_,_,_,hc,_=>cases hc
     |[_],[],h,_,_|[_],_::_::_,h,_,_=>simp at h
    case query=>
     match gs,css,hln,hc,kid with
     |[g0,g1,g2,g3],[c0,c1,c2,c3],_,hc,kid=>
      simp only[QA]at hc
      split at hc
      ·rename_i y0 y1 y2 y3 e0 e1 e2 e3
       cases hc
       obtain⟨a0,f0,t0⟩:=kid 0 _ _ rfl rfl e0
       obtain⟨a1,f1,t1⟩:=kid 1 _ _ rfl rfl e1
       obtain⟨a2,f2,t2⟩:=kid 2 _ _ rfl rfl e2
       obtain⟨a3,f3,t3⟩:=kid 3 _ _ rfl rfl e3
       obtain rfl:=Dk t0
       obtain rfl:=JY t1
       obtain rfl:=JY t2
       obtain⟨u,rfl⟩:=YL t3
       exact .query _ (.mk y0 y1 y2 y3) u (t3.mono (sub 3 _ f3) λ_ _=>rfl)
      ·cases hc
     |[],_,_,hc,_|[_],_,_,hc,_|[_,_],_,_,hc,_|[_,_,_],_,_,hc,_|_::_::_::_::_::_,_,_,hc,_=>cases hc
     |[_,_,_,_],[],h,_,_|[_,_,_,_],[_],h,_,_|[_,_,_,_],[_,_],h,_,_|[_,_,_,_],[_,_,_],h,_,_|[_,_,_,_],_::_::_::_::_::_,h,_,_=>simp at h
    case entry=>
     have hg11:∃g0 g1 g2 g3 g4 g5 g6 g7 g8 g9 g10,gs=[g0,g1,g2,g3,g4,g5,g6,g7,g8,g9,g10]:=by
      unfold QA at hc
      split at hc<;>first
       |(rename_i heq;cases heq;done)
       |(rename_i heq _;cases heq;done)
       |(cases hc;done)
       |exact⟨_,_,_,_,_,_,_,_,_,_,_,rfl⟩
     obtain⟨g0,g1,g2,g3,g4,g5,g6,g7,g8,g9,g10,rfl⟩:=hg11
     simp only[List.length_cons,List.length_nil]at hln
     match css,hln,kid with
     |[c0,c1,c2,c3,c4,c5,c6,c7,c8,c9,c10],_,kid=>
      simp only[QA]at hc
      split at hc
      ·rename_i y0 y1 y2 y3 y4 y5 e0 e1 e2 e3 e4 e5
       split at hc
       ·rename_i y6 y7 y8 y9 y10 e6 e7 e8 e9 e10
        cases hc
        obtain⟨a0,f0,t0⟩:=kid 0 _ _ rfl rfl e0
        obtain⟨a1,f1,t1⟩:=kid 1 _ _ rfl rfl e1
        obtain⟨a2,f2,t2⟩:=kid 2 _ _ rfl rfl e2
        obtain⟨a3,f3,t3⟩:=kid 3 _ _ rfl rfl e3
        obtain⟨a4,f4,t4⟩:=kid 4 _ _ rfl rfl e4
        obtain⟨a5,f5,t5⟩:=kid 5 _ _ rfl rfl e5
        obtain⟨a6,f6,t6⟩:=kid 6 _ _ rfl rfl e6
        obtain⟨a7,f7,t7⟩:=kid 7 _ _ rfl rfl e7
        obtain⟨a8,f8,t8⟩:=kid 8 _ _ rfl rfl e8
        obtain⟨a9,f9,t9⟩:=kid 9 _ _ rfl rfl e9
        obtain⟨a10,f10,t10⟩:=kid 10 _ _ rfl rfl e10
        obtain rfl:=JY t0
        obtain rfl:=Dk t1
        obtain⟨u2,rfl⟩:=YL t2
        obtain⟨u3,rfl⟩:=YL t3
        obtain rfl:=JY t4
        obtain rfl:=JY t5
        obtain rfl:=JY t6
        obtain rfl:=Q4K t7
        obtain rfl:=Dk t8
        obtain rfl:=JY t9
        obtain rfl:=JY t10
        refine .entry _ _ _ ⟨y0,y1,y2,y3,y4,y5,y6,y7,y8,y9,y10⟩ u2 u3 t2 t3 (sub 2 _ f2) (sub 3 _ f3) λb hb hb'=>?_
        exact Q14 h ((JO (f:=QW n) hd f2 f3).2 (by decide)) (Xe (Ju ht.2 _ (List.mem_of_getElem? f2))) (Xe (Ju ht.2 _ (List.mem_of_getElem? f3))) hb hb'
       ·cases hc
      ·cases hc
   ·cases hc
  |_=>simp[Yd]at ht
end
end Go.Gx
end
section
/- Answers,seen as of a weaker kind. -/
namespace Go.Gx
open Go.RowKit
inductive Wk1:AV->AV->Prop
 |refl (a:AV):Wk1 a a
 |nilFr (e:Nat) (τ:Ty) (h:0<nc τ):Wk1 .nil (.fr e τ [])
 |nilT (e:Ty):Wk1 .nil (.t (.sl e) [])
 |frT (e:Nat) (τ:Ty) (xs:List (den τ)):Wk1 (.fr e τ xs) (.t (.sl τ) xs)
 |agN (τ:Ty) (fs:List AV) (k e:Nat) (σ:Ty) (hk:fs[k]? =some .nil) (h:0<nc σ) (hn:∀(i:Nat) e' τ',∀xs:List (den τ'),fs[i]? ≠some (.fr e' τ' xs)):Wk1 (.agg τ fs) (.agg τ (fs.set k (.fr e σ [])))
 |pcT (τ:Ty) (x:den τ):Wk1 (.pc true τ x) (.t τ x)
 |agT (τ:Ty) (fs:List AV) (a:AV) (h:QA τ (fs.map frT)=some a):Wk1 (.agg τ fs) a
theorem R1.new {S:Nat->Prop}{w:World}{n0:Nat}{pv:Nat->Value}{a:AV}{v:Value}{b:Nat}(h:R1 S w n0 pv a v (some b)):n0<=b/\b<w.heap.size/\¬S b:=by
 cases h with
 |fr e τ xs g cap hg hS hr=>exact⟨hg,hr.lt,hS⟩
 |agf τ fs css k e σ xs g cap hl hk hc ho hg hS hr=>exact⟨hg,hr.lt,hS⟩
theorem Q6Q {S:Nat->Prop}{w:World}{n0:Nat}{pv:Nat->Value}{a a':AV}{v:Value}{g:Option Nat}(h:Wk1 a a')(hr:R1 S w n0 pv a v g) :
  ∃g',(g'=none\/g'=g)/\∀S2:Nat->Prop,(∀b,S b->S2 b)->(∀b,g=some b->g'=none->S2 b)->(∀b,g'=some b->¬S2 b)->R1 S2 w n0 pv a' v g':=by
 have row:∀{S2:Nat->Prop} {e:Nat} {τ:Ty} {xs:List (den τ)} {l:Loc},(∀b,S b->S2 b)->QG S w (λ_=>none) (λ_=>none) pv (.flat e τ xs false true) l->QG S2 w (λ_=>none) (λ_=>none) pv (.flat e τ xs false true) l:=λhsub h=>
  h.ext (P:=λ_=>True) hsub (λ_ _=>rfl) (λid l r _ h1=>by cases h1) (λ_ _=>rfl) (λ_ _ e=>by cases e)
 have up:∀{S2:Nat->Prop} {a:AV} {cs:List Value},(∀b,S b->S2 b)->AR S w (λ_=>none) (λ_=>none) pv a cs->AR S2 w (λ_=>none) (λ_=>none) pv a cs:=λhsub ha=>
  ha.ext (P:=λ_=>True) hsub (λ_ _=>rfl) (λid l r _ h1=>by cases h1) (λ_ _=>trivial)
 have frc:∀{S2:Nat->Prop} {e:Nat} {τ:Ty} {xs:List (den τ)} {g cap:Nat},S2 g->QG S2 w (λ_=>none) (λ_=>none) pv (.flat e τ xs false true) (.at g cap)->CR S2 w (.sl τ) xs [.slice (some ⟨g,0,none⟩) xs.length cap]:=λ{S2 e τ xs g cap} hg hrow=>by
  obtain⟨cur,f,h1,h2,h3,h4,h5,h6,h7,h8⟩:=hrow
  have hx:∀i,∃cs,∀(hi:i<xs.length),CR S2 w τ xs[i] cs/\∀j v,cs[j]? =some v->cur[i*nc τ+j]? =some v:=λi=>by
   by_cases hi:i<xs.length
   ·obtain⟨cs,hc⟩:=h8 i hi
    exact⟨cs,λ_=>⟨hc.1.un,hc.2⟩⟩
   ·exact⟨[],λh=>absurd h hi⟩
  refine .sl τ xs _ cap (λi=>Classical.choose (hx i)) h3 h4 (λi hi=>(Classical.choose_spec (hx i) hi).1) λi hi=>⟨g,0,rfl,hg,λj v hj=>?_⟩
  have:=(Classical.choose_spec (hx i) hi).2 j v hj
  simp only[World.cell?,h1,Nat.zero_add]
  simpa using this
 cases h with
 |pcT τ x=>
  cases hr with
  |plain _ cs ha=>
   cases ha with
   |pc _ _ _ _ hx=>exact⟨none,.inl rfl,λS2 hsub _ _=>.plain (.t τ x) cs (.t τ x cs (hx.mono (λb hb=>hsub b hb.1) λ_ _=>rfl))⟩
 |refl=>
  refine⟨g,.inr rfl,λS2 hsub _ hn=>?_⟩
  cases hr with
  |plain _ cs ha=>exact .plain a cs (ha.ext (P:=λ_=>True) hsub (λ_ _=>rfl) (λid l r _ h1=>by cases h1) (λ_ _=>trivial))
  |fr e τ xs g cap hg hS hrow=>exact .fr e τ xs g cap hg (hn g rfl) (row hsub hrow)
  |frNil e τ hp=>exact .frNil e τ hp
  |agf τ fs css k e σ xs g cap hl hk hc ho hg hS hrow=>exact .agf τ fs css k e σ xs g cap hl hk hc (λi a cs h0 h1 h2=>up hsub (ho i a cs h0 h1 h2)) hg (hn g rfl) (row hsub hrow)
  |agfNil τ fs css k e σ hl hk hc ho hp=>exact .agfNil τ fs css k e σ hl hk hc (λi a cs h0 h1 h2=>up hsub (ho i a cs h0 h1 h2)) hp
 |agN τ fs k e σ hk hp hn=>
  have keep:∀{S2:Nat->Prop} {css:List (List Value)},fs.length=css.length->(∀c,css[k]? =some c->c=[.slice none 0 0])->(∀(i:Nat) a cs,i≠k->(fs.set k (.fr e σ []))[i]? =some a->css[i]? =some cs->AR S2 w (λ_=>none) (λ_=>none) pv a cs)->R1 S2 w n0 pv (.agg τ (fs.set k (.fr e σ []))) (.agg css.flatten.toArray) none:=λ{S2 css} hl hc ho=>by
   have hkl:k<fs.length:=(List.getElem?_eq_some_iff.1 hk).1
   have hc':css[k]? =some css[k]:=List.getElem?_eq_getElem (by omega)
   exact .agfNil τ _ css k e σ (by simpa using hl) (List.getElem?_set_self hkl) (by rw[hc',hc _ hc']) ho hp
  cases hr with
  |plain _ cs ha=>
   cases ha with
   |agg _ _ css hl hh=>
    refine⟨none,.inl rfl,λS2 hsub _ _=>keep hl (λc hc=>?_) λi a cs h0 h1 h2=>?_⟩
    ·have:=hh k _ c hk hc
     cases this;rfl
    ·rw[List.getElem?_set_ne (Ne.symm h0)]at h1
     exact up hsub (hh i a cs h1 h2)
  |agf _ _ css k2 e2 σ2 xs g cap hl hk2 hc2 ho hg hS hrow=>
   exact absurd hk2 (hn _ _ _ _)
  |agfNil _ _ css k2 e2 σ2 hl hk2 hc2 ho hp2=>
   exact absurd hk2 (hn _ _ _ _)
 |agT τ fs a hi=>
  have low:∀{S2:Nat->Prop} {css:List (List Value)},fs.length=css.length->(∀(i:Nat) a cs,fs[i]? =some a->css[i]? =some cs->AR S2 w (λ_=>none) (λ_=>none) pv (frT a) cs)->R1 S2 w n0 pv a' (.agg css.flatten.toArray) none:=λ{S2 css} hl hh=>by
   obtain⟨x,rfl,hx⟩:=YI (S:=S2) (w:=w) (ρ:=λ_=>none) (row:=λ_=>none) (pv:=pv) hi ⟨css,rfl,by simpa using hl,λi b cs hb hcs=>by
    rw[List.getElem?_map]at hb
    cases hf:fs[i]? with
    |none=>rw[hf]at hb;cases hb
    |some c=>rw[hf]at hb;cases hb;exact hh i c cs hf hcs⟩
   have hag:agT τ=true:=by have:=XU hi;exact this
   have:valOf (.t τ x) css.flatten= .agg css.flatten.toArray:=by rw[valOf,isAg,hag];rfl
   rw[<-this]
   exact .plain _ _ (.t τ x _ hx)
  have frid:∀{S3:Nat->Prop} {b:AV} {cs:List Value},AR S3 w (λ_=>none) (λ_=>none) pv b cs->frT b=b:=λh=>by cases h<;>rfl
  cases hr with
  |plain _ cs ha=>
   cases ha with
   |agg _ _ css hl hh=>
    refine⟨none,.inl rfl,λS2 hsub _ _=>low hl λi b cs hb hcs=>?_⟩
    have:=hh i b cs hb hcs
    rw[frid this]
    exact up hsub this
  |agf _ _ css k e σ xs g cap hl hk hc ho hg hS hrow=>
   refine⟨none,.inl rfl,λS2 hsub hS2 _=>low hl λi b cs hb hcs=>?_⟩
   by_cases e1:i=k
   ·subst e1
    rw[hk]at hb
    rw[hc]at hcs
    cases hb;cases hcs
    exact .t _ _ _ (frc (hS2 g rfl rfl) (row hsub hrow))
   ·have:=ho i b cs e1 hb hcs
    rw[frid this]
    exact up hsub this
  |agfNil _ _ css k e σ hl hk hc ho hp=>
   refine⟨none,.inl rfl,λS2 hsub hS2 _=>low hl λi b cs hb hcs=>?_⟩
   by_cases e1:i=k
   ·subst e1
    rw[hk]at hb
    rw[hc]at hcs
    cases hb;cases hcs
    exact .t _ _ _ (Jr S2 w σ)
   ·have:=ho i b cs e1 hb hcs
    rw[frid this]
    exact up hsub this
 |nilFr e τ hp=>
  refine⟨none,.inl rfl,λS2 hsub _ _=>?_⟩
  cases hr with
  |plain _ cs ha=>cases ha;exact .frNil e τ hp
 |nilT e=>
  refine⟨none,.inl rfl,λS2 hsub _ _=>?_⟩
  cases hr with
  |plain _ cs ha=>cases ha;exact .plain (.t (.sl e) []) _ (.t _ _ _ (Jr S2 w e))
 |frT e τ xs=>
  refine⟨none,.inl rfl,λS2 hsub hS2 _=>?_⟩
  cases hr with
  |plain _ cs ha=>cases ha
  |fr _ _ _ g cap hg hS hrow=>
   obtain⟨cur,f,h1,h2,h3,h4,h5,h6,h7,h8⟩:=row hsub hrow
   have hx:∀i,∃cs,∀(hi:i<xs.length),CR S2 w τ xs[i] cs/\∀j v,cs[j]? =some v->cur[i*nc τ+j]? =some v:=λi=>by
    by_cases hi:i<xs.length
    ·obtain⟨cs,hc⟩:=h8 i hi
     exact⟨cs,λ_=>⟨hc.1.un,hc.2⟩⟩
    ·exact⟨[],λh=>absurd h hi⟩
   refine .plain (.t (.sl τ) xs) [.slice (some ⟨g,0,none⟩) xs.length cap] (.t _ _ _ (.sl τ xs _ cap (λi=>Classical.choose (hx i)) h3 h4 (λi hi=>(Classical.choose_spec (hx i) hi).1) λi hi=>⟨g,0,rfl,hS2 g rfl rfl,λj v hj=>?_⟩))
   have:=(Classical.choose_spec (hx i) hi).2 j v hj
   simp only[World.cell?,h1,Nat.zero_add]
   simpa using this
  |frNil _ _ hp=>exact .plain (.t (.sl τ) []) _ (.t _ _ _ (Jr S2 w τ))
def Wk (r r':AV):Prop:=((∀l,r≠ .tup l)/\(∀l,r'≠ .tup l)/\Wk1 r r')\/∃rs rs',r= .tup rs/\r'= .tup rs'/\rs'.length=rs.length/\∀(i:Nat) a a',rs[i]? =some a->rs'[i]? =some a'->Wk1 a a'
theorem Q6R {S:Nat->Prop}{w:World}{n0:Nat}{pv:Nat->Value}{r:AV}{v:Value}(h:∀l,r≠ .tup l):RR S w n0 pv r v ↔ ∃g,R1 S w n0 pv r v g:=by
 cases r with
 |tup l=>exact absurd rfl (h l)
 |_=>exact Iff.rfl
theorem Q8C {S:Nat->Prop}{w:World}{n0:Nat}{pv:Nat->Value}{r r':AV}{v:Value}(h:Wk r r')(hr:RR S w n0 pv r v) :
  ∃S2:Nat->Prop,(∀b,S b->S2 b)/\(∀b,S2 b->S b\/(n0<=b/\b<w.heap.size))/\RR S2 w n0 pv r' v:=by
 rcases h with⟨h1,h2,h3⟩|⟨rs,rs',rfl,rfl,hl,hw⟩
 ·obtain⟨g,hg⟩:=(Q6R h1).1 hr
  obtain⟨g',h4,h5⟩:=Q6Q h3 hg
  refine⟨λb=>S b\/(g=some b/\g'=none),λb hb=>.inl hb,λb hb=>hb.imp _root_.id λ⟨e,_⟩=>by subst e;exact⟨hg.new.1,hg.new.2.1⟩,(Q6R h2).2 ⟨g',h5 _ (λb hb=>.inl hb) (λb e1 e2=>.inr ⟨e1,e2⟩) λb e=>?_⟩⟩
  rcases h4 with h4|h4
  ·rw[h4]at e;cases e
  ·rw[h4]at e
   subst e
   rintro(hb|⟨_,hb⟩)
   ·exact hg.new.2.2 hb
   ·rw[h4]at hb;cases hb
 ·obtain⟨vs,gs,rfl,hvl,hgl,hc,hd⟩:=hr
  have key:∀i:Nat,∃g':Option Nat,∀a a' v g,rs[i]? =some a->rs'[i]? =some a'->vs[i]? =some v->gs[i]? =some g->(g'=none\/g'=g)/\∀S2:Nat->Prop,(∀b,S b->S2 b)->(∀b,g=some b->g'=none->S2 b)->(∀b,g'=some b->¬S2 b)->R1 S2 w n0 pv a' v g':=λi=>by
   by_cases hi:i<rs.length
   ·have e1:rs[i]? =some rs[i]:=List.getElem?_eq_getElem hi
    have e2:rs'[i]? =some rs'[i]:=List.getElem?_eq_getElem (by omega)
    have e3:vs[i]? =some vs[i]:=List.getElem?_eq_getElem (by omega)
    have e4:gs[i]? =some gs[i]:=List.getElem?_eq_getElem (by omega)
    obtain⟨g',h1,h2⟩:=Q6Q (hw i _ _ e1 e2) (hc i _ _ _ e1 e3 e4)
    refine⟨g',λa a' v g f1 f2 f3 f4=>?_⟩
    rw[e1]at f1;rw[e2]at f2;rw[e3]at f3;rw[e4]at f4
    cases f1;cases f2;cases f3;cases f4
    exact⟨h1,h2⟩
   ·exact⟨none,λa a' v g f1=>by rw[List.getElem?_eq_none (by omega)]at f1;cases f1⟩
  obtain⟨gf,hgf⟩:∃gf:Nat->Option Nat,∀(i:Nat) a a' v g,rs[i]? =some a->rs'[i]? =some a'->vs[i]? =some v->gs[i]? =some g->(gf i=none\/gf i=g)/\∀S2:Nat->Prop,(∀b,S b->S2 b)->(∀b,g=some b->gf i=none->S2 b)->(∀b,gf i=some b->¬S2 b)->R1 S2 w n0 pv a' v (gf i):=
   ⟨λi=>Classical.choose (key i),λi=>Classical.choose_spec (key i)⟩
  have full:∀i g,gs[i]? =some g->∃a v,rs[i]? =some a/\vs[i]? =some v/\R1 S w n0 pv a v g:=λi g hg=>by
   have hi:=(List.getElem?_eq_some_iff.1 hg).1
   have e1:rs[i]? =some rs[i]:=List.getElem?_eq_getElem (by omega)
   have e3:vs[i]? =some vs[i]:=List.getElem?_eq_getElem (by omega)
   exact⟨_,_,e1,e3,hc i _ _ _ e1 e3 hg⟩
  refine⟨λb=>S b\/∃i:Nat,gs[i]? =some (some b)/\gf i=none,λb hb=>.inl hb,λb hb=>?_,vs,(List.range rs.length).map gf,rfl,by omega,by simp[hl],λi r v g h1 h2 h3=>?_,λi j g hij h1 h2=>?_⟩
  ·rcases hb with hb|⟨i,hi,_⟩
   ·exact .inl hb
   ·obtain⟨a,v,_,_,h1⟩:=full i _ hi
    exact .inr ⟨h1.new.1,h1.new.2.1⟩
  ·have hi:i<rs.length:=by have:=(List.getElem?_eq_some_iff.1 h1).1;omega
   have e1:rs[i]? =some rs[i]:=List.getElem?_eq_getElem hi
   have e4:gs[i]? =some gs[i]:=List.getElem?_eq_getElem (by omega)
   simp only[List.getElem?_map,List.getElem?_range hi,Option.map_some,Option.some.injEq]at h3
   subst h3
   obtain⟨h5,h6⟩:=hgf i _ _ _ _ e1 h1 h2 e4
   refine h6 _ (λb hb=>.inl hb) (λb e1 e2=>.inr ⟨i,by rw[e4,e1],e2⟩) λb e=>?_
   rcases h5 with h5|h5
   ·rw[h5]at e;cases e
   ·rw[h5]at e
    rw[e]at e4
    obtain⟨_,_,_,_,h7⟩:=full i _ e4
    rintro(hb|⟨j,hj,hb⟩)
    ·exact h7.new.2.2 hb
    ·by_cases hij:i=j
     ·subst hij;rw[h5,e]at hb;cases hb
     ·exact hd i j b hij e4 hj
  ·have hi:i<rs.length:=by have:=(List.getElem?_eq_some_iff.1 h1).1;simpa using this
   have hj:j<rs.length:=by have:=(List.getElem?_eq_some_iff.1 h2).1;simpa using this
   simp only[List.getElem?_map,List.getElem?_range hi,List.getElem?_range hj,Option.map_some,Option.some.injEq]at h1 h2
   have f:∀i,i<rs.length->gf i=some g->gs[i]? =some (some g):=λi hi h=>by
    have e1:rs[i]? =some rs[i]:=List.getElem?_eq_getElem hi
    have e2:rs'[i]? =some rs'[i]:=List.getElem?_eq_getElem (by omega)
    have e3:vs[i]? =some vs[i]:=List.getElem?_eq_getElem (by omega)
    have e4:gs[i]? =some gs[i]:=List.getElem?_eq_getElem (by omega)
    rcases(hgf i _ _ _ _ e1 e2 e3 e4).1 with h5|h5
    ·rw[h5]at h;cases h
    ·rw[e4,<-h5,h]
   exact hd i j g hij (f i hi h1) (f j hj h2)
theorem Goes.mono {P:Program}{E:Env}{pv:Nat->Value}{cal:Cal}{args args':List AV}{r r':AV}(h:Qa P E pv cal args r)(hw:Wk r r')(ha:∀S w vs,QY S w pv args' vs->QY S w pv args vs):Qa P E pv cal args' r':=by
 intro S w vs hst hgl hargs
 have:=h S w vs hst hgl (ha S w vs hargs)
 have step:∀v w',(Below w.heap.size w w'/\∃S':Nat->Prop,(∀b,S b->S' b)/\(∀b,S' b->S b\/(w.heap.size<=b/\b<w'.heap.size))/\RR S' w' w.heap.size pv r v)->(Below w.heap.size w w'/\∃S':Nat->Prop,(∀b,S b->S' b)/\(∀b,S' b->S b\/(w.heap.size<=b/\b<w'.heap.size))/\RR S' w' w.heap.size pv r' v):=λv w' ⟨hb,S',h1,h2,h3⟩=>by
  obtain⟨S2,h4,h5,h6⟩:=Q8C hw h3
  exact⟨hb,S2,λb hb=>h4 b (h1 b hb),λb hb=>(h5 b hb).elim (h2 b) .inr,h6⟩
 cases cal with
 |f n=>exact QD.mono this step
 |par i=>exact QD.mono this step
theorem Q8c (r:AV):Wk r r:=by
 cases r with
 |tup rs=>exact .inr ⟨rs,rs,rfl,rfl,rfl,λi a a' e1 e2=>by rw[e1]at e2;cases e2;exact .refl a⟩
 |_=>exact .inl ⟨λl h=>(by cases h),λl h=>(by cases h),.refl _⟩
inductive WkM:AV->AV->Prop
 |kep (o r r':AV) (h:Wk r r'):WkM (.kep o r) (.kep o r')
 |mov (e:Nat) (τ:Ty) (ys:List (den τ)):WkM (.mov e τ ys) (.mov e τ ys)
 |eat (τ:Ty) (y:den τ):WkM (.pc false τ y) (.pc false τ y)
theorem J6.mono {P:Program}{E:Env}{pv:Nat->Value}{f:Nat}{a0:AV}{args:List AV}{r r':AV}(h:J6 P E pv f a0 args r)(hw:WkM r r'):J6 P E pv f a0 args r':=by
 intro S w v0 vs l r0 hst hgl hargs hr0 hrow hSl hv0
 have:=h S w v0 vs l r0 hst hgl hargs hr0 hrow hSl hv0
 refine QD.mono this λv w' ⟨hb,S',h1,h2,h3⟩=>?_
 cases hw with
 |mov e τ ys=>exact⟨hb,S',h1,h2,h3⟩
 |eat τ y=>exact⟨hb,S',h1,h2,h3⟩
 |kep o r r' hw=>
  obtain⟨h4,r1,ro,h5,h6,h7,h8,h9⟩:=h3
  obtain⟨S2,k1,k2,k3⟩:=Q8C hw h4
  have hlt:∀g c,l= .at g c->g<w.heap.size:=λg c e=>by subst e;exact hrow.lt
  refine⟨hb,S2,λb hb=>k1 b (h1 b hb),λb hb=>?_,k3,r1,ro,h5,h6,?_,h8,λg c e hS=>?_⟩
  ·rcases k2 b hb with h|h
   ·exact h2 b h
   ·exact .inr (.inr h)
  ·exact QG.ext (P:=λ_=>True) k1 (λ_ _=>rfl) (λid l r _ h1=>by cases h1) h7 (λ_ _=>rfl) (λ_ _ _ _ _=>trivial)
  ·rcases k2 g hS with h|h
   ·exact h9 g c e h
   ·have:=hlt g c e;omega
theorem Q6S (τ:Ty)(fs:List AV):Wk1 (.agg τ fs) (clF τ fs):=by
 unfold clF
 split
 ·rename_i a h;exact .agT τ fs a h
 ·exact .refl _
theorem Q40 (m:Nat)(a:AV):Wk1 a (cl1 m a):=by
 cases a with
 |fr e τ xs=>
  match m with
  |0=>exact .refl _
  |1=>
   show Wk1 _ (cond (slT τ) _ _)
   cases slT τ
   ·exact .refl _
   ·exact .frT e τ xs
  |m+2=>exact .frT e τ xs
 |agg τ fs=>
  match m with
  |0=>exact .refl _
  |1=>
   show Wk1 _ (cond (Q2t fs) _ _)
   cases Q2t fs
   ·exact .refl _
   ·exact Q6S τ fs
  |m+2=>exact Q6S τ fs
 |_=>exact .refl _
theorem XY {τ:Ty}{fs:List AV}{a:AV}(h:QA τ fs=some a):∃x,a= .t τ x:=by
 unfold QA at h
 (repeat' split at h)<;>first
  |(cases h;done)
  |(simp only[Option.some.injEq]at h;subst h;exact⟨_,rfl⟩)
theorem Xf (m:Nat){a:AV}(h:(∃e τ,∃xs:List (den τ),a= .fr e τ xs)\/∃τ fs,a= .agg τ fs):(∃τ,∃x:den τ,slT τ=true/\cl1 m a= .t τ x)\/(∃τ,∃x:den τ,agT τ=true/\cl1 m a= .t τ x)\/cl1 m a=a:=by
 have hF:∀τ fs,(∃x:den τ,agT τ=true/\clF τ fs= .t τ x)\/clF τ fs= .agg τ fs:=λτ fs=>by
  unfold clF
  split
  ·rename_i a h
   obtain⟨x,rfl⟩:=XY h
   exact .inl ⟨x,XU h,rfl⟩
  ·exact .inr rfl
 rcases h with⟨e,τ,xs,rfl⟩|⟨τ,fs,rfl⟩
 ·match m with
  |0=>exact .inr (.inr rfl)
  |1=>
   show _\/_\/cond (slT τ) (AV.t (.sl τ) xs) (.fr e τ xs)=_
   cases hs:slT τ
   ·exact .inr (.inr rfl)
   ·exact .inl ⟨.sl τ,xs,rfl,by show cond (slT τ) _ _=_;rw[hs];rfl⟩
  |m+2=>exact .inl ⟨.sl τ,xs,rfl,rfl⟩
 ·match m with
  |0=>exact .inr (.inr rfl)
  |1=>
   cases hs:Q2t fs
   ·exact .inr (.inr (by show cond (Q2t fs) _ _=_;rw[hs];rfl))
   ·rcases hF τ fs with⟨x,h1,h2⟩|h
    ·exact .inr (.inl ⟨τ,x,h1,by show cond (Q2t fs) _ _=_;rw[hs];exact h2⟩)
    ·exact .inr (.inr (by show cond (Q2t fs) _ _=_;rw[hs];exact h))
  |m+2=>
   rcases hF τ fs with⟨x,h1,h2⟩|h
   ·exact .inr (.inl ⟨τ,x,h1,h2⟩)
   ·exact .inr (.inr h)
theorem Dl (m:Nat){a:AV}(h:(∃e τ,∃xs:List (den τ),a= .fr e τ xs)\/∃τ fs,a= .agg τ fs):(∀l,cl1 m a≠ .tup l)/\∀k n,cl1 m a≠ .t (.int k) n:=by
 rcases Xf m h with⟨τ,x,hs,e⟩|⟨τ,x,hs,e⟩|e
 ·rw[e];exact⟨λl h=>(by cases h),λk n h=>(by cases h;cases hs)⟩
 ·rw[e];exact⟨λl h=>(by cases h),λk n h=>(by cases h;cases hs)⟩
 ·rw[e]
  rcases h with⟨e,τ,xs,rfl⟩|⟨τ,fs,rfl⟩
  ·exact⟨λl h=>(by cases h),λk n h=>(by cases h)⟩
  ·exact⟨λl h=>(by cases h),λk n h=>(by cases h)⟩
theorem Q6T (m:Nat)(r:AV):Wk r (clT m r):=by
 cases r with
 |tup l=>exact .inr ⟨l,l.map (cl1 m),rfl,rfl,by simp,λi a a' e1 e2=>by
   rw[List.getElem?_map,e1]at e2
   cases e2
   exact Q40 m a⟩
 |fr e τ xs=>exact .inl ⟨λl h=>(by cases h),(Dl m (.inl ⟨e,τ,xs,rfl⟩)).1,Q40 m _⟩
 |agg τ fs=>exact .inl ⟨λl h=>(by cases h),(Dl m (.inr ⟨τ,fs,rfl⟩)).1,Q40 m _⟩
 |_=>exact .inl ⟨λl h=>(by cases h),λl h=>(by cases h),.refl _⟩
theorem J6.cl {P:Program}{E:Env}{pv:Nat->Value}{f:Nat}{a0:AV}{args:List AV}{r:AV}(m:Nat)(h:J6 P E pv f a0 args r):J6 P E pv f a0 args (clA m r):=by
 cases r with
 |kep o r'=>exact h.mono (.kep _ _ _ (Q6T (m3 m) r'))
 |fr e τ xs=>
  intro S w v0 vs l r0 hst hgl hargs hr0 hrow hSl hv0
  exact QD.mono (h S w v0 vs l r0 hst hgl hargs hr0 hrow hSl hv0) λv w' ⟨_,_,_,_,h3⟩=>h3.elim
 |tup l=>
  intro S w v0 vs l r0 hst hgl hargs hr0 hrow hSl hv0
  exact QD.mono (h S w v0 vs l r0 hst hgl hargs hr0 hrow hSl hv0) λv w' ⟨_,_,_,_,h3⟩=>h3.elim
 |agg τ fs=>
  intro S w v0 vs l r0 hst hgl hargs hr0 hrow hSl hv0
  exact QD.mono (h S w v0 vs l r0 hst hgl hargs hr0 hrow hSl hv0) λv w' ⟨_,_,_,_,h3⟩=>h3.elim
 |pc c τ x=>
  show J6 P E pv f a0 args (cond (c&&(slT τ&&Nat.blt 0 m)) (.t τ x) (.pc c τ x))
  cases c with
  |false=>exact h
  |true=>
   intro S w v0 vs l r0 hst hgl hargs hr0 hrow hSl hv0
   exact QD.mono (h S w v0 vs l r0 hst hgl hargs hr0 hrow hSl hv0) λv w' ⟨_,_,_,_,h3⟩=>h3.elim
 |_=>exact h
theorem Qa.cl {P:Program}{E:Env}{pv:Nat->Value}{cal:Cal}{args:List AV}{r:AV}(m:Nat)(h:Qa P E pv cal args r):Qa P E pv cal args (clA m r):=by
 have go:clA m r=clT (m3 m) r->Qa P E pv cal args (clA m r):=λe=>by
  rw[e];exact Goes.mono h (Q6T (m3 m) r) λ_ _ _ h=>h
 cases r with
 |kep o r'=>
  intro S w vs hst hgl hargs
  have:=h S w vs hst hgl hargs
  have step:∀(v:Value) (w':World) (X:Prop),(Below w.heap.size w w'/\∃S':Nat->Prop,(∀b,S b->S' b)/\(∀b,S' b->S b\/(w.heap.size<=b/\b<w'.heap.size))/\RR S' w' w.heap.size pv (.kep o r') v)->X:=λv w' X ⟨_,S',_,_,g,h3⟩=>by
   cases h3 with
   |plain _ cs ha=>cases ha
  cases cal with
  |f n=>exact QD.mono this λv w' h=>step v w' _ h
  |par i=>exact QD.mono this λv w' h=>step v w' _ h
 |pc c τ x=>
  show Qa P E pv cal args (cond (c&&(slT τ&&Nat.blt 0 m)) (.t τ x) (.pc c τ x))
  cases hb:(c&&(slT τ&&Nat.blt 0 m))with
  |false=>exact h
  |true=>
   simp only[Bool.and_eq_true]at hb
   rw[hb.1]at h
   exact Goes.mono h (.inl ⟨λl h=>(by cases h),λl h=>(by cases h),.pcT τ x⟩) λ_ _ _ h=>h
 |_=>exact go rfl
def clG (m:Nat)(G:Cal->List AV->AV->Prop):Cal->List AV->AV->Prop:=λcal args r=>∃r0,G cal args r0/\r=clA m r0
theorem JE.cl {C:Orc}{G:Cal->List AV->AV->Prop}(m:Nat)(h:JE C G):JE (clC m C) (clG m G):=λR cal args K r hr=>by
 obtain⟨res,h1,h2⟩:=h R cal args (λr=>K (clA m r)) r hr
 exact⟨_,⟨res,h1,rfl⟩,h2⟩
theorem Q6U (m:Nat){w:World}{pv:Nat->Value}{r:AV}{v:Value}{T:Nat->Prop}(h:RT1 w pv r v T):RT1 w pv (cl1 m r) v T:=by
 have fr:∀{e:Nat} {τ:Ty} {xs:List (den τ)} {v:Value},slT τ=false->RT1 w pv (.fr e τ xs) v T->RT1 w pv (cl1 m (.fr e τ xs)) v T:=λ{e τ xs v} hs h=>by
  match m with
  |0=>exact h
  |1=>simp only[cl1,hs,cond_false];exact h
  |_+2=>exact .weak _ _ _ _ rfl
 cases h with
 |flat τ x cs _ hs h=>exact .flat τ x cs _ hs h
 |weak τ x v _ hs=>exact .weak τ x v _ hs
 |nil=>exact .nil _
 |fr e τ xs g cap _ hs hT h=>exact fr hs (.fr e τ xs g cap _ hs hT h)
 |frNil e τ _ hs h=>exact fr hs (.frNil e τ _ hs h)
 |tr τ x cs _ hs h=>exact .tr τ x cs _ hs h
theorem Q9l (m:Nat){w:World}{n0:Nat}{O:Nat->Prop}{pv:Nat->Value}{r:AV}{v:Value}(h:RT w n0 O pv r v):RT w n0 O pv (clA m r) v:=by
 have one:∀{r:AV},(∀l,r≠ .tup l)->(∃T,RT1 w pv r v T/\Q5v w n0 O T)->clA m r=cl1 (m3 m) r->RT w n0 O pv (clA m r) v:=λ{r} hr ⟨T,h1,h2⟩ e=>by
  rw[e]
  have h3:=Q6U (m3 m) h1
  have hn:∀l,cl1 (m3 m) r≠ .tup l:=λl e=>by
   rw[e]at h3;cases h3
  generalize cl1 (m3 m) r=r' at*
  cases r' with
  |tup l=>exact absurd rfl (hn l)
  |_=>exact⟨T,h3,h2⟩
 cases r with
 |tup rs=>
  obtain⟨vs,Ts,h1,h2,h3,h4⟩:=h
  refine⟨vs,Ts,h1,by rw[List.length_map];exact h2,λi r v hr hv=>?_,h4⟩
  rw[List.getElem?_map,Option.map_eq_some_iff]at hr
  obtain⟨r0,hr0,rfl⟩:=hr
  obtain⟨k1,k2⟩:=h3 i r0 v hr0 hv
  exact⟨Q6U (m3 m) k1,k2⟩
 |kep o r=>obtain⟨T,h1,_⟩:=h;cases h1
 |pc c τ x=>obtain⟨T,h1,_⟩:=h;cases h1
 |fr e τ xs=>exact one (by simp) h rfl
 |agg τ fs=>exact one (by simp) h rfl
 |_=>exact h
theorem GOk.cl {P:Program}{E:Env}{pv:Nat->Value}{G:Cal->List AV->AV->Prop}(m:Nat)(h:GOk P E pv G):GOk P E pv (clG m G):=by
 rintro cal args _ ⟨r,hr,rfl⟩
 obtain⟨h1,h2,h3,h4,h5,h6⟩:=h cal args r hr
 refine⟨λhn=>⟨(h1 hn).1.cl m,λf a0 rest e1 e2 e3=>((h1 hn).2 f a0 rest e1 e2 e3).cl m⟩,λf τ x k m' e1 e2 e3=>?_,λf as e1 e2=>?_,λf as e1 e2=>?_,λf τ x as y e1 e2 e3 e4=>?_,λf τ x k y m' e1 e2 e3 e4=>?_⟩
 ·refine h2 f τ x k m' e1 e2 ?_
  cases r with
  |fr e τ xs=>exact absurd e3 ((Dl (m3 m) (.inl ⟨e,τ,xs,rfl⟩)).2 _ _)
  |agg τ fs=>exact absurd e3 ((Dl (m3 m) (.inr ⟨τ,fs,rfl⟩)).2 _ _)
  |tup l=>cases e3
  |kep o r=>cases e3
  |pc c σ z=>
   have e5:cond (c&&(slT σ&&Nat.blt 0 m)) (AV.t σ z) (.pc c σ z)= .t (.int .i64) m':=e3
   cases hb:(c&&(slT σ&&Nat.blt 0 m))with
   |false=>rw[hb]at e5;cases e5
   |true=>
    rw[hb]at e5
    cases e5
    simp only[Bool.and_eq_true]at hb
    cases hb.2.1
  |_=>exact e3
 ·intro S w vs hst hgl hargs
  refine QD.mono (h3 f as e1 e2 S w vs hst hgl hargs) λu w' ⟨hb,τ,x,T,cs,e,h4⟩=>⟨hb,τ,x,T,cs,?_,h4⟩
  rcases e with e|e
  ·rw[e]
   show cond (true&&(slT τ&&Nat.blt 0 m)) (AV.t τ x) (.pc true τ x)=_\/cond (true&&(slT τ&&Nat.blt 0 m)) (AV.t τ x) (.pc true τ x)=_
   cases (true&&(slT τ&&Nat.blt 0 m))
   ·exact .inl rfl
   ·exact .inr rfl
  ·rw[e];exact .inr rfl
 ·intro S w vs hst hgl hargs
  exact QD.mono (h4 f as e1 e2 S w vs hst hgl hargs) λu w' ⟨hb,hr⟩=>⟨hb,Q9l m hr⟩
 ·refine h5 f τ x as y e1 e2 e3 ?_
  cases r with
  |fr e τ xs=>rcases Xf (m3 m) (.inl ⟨e,τ,xs,rfl⟩)with⟨_,_,_,h⟩|⟨_,_,_,h⟩|h<;>(have e5:cl1 (m3 m) (.fr e τ xs)=_:=e4;rw[h]at e5;cases e5)
  |agg τ fs=>rcases Xf (m3 m) (.inr ⟨τ,fs,rfl⟩)with⟨_,_,_,h⟩|⟨_,_,_,h⟩|h<;>(have e5:cl1 (m3 m) (.agg τ fs)=_:=e4;rw[h]at e5;cases e5)
  |tup l=>cases e4
  |kep o r=>cases e4
  |pc c σ z=>
   have e5:cond (c&&(slT σ&&Nat.blt 0 m)) (AV.t σ z) (.pc c σ z)= .tr τ y:=e4
   cases hb:(c&&(slT σ&&Nat.blt 0 m))<;>rw[hb]at e5<;>cases e5
  |_=>exact e4
 ·refine h6 f τ x k y m' e1 e2 e3 ?_
  cases r with
  |fr e τ xs=>rcases Xf (m3 m) (.inl ⟨e,τ,xs,rfl⟩)with⟨_,_,_,h⟩|⟨_,_,_,h⟩|h<;>(have e5:cl1 (m3 m) (.fr e τ xs)=_:=e4;rw[h]at e5;cases e5)
  |agg τ fs=>rcases Xf (m3 m) (.inr ⟨τ,fs,rfl⟩)with⟨_,_,_,h⟩|⟨_,_,_,h⟩|h<;>(have e5:cl1 (m3 m) (.agg τ fs)=_:=e4;rw[h]at e5;cases e5)
  |tup l=>cases e4
  |kep o r=>
   have e5:AV.kep o (clT (m3 m) r)= .kep (.t τ y) (.t (.int .i64) m'):=e4
   injection e5 with e6 e7
   subst e6
   congr 1
   cases r with
   |fr e τ xs=>exact absurd e7 ((Dl (m3 m) (.inl ⟨e,τ,xs,rfl⟩)).2 _ _)
   |agg τ fs=>exact absurd e7 ((Dl (m3 m) (.inr ⟨τ,fs,rfl⟩)).2 _ _)
   |tup l=>cases e7
   |_=>exact e7
  |pc c σ z=>
   have e5:cond (c&&(slT σ&&Nat.blt 0 m)) (AV.t σ z) (.pc c σ z)= .kep (.t τ y) (.t (.int .i64) m'):=e4
   cases hb:(c&&(slT σ&&Nat.blt 0 m))<;>rw[hb]at e5<;>cases e5
  |_=>exact e4
end Go.Gx
end
section
/- Trees: the interpreter's steps are the machine's. -/
namespace Go.Gx
open Go.RowKit
theorem GX:∀{p:List Nat} {e τ:Ty} {f:Nat} {σ:Ty},tyP e p=some τ->(fty τ)[f]? =some σ->tyP e (p++[f])=some σ
 |[],e,τ,f,σ,h,h1=>by simp only[tyP,Option.some.injEq]at h;subst h;simp only[List.nil_append,tyP,h1]
 |g::p,e,τ,f,σ,h,h1=>by
  simp only[tyP]at h
  split at h
  ·rename_i θ hθ
   simp only[List.cons_append,tyP,hθ]
   exact GX h h1
  ·cases h
theorem GY:∀{p:List Nat} {e τ:Ty} {f:Nat},tyP e p=some τ->pOk e p=true->stT τ f=true->pOk e (p++[f])=true
 |[],e,τ,f,h,_,h1=>by simp only[tyP,Option.some.injEq]at h;subst h;simp only[List.nil_append,pOk,h1,Bool.and_true]
 |g::p,e,τ,f,h,h0,h1=>by
  simp only[tyP]at h
  split at h
  ·rename_i θ hθ
   have hd:(fty e).getD g .bool=θ:=by rw[List.getD_eq_getElem?_getD,hθ];rfl
   simp only[pOk,hd,Bool.and_eq_true,List.cons_append]at h0 ⊢
   exact⟨h0.1,GY h h0.2 h1⟩
  ·cases h
theorem Dm:∀{p:List Nat} {e τ:Ty} {f:Nat},tyP e p=some τ->Qk e (p++[f])=Qk e p+QB (fty τ) f
 |[],e,τ,f,h=>by simp only[tyP,Option.some.injEq]at h;subst h;simp only[List.nil_append,Qk];omega
 |g::p,e,τ,f,h=>by
  simp only[tyP]at h
  split at h
  ·rename_i θ hθ
   have hd:(fty e).getD g .bool=θ:=by rw[List.getD_eq_getElem?_getD,hθ];rfl
   simp only[List.cons_append,Qk,hd,Dm h]
   omega
  ·cases h
theorem Q15 {T:Nat->Prop}{v w:World}(h:JD T v w){g o:Nat}(hg:T g){A:Option Addr}{n c:Nat}(hu:w.cell? ⟨g,o,none⟩=some (.slice A n c)):v.cell? ⟨g,o,none⟩=some (.slice A n c):=by
 obtain⟨_,⟨cur,e,f,h1,h2⟩,h3⟩:=h g hg
 obtain⟨cur',h4,h5,h6⟩:=h3 cur e f h1
 rw[cell_of h4]at hu
 have ho:o<cur'.size:=(Array.getElem?_eq_some_iff.1 hu).1
 have hc:cur[o]? =some (cur[o]'(by omega)):=Array.getElem?_eq_getElem (by omega)
 have:=h6 o _ _ hc hu
 rw[cell_of h1,hc]
 generalize cur[o]'(by omega)=u0 at this
 cases u0<;>simp only[Yn]at this<;>first
  |(cases this;done)
  |(cases this;rfl)
theorem Q5C {T:Nat->Prop}{v w:World}(h:JD T v w){g o:Nat}{cur:Array Value}{t:TypeId}{f:Nat×Nat}{u0 u1:Value}(hg:w.heap[g]? =some (.cells cur t f))(hu:cur[o]? =some u0)(hs:Yn u0 u1):JD T v (w.setRow g (splice cur.toList o [u1]).toArray):=by
 have ho:o<cur.size:=(Array.getElem?_eq_some_iff.1 hu).1
 refine h.trans λk hk=>⟨by simpa[World.setRow]using(h k hk).1,Y9 h hk,?_⟩
 by_cases e:k=g
 ·subst e
  rw[setRow_heap w k cur _ _ _ hg]
  intro c0 e0 f0 h0
  rw[hg]at h0
  cases h0
  have hlen:(splice cur.toList o [u1]).length=cur.size:=by rw[Jh (by simp;omega)];simp
  refine⟨_,rfl,by simpa using hlen,λm p p' hp hp'=>?_⟩
  simp only[List.getElem?_toArray]at hp'
  rw[QT (by simp;omega)]at hp'
  by_cases c1:m<o
  ·rw[if_pos c1]at hp'
   have:cur[m]? =some p':=by simpa using hp'
   rw[hp]at this;cases this
   exact XT _
  ·rw[if_neg c1]at hp'
   by_cases c2:m<o+[u1].length
   ·rw[if_pos c2]at hp'
    have hmi:m=o:=by simp at c2;omega
    subst hmi
    simp at hp'
    subst hp'
    rw[hu]at hp;cases hp
    exact hs
   ·rw[if_neg c2]at hp'
    have:cur[m]? =some p':=by simpa using hp'
    rw[hp]at this;cases this
    exact XT _
 ·rw[setRow_other w g k _ e]
  exact .refl _
theorem PlaceAt.same {v:World}{cs:List Value}{τ σ:Ty}{q:Option Nat}{p:List Nat}{u u':Value}(h:PlaceAt v cs τ q p σ u)(k:PlaceAt v cs τ q p σ u'):u=u':=by
 cases h with
 |root _ _ _ _ _ _ h1=>
  cases k with
  |root _ _ _ _ _ _ h2=>rw[h1]at h2;exact Option.some.inj h2
 |elem e i _ _ _ g n c hc _ _ _ h1=>
  cases k with
  |elem _ _ _ _ _ g' n' c' hc' _ _ _ h2=>
   rw[hc]at hc'
   cases hc'
   rw[h1]at h2;exact Option.some.inj h2
section
variable {P:Program} {E:Env} {w0:World} {B:Old} {pv:Nat->Value} {S:Nat->Prop} {ρ:Nat->Option Loc} {st:St} {a:Act} {w:World} {o:Oper} {id:Nat} {K:Act->World->Prop} {Q:Exit->Act->World->Prop} {row:Nat->Option Row}
theorem DW {j:Nat}{τ:Ty}{v:Value}(h:VR S w ρ row pv (.tv j τ) v):∃b cs T u,row j=some (.box τ b)/\ρ j=some (.tree cs T u)/\v=valOf (.tv j τ) cs/\AR S w ρ row pv (.tv j τ) cs:=by
 obtain⟨cs,h',rfl⟩:=Qw h (by simp)
 have h0:=h'
 cases h' with
 |tv _ _ b _ T u hr hl _ _=>exact⟨b,cs,T,u,hr,hl,rfl,h0⟩
theorem Q4N {j i:Nat}{p:List Nat}{v:Value}(h:VR S w ρ row pv (.tq j i p) v):∃e σ b T u g n c,row j=some (.box (.sl e) b)/\ρ j=some (.tree [.slice (some ⟨g,0,none⟩) n c] T u)/\i<n/\tyP e p=some σ/\pOk e p=true/\v= .pointer (some ⟨g,i*nc e+Qk e p,none⟩):=by
 obtain⟨cs,h',rfl⟩:=Qw h (by simp)
 cases h' with
 |tq _ _ _ e σ b T u g n c hr hl hi hp hq=>exact⟨e,σ,b,T,u,g,n,c,hr,hl,hi,hp,hq,rfl⟩
theorem Q2Q {j:Nat}{q:Option Nat}{p:List Nat}{τ:Ty}{v:Value}(h:VR S w ρ row pv (.vw j q p τ) v):∃σ b cs T u,row j=some (.box σ b)/\ρ j=some (.tree cs T u)/\PlaceAt u cs σ q p (.sl τ) v:=by
 obtain⟨cs,h',rfl⟩:=Qw h (by simp)
 cases h' with
 |vw _ _ _ _ σ b cs T u v hr hl hv _=>exact⟨σ,b,cs,T,u,hr,hl,hv⟩
theorem Jv (h:HS S w ρ row pv B){j:Nat}{σ0 σ:Ty}{a b:AV}{x:den σ}{cs:List Value}{T:Nat->Prop}{v:World}(hr:row j=some (.box σ0 (.tup [a,b,.t σ x])))(hl:ρ j=some (.tree cs T v)):σ0=σ/\slT σ=true/\JD T v w/\TR w T σ x cs/\
  ∃e ap,a= .t (.int .i64) ((e:Nat):Int)/\b= .t .bool ap/\(ap=true->Q9i w e σ x cs):=by
 obtain⟨h1,h2,e,ap,y,h3,h4,h5⟩:=h.rows j _ _ hr hl
 simp only[AV.tup.injEq,List.cons.injEq,and_true]at h3
 obtain⟨rfl,rfl,h3⟩:=h3
 cases h3
 exact⟨rfl,h1,h2,h4,e,ap,rfl,rfl,h5⟩
theorem XZ {T:Nat->Prop}{e:Ty}{xs:List (den e)}{v:Value}(h:TR w T (.sl e) xs [v]):(xs=[]/\v= .slice none 0 0)\/∃g c,v= .slice (some ⟨g,0,none⟩) xs.length c/\T g:=by
 generalize hc:[v]=cs at h
 cases h with
 |flat _ _ _ _ hs _=>cases hs
 |nil=>cases hc;exact .inl ⟨rfl,rfl⟩
 |sl _ _ _ g c _ _ _ _ hg=>cases hc;exact .inr ⟨g,c,rfl,hg⟩
theorem Q9m {j i:Nat}{p:List Nat}{e τ:Ty}{b:AV}{T T2:Nat->Prop}{v:World}{g n c:Nat}(hr:row j=some (.box (.sl e) b))(hl:ρ j=some (.tree [.slice (some ⟨g,0,none⟩) n c] T v))(hi:i<n)(hp:tyP e p=some τ)(hq:pOk e p=true)(hs:JD T v w)(hg:T g)
  {y:den τ} {cs:List Value} (hy:TR w T2 τ y cs) (hc:∀k u,cs[k]? =some u->w.cell? ⟨g,i*nc e+Qk e p+k,none⟩=some u):VR S w ρ row pv (Q5a j (some i) p τ y) (valOf (.t τ y) cs):=by
 have vw:∀{f:Nat} {θ:Ty} {u:Value} {T3:Nat->Prop} {z:den (.sl θ)},stT τ f=true->(fty τ)[f]? =some (.sl θ)->cs[QB (fty τ) f]? =some u->TR w T3 (.sl θ) z [u]->AR S w ρ row pv (.vw j (some i) (p++[f]) θ) [u]:=λ{f θ u T3 z} h1 h2 h3 h4=>by
  refine .vw j (some i) (p++[f]) θ (.sl e) b _ T v u hr hl (.elem e i _ _ u g n c rfl hi (GX hp h2) (GY hp hq h1) ?_) ?_
  ·have hc':=hc _ u h3
   rw[Dm hp,<-Nat.add_assoc]
   rcases XZ h4 with⟨_,rfl⟩|⟨g',c',rfl,_⟩<;>exact Q15 hs hg hc'
  ·rcases XZ h4 with⟨_,rfl⟩|⟨g',c',rfl,_⟩<;>rfl
 have vw0:∀{θ:Ty} {u:Value},τ= .sl θ->cs=[u]->(∃A n c,u= .slice A n c)->AR S w ρ row pv (.vw j (some i) p θ) [u]:=λ{θ u} e1 e2 ⟨A,n',c',e3⟩=>by
  subst e1;subst e2;subst e3
  refine .vw j (some i) p θ (.sl e) b _ T v _ hr hl (.elem e i _ _ _ g n c rfl hi hp hq ?_) rfl
  exact Q15 hs hg (hc 0 _ rfl)
 cases hy with
 |flat _ _ _ _ hsl h=>
  refine .inr ⟨cs,?_,?_⟩
  ·unfold Q5a;rw[hsl];exact .t _ _ _ (J5 hsl h)
  ·unfold Q5a;rw[hsl]
 |nil _ θ=>exact .inr ⟨_,vw0 rfl rfl ⟨_,_,_,rfl⟩,rfl⟩
 |sl _ θ xs g' c'=>exact .inr ⟨_,vw0 rfl rfl ⟨_,_,_,rfl⟩,rfl⟩
 |name _ n u h=>
  refine .inr ⟨_,.agg .name _ [[u],[.string n.particle],[.string n.family],[.string n.suffix]] rfl λk x c hx hcs=>?_,rfl⟩
  match k,hx,hcs with
  |0,hx,hcs=>cases hx;cases hcs;exact vw rfl rfl rfl h
  |1,hx,hcs=>cases hx;cases hcs;exact .t _ _ _ (.str _)
  |2,hx,hcs=>cases hx;cases hcs;exact .t _ _ _ (.str _)
  |3,hx,hcs=>cases hx;cases hcs;exact .t _ _ _ (.str _)
  |k+4,hx,hcs=>simp at hcs
 |entry _ T1 T3 n va ve ha he=>
  refine .inr ⟨_,.agg .entry _ [[.string n.key],[.int .i64 n.kind],[va],[ve],[.string n.title],[.string n.container],[.string n.publisher],[.int .i64 n.date.y,.int .i64 n.date.m,.int .i64 n.date.d,.bool n.date.c],[.int .i64 n.volume],[.string n.pages],[.string n.cross]] rfl λk x c hx hcs=>?_,rfl⟩
  match k,hx,hcs with
  |0,hx,hcs=>cases hx;cases hcs;exact .t _ _ _ (.str _)
  |1,hx,hcs=>cases hx;cases hcs;exact .t _ _ _ (.int _ _)
  |2,hx,hcs=>cases hx;cases hcs;exact vw rfl rfl rfl ha
  |3,hx,hcs=>cases hx;cases hcs;exact vw rfl rfl rfl he
  |4,hx,hcs=>cases hx;cases hcs;exact .t _ _ _ (.str _)
  |5,hx,hcs=>cases hx;cases hcs;exact .t _ _ _ (.str _)
  |6,hx,hcs=>cases hx;cases hcs;exact .t _ _ _ (.str _)
  |7,hx,hcs=>cases hx;cases hcs;exact .t _ _ _ (.date _)
  |8,hx,hcs=>cases hx;cases hcs;exact .t _ _ _ (.int _ _)
  |9,hx,hcs=>cases hx;cases hcs;exact .t _ _ _ (.str _)
  |10,hx,hcs=>cases hx;cases hcs;exact .t _ _ _ (.str _)
  |k+11,hx,hcs=>simp at hcs
 |lib _ l u h=>
  refine .inr ⟨_,.agg .lib _ [[u]] rfl λk x c hx hcs=>?_,rfl⟩
  match k,hx,hcs with
  |0,hx,hcs=>cases hx;cases hcs;exact vw rfl rfl rfl h
  |k+1,hx,hcs=>simp at hcs
 |query _ n u h=>
  refine .inr ⟨_,.agg .query _ [[.int .i64 n.op],[.string n.field],[.string n.word],[u]] rfl λk x c hx hcs=>?_,rfl⟩
  match k,hx,hcs with
  |0,hx,hcs=>cases hx;cases hcs;exact .t _ _ _ (.int _ _)
  |1,hx,hcs=>cases hx;cases hcs;exact .t _ _ _ (.str _)
  |2,hx,hcs=>cases hx;cases hcs;exact .t _ _ _ (.str _)
  |3,hx,hcs=>cases hx;cases hcs;exact vw rfl rfl rfl h
  |k+4,hx,hcs=>simp at hcs
variable (hE:EnvOk P E) (hs:Sim w0 B pv S ρ st a w) (hgl:Qr E pv S w) (hd:J9 o st.nt=true)
include hE hs hgl hd
theorem Q41 {T:TypeId}{x:Operand}{τ:Ty}{j i:Nat}{p:List Nat}{σ0 σ:Ty}{a' b':AV}{x':den σ}{y:den τ}(ho:o.op= .load T x)(hT:E.ty T=some τ)(hx:ev E st x= .tq j i p)(hr:st.row j=some (.box σ0 (.tup [a',b',.t σ x'])))(hy:viewAt σ x' (some i) p=some (.t τ y))
  (hK:Nx E w0 B pv S ρ st o.dst (quiet (Q5a j (some i) p τ y)) id K):o.wp P a w K Q:=by
 have e1:=Qj hgl hs x
 rw[hx]at e1
 obtain⟨e,θ,b,D,u,g,n,c,hr',hl,hi,hp,hq,e2⟩:=Q4N e1
 have hr0:=hr
 rw[hr]at hr'
 injection hr' with hr'
 injection hr' with e3 _
 obtain⟨rfl,hsl,hsw,htr,_⟩:=Jv hs.hs hr hl
 subst e3
 obtain⟨rfl,hg,hO,hi',ds,T1,k1,k2,k3,_⟩:=htr.elem hi
 have hy':=Xc hi' hy
 obtain⟨m1,m2,T2,m3,m4,_⟩:=k1.path hq hy'
 rw[hp]at m1
 cases m1
 have hcell:∀k u,((ds.drop (Qk e p)).take (nc τ))[k]? =some u->w.cell? ⟨g,i*nc e+Qk e p+k,none⟩=some u:=λk u hk=>by
  rw[List.getElem?_take]at hk
  split at hk
  ·rw[List.getElem?_drop]at hk
   have:=k3 _ u hk
   rwa [<-Nat.add_assoc]at this
  ·cases hk
 have hrun:=Dh (P:=P) (S:=T2) (ρ:=ρ) (row:=st.row) (pv:=pv) (hE.ty _ _ hT) (.t τ y) (.t _ _ _ m4.cr) hcell
 refine Q8 hs hgl hd (v:=valOf (.t τ y) ((ds.drop (Qk e p)).take (nc τ))) ?_ (Q9m hr0 hl hi hp hq hsw hg m4 hcell) hK
 unfold execOp
 simp only[ho,e2,Sem.run_bind,hrun,Result.andThen_ok,Sem.run_pure]
theorem Q2R {T:TypeId}{x v:Operand}{τ:Ty}{j i:Nat}{p:List Nat}{σ0 σ:Ty}{a' b':AV}{x' y:den σ}{z z0:den τ}(ho:o.op= .store T x v)(hT:E.ty T=some τ)(hx:ev E st x= .tq j i p)(hv:ev E st v= .t τ z)(hr:st.row j=some (.box σ0 (.tup [a',b',.t σ x'])))(hag:agT τ=false)(hsl:slT τ=false)
  (hz:viewAt σ x' (some i) p=some (.t τ z0)) (hy:setAt σ x' (some i) p (.t τ z)=some y) (hK:Nx E w0 B pv S ρ st o.dst ⟨QV,[],[],none,some (j,QP 0 false σ y)⟩ id K):o.wp P a w K Q:=by
 have e1:=Qj hgl hs x
 rw[hx]at e1
 obtain⟨e,θ,b,D,u,g,n,c,hr',hl,hi,hp,hq,e2⟩:=Q4N e1
 have hr0:=hr
 rw[hr]at hr'
 injection hr' with hr'
 injection hr' with e3 _
 obtain⟨rfl,hsl',hsw,htr,_⟩:=Jv hs.hs hr hl
 subst e3
 have e3:=Qj hgl hs v
 rw[hv]at e3
 obtain⟨ds,h5,h6⟩:=Qw e3 (by simp)
 have h50:=h5
 cases h5 with
 |t _ _ _ hcz=>
 have hlen:=hcz.len
 rw[UY hag]at hlen
 match ds,hlen with
 |[u1],_=>
 obtain⟨cur,t,f,hh,hg,hff,hsz,⟨u0,hu0,hsv⟩,htp,hup⟩:=htr.store hi hq hz hag hsl hcz
 have ht:=hE.ty _ _ hT
 have hrun:=Uu ht (.t τ z) h50 hh hff (o:=i*nc e+Qk e p) (by rw[UY hag];omega)
 have hap:=hs.hs.apart0 j _ _ g hl hr hg
 obtain⟨y',n1,n2⟩:=hup (w.setRow g (splice cur.toList (i*nc e+Qk e p) [u1]).toArray) (λb hb=>setRow_other w g b _ hb) (setRow_heap w g cur _ _ _ hh)
 rw[hy]at n1
 cases n1
 have hm:=hs.sto (w':=w.setRow g (splice cur.toList (i*nc e+Qk e p) [u1]).toArray) (r':=QP 0 false (.sl e) y) (below_setRow hs.below hap.1 _) hr hl (.box _ _ _) rfl rfl (by simp[World.setRow])
   (λk _ hk=>setRow_other w g k _ λe=>hk (e▸hg)) (λrow' _=>⟨hsl',Q5C hsw hh hu0 hsv,0,false,y,rfl,n2,λh=>by cases h⟩)
 exact Oper.wp_skip (by unfold execOp;simp only[ho,e2,h6,Sem.run_bind,hrun,Result.andThen_ok,Sem.run_pure])
  (hK S ρ _ _ (hm.put (QK hd) Jm) (hgl.mono (λ_ h=>h) λk hk=>setRow_other w g k _ λe=>hap.2.1 rfl (e▸hk)) (Grew.refl _ _) (λ_ h _=>h))
omit hE in
theorem Q5D {x:Operand}{j i:Nat}{p:List Nat}(ho:o.op= .nilCheck x)(hx:ev E st x= .tq j i p)(hK:Nx E w0 B pv S ρ st o.dst (quiet (.tq j i p)) id K):o.wp P a w K Q:=by
 have e1:=Qj hgl hs x
 rw[hx]at e1
 obtain⟨e,θ,b,D,u,g,n,c,hr',hl,hi,hp,hq,e2⟩:=Q4N e1
 refine Q8 hs hgl hd (v:=a.eval x) ?_ e1 hK
 unfold execOp
 simp[ho,e2]
theorem Ge {T:TypeId}{τ:Ty}{x:Operand}{f:Nat}{j i:Nat}{p:List Nat}{σ:Ty}{b:AV}(ho:o.op= .fieldAddr T x f)(hτ:E.ty T=some τ)(hst:stT τ f=true)(hx:ev E st x= .tq j i p)(hr:st.row j=some (.box (.sl σ) b))(htp:tyP σ p=some τ)
  (hK:Nx E w0 B pv S ρ st o.dst (quiet (.tq j i (p++[f]))) id K):o.wp P a w K Q:=by
 have ht:=hE.ty T τ hτ
 obtain⟨fs,d,σ',hu,hfd,hσ,hoff,hdt,hpos⟩:=Xt ht hst
 have e1:=Qj hgl hs x
 rw[hx]at e1
 obtain⟨e,θ,b',D,u,g,n,c,hr',hl,hi,hp,hq,e2⟩:=Q4N e1
 have hr0:=hr
 rw[hr]at hr'
 injection hr' with hr'
 injection hr' with e3 _
 injection e3 with e3
 subst e3
 refine Q8 hs hgl hd (v:=.pointer (some ⟨g,i*nc σ+Qk σ p+QB (fty τ) f,none⟩)) ?_ (.inr ⟨_,.tq j i (p++[f]) σ σ' b D u g n c hr0 hl hi (GX htp hσ) (GY htp hq hst),?_⟩) hK
 ·unfold execOp
  simp[ho,Instr.fieldAt,run_underlying hu,hfd,e2,Instr.sureAddr,fieldPlace,Qz (hE.ty _ _ hdt),Nat.ne_of_gt hpos,hoff,Addr.add_lit]
 ·rw[Dm htp,<-Nat.add_assoc];rfl
theorem Q2S {T:TypeId}{τ:Ty}{x:Operand}{f:Nat}{j:Nat}{σ0:Ty}{a' b':AV}{y:den τ}{σ:Ty}{z:den σ}(ho:o.op= .field T x f)(hτ:E.ty T=some τ)(hst:stT τ f=true)(hx:ev E st x= .tv j τ)(hr:st.row j=some (.box σ0 (.tup [a',b',.t τ y])))(hz:QH (.t τ y) f=some (.t σ z))
  (hK:Nx E w0 B pv S ρ st o.dst (quiet (vw1 j none [f] σ z)) id K):o.wp P a w K Q:=by
 have ht:=hE.ty T τ hτ
 obtain⟨fs,d,σ',hu,hfd,hσ,hoff,hdt,hpos⟩:=Xt ht hst
 have e1:=Qj hgl hs x
 rw[hx]at e1
 obtain⟨b,cs,D,u,hr',hl,e2,_⟩:=DW e1
 obtain⟨rfl,hsl',hsw,htr,_⟩:=Jv hs.hs hr hl
 obtain⟨h4,h5,T1,h6,h7,_⟩:=htr.field hst hz
 rw[hσ]at h4
 cases h4
 have hag:agT σ0=true:=by
  cases σ0<;>simp only[stT]at hst<;>first
   |rfl
   |(simp[fty,Nat.blt]at hst;done)
   |cases hst
 have Yw:a.eval x= .agg cs.toArray:=by rw[e2,valOf,isAg,hag];rfl
 have hrun:(execOp a.eval o).run P w= .ok (.value (valOf (.t σ z) ((cs.drop (QB (fty σ0) f)).take (nc σ)))) w:=by
  unfold execOp
  simp only[ho,Instr.field,Sem.run_bind,run_underlying hu,Result.andThen_ok,hfd,Yw,asAgg,Sem.run_pure,hoff]
  have hp:=KD (w:=w) (S:=S) (ρ:=ρ) (row:=st.row) (pv:=pv) (cur:=cs) (o:=QB (fty σ0) f) (hE.ty _ _ hdt) (.hole σ) (.hole σ _ h7.cr.len (λq hq=>h7.cr.one q hq)) h5
  rw[hp]
  rfl
 refine Q8 hs hgl hd hrun ?_ hK
 unfold vw1
 cases hsl:slT σ with
 |false=>exact .inr ⟨_,.t σ z _ (J5 hsl h7.cr),rfl⟩
 |true=>
  cases σ with
  |sl θ=>
   obtain⟨u1,hu1⟩:=YL h7
   rw[hu1]
   refine .inr ⟨_,.vw j none [f] θ σ0 _ cs D u u1 hr hl (.root σ0 [f] _ u1 (by simp only[tyP,hσ]) (by simp only[pOk,hst,Bool.and_true]) ?_) ?_,rfl⟩
   ·simp only[Qk,Nat.add_zero]
    have:((cs.drop (QB (fty σ0) f)).take (nc (.sl θ)))[0]? =some u1:=by rw[hu1];rfl
    rw[show nc (.sl θ)=1 from rfl,List.take_one,List.head?_drop]at this
    cases hx1:cs[QB (fty σ0) f]? with
    |none=>rw[hx1]at this;cases this
    |some q=>rw[hx1]at this;simpa using this
   ·rw[hu1]at h7
    rcases XZ h7 with⟨_,rfl⟩|⟨g',c',rfl,_⟩<;>rfl
  |_=>exact .inl rfl
theorem Q2T {T:TypeId}{x ix:Operand}{i:Int}{τ:Ty}{j:Nat}{σ0:Ty}{a' b':AV}{xs:List (den τ)}(ho:o.op= .indexAddr T x ix)(hT:E.ty T=some (.sl τ))(hx:ev E st x= .tv j (.sl τ))(hi:ev E st ix= .t (.int .i64) i)(hr:st.row j=some (.box σ0 (.tup [a',b',.t (.sl τ) xs])))(h0:0<=i)(h1:i<(xs.length:Int))
  (hK:Nx E w0 B pv S ρ st o.dst (quiet (.tq j i.toNat [])) id K):o.wp P a w K Q:=by
 have e2:=Qj hgl hs ix
 rw[hi]at e2
 have e1:=Qj hgl hs x
 rw[hx]at e1
 obtain⟨b,cs,D,u,hr',hl,e3,_⟩:=DW e1
 obtain⟨rfl,hsl',hsw,htr,_⟩:=Jv hs.hs hr hl
 obtain⟨t,hu,_,hte,_⟩:=(hE.ty _ _ hT).und
 obtain⟨z,rfl⟩:=YL htr
 have hlt:i.toNat<xs.length:=by omega
 rcases XZ htr with⟨rfl,_⟩|⟨g,c,rfl,hg⟩
 ·simp at hlt
 refine Q8 hs hgl hd (v:=.pointer (some ⟨g,i.toNat*nc τ,none⟩)) ?_ (.inr ⟨_,.tq j i.toNat [] τ τ _ D u g xs.length c hr hl hlt rfl rfl,by simp[valOf,isAg,Qk]⟩) hK
 have e3:a.eval x= .slice (some ⟨g,0,none⟩) xs.length c:=e3
 unfold execOp
 simp[ho,e3,Qm e2,Instr.indexAt,asIntOf,run_underlying hu,h0,h1,Qz (hE.ty _ _ hte),Addr.add_lit]
theorem Q5E {args:Array Operand}{ats:Array TypeId}{n:Int}(ho:o.op= .call {callee:=.builtin .len,args:=args,argTypes:=ats})(hl:Q3D st.row E ats.toList (Qx (ev E st) args.toList)=some n)
  (hK:Nx E w0 B pv S ρ st o.dst (quiet (.t (.int .i64) n)) id K):o.wp P a w K Q:=by
 have one:∀{T:Nat} {b:AV} {ρ':Ty} {z:Nat} {A:Option Addr} {c:Nat},ats.toList=[T]->Qx (ev E st) args.toList=[b]->E.ty T=some (.sl ρ')->n=(z:Int)->(∀v,VR S w ρ st.row pv b v->v= .slice A z c)->o.wp P a w K Q:=λ{T b ρ' z A c} h1 h2 h3 h4 h5=>by
  obtain⟨x,hx⟩:∃x,args= #[x]/\ev E st x=b:=by
   rw[Y8]at h2
   match h:args.toList,h2 with
   |[x],hargs=>exact⟨x,Array.toList_inj.1 (by rw[h]),by simpa using hargs⟩
   |[],hargs=>simp at hargs
   |_::_::_,hargs=>simp at hargs
  obtain⟨rfl,rfl⟩:=hx
  have hats:ats= #[T]:=Array.toList_inj.1 (by rw[h1])
  subst hats
  have e1:=h5 _ (Qj hgl hs x)
  obtain⟨t,hu,_⟩:=(hE.ty _ _ h3).und
  refine Q8 hs hgl hd (v:=.int .i64 n) (Jf ho ?_) (.inr ⟨_,.t _ _ _ (.int _ _),rfl⟩) hK
  subst h4
  simp[builtin,Builtin.len_,run_underlying hu,e1,goInt]
 unfold Q3D at hl
 split at hl
 ·rename_i T j τ h1 h2
  split at hl
  ·rename_i ρ' σ0 a' b' σ xs hT hr
   split at hl
   ·rename_i e e' _ _
    subst e;subst e'
    cases hl
    have key:∃A c,∀v,VR S w ρ st.row pv (.tv j (.sl ρ')) v->v= .slice A xs.length c:=by
     by_cases hex:∃cs D u,ρ j=some (.tree cs D u)
     ·obtain⟨cs,D,u,hlj⟩:=hex
      obtain⟨rfl,_,_,htr,_⟩:=Jv hs.hs hr hlj
      obtain⟨z,rfl⟩:=YL htr
      have hz:∃A c,z= .slice A xs.length c:=by
       rcases XZ htr with⟨h,rfl⟩|⟨g,c,rfl,_⟩
       ·rw[h];exact⟨_,_,rfl⟩
       ·exact⟨_,_,rfl⟩
      obtain⟨A,c,rfl⟩:=hz
      refine⟨A,c,λv hv=>?_⟩
      obtain⟨b,cs',D',u',_,hl',e2,_⟩:=DW hv
      rw[hlj]at hl'
      cases hl'
      exact e2
     ·exact⟨none,0,λv hv=>by
       obtain⟨b,cs',D',u',_,hl',_⟩:=DW hv
       exact absurd ⟨_,_,_,hl'⟩ hex⟩
    obtain⟨A,c,key⟩:=key
    exact one h1 h2 hT rfl key
   ·cases hl
  ·cases hl
 ·rename_i T j q p τ h1 h2
  split at hl
  ·rename_i ρ' σ0 a' b' σ x' hT hr
   split at hl
   ·rename_i θ xs hxs
    split at hl
    ·rename_i e e' _ _
     subst e;subst e'
     cases hl
     have key:∀v,VR S w ρ st.row pv (.vw j q p ρ') v->∃A c,v= .slice A xs.length c:=λv hv=>by
      obtain⟨σ1,b1,cs,D,u,hr',hlj,hpl⟩:=Q2Q hv
      obtain⟨rfl,_,hsw,htr,_⟩:=Jv hs.hs hr hlj
      rw[hr]at hr'
      cases hr'
      obtain⟨T1,_,k2,_⟩:=htr.focus hsw hxs hpl
      rcases XZ k2 with⟨h,rfl⟩|⟨g,c,rfl,_⟩
      ·rw[h];exact⟨_,_,rfl⟩
      ·exact⟨_,_,rfl⟩
     obtain⟨x,hx⟩:∃x,args= #[x]/\ev E st x= .vw j q p ρ':=by
      rw[Y8]at h2
      match h:args.toList,h2 with
      |[x],hargs=>exact⟨x,Array.toList_inj.1 (by rw[h]),by simpa using hargs⟩
      |[],hargs=>simp at hargs
      |_::_::_,hargs=>simp at hargs
     have e1:=Qj hgl hs x
     rw[hx.2]at e1
     obtain⟨A,c,e4⟩:=key _ e1
     refine one h1 h2 hT rfl (A:=A) (c:=c) λv hv=>?_
     have hvv:v=a.eval x:=by
      obtain⟨σ1,b1,cs,D,u,hr1,hl1,hp1⟩:=Q2Q hv
      obtain⟨σ2,b2,cs',D',u',hr2,hl2,hp2⟩:=Q2Q e1
      rw[hr1]at hr2
      rw[hl1]at hl2
      cases hr2;cases hl2
      exact hp1.same hp2
     rw[hvv,e4]
    ·cases hl
   ·cases hl
  ·cases hl
 ·cases hl
end
end Go.Gx
end
section
/- Trees: calls;trees put together and taken apart. -/
namespace Go.Gx
open Go.RowKit
theorem DX:∀(l:List (Nat×Row)) (st:St),(st.setRows l).nt=st.nt
 |[],st=>rfl
 |p::l,st=>DX l (st.setRow p.1 p.2)
section
variable {w0:World} {B:Old} {pv:Nat->Value} {S S':Nat->Prop} {ρ ρ':Nat->Option Loc} {st:St} {a:Act} {w w':World}
theorem Xv (h:Sim w0 B pv S ρ st a w){r:AV}{v:Value}{T:Nat->Prop}(hr:RT1 w pv r v T)(hO:∀b,T b->OB w b){id:Nat}(hid:ρ id=none){b:AV}{l:List (Nat×Row)}(hi:Jb id r (λb l=>some (b,l))=some (b,l))
  (hg:∀g,T g->¬B g/\¬S g/\∀j l',ρ j=some l'->l'.has g->st.row j=none) :
  ∃ρ',Sim w0 B pv S ρ' (st.setRows l) a w/\(∃cs,AR S w ρ' (st.setRows l).row pv b cs/\v=valOf b cs)/\(∀j,j≠id->ρ' j=ρ j/\(st.setRows l).row j=st.row j)/\∀j l' g0,ρ' j=some l'->l'.has g0->(j≠id/\ρ j=some l')\/T g0:=by
 have same:l=[]->(∃cs,AR S w ρ st.row pv b cs/\v=valOf b cs)->∃ρ',Sim w0 B pv S ρ' (st.setRows l) a w/\(∃cs,AR S w ρ' (st.setRows l).row pv b cs/\v=valOf b cs)/\(∀j,j≠id->ρ' j=ρ j/\(st.setRows l).row j=st.row j)/\∀j l' g0,ρ' j=some l'->l'.has g0->(j≠id/\ρ j=some l')\/T g0:=λe k=>by
  subst e
  exact⟨ρ,h,k,λj _=>⟨rfl,rfl⟩,λj l' g0 hj _=>.inl ⟨(by rintro rfl;rw[hid]at hj;cases hj),hj⟩⟩
 have tail:∀(l0:Loc) (r0:Row),(∀g,l0.has g->T g)->(∀j,j≠id->upd ρ id l0 j=ρ j/\(st.setRow id r0).row j=st.row j)/\∀j l' g0,upd ρ id l0 j=some l'->l'.has g0->(j≠id/\ρ j=some l')\/T g0:=λl0 r0 hT=>by
  refine⟨λj hj=>⟨by simp[upd,hj],by rw[Q1,if_neg hj]⟩,λj l' g0 hj hb=>?_⟩
  by_cases e:j=id
  ·subst e
   rw[Qp]at hj
   cases hj
   exact .inr (hT g0 hb)
  ·simp only[upd,if_neg e]at hj
   exact .inl ⟨e,hj⟩
 cases hr with
 |flat τ x cs _ hs hc=>
  simp only[Jb,hs,cond_false,Option.some.injEq,Prod.mk.injEq]at hi
  obtain⟨rfl,rfl⟩:=hi
  exact same rfl ⟨cs,.t τ x cs (J5 hs hc),rfl⟩
 |weak τ x _ _ hs=>
  simp only[Jb,hs,cond_true]at hi
  cases hi
 |nil=>
  cases hi
  exact same rfl ⟨_,.nil,rfl⟩
 |fr e τ xs g cap _ hs hT hrow=>
  simp only[Jb,hs,cond_false,Option.some.injEq,Prod.mk.injEq]at hi
  obtain⟨rfl,rfl⟩:=hi
  have hrow':∀ρ' row',QG S w ρ' row' pv (.flat e τ xs false true) (.at g cap):=λρ' row'=>by
   obtain⟨cur,f,h1,h2,h3,h4,h5,h6,h7,h8⟩:=hrow
   exact⟨cur,f,h1,h2,h3,h4,h5,h6,h7,λi hi=>(h8 i hi).imp λcs hc=>⟨J5 hs hc.1,hc.2⟩⟩
  obtain⟨t1,t2⟩:=tail (.at g cap) (.flat e τ xs false true) (λg' e=>by cases e;exact hT)
  exact⟨upd ρ id (.at g cap),h.adopt hid rfl (λg' e=>by cases e;exact hg g hT) hrow',⟨_,.own id e τ xs false true g cap (by simp only[St.setRows];rw[Q1,if_pos rfl]) (Qp _ _ _),rfl⟩,t1,t2⟩
 |frNil e τ _ hs hpos=>
  simp only[Jb,hs,cond_false,Option.some.injEq,Prod.mk.injEq]at hi
  obtain⟨rfl,rfl⟩:=hi
  obtain⟨t1,t2⟩:=tail .nilrow (.flat e τ [] false true) (λg' e=>False.elim e)
  exact⟨upd ρ id .nilrow,h.adopt hid rfl (λg' e=>False.elim e) (λ_ _=>⟨rfl,rfl,hpos⟩),⟨_,.ownNil id e τ false true (by simp only[St.setRows];rw[Q1,if_pos rfl]) (Qp _ _ _),rfl⟩,t1,t2⟩
 |tr τ x cs _ hs hc=>
  simp only[Jb,hs,cond_true,Option.some.injEq,Prod.mk.injEq]at hi
  obtain⟨rfl,rfl⟩:=hi
  obtain⟨t1,t2⟩:=tail (.tree cs T w) (QP 0 false τ x) (λg' e=>e)
  exact⟨upd ρ id (.tree cs T w),h.adopt hid rfl (λg' e=>hg g' e) (λ_ _=>⟨hs,Yg hO,0,false,x,rfl,hc,λh=>by cases h⟩),
   ⟨cs,.tv id τ _ cs T w (by simp only[St.setRows];rw[Q1,if_pos rfl];rfl) (Qp _ _ _) hc.cr.len hc.cr.one,rfl⟩,t1,t2⟩
theorem Q6V (h:Sim w0 B pv S ρ st a w){n0:Nat}(hB:∀k,B k->k<n0)(hS:∀k,S k->k<n0){r:AV}{v:Value}(hr:RT w n0 (λ_=>False) pv r v){id:Nat}(hid:∀c,c<4->ρ (id+c)=none){b:AV}{l:List (Nat×Row)}(hi:JQ id r (λb l=>some (b,l))=some (b,l))
  (hlow:∀j l b,ρ j=some l->st.row j≠none->l.has b->b<n0) :
  ∃ρ',Sim w0 B pv S ρ' (st.setRows l) a w/\VR S w ρ' (st.setRows l).row pv b v/\(∀j,ρ j=none->¬(id<=j/\j<id+4)->ρ' j=none):=by
 have ge:∀{T:Nat->Prop},Q5v w n0 (λ_=>False) T->∀g,T g->n0<=g:=λh g hg=>(h g hg).1.resolve_right λh=>h
 have low:∀{T:Nat->Prop},Q5v w n0 (λ_=>False) T->∀g,T g->¬B g/\¬S g/\∀j l',ρ j=some l'->l'.has g->st.row j=none:=λh1 g hg=>by
  have:=ge h1 g hg
  refine⟨λhb=>by have:=hB g hb;omega,λhb=>by have:=hS g hb;omega,λj l' hj hb=>?_⟩
  apply Classical.byContradiction
  intro hn
  have:=hlow j l' g hj hn hb
  omega
 have h0:ρ id=none:=by simpa using hid 0 (by omega)
 have single:∀{r},(∃T,RT1 w pv r v T/\Q5v w n0 (λ_=>False) T)->Jb id r (λb l=>some (b,l))=some (b,l)->∃ρ',Sim w0 B pv S ρ' (st.setRows l) a w/\VR S w ρ' (st.setRows l).row pv b v/\(∀j,ρ j=none->¬(id<=j/\j<id+4)->ρ' j=none):=λ{r} ⟨T,hT,hn⟩ hi=>by
  obtain⟨ρ',h1,⟨cs,h2,h3⟩,h4,h5⟩:=Xv h hT (λb hb=>(hn b hb).2) h0 hi (low hn)
  exact⟨ρ',h1,.inr ⟨cs,h2,h3⟩,λj hj hn=>by rw[(h4 j (by omega)).1];exact hj⟩
 cases r with
 |tup rs=>
  obtain⟨vs,Ts,rfl,hvl,h1,hd⟩:=hr
  match rs,hi,hvl,h1 with
  |[],hi,_,_=>simp[JQ]at hi
  |[_],hi,_,_=>simp[JQ]at hi
  |[x,y],hi,hvl,h1=>
   match vs,hvl with
   |[v1,v2],_=>
    obtain⟨r1,n1⟩:=h1 0 x v1 rfl rfl
    obtain⟨r2,n2⟩:=h1 1 y v2 rfl rfl
    simp only[JQ]at hi
    obtain⟨b1,l1,e1,hi⟩:=QC hi
    obtain⟨b2,l2,e2,hi⟩:=QC hi
    cases hi
    obtain⟨ρ1,s1,⟨c1,a1,rfl⟩,k1,m1⟩:=Xv h r1 (λb hb=>(n1 b hb).2) h0 e1 (low n1)
    have f1:ρ1 (id+1)=none:=by rw[(k1 _ (by omega)).1];exact hid 1 (by omega)
    obtain⟨ρ2,s2,⟨c2,a2,rfl⟩,k2,m2⟩:=Xv s1 r2 (λb hb=>(n2 b hb).2) f1 e2 (λg0 hg=>⟨(low n2 g0 hg).1,(low n2 g0 hg).2.1,λj c hj hb=>by
     rcases m1 j c g0 hj hb with⟨hj1,hj2⟩|e'
     ·rw[(k1 j hj1).2];exact(low n2 g0 hg).2.2 j c hj2 hb
     ·exact absurd hg (hd 0 1 g0 (by omega) e')⟩)
    rw[Ja]
    have a1':=a1.ext (P:=λ_=>True) (S':=S) (w':=w) (ρ':=ρ2) (row':=((st.setRows l1).setRows l2).row) (λ_ h=>h) (λ_ _=>rfl) (λj l r _ h3 h4=>by
     have hj:j≠id+1:=by rintro rfl;rw[f1]at h3;cases h3
     exact⟨(k2 j hj).1.trans h3,r,(k2 j hj).2.trans h4,.refl r⟩) (λ_ _=>trivial)
    refine⟨ρ2,s2,.inr ⟨_,.tup [b1,b2] [c1,c2] rfl (λi b c hb hc=>?_),rfl⟩,λj hj hn=>?_⟩
    ·match i,hb,hc with
     |0,hb,hc=>cases hb;cases hc;exact a1'
     |1,hb,hc=>cases hb;cases hc;exact a2
     |i+2,hb,hc=>simp at hb
    ·rw[(k2 j (by omega)).1,(k1 j (by omega)).1];exact hj
  |[x,y,z],hi,hvl,h1=>
   match vs,hvl with
   |[v1,v2,v3],_=>
    obtain⟨r1,n1⟩:=h1 0 x v1 rfl rfl
    obtain⟨r2,n2⟩:=h1 1 y v2 rfl rfl
    obtain⟨r3,n3⟩:=h1 2 z v3 rfl rfl
    simp only[JQ]at hi
    obtain⟨b1,l1,e1,hi⟩:=QC hi
    obtain⟨b2,l2,e2,hi⟩:=QC hi
    obtain⟨b3,l3,e3,hi⟩:=QC hi
    cases hi
    obtain⟨ρ1,s1,⟨c1,a1,rfl⟩,k1,m1⟩:=Xv h r1 (λb hb=>(n1 b hb).2) h0 e1 (low n1)
    have f1:ρ1 (id+1)=none:=by rw[(k1 _ (by omega)).1];exact hid 1 (by omega)
    obtain⟨ρ2,s2,⟨c2,a2,rfl⟩,k2,m2⟩:=Xv s1 r2 (λb hb=>(n2 b hb).2) f1 e2 (λg0 hg=>⟨(low n2 g0 hg).1,(low n2 g0 hg).2.1,λj c hj hb=>by
     rcases m1 j c g0 hj hb with⟨hj1,hj2⟩|e'
     ·rw[(k1 j hj1).2];exact(low n2 g0 hg).2.2 j c hj2 hb
     ·exact absurd hg (hd 0 1 g0 (by omega) e')⟩)
    have f2:ρ2 (id+2)=none:=by rw[(k2 _ (by omega)).1,(k1 _ (by omega)).1];exact hid 2 (by omega)
    obtain⟨ρ3,s3,⟨c3,a3,rfl⟩,k3,m3⟩:=Xv s2 r3 (λb hb=>(n3 b hb).2) f2 e3 (λg0 hg=>⟨(low n3 g0 hg).1,(low n3 g0 hg).2.1,λj c hj hb=>by
     rcases m2 j c g0 hj hb with⟨hj1,hj2⟩|e'
     ·rcases m1 j c g0 hj2 hb with⟨hj3,hj4⟩|e'
      ·rw[(k2 j hj1).2,(k1 j hj3).2];exact(low n3 g0 hg).2.2 j c hj4 hb
      ·exact absurd hg (hd 0 2 g0 (by omega) e')
     ·exact absurd hg (hd 1 2 g0 (by omega) e')⟩)
    rw[Ja,Ja]
    have a1':=a1.ext (P:=λ_=>True) (S':=S) (w':=w) (ρ':=ρ3) (row':=(((st.setRows l1).setRows l2).setRows l3).row) (λ_ h=>h) (λ_ _=>rfl) (λj l r _ h3 h4=>by
     have hj:j≠id+1:=by rintro rfl;rw[f1]at h3;cases h3
     have hj2:j≠id+2:=by rintro rfl;rw[(k1 _ (by omega)).1,hid 2 (by omega)]at h3;cases h3
     exact⟨(k3 j hj2).1.trans ((k2 j hj).1.trans h3),r,(k3 j hj2).2.trans ((k2 j hj).2.trans h4),.refl r⟩) (λ_ _=>trivial)
    have a2':=a2.ext (P:=λ_=>True) (S':=S) (w':=w) (ρ':=ρ3) (row':=(((st.setRows l1).setRows l2).setRows l3).row) (λ_ h=>h) (λ_ _=>rfl) (λj l r _ h3 h4=>by
     have hj2:j≠id+2:=by rintro rfl;rw[f2]at h3;cases h3
     exact⟨(k3 j hj2).1.trans h3,r,(k3 j hj2).2.trans h4,.refl r⟩) (λ_ _=>trivial)
    refine⟨ρ3,s3,.inr ⟨_,.tup [b1,b2,b3] [c1,c2,c3] rfl (λi b c hb hc=>?_),rfl⟩,λj hj hn=>?_⟩
    ·match i,hb,hc with
     |0,hb,hc=>cases hb;cases hc;exact a1'
     |1,hb,hc=>cases hb;cases hc;exact a2'
     |2,hb,hc=>cases hb;cases hc;exact a3
     |i+3,hb,hc=>simp at hb
    ·rw[(k3 j (by omega)).1,(k2 j (by omega)).1,(k1 j (by omega)).1];exact hj
  |_::_::_::_::_,hi,_,_=>simp[JQ]at hi
 |_=>exact single hr (by simpa only[JQ]using hi)
end
section
variable {P:Program} {E:Env} {w0:World} {B:Old} {pv:Nat->Value} {S:Nat->Prop} {ρ:Nat->Option Loc} {st:St} {a:Act} {w:World} {o:Oper} {id:Nat} {K:Act->World->Prop} {Q:Exit->Act->World->Prop}
theorem Q16 (h:HS S w ρ st.row pv B){i:Nat}{r0:Row}{l:Loc}(hri:st.row i=some r0)(hli:ρ i=some l)(hf:frz r0=false):∀{n m:Nat} {a b:AV} {cs:List Value},Q0K i n a=true->Q2 st.row m a=some b->AR S w ρ st.row pv a cs->AR (λb=>b<w.heap.size/\¬l.has b) w (λ_=>none) (λ_=>none) pv b cs
 |0,m,a,b,cs,hp,_,_=>by cases hp
 |n+1,0,a,b,cs,hp,hc,_=>by simp[Q2]at hc
 |n+1,m+1,a,b,cs,hp,hc,ha=>by
  have hS:∀b,S b->b<w.heap.size/\¬l.has b:=λb hb=>⟨h.stab b hb,λhb'=>(h.apart0 i r0 l b hli hri hb').2.1 hf hb⟩
  have far:∀{j:Nat} {r:Row} {l':Loc},(!Nat.beq j i)=true->st.row j=some r->ρ j=some l'->∀b,l'.has b->b<w.heap.size/\¬l.has b:=λ{j r l'} hj hr hl b hb=>by
   refine⟨(h.rows j r l' hr hl).has_lt hb,λhb'=>?_⟩
   have:=h.inj0 j i l' l b hl hli (by rw[hr];simp) (by rw[hri];simp) hb hb'
   subst this
   rw[Nat.beq_refl]at hj
   cases hj
  cases ha with
  |t τ x _ hx=>
   simp only[Q2,Option.some.injEq]at hc
   subst hc
   exact .t _ _ _ (hx.mono hS λ_ _=>rfl)
  |nil=>
   simp only[Q2,Option.some.injEq]at hc
   subst hc
   exact .nil
  |own j e τ xs fz app g cap hr hl=>
   simp only[Q2,hr,Option.some.injEq]at hc
   subst hc
   exact .t _ _ _ (XV h hS hr hl (far hp hr hl g rfl))
  |ownNil j e τ fz app hr hl=>
   simp only[Q2,hr,Option.some.injEq]at hc
   subst hc
   exact .t _ _ _ (Jr _ w τ)
  |tv j τ b0 _ T v hr hl hcl h1=>
   obtain⟨_,h2,e,ap,x,rfl,h3,_⟩:=h.rows j _ _ hr hl
   simp only[Q2,hr]at hc
   split at hc
   ·cases hc
    exact .t τ x _ (h3.cr.mono (λb hb=>far hp hr hl b hb) λ_ _=>rfl)
   ·cases hc
  |vw j q p τ σ b0 cs0 T v u hr hl hv h1=>
   obtain⟨_,h2,e,ap,x,rfl,h3,_⟩:=h.rows j _ _ hr hl
   simp only[Q2,hr]at hc
   split at hc
   ·rename_i ρ' y hy
    split at hc
    ·rename_i e' _
     subst e'
     cases hc
     exact .t _ y _ ((Q0W h2 h3.cr hy hv).mono (λb hb=>far hp hr hl b hb) λ_ _=>rfl)
    ·cases hc
   ·cases hc
  |agg τ fs css hl hh=>
   simp only[Q2]at hc
   split at hc
   ·rename_i gs hgs
    obtain⟨m1,m2⟩:=JH hgs
    obtain⟨x,rfl,hx⟩:=YI (ρ:=λ_=>none) (row:=λ_=>none) (pv:=pv) hc ⟨css,rfl,m1.trans hl,λk g c hg hcs=>by
     obtain⟨a,k1,k2⟩:=m2 k g hg
     exact Q16 h hri hli hf (Ju (f:=Q0K i n) hp a (List.mem_of_getElem? k1)) k2 (hh k a c k1 hcs)⟩
    exact .t τ x _ hx
   ·cases hc
  |_=>simp[Q0K]at hp
variable (hs:Sim w0 B pv S ρ st a w) (hgl:Qr E pv S w) (hd:J9 o st.nt=true)
include hs hgl hd
variable {G:Cal->List AV->AV->Prop} (hG:GOk P E pv G)
include hG
theorem Q42 {args:Array Operand}{ats:Array TypeId}{f:Operand}{g:Nat}{caps:List AV}{u:Upd}(ho:o.op= .call {callee:=.value f,args:=args,argTypes:=ats})(hf:ev E st f= .clo g caps)(hid:∀c,c<4->ρ (id+c)=none)
  (h:Q6q G st.row id g (Qx (ev E st) args.toList++caps) u) (hK:Nx E w0 B pv S ρ st o.dst u id K):o.wp P a w K Q:=by
 obtain⟨vs,hvl,hva,hrun⟩:=Xd (P:=P) hs hgl ho hf
 obtain⟨cl,r,av,news,hcl,hg,hi,rfl⟩:=h
 have hm:=(hG _ _ _ hg).2.2.2.1 g cl rfl rfl
 obtain⟨hl1,hl2⟩:=JH hcl
 have hall:QY (λb=>b<w.heap.size) w pv cl vs:=by
  refine⟨hvl.trans hl1.symm,λi b v hb hv=>?_⟩
  obtain⟨c,h1,h2⟩:=hl2 i b hb
  obtain⟨cs,h3,h4⟩:=Qw (hva i c v h1 hv) (by rintro rfl;simp[Q2]at h2)
  exact⟨cs,Jc hs.hs hs.hs.stab h2 h3 (.inl λ_ h=>h),by rw[h4,valOf,valOf,Jy h2]⟩
 refine Jz (hrun _ (QD.mono (hm (λb=>b<w.heap.size) w vs (λ_ h=>h) (hgl.mono hs.hs.stab λ_ _=>rfl) hall) λv w' ⟨hb,hr⟩=>?_))
 have hold:∀b,b<w.heap.size->w'.heap[b]? =w.heap[b]?:=λb hb'=>hb.block b hb'
 have h1:=hs.growX (w':=w') (S':=S) (hs.below.trans (Blw.of hb hs.hB)) hb.size (λb hb'=>hold b (hs.hs.stab b hb')) (λj r l g h1 h2 h3=>hold g ((hs.hs.rows j r l h2 h1).has_lt h3)) (λ_ h=>h) (λb hb'=>.inl hb')
 obtain⟨ρ',h2,h3,h4⟩:=Q6V h1 hs.hB hs.hs.stab hr hid hi (λj l b hj hr' hb'=>by
  cases hrj:st.row j with
  |none=>exact absurd hrj hr'
  |some r0=>exact(hs.hs.rows j r0 l hrj hj).has_lt hb')
 have hnt:(st.setRows news).nt=st.nt:=DX news st
 refine hK S ρ' _ w' (h2.put (by rw[hnt];exact QK hd) h3) (hgl.mono (λ_ h=>h) λb hb'=>hold b (hs.hs.stab b hb')) (Grew.refl _ _) h4
theorem Q2U {args:Array Operand}{ats:Array TypeId}{f:Operand}{g:Nat}{caps:List AV}{u:Upd}{dr:Bool}(ho:o.op= .call {callee:=.value f,args:=args,argTypes:=ats})(hf:ev E st f= .clo g caps)
  (h:Q3J G st.row dr g (Qx (ev E st) args.toList++caps) u) (hK:Nx E w0 B pv S ρ st o.dst u id K):o.wp P a w K Q:=by
 obtain⟨vs,hvl,hva,hrun⟩:=Xd (P:=P) hs hgl ho hf
 have fin:∀{j:Nat} {σ:Ty} {b0:AV} {cs:List Value} {T:Nat->Prop} {v0:World} {x':den σ} {m:Int} {T1:Nat->Prop} {v':Value} {w':World},st.row j=some (.box σ b0)->ρ j=some (.tree cs T v0)->(∀b,T1 b->T b)->slT σ=true->JD T v0 w'->TR w' T σ x' cs->v'= .int .i64 m->Blw ⟨λb=>b<w.heap.size/\¬T1 b,none⟩ w w'->
   Nx E w0 B pv S ρ st o.dst ⟨.t (.int .i64) m,[],[],none,some (j,QP 0 false σ x')⟩ id K->K (a.put o.dst v') w':=λ{j σ b0 cs T v0 x' m T1 v' w'} hr hl hT hsl hsw htr hv hb hK=>by
  subst hv
  have hap:=λb hb=>hs.hs.apart0 j _ _ b hl hr hb
  have h1:=hs.sto (w':=w') (r':=QP 0 false σ x') (hs.below.trans ⟨hb.os,hb.tape,hb.output,hb.size,λq hq=>hb.block q ⟨hs.hB q hq,λhq'=>(hap q (hT q hq')).1 hq⟩⟩) hr hl (.box _ _ _) rfl rfl hb.size (λq hq hn=>hb.block q ⟨hq,λhq'=>hn (hT q hq')⟩) λrow' _=>
   ⟨hsl,hsw,0,false,x',rfl,htr,λh=>by cases h⟩
  exact hK S ρ _ w' (h1.put (QK hd) (.inr ⟨_,.t _ _ _ (.int .i64 m),rfl⟩)) (hgl.mono (λ_ h=>h) λq hq=>hb.block q ⟨hs.hs.stab q hq,λhq'=>(hap q (hT q hq')).2.1 rfl hq⟩) (Grew.refl _ _) (λ_ h _=>h)
 obtain⟨_,k,m,⟨j,τ,σ0,a',b',x,y,e,hr,hg,rfl⟩|⟨j,q,p,τ,σ0,a',b',σ,x,x',z,y,e,hr,hz,hg,hx',rfl⟩⟩:=h
 ·rw[e]at hvl hva
  match vs,hvl with
  |[v0,v1],_=>
  have e0:=hva 0 _ v0 rfl rfl
  have e1:=Qm (hva 1 _ v1 rfl rfl)
  subst e1
  obtain⟨b0,cs,T,u,hr',hl,rfl,_⟩:=DW e0
  obtain⟨rfl,hsl,hsw,htr,_⟩:=Jv hs.hs hr hl
  have hm:=(hG _ _ _ hg).2.2.2.2.2 g σ0 x k y m rfl rfl hsl rfl S T u w cs hs.hs.stab hgl (λb hb hT=>(hs.hs.apart0 j _ _ b hl hr hT).2.1 rfl hb) hsw htr
  exact Jz (hrun _ (QD.mono hm λv w' ⟨hv,hb,hsw',htr'⟩=>fin hr hl (λ_ h=>h) hsl hsw' htr' hv hb hK))
 ·rw[e]at hvl hva
  match vs,hvl with
  |[v0,v1],_=>
  have e0:=hva 0 _ v0 rfl rfl
  have e1:=Qm (hva 1 _ v1 rfl rfl)
  subst e1
  obtain⟨σ1,b0,cs,T,u,hr',hl,hpl⟩:=Q2Q e0
  obtain⟨rfl,hsl,hsw,htr,_⟩:=Jv hs.hs hr hl
  rw[hr]at hr'
  cases hr'
  obtain⟨T1,h1,h2,h3⟩:=htr.focus hsw hz hpl
  have hsw1:JD T1 w w:=Yg λb hb=>Y9 hsw (h1 b hb)
  have hm:=(hG _ _ _ hg).2.2.2.2.2 g (.sl τ) z k y m rfl rfl rfl rfl S T1 w w [v0] hs.hs.stab hgl (λb hb hT=>(hs.hs.apart0 j _ _ b hl hr (h1 b hT)).2.1 rfl hb) hsw1 h2
  refine Jz (hrun _ (QD.mono hm λv w' ⟨hv,hb,hsw',htr'⟩=>?_))
  have hlt:∀b,T b->b<w.heap.size:=λb hb=>(hsw b hb).1
  obtain⟨x2,n1,n2⟩:=h3 w' y (λb hbT hn=>hb.block b ⟨hlt b hbT,hn⟩) htr'
  rw[hx']at n1
  cases n1
  refine fin hr hl h1 hsl (hsw.trans λb hT=>?_) n2 hv hb hK
  by_cases hb1:T1 b
  ·exact⟨(hsw' b hb1).1,Y9 hsw hT,(hsw' b hb1).2.2⟩
  ·have e5:=hb.block b ⟨hlt b hT,hb1⟩
   refine⟨Nat.lt_of_lt_of_le (hlt b hT) hb.size,Y9 hsw hT,?_⟩
   rw[e5]
   exact .refl _
theorem Q43 {args:Array Operand}{ats:Array TypeId}{f:Operand}{g:Nat}{caps:List AV}{u:Upd}{dr:Bool}(ho:o.op= .call {callee:=.value f,args:=args,argTypes:=ats})(hf:ev E st f= .clo g caps)
  (h:Q6r G st.row dr g (Qx (ev E st) args.toList++caps) u) (hK:Nx E w0 B pv S ρ st o.dst u id K):o.wp P a w K Q:=by
 obtain⟨vs,hvl,hva,hrun⟩:=Xd (P:=P) hs hgl ho hf
 obtain⟨_,j,τ,rest,σ0,a',b',x,y,cl,e,hr,hcl,hfree,hjm,hg,rfl⟩:=h
 rw[e]at hvl hva
 match vs,hvl with
 |v0::vs,hvl=>
 have e0:=hva 0 _ v0 rfl rfl
 obtain⟨b0,cs,T,u,hr',hl,rfl,_⟩:=DW e0
 obtain⟨rfl,hsl,hsw,htr,_⟩:=Jv hs.hs hr hl
 have hap:=λb hb=>hs.hs.apart0 j _ _ b hl hr hb
 obtain⟨hl1,hl2⟩:=JH hcl
 have hS1:∀b,S b->b<w.heap.size/\¬T b:=λb hb=>⟨hs.hs.stab b hb,λhT=>(hap b hT).2.1 rfl hb⟩
 have hall:QY (λb=>b<w.heap.size/\¬T b) w pv cl vs:=by
  refine⟨by simp only[List.length_cons]at hvl;omega,λi b v hb hv=>?_⟩
  obtain⟨c,h1,h2⟩:=hl2 i b hb
  obtain⟨cs',h3,h4⟩:=Qw (hva (i+1) c v (by simpa using h1) (by simpa using hv)) (by rintro rfl;simp[Q2]at h2)
  exact⟨cs',Q16 hs.hs hr hl rfl (Ju hfree c (List.mem_of_getElem? h1)) h2 h3,by rw[h4,valOf,valOf,Jy h2]⟩
 have hm:=(hG _ _ _ hg).2.2.2.2.1 g σ0 x cl y rfl rfl hsl rfl (λb=>b<w.heap.size/\¬T b) T u w cs vs (λ_ h=>h.1) (hgl.mono hS1 λ_ _=>rfl) (λb hb=>hb.2) hsw htr hall
 refine Jz (hrun _ (QD.mono hm λv w' ⟨hb,hr1⟩=>?_))
 obtain⟨T',h1,h2⟩:=hr1
 cases h1 with
 |tr _ _ cs' _ _ htr'=>
 have hm1:=hs.app (w':=w') (r':=QP 0 false σ0 y) (l':=.tree cs' T' w') (hs.below.trans ⟨hb.os,hb.tape,hb.output,hb.size,λq hq=>hb.block q ⟨hs.hB q hq,λhT=>(hap q hT).1 hq⟩⟩) hjm hr hl rfl rfl hb.size (λb hb1 hn=>hb.block b ⟨hb1,hn⟩)
  (λb hb1=>(h2 b hb1).1.symm.imp_right λh=>h) (λρ' row'=>⟨hsl,Yg λb hb1=>(h2 b hb1).2,0,false,y,rfl,htr',λh=>by cases h⟩)
 refine hK S _ _ w' (hm1.put (QK hd) (.inr ⟨cs',.tv j σ0 _ cs' T' w' (by rw[Q1,if_pos rfl];rfl) (Qp _ _ _) htr'.cr.len htr'.cr.one,rfl⟩)) (hgl.mono (λ_ h=>h) λq hq=>hb.block q (hS1 q hq)) (Grew.refl _ _) λi hi _=>?_
 have:i≠j:=by rintro rfl;rw[hl]at hi;cases hi
 simp only[upd,if_neg this,killL,hi]
 cases inR j (j+1) i<;>rfl
end
end Go.Gx
end
