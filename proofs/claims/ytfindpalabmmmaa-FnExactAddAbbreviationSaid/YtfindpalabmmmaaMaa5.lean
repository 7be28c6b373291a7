/- The law FnExactAddAbbreviation returns true for every input: without conditions. -/
import Derived.Test.YtfindpalabmmmaaMaa4
import Derived.Shelf.Vars
import Derived.Below
import Derived.Lib.IndexMore
import Derived.Lib.Split
import Derived.Lib.SplitLaws
import Derived.Lib.Repeat
import Derived.Deep.Draws
import Derived.Lib.Join
import Derived.Lib.SlTrimSet
import Derived.Lib.IndexAny
import Derived.Lib.TrimByte
import Derived.Laws.AppendOwn
import Derived.Lib.ItoaNum
import Derived.Sort.Grow
import Derived.Shelf.Lays2
import Derived.Shelf.RegionOpenPlain
import Derived.WalkKit
import Derived.Lib.Walk
import Derived.Lib.SliceRun
import Derived.Lib.JoinLaws
import Derived.Lib.AppendZeros
import Derived.Lib.AppendZerosOnto
import Derived.Laws.Externs
import Derived.Laws.IdiomCopy
import Derived.Laws.NewBlocks
import Derived.Laws.CopyRow
import Derived.Test.YtfindpalabmmmaaProg
import Derived.KernelRfl
import Derived.Test.YtfindpalabmmmaaRows
import Derived.JoinedOf
import Derived.HandedShaped
set_option linter.unusedVariables false
set_option linter.unusedSimpArgs false
set_option maxRecDepth 100000
section
namespace Go.Gx
open Go.RowKit Go.Lib
theorem Q1B {P:Program}{f:FuncId}{fn:Func}{c:Code}(hf:P.funcs[f]? =some fn)(hb:fn.body=some c)(hname:(fn.name== "runtime.NumGoroutine")=false){args:Array Value}{w:World}{R:Value->World->Prop}
  (h:Calls P f args w λe w'=>∃v,e= .returned v/\R v w'):Goes P f args w R:=by
 have hcall:(callFunc f args).run P w= .ok (.enter f args) w:=by
  have hn':fn.name≠ "runtime.NumGoroutine":=by simpa using hname
  simp[callFunc,hf,hn',hb]
 unfold Goes
 rw[hcall]
 exact h
theorem Q5m {S:Nat->Prop}{w:World}{pv:Nat->Value}{vs:List Value}(h:QV S w pv [] vs):vs=[]:=List.eq_nil_of_length_eq_zero h.1
theorem Q09 {S:Nat->Prop}{w:World}{pv:Nat->Value}{a:AV}{al:List AV}{vs:List Value}(h:QV S w pv (a::al) vs):∃cs vs',AR S w (λ_=>none) (λ_=>none) pv a cs/\vs=valOf a cs::vs'/\QV S w pv al vs':=by
 match vs,h with
 |[],h=>cases h.1
 |v::vs',⟨h1,h2⟩=>
  obtain⟨cs,hc,rfl⟩:=h2 0 a v rfl rfl
  exact⟨cs,vs',hc,rfl,by simpa using h1,λi b u hb hu=>h2 (i+1) b u (by simpa using hb) (by simpa using hu)⟩
theorem Q5n {S:Nat->Prop}{w:World}{pv:Nat->Value}{k:IntKind}{n:Int}{al:List AV}{vs:List Value}(h:QV S w pv (.t (.int k) n::al) vs):∃vs',vs= .int k n::vs'/\QV S w pv al vs':=by
 obtain⟨cs,vs',hc,rfl,h'⟩:=Q09 h
 cases hc with|t _ _ _ hc=>cases hc;exact⟨vs',rfl,h'⟩
section
variable {P:Program} {E:Env} {pv:Nat->Value} {f:FuncId} {fn:Func} {c:Code}
end
end Go.Gx
end
section
/- A library function by its contract: strconv.Itoa. -/
namespace Go.Gx
end Go.Gx
end
section
/- slices.Insert of one element: what the library's own text does to a row,elements of any number of cells (over any program). -/
namespace Go.GxIns
open Go.Shelf Go.RowKit Go.Lib Go.Proofs
variable {P:Program} {ρ:Ren}
theorem XO {P:Program}(w:World)(tS tR e:TypeId)(ht:P.underlying tS=some (.slice e))(size:Nat)(hz:∀w,(Go.sizeOf e).run P w= .ok size w)
  (a b:Addr) (la ca lb cb:Nat) (hne:a.block≠b.block) (tA tB:TypeId) (kA kB:Nat)
  (hsa:w.shape? a.block=some (tA,kA)) (hkA:kA≠0) (hsb:w.shape? b.block=some (tB,kB)) (hkB:kB≠0)
  (hfb:w.frozen? b=false) (hfe:w.frozen? {block:=b.block,off:=kB}=false) :
  (Extern.SlicesOverlaps.overlaps #[tS,tS] #[tR] #[.slice (some a) la ca,.slice (some b) lb cb]).run P w= .ok (.bool false) w:=by
 have hnb:(a.block != b.block)=true:=by simpa using hne
 have hnb':(a.block==b.block)=false:=by simpa using hne
 delta Extern.SlicesOverlaps.overlaps
 delta Extern.SlicesOverlaps.overlaps.match_4
 dsimp only[Array.getLit,Array.casesOn,List.casesOn]
 rw[dif_pos (show(#[Value.slice (some a) la ca,Value.slice (some b) lb cb]).size=2 from rfl)]
 delta Extern.SlicesOverlaps.overlaps._sparseCasesOn_4
 dsimp only[List.getElem_toArray,List.getElem_cons_zero,List.getElem_cons_succ]
 by_cases h0:la=0\/lb=0\/size=0
 ·simp[run_underlying ht,hz,h0]
 ·cases kA with
  |zero=>exact absurd rfl hkA
  |succ kA=>
   cases kB with
   |zero=>exact absurd rfl hkB
   |succ kB=>
    cases hfa:w.frozen? a<;>cases hfx:w.frozen? {block:=a.block,off:=kA+1}<;>
     simp[run_underlying ht,hz,h0,hnb,hnb',frozen,noView,viewAt,mayBeOne,stringish,shape,Sem.run,hsa,hsb,hfb,hfe,hfa,hfx]
theorem UP (w:World)(dT sT ty elem:TypeId)(b o dLen dCap:Nat)(a:Addr)(sLen sCap Z k:Nat)(cs:List Value)
  (hu:P.underlying dT=some (.slice elem)) (hs:(P.info? elem).map (·.size)=some Z) (hk:k=Nat.min sLen dLen) (hn:cs.length=k*Z)
  (hsrc:∀j v,cs[j]? =some v->w.cell? (a.add j)=some v) (hc:∀j,j<cs.length->(w.cell? ⟨b,o+j,none⟩).isSome=true) (hf:∀j,j<cs.length->w.frozen? ⟨b,o+j,none⟩=false) (h1:∀v∈cs,v.oneCell'=true) :
  (Builtin.copy_ #[dT,sT] ty #[.slice (some ⟨b,o,none⟩) dLen dCap,.slice (some a) sLen sCap]).run P w= .ok (goInt k) (w.setCells b o cs):=by
 have hl:=run_loadCells_list (P:=P) w a cs hsrc
 have hst:=run_storeCells_cells (P:=P) b o cs 0 w (by simpa using hc) (by simpa using hf) h1
 cases hq:P.info? elem with
 |none=>simp[hq]at hs
 |some i=>
  have hi:i.size=Z:=by simpa[hq]using hs
  simp[Builtin.copy_,run_underlying hu,Builtin.lenOf,Builtin.firstCells,sizeOf,typeInfo,hq,hi,<-hk,<-hn,hl,hst]
theorem Q5o (w:World){o:Oper}{a:Act}{K:Act->World->Prop}{Q:Exit->Act->World->Prop}(d s:Operand)(t t':TypeId)
  (ho:o.op= .call {callee:=.builtin .copy,args:=#[d,s],argTypes:=#[t,t']}) (v u:Value) (hd:a.eval d=v) (hs:a.eval s=u) {v':Value} {w':World}
  (hr:(Builtin.copy_ #[t,t'] o.type #[v,u]).run P w= .ok v' w') (h:K (a.put o.dst v') w'):o.wp P a w K Q:=by
 unfold Oper.wp execOp
 simp only[ho,resolve,invoke,builtin,Sem.run_bind,Sem.run_pure,Result.andThen_ok,List.map_toArray,List.map_cons,List.map_nil,hd,hs,hr]
 exact h
theorem XP (w:World){ops:Array Oper}{rest:List Oper}{o:Oper}{a:Act}{Q:Exit->Act->World->Prop}(hgd:o.guard=none)(d s:Operand)(t t':TypeId)
  (ho:o.op= .call {callee:=.builtin .copy,args:=#[d,s],argTypes:=#[t,t']}) (v u:Value) (hd:a.eval d=v) (hs:a.eval s=u) {v':Value} {w':World}
  (hr:(Builtin.copy_ #[t,t'] o.type #[v,u]).run P w= .ok v' w') (h:wpList P ops Q rest (a.put o.dst v') w'):wpList P ops Q (o::rest) a w:=
 wpList_plain hgd λ_ hK=>Q5o w d s t t' ho v u hd hs hr (hK _ _ h)
theorem G4 {ops:Array Oper}{o:Oper}{a:Act}{w:World}{K:Act->World->Prop}{Q:Exit->Act->World->Prop}{E:Prop}
  (hg:o.guard=none) (d x:Operand) (dT sT:TypeId) (hop:o.op=Op.call {callee:=Callee.builtin Builtin.copy,args:=#[d,x],argTypes:=#[dT,sT]})
  (v u:Value) (hd:a.eval d=v) (hx:a.eval x=u) {v':Value} {w':World} (hr:(Builtin.copy_ #[dT,sT] o.type #[v,u]).run P w= .ok v' w') (hK:K (a.put o.dst v') w') :
  if Region.wanted o (yielded ops a.tmps)=true then Oper.wp P o a w K Q else E:=by
 have hw:Region.wanted o (yielded ops a.tmps)=true:=by simp[Region.wanted,hg]
 rw[if_pos hw]
 unfold Oper.wp
 simp[execOp,hop,resolve,invoke,builtin,hd,hx,hr,Result.andThen]
 exact hK
theorem G5 (b:Nat)(vs:List Value)(o:Nat)(w:World)(h:∀j,j<vs.length->(w.cell? ⟨b,o+j,none⟩).isSome=true)(k:Nat)(hk:(w.cell? ⟨b,k,none⟩).isSome=true):((w.setCells b o vs).cell? ⟨b,k,none⟩).isSome=true:=by
 by_cases hin:o<=k/\k<o+vs.length
 ·have:=World.cell?_setCells_in b vs o w h (k-o) (by omega)
  rw[show o+(k-o)=k by omega]at this
  rw[this];rfl
 ·rw[World.cell?_setCells_out b vs o w ⟨b,k,none⟩ (λ_ _=>by show k<o\/o+vs.length<=k;omega)]
  exact hk
noncomputable def Q6R (nm:String)(ρ:Ren):Func:={Body2.n22 ρ with name:=nm}
theorem Yv (nm:String)(ρ:Ren):(Q6R nm ρ).ntmps=95:=Body2.n22_ntmps ρ
structure InsL (P:Program)(ρ:Ren)(nm:String)(Z B:Nat)(z:Value):Prop where
 mixed:P.follows .mixedOrders=true
 f22:P.funcs[ρ.f 22]? =some (Q6R nm ρ)
 ov:∀args w,(callFunc (ρ.f 29) args).run P w=((Extern.SlicesOverlaps.overlaps #[(ρ.t 24),(ρ.t 24)] #[(ρ.t 4)] args).run P w).andThen λv w'=>.ok (.value v) w'
 t0:P.underlying (ρ.t 0)=some (TypeDesc.tuple #[])
 a0:∀w,(isAgg (ρ.t 0)).run P w= .ok false w
 z0:∀w,(Go.sizeOf (ρ.t 0)).run P w= .ok 1 w
 v0:∀w,(zeroValue (ρ.t 0)).run P w= .ok (Value.tuple #[]) w
 t3:P.underlying (ρ.t 3)=some (TypeDesc.int IntKind.i64)
 a3:∀w,(isAgg (ρ.t 3)).run P w= .ok false w
 z3:∀w,(Go.sizeOf (ρ.t 3)).run P w= .ok 1 w
 v3:∀w,(zeroValue (ρ.t 3)).run P w= .ok (Value.int IntKind.i64 0) w
 t4:P.underlying (ρ.t 4)=some (TypeDesc.bool)
 a4:∀w,(isAgg (ρ.t 4)).run P w= .ok false w
 z4:∀w,(Go.sizeOf (ρ.t 4)).run P w= .ok 1 w
 v4:∀w,(zeroValue (ρ.t 4)).run P w= .ok (Value.bool false) w
 z9:∀w,(Go.sizeOf (ρ.t 9)).run P w= .ok Z w
 t24:P.underlying (ρ.t 24)=some (TypeDesc.slice (ρ.t 9))
 a24:∀w,(isAgg (ρ.t 24)).run P w= .ok false w
 z24:∀w,(Go.sizeOf (ρ.t 24)).run P w= .ok 1 w
 v24:∀w,(zeroValue (ρ.t 24)).run P w= .ok (Value.slice none 0 0) w
 i9:(P.info? (ρ.t 9)).map (λi=>(i.zero,i.size,i.bytes))=some (some z,Z,B)
variable {nm:String} {Z B:Nat} {z:Value}
set_option maxHeartbeats 4000000 in
set_option maxRecDepth 100000 in
theorem Q3U (L:InsL P ρ nm Z B z)(hZ:0<Z)(b n c i vb voff vc:Nat)(cs vs:List Value)(w:World)(hi:i<n)(hroom:n+1<=c)(hc63:c<=9223372036854775807)(hvb:vb≠b)
  (hcl:cs.length=n*Z) (hvl:vs.length=Z)
  (hcs:∀j v,cs[j]? =some v->w.cell? ⟨b,j,none⟩=some v) (hsp:∀j,j<(n+1)*Z->(w.cell? ⟨b,j,none⟩).isSome=true) (hfz:∀j,w.frozen? ⟨b,j,none⟩=false)
  (hvs:∀j v,vs[j]? =some v->w.cell? ⟨vb,voff+j,none⟩=some v) (h1c:∀v∈cs,v.oneCell'=true) (h1v:∀v∈vs,v.oneCell'=true)
  (tA tB:TypeId) (kA kB:Nat) (hsa:w.shape? vb=some (tA,kA)) (hkA:kA≠0) (hsb:w.shape? b=some (tB,kB)) (hkB:kB≠0) :
  Calls P (ρ.f 22) #[.slice (some ⟨b,0,none⟩) n c,.int .i64 i,.slice (some ⟨vb,voff,none⟩) 1 vc] w λe w'=>
   e= .returned (.slice (some ⟨b,0,none⟩) (n+1) c)/\w'=(w.drew.setCells b ((i+1)*Z) (cs.drop (i*Z))).setCells b (i*Z) vs:=by
 have t0:=L.t0;have a0:=L.a0;have z0:=L.z0;have v0:=L.v0;have t3:=L.t3;have a3:=L.a3;have z3:=L.z3;have v3:=L.v3;have t4:=L.t4;have a4:=L.a4;have z4:=L.z4;have v4:=L.v4;have z9:=L.z9;have t24:=L.t24;have a24:=L.a24;have z24:=L.z24;have v24:=L.v24
 have u0:=run_underlying L.t0;have u3:=run_underlying L.t3;have u4:=run_underlying L.t4;have u24:=run_underlying L.t24
 have hz2:¬((i:Int)=(n:Int)):=by omega
 have hsz:(P.info? (ρ.t 9)).map (·.size)=some Z:=by
  obtain⟨i0,hi0,h0,h1,h2⟩:=info_parts L.i9
  rw[hi0];simp[h1]
 have hov:∀lb cb,(callFunc (ρ.f 29) #[.slice (some ⟨vb,voff,none⟩) 1 vc,.slice (some ⟨b,(i+1)*Z,none⟩) lb cb]).run P w= .ok (.value (.bool false)) w:=λlb cb=>by
  rw[L.ov,XO w (ρ.t 24) (ρ.t 4) (ρ.t 9) L.t24 Z L.z9 ⟨vb,voff,none⟩ ⟨b,(i+1)*Z,none⟩ 1 vc lb cb hvb tA tB kA kB hsa hkA hsb hkB (hfz _) (hfz _)]
  rfl
 have mixed:=L.mixed
 have hw1:IntKind.i64.wrap ((i:Int)+1)=(i:Int)+1:=by rw[IntKind.wrap_i64];omega
 have hw2:IntKind.i64.wrap ((n:Int)+1)=(n:Int)+1:=by rw[IntKind.wrap_i64];omega
 have hb1:(0:Int)<=(i:Int)+1:=by omega
 have hin:i<=n:=by omega
 have htn:((i:Int)+1).toNat=i+1:=by omega
 have htn2:((n:Int)+1).toNat=n+1:=by omega
 have hb2:¬(c=i+1):=by omega
 have hb3:(i:Int)<=(n:Int)+1:=by omega
 have hb4:¬(c=i):=by omega
 have hdl:(cs.drop (i*Z)).length=(n-i)*Z:=by rw[List.length_drop,hcl,Nat.sub_mul]
 have hm1:(i+1)*Z=i*Z+Z:=Nat.succ_mul i Z
 have hm2:(n+1)*Z=n*Z+Z:=Nat.succ_mul n Z
 have hm3:i*Z+(n-i)*Z=n*Z:=by rw[<-Nat.add_mul];congr 1;omega
 have hcp1:∀ty dc sc,(Builtin.copy_ #[(ρ.t 24),(ρ.t 24)] ty #[.slice (some ⟨b,(i+1)*Z,none⟩) (n-i) dc,.slice (some ⟨b,i*Z,none⟩) (n+1-i) sc]).run P w.drew= .ok (goInt ((n-i:Nat):Int)) (w.drew.setCells b ((i+1)*Z) (cs.drop (i*Z))):=λty dc sc=>
  UP w.drew _ _ ty (ρ.t 9) b ((i+1)*Z) (n-i) dc ⟨b,i*Z,none⟩ (n+1-i) sc Z (n-i) (cs.drop (i*Z)) L.t24 hsz (by simp only[Nat.min_def];split<;>omega) hdl
   (λj v hj=>by rw[Addr.add_lit];exact hcs (i*Z+j) v (by rwa [List.getElem?_drop]at hj))
   (λj hj=>hsp _ (by omega)) (λj hj=>hfz _) (λv hv=>h1c v (List.mem_of_mem_drop hv))
 obtain⟨W1,hW1⟩:∃W1,W1=w.drew.setCells b ((i+1)*Z) (cs.drop (i*Z)):=⟨_,rfl⟩
 have hsp1:∀k,k<(n+1)*Z->(W1.cell? ⟨b,k,none⟩).isSome=true:=λk hk=>by
  rw[hW1]
  exact G5 b (cs.drop (i*Z)) ((i+1)*Z) w.drew (λj hj=>hsp _ (by rw[hdl]at hj;omega)) k (hsp k hk)
 have hcp2:∀(W:World),(∀x,W.cell? x=W1.cell? x)->(∀x,W.frozen? x=W1.frozen? x)->∀ty dc,(Builtin.copy_ #[(ρ.t 24),(ρ.t 24)] ty #[.slice (some ⟨b,i*Z,none⟩) (n+1-i) dc,.slice (some ⟨vb,voff,none⟩) 1 vc]).run P W= .ok (goInt 1) (W.setCells b (i*Z) vs):=λW hWc hWf ty dc=>
  UP W _ _ ty (ρ.t 9) b (i*Z) (n+1-i) dc ⟨vb,voff,none⟩ 1 vc Z 1 vs L.t24 hsz (by simp only[Nat.min_def];split<;>omega) (by rw[hvl,Nat.one_mul])
   (λj v hj=>by
    rw[Addr.add_lit,hWc,hW1,World.cell?_setCells_out b _ _ _ _ (λh _=>absurd h hvb)]
    exact hvs j v hj)
   (λj hj=>by rw[hWc];exact hsp1 _ (by rw[hvl]at hj;have:=Nat.mul_le_mul_right Z hin;omega)) (λj hj=>by rw[hWf,hW1,World.frozen?_setCells];exact hfz _) h1v
 rw[<-hW1]at hcp1
 clear hm1 hm2 hm3 hdl
 go_enter L.f22,Yv nm ρ
 go_wp2_with (simp only[hov])
 go_region_law_o (refine G4 rfl _ _ (ρ.t 24) (ρ.t 24) rfl _ _ (by simp[Act.eval,Act.put]) (by simp[Act.eval,Act.put]) (hcp1 _ _ _) ?_)
 go_wp2_with (at_builtin;refine XP _ rfl _ _ (ρ.t 24) (ρ.t 24) rfl _ _ rfl rfl (hcp2 _ (λ_=>rfl) (λ_=>rfl) _ _) ?_)
 go_ret
 first|exact⟨rfl,rfl⟩|exact⟨rfl,by rw[hW1]⟩
set_option maxHeartbeats 4000000 in
set_option maxRecDepth 100000 in
theorem Q0H (L:InsL P ρ nm Z B z)(b n c vb voff vc:Nat)(vs:List Value)(w:World)(hroom:n+1<=c)(hc63:c<=9223372036854775807)
  (hvl:vs.length=Z) (hsp:∀j,j<Z->(w.cell? ⟨b,n*Z+j,none⟩).isSome=true) (hfz:∀j,w.frozen? ⟨b,j,none⟩=false)
  (hvs:∀j v,vs[j]? =some v->w.cell? ⟨vb,voff+j,none⟩=some v) (h1v:∀v∈vs,v.oneCell'=true) :
  Calls P (ρ.f 22) #[.slice (some ⟨b,0,none⟩) n c,.int .i64 n,.slice (some ⟨vb,voff,none⟩) 1 vc] w λe w'=>
   e= .returned (.slice (some ⟨b,0,none⟩) (n+1) c)/\w'=w.setCells b (n*Z) vs:=by
 have t0:=L.t0;have a0:=L.a0;have z0:=L.z0;have v0:=L.v0;have t3:=L.t3;have a3:=L.a3;have z3:=L.z3;have v3:=L.v3;have t4:=L.t4;have a4:=L.a4;have z4:=L.z4;have v4:=L.v4;have z9:=L.z9;have t24:=L.t24;have a24:=L.a24;have z24:=L.z24;have v24:=L.v24
 have u0:=run_underlying L.t0;have u3:=run_underlying L.t3;have u4:=run_underlying L.t4;have u24:=run_underlying L.t24
 have mixed:=L.mixed
 obtain⟨i0,hi0,hz0,hzs,hzb⟩:=info_parts L.i9
 have hsrc:Src P i0.size (ρ.t 24) (.slice (some ⟨vb,voff,none⟩) 1 vc) 1 vs w:=by
  rw[hzs]
  exact Src.ofSlice w L.t24 ⟨vb,voff,none⟩ 1 vc vs (by omega) (λj u hj=>by rw[Addr.add_lit];exact hvs j u hj) h1v
 have hrun:∀ty,(Builtin.append_ #[(ρ.t 24),(ρ.t 24)] ty #[.slice (some ⟨b,0,none⟩) n c,.slice (some ⟨vb,voff,none⟩) 1 vc]).run P w= .ok (.slice (some ⟨b,0,none⟩) (n+1) c) (w.setCells b (n*Z) vs):=λty=>by
  have h:=run_append_room_src w (ρ.t 24) (ρ.t 24) ty (ρ.t 9) i0 L.t24 hi0 b 0 n c _ 1 vs hsrc hroom (by rw[hzs,hvl];intro j hj;rw[Nat.zero_add];exact hsp j hj) (by intro j hj;exact hfz _)
  rw[hzs,Nat.zero_add]at h
  exact h
 go_enter L.f22,Yv nm ρ
 go_wp2_with (at_builtin;refine Lib.wpList_append_run _ rfl _ _ _ _ rfl _ _ rfl rfl _ _ (hrun _) ?_)
 go_ret
 exact⟨rfl,rfl⟩
set_option maxHeartbeats 4000000 in
set_option maxRecDepth 100000 in
theorem Q0I (L:InsL P ρ nm Z B z)(base:Addr)(n c vb voff vc:Nat)(cs vs:List Value)(w:World)(hnc:n<=c)(hroom:c<n+1)(hbig:(n+1)*B<=140737488355328)(hn63:n+1<=9223372036854775807)
  (hcl:cs.length=n*Z) (hvl:vs.length=Z)
  (hcs:∀j v,cs[j]? =some v->w.cell? (base.add j)=some v)
  (hvs:∀j v,vs[j]? =some v->w.cell? ⟨vb,voff+j,none⟩=some v) (h1v:∀v∈vs,v.oneCell'=true) :
  Calls P (ρ.f 22) #[.slice (some base) n c,.int .i64 n,.slice (some ⟨vb,voff,none⟩) 1 vc] w λe w'=>
   e= .returned (.slice (some ⟨w.heap.size,0,none⟩) (n+1) (grownCap w (n+1) c (ρ.t 9)))/\
   w'=w.drew.alloc (.cells ((cs++vs).toArray++Builtin.zeroCells z.cells (grownCap w (n+1) c (ρ.t 9)-(n+1))) (ρ.t 9)):=by
 have t0:=L.t0;have a0:=L.a0;have z0:=L.z0;have v0:=L.v0;have t3:=L.t3;have a3:=L.a3;have z3:=L.z3;have v3:=L.v3;have t4:=L.t4;have a4:=L.a4;have z4:=L.z4;have v4:=L.v4;have z9:=L.z9;have t24:=L.t24;have a24:=L.a24;have z24:=L.z24;have v24:=L.v24
 have u0:=run_underlying L.t0;have u3:=run_underlying L.t3;have u4:=run_underlying L.t4;have u24:=run_underlying L.t24
 have mixed:=L.mixed
 obtain⟨i0,hi0,hz0,hzs,hzb⟩:=info_parts L.i9
 have hsrc:Src P i0.size (ρ.t 24) (.slice (some ⟨vb,voff,none⟩) 1 vc) 1 vs w:=by
  rw[hzs]
  exact Src.ofSlice w L.t24 ⟨vb,voff,none⟩ 1 vc vs (by omega) (λj u hj=>by rw[Addr.add_lit];exact hvs j u hj) h1v
 have hold:(Builtin.firstCells i0.size n (.slice (some base) n c)).run P w.drew= .ok cs.toArray w.drew:=by
  rw[hzs]
  exact run_firstCells_some w.drew Z n base n c cs (by omega) (λj v hj=>hcs j v hj)
 have hrun:∀ty,(Builtin.append_ #[(ρ.t 24),(ρ.t 24)] ty #[.slice (some base) n c,.slice (some ⟨vb,voff,none⟩) 1 vc]).run P w= .ok (.slice (some ⟨w.heap.size,0,none⟩) (n+1) (grownCap w (n+1) c (ρ.t 9))) (w.drew.alloc (.cells ((cs++vs).toArray++Builtin.zeroCells z.cells (grownCap w (n+1) c (ρ.t 9)-(n+1))) (ρ.t 9))):=λty=>
  run_append_grow_src w (ρ.t 24) (ρ.t 24) ty (ρ.t 9) i0 _ L.t24 hi0 hz0 (some base) n c cs hold _ 1 vs hsrc hroom (by omega) (by rw[hzb];exact growslice_fits hroom hbig)
 obtain⟨ROW,hROW⟩:∃ROW:Array Value,ROW=(cs++vs).toArray++Builtin.zeroCells z.cells (grownCap w (n+1) c (ρ.t 9)-(n+1)):=⟨_,rfl⟩
 rw[<-hROW]at hrun ⊢
 clear hROW hold
 obtain⟨ab,ao,asp⟩:=base
 go_enter L.f22,Yv nm ρ
 go_wp2_with (at_builtin;refine Lib.wpList_append_run _ rfl _ _ _ _ rfl _ _ rfl rfl _ _ (hrun _) ?_)
 all_goals (go_ret;exact⟨rfl,rfl⟩)
set_option maxHeartbeats 4000000 in
set_option maxRecDepth 100000 in
theorem Q5Y (L:InsL P ρ nm Z B z)(vb voff vc:Nat)(vs:List Value)(w:World)(hbig:B<=140737488355328)
  (hvl:vs.length=Z) (hvs:∀j v,vs[j]? =some v->w.cell? ⟨vb,voff+j,none⟩=some v) (h1v:∀v∈vs,v.oneCell'=true) :
  Calls P (ρ.f 22) #[.slice none 0 0,.int .i64 0,.slice (some ⟨vb,voff,none⟩) 1 vc] w λe w'=>
   e= .returned (.slice (some ⟨w.heap.size,0,none⟩) 1 (grownCap w 1 0 (ρ.t 9)))/\
   w'=w.drew.alloc (.cells (vs.toArray++Builtin.zeroCells z.cells (grownCap w 1 0 (ρ.t 9)-1)) (ρ.t 9)):=by
 have t0:=L.t0;have a0:=L.a0;have z0:=L.z0;have v0:=L.v0;have t3:=L.t3;have a3:=L.a3;have z3:=L.z3;have v3:=L.v3;have t4:=L.t4;have a4:=L.a4;have z4:=L.z4;have v4:=L.v4;have z9:=L.z9;have t24:=L.t24;have a24:=L.a24;have z24:=L.z24;have v24:=L.v24
 have u0:=run_underlying L.t0;have u3:=run_underlying L.t3;have u4:=run_underlying L.t4;have u24:=run_underlying L.t24
 have mixed:=L.mixed
 obtain⟨i0,hi0,hz0,hzs,hzb⟩:=info_parts L.i9
 have hsrc:Src P i0.size (ρ.t 24) (.slice (some ⟨vb,voff,none⟩) 1 vc) 1 vs w:=by
  rw[hzs]
  exact Src.ofSlice w L.t24 ⟨vb,voff,none⟩ 1 vc vs (by omega) (λj u hj=>by rw[Addr.add_lit];exact hvs j u hj) h1v
 have hold:(Builtin.firstCells i0.size 0 (.slice none 0 0)).run P w.drew= .ok ([]:List Value).toArray w.drew:=by
  rw[hzs]
  exact run_firstCells_none w.drew Z 0 0 0
 have hrun:∀ty,(Builtin.append_ #[(ρ.t 24),(ρ.t 24)] ty #[.slice none 0 0,.slice (some ⟨vb,voff,none⟩) 1 vc]).run P w= .ok (.slice (some ⟨w.heap.size,0,none⟩) 1 (grownCap w 1 0 (ρ.t 9))) (w.drew.alloc (.cells (vs.toArray++Builtin.zeroCells z.cells (grownCap w 1 0 (ρ.t 9)-1)) (ρ.t 9))):=λty=>by
  have h:=run_append_grow_src w (ρ.t 24) (ρ.t 24) ty (ρ.t 9) i0 _ L.t24 hi0 hz0 none 0 0 [] hold _ 1 vs hsrc (by omega) (by omega) (by rw[hzb];exact growslice_fits (by omega) (by omega))
  rw[List.nil_append]at h
  exact h
 obtain⟨ROW,hROW⟩:∃ROW:Array Value,ROW=vs.toArray++Builtin.zeroCells z.cells (grownCap w 1 0 (ρ.t 9)-1):=⟨_,rfl⟩
 rw[<-hROW]at hrun ⊢
 clear hROW hold
 go_enter L.f22,Yv nm ρ
 go_wp2_with (at_builtin;refine Lib.wpList_append_run _ rfl _ _ _ _ rfl _ _ rfl rfl _ _ (hrun _) ?_)
 all_goals (go_ret;exact⟨rfl,rfl⟩)
set_option maxHeartbeats 4000000 in
set_option maxRecDepth 100000 in
theorem Q5p (L:InsL P ρ nm Z B z)(hZ:0<Z)(hzc:z.cells.size=Z)(b n c i vb voff vc:Nat)(cs vs:List Value)(w:World)(hi:i<n)(hnc:n<=c)(hroom:c<n+1)(hbig:(n+1)*B<=140737488355328)(hn63:n+1<=9223372036854775807)
  (hcl:cs.length=n*Z) (hvl:vs.length=Z)
  (hcs:∀j v,cs[j]? =some v->w.cell? ⟨b,j,none⟩=some v)
  (hvs:∀j v,vs[j]? =some v->w.cell? ⟨vb,voff+j,none⟩=some v) (h1c:∀v∈cs,v.oneCell'=true) (h1v:∀v∈vs,v.oneCell'=true) :
  Calls P (ρ.f 22) #[.slice (some ⟨b,0,none⟩) n c,.int .i64 i,.slice (some ⟨vb,voff,none⟩) 1 vc] w λe w'=>
   e= .returned (.slice (some ⟨w.heap.size,0,none⟩) (n+1) (grownCap w (n+1) c (ρ.t 9)))/\
   w'=(((w.alloc (.cells ((cs.take (i*Z)).toArray++Builtin.zeroCells z.cells (n+1-i)++Builtin.zeroCells z.cells (grownCap w (n+1) c (ρ.t 9)-(n+1))) (ρ.t 9))).drew.setCells w.heap.size (i*Z) vs).drew).setCells w.heap.size ((i+1)*Z) (cs.drop (i*Z)):=by
 have t0:=L.t0;have a0:=L.a0;have z0:=L.z0;have v0:=L.v0;have t3:=L.t3;have a3:=L.a3;have z3:=L.z3;have v3:=L.v3;have t4:=L.t4;have a4:=L.a4;have z4:=L.z4;have v4:=L.v4;have z9:=L.z9;have t24:=L.t24;have a24:=L.a24;have z24:=L.z24;have v24:=L.v24
 have u0:=run_underlying L.t0;have u3:=run_underlying L.t3;have u4:=run_underlying L.t4;have u24:=run_underlying L.t24
 have mixed:=L.mixed
 obtain⟨i0,hi0,hz0,hzs,hzb⟩:=info_parts L.i9
 have hz2:¬((i:Int)=(n:Int)):=by omega
 have hz3:(c:Int)<(n:Int)+1:=by omega
 have hsz:(P.info? (ρ.t 9)).map (·.size)=some Z:=by rw[hi0];simp[hzs]
 have hm1:(i+1)*Z=i*Z+Z:=Nat.succ_mul i Z
 have hm2:(n+1)*Z=n*Z+Z:=Nat.succ_mul n Z
 have hm3:i*Z+(n-i)*Z=n*Z:=by rw[<-Nat.add_mul];congr 1;omega
 have hm4:0<n*Z:=Nat.mul_pos (by omega) hZ
 have hbw:b<w.heap.size:=block_lt_of_cell (hcs 0 _ (List.getElem?_eq_getElem (by omega)))
 have hvw:vb<w.heap.size:=block_lt_of_cell (hvs 0 _ (List.getElem?_eq_getElem (by omega)))
 have hkk:(n:Int)+1-(i:Int)=((n+1-i:Nat):Int):=by omega
 have hik:i+(n+1-i)=n+1:=by omega
 have hold:(Builtin.firstCells i0.size i (.slice (some ⟨b,0,none⟩) i c)).run P w.drew= .ok (cs.take (i*Z)).toArray w.drew:=by
  rw[hzs]
  exact run_firstCells_some w.drew Z i ⟨b,0,none⟩ i c (cs.take (i*Z)) (by rw[List.length_take];omega) (λj v hj=>by
   rw[Addr.add_lit]
   rw[List.getElem?_take]at hj
   split at hj
   ·rw[Nat.zero_add];exact hcs j v hj
   ·cases hj)
 have hrz:∀ty,(Builtin.append_ #[(ρ.t 24),(ρ.t 3)] ty #[.slice (some ⟨b,0,none⟩) i c,.int .i64 ((n:Int)+1-(i:Int))]).run P w=
   .ok (.slice (some ⟨w.heap.size,0,none⟩) (n+1) (grownCap w (n+1) c (ρ.t 9))) (w.drew.alloc (.cells ((cs.take (i*Z)).toArray++Builtin.zeroCells z.cells (n+1-i)++Builtin.zeroCells z.cells (grownCap w (n+1) c (ρ.t 9)-(n+1))) (ρ.t 9))):=λty=>by
  have h:=Lib.run_append_grow_zeros w (ρ.t 24) (ρ.t 3) ty (ρ.t 9) i0 _ .i64 .i64 L.t24 L.t3 hi0 hz0 (some ⟨b,0,none⟩) i c (cs.take (i*Z)) hold (n+1-i) (by omega) (by omega) (by omega) (by omega) (by rw[hzb];have:=Nat.mul_le_mul_right B (show n+1-i<=n+1 by omega);omega) (by rw[hzb,hik];exact growslice_fits hroom hbig)
  rw[hik]at h
  rw[hkk]
  exact h
 obtain⟨G,hG⟩:∃G,G=grownCap w (n+1) c (ρ.t 9):=⟨_,rfl⟩
 obtain⟨ROW,hROW⟩:∃ROW:Array Value,ROW=(cs.take (i*Z)).toArray++Builtin.zeroCells z.cells (n+1-i)++Builtin.zeroCells z.cells (G-(n+1)):=⟨_,rfl⟩
 rw[<-hG]at hrz ⊢
 rw[<-hROW]at hrz ⊢
 have hRl:(n+1)*Z<=ROW.size:=by
  rw[hROW]
  simp only[Array.size_append,List.size_toArray,size_zeroCells,hzc,List.length_take,hcl]
  have h1:i*Z+(n+1-i)*Z=(n+1)*Z:=by rw[<-Nat.add_mul,hik]
  rw[Nat.min_eq_left (show i*Z<=n*Z by omega)]
  omega
 obtain⟨W1,hW1⟩:∃W1,W1=w.drew.alloc (.cells ROW (ρ.t 9)):=⟨_,rfl⟩
 rw[<-hW1]at hrz
 have hN:∀j,j<(n+1)*Z->(W1.cell? ⟨w.heap.size,j,none⟩).isSome=true:=λj hj=>by
  rw[hW1,World.cell?_alloc_at (w:=w.drew) ROW _ w.heap.size j rfl,Array.getElem?_eq_getElem (by omega)];rfl
 have hNf:∀j,W1.frozen? ⟨w.heap.size,j,none⟩=false:=λj=>by rw[hW1];exact World.frozen?_alloc_at (w:=w.drew) ROW _ w.heap.size j rfl
 have hOb:∀j v,w.cell? ⟨b,j,none⟩=some v->W1.cell? ⟨b,j,none⟩=some v:=λj v h=>by rw[hW1,World.cell?_alloc_past (w:=w.drew) _ b j hbw];exact h
 have hOv:∀j v,w.cell? ⟨vb,j,none⟩=some v->W1.cell? ⟨vb,j,none⟩=some v:=λj v h=>by rw[hW1,World.cell?_alloc_past (w:=w.drew) _ vb j hvw];exact h
 have hin:i<=n:=by omega
 have hcpA:∀(W:World),(∀x,W.cell? x=W1.cell? x)->(∀x,W.frozen? x=W1.frozen? x)->∀ty dc,(Builtin.copy_ #[(ρ.t 24),(ρ.t 24)] ty #[.slice (some ⟨w.heap.size,i*Z,none⟩) (n+1-i) dc,.slice (some ⟨vb,voff,none⟩) 1 vc]).run P W= .ok (goInt 1) (W.setCells w.heap.size (i*Z) vs):=λW hWc hWf ty dc=>
  UP W _ _ ty (ρ.t 9) w.heap.size (i*Z) (n+1-i) dc ⟨vb,voff,none⟩ 1 vc Z 1 vs L.t24 hsz (by simp only[Nat.min_def];split<;>omega) (by rw[hvl,Nat.one_mul])
   (λj v hj=>by rw[Addr.add_lit,hWc];exact hOv _ v (hvs j v hj))
   (λj hj=>by rw[hWc];exact hN _ (by rw[hvl]at hj;have:=Nat.mul_le_mul_right Z hin;omega)) (λj hj=>by rw[hWf];exact hNf _) h1v
 have hGn:n+1<=G:=by rw[hG];exact grownCap_ge w _ _ _
 have hG63:G<=9223372036854775807:=by
  have:=grownCap_le_maxLen w (n+1) c (ρ.t 9) (by unfold maxLen;omega)
  rw[<-hG]at this
  unfold maxLen at this
  omega
 have hGi:¬(G=i):=by omega
 have hGim:¬(G=i+1):=by omega
 have hci:¬(c=i):=by omega
 have hbN:b≠w.heap.size:=by omega
 have hdl:(cs.drop (i*Z)).length=(n-i)*Z:=by rw[List.length_drop,hcl,Nat.sub_mul]
 have hcpB:∀(W:World),(∀x,W.cell? x=(W1.setCells w.heap.size (i*Z) vs).cell? x)->(∀x,W.frozen? x=(W1.setCells w.heap.size (i*Z) vs).frozen? x)->∀ty dc sc,(Builtin.copy_ #[(ρ.t 24),(ρ.t 24)] ty #[.slice (some ⟨w.heap.size,(i+1)*Z,none⟩) (n-i) dc,.slice (some ⟨b,i*Z,none⟩) (n-i) sc]).run P W= .ok (goInt ((n-i:Nat):Int)) (W.setCells w.heap.size ((i+1)*Z) (cs.drop (i*Z))):=λW hWc hWf ty dc sc=>
  UP W _ _ ty (ρ.t 9) w.heap.size ((i+1)*Z) (n-i) dc ⟨b,i*Z,none⟩ (n-i) sc Z (n-i) (cs.drop (i*Z)) L.t24 hsz (by simp only[Nat.min_def];split<;>omega) hdl
   (λj v hj=>by
    rw[Addr.add_lit,hWc,World.cell?_setCells_out _ _ _ _ _ (λh _=>absurd h hbN)]
    exact hOb _ v (hcs (i*Z+j) v (by rwa [List.getElem?_drop]at hj)))
   (λj hj=>by rw[hWc];exact G5 _ vs (i*Z) W1 (λt ht=>hN _ (by rw[hvl]at ht;have:=Nat.mul_le_mul_right Z hin;omega)) _ (hN _ (by rw[hdl]at hj;omega)))
   (λj hj=>by rw[hWf,World.frozen?_setCells];exact hNf _) (λv hv=>h1c v (List.mem_of_mem_drop hv))
 subst hW1
 have hE1:∀x,((w.alloc (.cells ROW (ρ.t 9))).drew).cell? x=(w.drew.alloc (.cells ROW (ρ.t 9))).cell? x:=λx=>rfl
 have hE2:∀x,((w.alloc (.cells ROW (ρ.t 9))).drew).frozen? x=(w.drew.alloc (.cells ROW (ρ.t 9))).frozen? x:=λx=>rfl
 have hF1:∀x,(((w.alloc (.cells ROW (ρ.t 9))).drew.setCells w.heap.size (i*Z) vs).drew).cell? x=((w.drew.alloc (.cells ROW (ρ.t 9))).setCells w.heap.size (i*Z) vs).cell? x:=λx=>rfl
 have hF2:∀x,(((w.alloc (.cells ROW (ρ.t 9))).drew.setCells w.heap.size (i*Z) vs).drew).frozen? x=((w.drew.alloc (.cells ROW (ρ.t 9))).setCells w.heap.size (i*Z) vs).frozen? x:=λx=>rfl
 have hw1:IntKind.i64.wrap ((i:Int)+1)=(i:Int)+1:=by rw[IntKind.wrap_i64];omega
 have hw2:IntKind.i64.wrap ((n:Int)+1)=(n:Int)+1:=by rw[IntKind.wrap_i64];omega
 have hw3:IntKind.i64.wrap ((n:Int)+1-(i:Int))=(n:Int)+1-(i:Int):=by rw[IntKind.wrap_i64];omega
 have hb1:(0:Int)<=(i:Int)+1:=by omega
 have htn:((i:Int)+1).toNat=i+1:=by omega
 have hb3:(i:Int)<=(n:Int):=by omega
 clear hkk hik hold hROW hG hRl hm1 hm2 hm3 hm4 hdl
 go_enter L.f22,Yv nm ρ
 go_wp2_with (first
  |(at_builtin;refine Lib.wpList_append_run _ rfl _ _ _ _ rfl _ _ rfl rfl _ _ (hrz _) ?_)
  |(at_builtin;refine XP _ rfl _ _ (ρ.t 24) (ρ.t 24) rfl _ _ rfl rfl (hcpA _ hE1 hE2 _ _) ?_))
 go_region_law_o (refine G4 rfl _ _ (ρ.t 24) (ρ.t 24) rfl (.slice (some ⟨w.heap.size,(i+1)*Z,none⟩) (n-i) (G-(i+1))) (.slice (some ⟨b,i*Z,none⟩) (n-i) (c-i)) (by simp[Act.eval,Act.put]) (by simp[Act.eval,Act.put]) (hcpB _ hF1 hF2 (ρ.t 3) (G-(i+1)) (c-i)) ?_)
 go_wp2
 go_ret
 exact⟨rfl,rfl⟩
theorem JB:∀(vs:List Value) (w:World) (g o:Nat) (cur:Array Value) (t:TypeId),w.heap[g]? =some (.cells cur t (0,0))->o+vs.length<=cur.size->
  w.setCells g o vs=w.setRow g (cur.toList.take o++vs++cur.toList.drop (o+vs.length)).toArray
 |[],w,g,o,cur,t,hg,hl=>by
  simp only[World.setCells,List.append_nil,List.length_nil,Nat.add_zero,List.take_append_drop,Array.toArray_toList]
  exact(setRow_self w g cur t (0,0) hg).symm
 |v::vs,w,g,o,cur,t,hg,hl=>by
  have hl':o+(vs.length+1)<=cur.size:=by simpa using hl
  rw[World.setCells,setCell_eq_setRow w g o cur t (0,0) v hg,JB vs _ g (o+1) _ t (setRow_heap w g cur _ t _ hg) (by simp;omega),setRow_setRow]
  congr 2
  have e:=list_seg_step cur.toList o v vs (by simp;omega)
  simpa[Array.toList_setIfInBounds,Nat.add_assoc]using e
structure InsOut (te Z n c g:Nat)(new:List Value)(w w':World)(g' c':Nat):Prop where
 row:∃R:List Value,w'.heap[g']? =some (.cells (new++R).toArray te (0,0))/\(new++R).length=c'*Z
 cap:n+1<=c'/\c'<=9223372036854775807
 place:(g'=g/\c'=c)\/g'=w.heap.size
 old:∀k,k<w.heap.size->k≠g'->w'.heap[k]? =w.heap[k]?
 size:w.heap.size<=w'.heap.size
 os:w'.os=w.os
 tape:w'.tape=w.tape
 output:w'.output=w.output
theorem Q6S {α:Type}(cur cs:List α)(p q:Nat)(hcs:cs=cur.take q)(h:p<=q):cur.take p=cs.take p:=by
 rw[hcs,List.take_take,Nat.min_eq_left h]
theorem ins_any (L:InsL P ρ nm Z B z)(hZ:0<Z)(hzc:z.cells.size=Z)(g n c i vb voff vc:Nat)(cur:Array Value)(vs:List Value)(w:World)(hin:i<=n)(hnc:n<=c)(hc63:c<=9223372036854775807)(hbig:(n+1)*B<=140737488355328)(hn63:n+1<=9223372036854775807)
  (hg:w.heap[g]? =some (.cells cur (ρ.t 9) (0,0))) (hsz:cur.size=c*Z) (hvb:vb≠g) (hvl:vs.length=Z)
  (hvs:∀j v,vs[j]? =some v->w.cell? ⟨vb,voff+j,none⟩=some v) (h1c:∀v∈cur.toList.take (n*Z),v.oneCell'=true) (h1v:∀v∈vs,v.oneCell'=true) :
  Calls P (ρ.f 22) #[.slice (some ⟨g,0,none⟩) n c,.int .i64 i,.slice (some ⟨vb,voff,none⟩) 1 vc] w λe w'=>
   ∃g' c',e= .returned (.slice (some ⟨g',0,none⟩) (n+1) c')/\InsOut (ρ.t 9) Z n c g ((cur.toList.take (n*Z)).take (i*Z)++vs++(cur.toList.take (n*Z)).drop (i*Z)) w w' g' c':=by
 have hgw:g<w.heap.size:=(Array.getElem?_eq_some_iff.1 hg).1
 obtain⟨cs,hcs⟩:∃cs,cs=cur.toList.take (n*Z):=⟨_,rfl⟩
 rw[<-hcs]at h1c ⊢
 have hm0:n*Z<=c*Z:=Nat.mul_le_mul_right Z hnc
 have hcl:cs.length=n*Z:=by rw[hcs,List.length_take,Array.length_toList,hsz];omega
 have hm1:(i+1)*Z=i*Z+Z:=Nat.succ_mul i Z
 have hm2:(n+1)*Z=n*Z+Z:=Nat.succ_mul n Z
 have hm3:i*Z+(n-i)*Z=n*Z:=by rw[<-Nat.add_mul];congr 1;omega
 have hdl:(cs.drop (i*Z)).length=(n-i)*Z:=by rw[List.length_drop,hcl,Nat.sub_mul]
 have htl:(cs.take (i*Z)).length=i*Z:=by rw[List.length_take,hcl];omega
 have hcell:∀j v,cs[j]? =some v->w.cell? ⟨g,j,none⟩=some v:=λj v hj=>by
  rw[hcs,List.getElem?_take]at hj
  split at hj
  ·simpa[World.cell?,hg]using hj
  ·cases hj
 have hfz:∀j,w.frozen? ⟨g,j,none⟩=false:=λj=>by simp[World.frozen?,hg]
 have hsome:∀j,j<c*Z->(w.cell? ⟨g,j,none⟩).isSome=true:=λj hj=>by
  simp[World.cell?,hg,Array.getElem?_eq_getElem (show j<cur.size by omega)]
 have hv0:∃v,w.cell? ⟨vb,voff+0,none⟩=some v:=⟨_,hvs 0 _ (List.getElem?_eq_getElem (by omega))⟩
 have hctk:cur.toList.take (i*Z)=cs.take (i*Z):=Q6S _ _ _ _ hcs (by omega)
 by_cases hroom:n+1<=c
 ·have hm4:(n+1)*Z<=c*Z:=Nat.mul_le_mul_right Z hroom
  by_cases hi:i<n
  ·obtain⟨tA,kA,hsa,hkA⟩:∃tA kA,w.shape? vb=some (tA,kA)/\kA≠0:=by
    obtain⟨v,hv⟩:=hv0
    unfold World.cell? at hv
    unfold World.shape?
    split at hv
    ·rename_i cells t f hh
     have hlt:voff+0<cells.size:=(Array.getElem?_eq_some_iff.1 hv).1
     rw[hh]
     exact⟨_,_,rfl,by omega⟩
    ·cases hv
   have hsb:w.shape? g=some (ρ.t 9,cur.size):=by simp[World.shape?,hg]
   refine(Q3U L hZ g n c i vb voff vc cs vs w hi hroom hc63 hvb hcl hvl hcell (λj hj=>hsome j (by omega)) hfz hvs h1c h1v tA (ρ.t 9) kA cur.size hsa hkA hsb (by omega)).mono ?_
   rintro e w' ⟨rfl,rfl⟩
   refine⟨g,c,rfl,?_⟩
   have r1:=JB (cs.drop (i*Z)) w.drew g ((i+1)*Z) cur _ hg (by rw[hdl];omega)
   have g1:=setRow_heap w.drew g cur (cur.toList.take ((i+1)*Z)++cs.drop (i*Z)++cur.toList.drop ((i+1)*Z+(cs.drop (i*Z)).length)).toArray _ _ hg
   rw[r1]
   have hl1:(cur.toList.take ((i+1)*Z)).length=i*Z+Z:=by rw[List.length_take,Array.length_toList,hsz];omega
   have r2:=JB vs _ g (i*Z) _ _ g1 (by simp only[List.size_toArray,List.length_append,hl1];omega)
   rw[r2]
   have ek:(cur.toList.take ((i+1)*Z)++cs.drop (i*Z)++cur.toList.drop ((i+1)*Z+(cs.drop (i*Z)).length)).take (i*Z)=cs.take (i*Z):=by
    rw[List.append_assoc,List.take_append_of_le_length (by omega),List.take_take,Nat.min_eq_left (by omega),hctk]
   have ed:(cur.toList.take ((i+1)*Z)++cs.drop (i*Z)++cur.toList.drop ((i+1)*Z+(cs.drop (i*Z)).length)).drop (i*Z+vs.length)=cs.drop (i*Z)++cur.toList.drop ((i+1)*Z+(cs.drop (i*Z)).length):=by
    rw[List.append_assoc,List.drop_left' (by rw[hl1,hvl])]
   refine⟨⟨cur.toList.drop ((i+1)*Z+(cs.drop (i*Z)).length),?_,?_⟩,⟨hroom,hc63⟩,.inl ⟨rfl,rfl⟩,λk hk hne=>?_,?_,rfl,rfl,rfl⟩
   ·rw[setRow_heap _ g _ _ _ _ g1]
    simp only[List.toList_toArray]
    rw[ek,ed]
    simp only[List.append_assoc]
   ·simp only[List.length_append,htl,hvl,hdl,List.length_drop,Array.length_toList,hsz]
    omega
   ·rw[setRow_other _ g k _ hne,setRow_other _ g k _ hne];rfl
   ·simp
  ·obtain rfl:i=n:=by omega
   have hd0:cs.drop (i*Z)=[]:=List.drop_eq_nil_of_le (by omega)
   have ht0:cs.take (i*Z)=cs:=List.take_of_length_le (by omega)
   refine(Q0H L g i c vb voff vc vs w hroom hc63 hvl (λj hj=>hsome _ (by omega)) hfz hvs h1v).mono ?_
   rintro e w' ⟨rfl,rfl⟩
   refine⟨g,c,rfl,?_⟩
   have r1:=JB vs w g (i*Z) cur _ hg (by omega)
   rw[r1]
   refine⟨⟨cur.toList.drop (i*Z+vs.length),?_,?_⟩,⟨hroom,hc63⟩,.inl ⟨rfl,rfl⟩,λk hk hne=>?_,?_,rfl,rfl,rfl⟩
   ·rw[setRow_heap _ g _ _ _ _ hg,hctk,hd0]
    simp only[List.append_nil,List.append_assoc]
   ·simp only[List.length_append,htl,hvl,hdl,List.length_drop,Array.length_toList,hsz]
    omega
   ·rw[setRow_other _ g k _ hne]
   ·simp
 ·have hGn:=grownCap_ge w (n+1) c (ρ.t 9)
  have hG63:grownCap w (n+1) c (ρ.t 9)<=9223372036854775807:=by
   have:=grownCap_le_maxLen w (n+1) c (ρ.t 9) (by unfold maxLen;omega)
   unfold maxLen at this
   omega
  have hm5:(n+1)*Z+(grownCap w (n+1) c (ρ.t 9)-(n+1))*Z=grownCap w (n+1) c (ρ.t 9)*Z:=by rw[<-Nat.add_mul];congr 1;omega
  by_cases hi:i<n
  ·refine(Q5p L hZ hzc g n c i vb voff vc cs vs w hi hnc (by omega) hbig hn63 hcl hvl hcell hvs h1c h1v).mono ?_
   rintro e w' ⟨rfl,rfl⟩
   refine⟨w.heap.size,grownCap w (n+1) c (ρ.t 9),rfl,?_⟩
   obtain⟨ROW,hROW⟩:∃ROW:Array Value,ROW=(cs.take (i*Z)).toArray++Builtin.zeroCells z.cells (n+1-i)++Builtin.zeroCells z.cells (grownCap w (n+1) c (ρ.t 9)-(n+1)):=⟨_,rfl⟩
   rw[<-hROW]
   have h1:i*Z+(n+1-i)*Z=(n+1)*Z:=by rw[<-Nat.add_mul];congr 1;omega
   have hRs:ROW.size=grownCap w (n+1) c (ρ.t 9)*Z:=by
    rw[hROW]
    simp only[Array.size_append,List.size_toArray,size_zeroCells,hzc,htl]
    omega
   have hRt:ROW.toList.take (i*Z)=cs.take (i*Z):=by
    rw[hROW]
    simp only[Array.toList_append,List.append_assoc]
    rw[List.take_append_of_le_length (by rw[htl];exact Nat.le_refl _),List.take_of_length_le (by rw[htl];exact Nat.le_refl _)]
   have g0:((w.alloc (.cells ROW (ρ.t 9))).drew).heap[w.heap.size]? =some (.cells ROW (ρ.t 9) (0,0)):=by
    show(w.heap.push (.cells ROW (ρ.t 9)))[w.heap.size]? =_
    simp
   have r1:=JB vs (w.alloc (.cells ROW (ρ.t 9))).drew w.heap.size (i*Z) ROW _ g0 (by omega)
   have g1:=setRow_heap (w.alloc (.cells ROW (ρ.t 9))).drew w.heap.size ROW (ROW.toList.take (i*Z)++vs++ROW.toList.drop (i*Z+vs.length)).toArray _ _ g0
   rw[r1]
   have hl1:(ROW.toList.take (i*Z)++vs).length=(i+1)*Z:=by rw[List.length_append,hRt,htl,hvl,hm1]
   have r2:=JB (cs.drop (i*Z)) (((w.alloc (.cells ROW (ρ.t 9))).drew.setRow w.heap.size (ROW.toList.take (i*Z)++vs++ROW.toList.drop (i*Z+vs.length)).toArray).drew) w.heap.size ((i+1)*Z) _ _ g1 (by
    simp only[List.size_toArray,List.length_append,hRt,htl,hvl,hdl,List.length_drop,Array.length_toList,hRs]
    omega)
   rw[r2]
   have ek:(ROW.toList.take (i*Z)++vs++ROW.toList.drop (i*Z+vs.length)).take ((i+1)*Z)=cs.take (i*Z)++vs:=by
    rw[List.take_left' hl1,hRt]
   refine⟨⟨(ROW.toList.take (i*Z)++vs++ROW.toList.drop (i*Z+vs.length)).drop ((i+1)*Z+(cs.drop (i*Z)).length),?_,?_⟩,⟨hGn,hG63⟩,.inr rfl,λk hk hne=>?_,?_,rfl,rfl,rfl⟩
   ·rw[setRow_heap (((w.alloc (.cells ROW (ρ.t 9))).drew.setRow w.heap.size (ROW.toList.take (i*Z)++vs++ROW.toList.drop (i*Z+vs.length)).toArray).drew) w.heap.size _ _ _ _ g1]
    simp only[List.toList_toArray]
    rw[ek]
   ·simp only[List.length_append,htl,hvl,hdl,List.length_drop,hRt,Array.length_toList,hRs]
    omega
   ·rw[setRow_other _ _ k _ hne]
    show((w.alloc (.cells ROW (ρ.t 9))).drew.setRow w.heap.size _).heap[k]? =_
    rw[setRow_other _ _ k _ hne]
    show(w.heap.push (.cells ROW (ρ.t 9)))[k]? =_
    rw[Array.getElem?_push,if_neg hne]
   ·rw[setRow_size]
    show _<=((w.alloc (.cells ROW (ρ.t 9))).drew.setRow w.heap.size _).heap.size
    rw[setRow_size]
    show _<=(w.heap.push (.cells ROW (ρ.t 9))).size
    rw[Array.size_push]
    omega
  ·obtain rfl:i=n:=by omega
   have hd0:cs.drop (i*Z)=[]:=List.drop_eq_nil_of_le (by omega)
   have ht0:cs.take (i*Z)=cs:=List.take_of_length_le (by omega)
   refine(Q0I L ⟨g,0,none⟩ i c vb voff vc cs vs w hnc (by omega) hbig hn63 hcl hvl (λj v hj=>by rw[Addr.add_lit,Nat.zero_add];exact hcell j v hj) hvs h1v).mono ?_
   rintro e w' ⟨rfl,rfl⟩
   refine⟨w.heap.size,grownCap w (i+1) c (ρ.t 9),rfl,?_⟩
   rw[hd0,ht0,List.append_nil]
   refine⟨⟨(Builtin.zeroCells z.cells (grownCap w (i+1) c (ρ.t 9)-(i+1))).toList,?_,?_⟩,⟨hGn,hG63⟩,.inr rfl,λk hk hne=>?_,?_,rfl,rfl,rfl⟩
   ·show(w.heap.push (.cells _ (ρ.t 9)))[w.heap.size]? =_
    rw[Array.getElem?_push_size]
    refine congrArg (λx:Array Value=>some (Obj.cells x (ρ.t 9))) (Array.ext' ?_)
    rw[Array.toList_append]
   ·simp only[List.length_append,hcl,hvl,Array.length_toList,size_zeroCells,hzc]
    omega
   ·show(w.heap.push (.cells _ (ρ.t 9)))[k]? =_
    rw[Array.getElem?_push,if_neg hne]
   ·show _<=(w.heap.push (.cells _ (ρ.t 9))).size
    rw[Array.size_push]
    omega
end Go.GxIns
end
section
/- slices.Insert of one element,in the interpreter's words. -/
namespace Go.Gx
open Go.RowKit Go.Proofs Go.Shelf Go.GxIns
def Q5Z (τ:Ty)(xs:List (den τ))(i:Int)(ys:List (den τ)):Option (List (den τ)):=
 bif decide (0<=i)&&(decide (i<=(xs.length:Int))&&(Nat.beq ys.length 1&&room (xs.length+1) τ))then some (xs.take i.toNat++ys++xs.drop i.toNat)else none
theorem Q1C {P:Program}{ρ:Ren}{nm:String}{Z B:Nat}{z:Value}(L:InsL P ρ nm Z B z)(hzc:z.cells.size=Z)(vb voff vc:Nat)(vs:List Value)(w:World)(hbig:B<=140737488355328)
  (hvl:vs.length=Z) (hvs:∀j v,vs[j]? =some v->w.cell? ⟨vb,voff+j,none⟩=some v) (h1v:∀v∈vs,v.oneCell'=true) :
  Calls P (ρ.f 22) #[.slice none 0 0,.int .i64 0,.slice (some ⟨vb,voff,none⟩) 1 vc] w λe w'=>
   ∃g' c',e= .returned (.slice (some ⟨g',0,none⟩) 1 c')/\InsOut (ρ.t 9) Z 0 0 w.heap.size vs w w' g' c':=by
 have hGn:=grownCap_ge w 1 0 (ρ.t 9)
 have hG63:grownCap w 1 0 (ρ.t 9)<=9223372036854775807:=by
  have:=grownCap_le_maxLen w 1 0 (ρ.t 9) (by unfold maxLen;omega)
  unfold maxLen at this
  omega
 have hm5:1*Z+(grownCap w 1 0 (ρ.t 9)-1)*Z=grownCap w 1 0 (ρ.t 9)*Z:=by rw[<-Nat.add_mul];congr 1;omega
 refine(Q5Y L vb voff vc vs w hbig hvl hvs h1v).mono ?_
 rintro e w' ⟨rfl,rfl⟩
 refine⟨w.heap.size,grownCap w 1 0 (ρ.t 9),rfl,⟨(Builtin.zeroCells z.cells (grownCap w 1 0 (ρ.t 9)-1)).toList,?_,?_⟩,⟨hGn,hG63⟩,.inr rfl,λk hk hne=>?_,?_,rfl,rfl,rfl⟩
 ·show(w.heap.push (.cells _ (ρ.t 9)))[w.heap.size]? =_
  rw[Array.getElem?_push_size]
  refine congrArg (λx:Array Value=>some (Obj.cells x (ρ.t 9))) (Array.ext' ?_)
  rw[Array.toList_append]
 ·simp only[List.length_append,hvl,Array.length_toList,size_zeroCells,hzc]
  omega
 ·show(w.heap.push (.cells _ (ρ.t 9)))[k]? =_
  rw[Array.getElem?_push,if_neg hne]
 ·show _<=(w.heap.push (.cells _ (ρ.t 9))).size
  rw[Array.size_push]
  omega
theorem Q1D {pv:Nat->Value}{S:Nat->Prop}{w w':World}{te n c g g' c':Nat}{τ:Ty}{new:List Value}{xs ys:List (den τ)}{l:Loc}(hS:∀b,S b->b<w.heap.size)
  (ho:InsOut te (nc τ) n c g new w w' g' c') (hl:(l= .at g c)\/(g=w.heap.size/\l= .nilrow)) (hpin:∀g c,l= .at g c->¬S g) (hpos:0<nc τ) (hn:ys.length=n+1)
  (hnew:∀i (hi:i<ys.length),∃cs,CR (cS pv S w) w τ ys[i] cs/\∀j v,cs[j]? =some v->new[i*nc τ+j]? =some v) :
  Blw ⟨λb=>b<w.heap.size/\∀g c,l= .at g c->b≠g,none⟩ w w'/\∃S':Nat->Prop,(∀b,S b->S' b)/\(∀b,S' b->S b\/(∃c,l= .at b c)\/(w.heap.size<=b/\b<w'.heap.size))/\Q6m S' w' w.heap.size pv (.fr te τ xs) l (.mov te τ ys) (.slice (some ⟨g',0,none⟩) (n+1) c'):=by
 obtain⟨R,hR,hRs⟩:=ho.row
 have hgS:¬S g':=λh=>by
  have hb:=hS _ h
  rcases ho.place with⟨e,_⟩|e
  ·rcases hl with e2|⟨e2,_⟩
   ·exact hpin g c e2 (e▸h)
   ·omega
  ·omega
 have hne:∀k,k<w.heap.size->(∀g c,l= .at g c->k≠g)->k≠g':=λk hk h e2=>by
  rcases ho.place with⟨e,_⟩|e
  ·rcases hl with e3|⟨e3,_⟩
   ·exact h g c e3 (e2.trans e)
   ·omega
  ·omega
 have hSh:∀b,S b->w'.heap[b]? =w.heap[b]?:=λb hb=>ho.old b (hS b hb) λe=>hgS (e▸hb)
 refine⟨⟨ho.os,ho.tape,ho.output,ho.size,λk hk=>ho.old k hk.1 (hne k hk.1 hk.2)⟩,S,λb hb=>hb,λb hb=>.inl hb,.at g' c',⟨_,(0,0),hR,by simpa using hRs,(by have:=ho.cap.1;omega),(by have:=ho.cap.2;unfold maxLen;omega),λ_=>rfl,.inl (Nat.le_refl _),hpos,λi hi=>?_⟩,?_,λg2 c2 h2=>?_⟩
 ·obtain⟨cs,h1,h2⟩:=hnew i hi
  refine⟨cs,h1.mono (λb hb=>hb.mono (λh=>h) (hSh b hb.1)) (λb hb=>hSh b hb.1),λj v hj=>?_⟩
  have h3:=h2 j v hj
  have hlt:=(List.getElem?_eq_some_iff.1 h3).1
  rw[List.getElem?_toArray,List.getElem?_append_left hlt,h3]
 ·rw[<-hn];rfl
 ·cases h2
  refine⟨hgS,?_⟩
  rcases ho.place with⟨e,_⟩|e
  ·rcases hl with e3|⟨e3,_⟩
   ·exact .inl ⟨c,e▸e3⟩
   ·exact .inr (by omega)
  ·exact .inr (by omega)
theorem Q2v {P:Program}{E:Env}{pv:Nat->Value}{ρ:Ren}{nm:String}{fn:Func}{cd:Code}{τ:Ty}{te:Nat}(hE:EnvOk P E)(hte:E.ty te=some τ)(hon:(E.on&&slT τ)=false)(hpos:0<nc τ)(hnb:0<nb τ)
  (L:InsL P ρ nm (nc τ) (nb τ) (valOf (.t τ (Q6 τ)) (zc τ))) (h9:ρ.t 9=te) (hf:P.funcs[ρ.f 22]? =some fn) (hb:fn.body=some cd) (hname:(fn.name== "runtime.NumGoroutine")=false)
  {xs ys y:List (den τ)} {i:Int} (h:Q5Z τ xs i ys=some y):Ju P E pv (ρ.f 22) (.fr te τ xs) [.t (.int .i64) i,.t (.sl τ) ys] (.mov te τ y):=by
 unfold Q5Z at h
 cases hc:(decide (0<=i)&&(decide (i<=(xs.length:Int))&&(Nat.beq ys.length 1&&room (xs.length+1) τ)))with
 |false=>rw[hc]at h;cases h
 |true=>
  rw[hc]at h
  cases h
  simp only[Bool.and_eq_true,decide_eq_true_eq]at hc
  obtain⟨h0,h1,h2,h3⟩:=hc
  have h2:ys.length=1:=Nat.eq_of_beq_eq_true h2
  obtain⟨y0,rfl⟩:=List.length_eq_one_iff.1 h2
  obtain⟨m,rfl⟩:∃m:Nat,i=m:=⟨i.toNat,by omega⟩
  rw[Int.toNat_natCast]
  have hbig:(xs.length+1)*nb τ<=140737488355328:=Nat.le_of_ble_eq_true h3
  have hlen:xs.length+1<=140737488355328:=Nat.le_trans (Nat.le_mul_of_pos_right _ hnb) hbig
  have hzc:(valOf (.t τ (Q6 τ)) (zc τ)).cells.toList=zc τ:=QJ (S:=λ_=>False) (w:=default) (ρ:=λ_=>none) (row:=λ_=>none) (pv:=pv) (.t τ (Q6 τ)) (.t τ _ _ (QZ _ _ τ))
  have hzs:(valOf (.t τ (Q6 τ)) (zc τ)).cells.size=nc τ:=by rw[<-Array.length_toList,hzc];exact(QZ (λ_=>False) default τ).len
  intro S w v0 vs l r0 hS hgl hargs hr hrow hpin hv
  obtain⟨vs1,rfl,ha1⟩:=Q5n hargs
  obtain⟨cs2,vs2,hc2,rfl,ha2⟩:=Q09 ha1
  obtain rfl:=Q5m ha2
  cases hc2 with
  |t _ _ _ hcr=>
  cases hcr with
  |sl _ _ A vc cv hvc hvm k1 k2=>
  obtain⟨vb,vo,rfl,hSv,hcell⟩:=k2 0 (by simp)
  have hvl:(cv 0).length=nc τ:=(k1 0 (by simp)).len
  have hv1:=(k1 0 (by simp)).one
  have hvs:∀j v,(cv 0)[j]? =some v->w.cell? ⟨vb,vo+j,none⟩=some v:=λj v hj=>by
   have:=hcell j v hj
   rwa [Nat.zero_mul,Nat.zero_add]at this
  have hy0:CR (cS pv S w) w τ y0 (cv 0):=hgl.up hon (k1 0 (by simp))
  cases hr
  subst hv
  show Goes P (ρ.f 22) (Ya (.fr te τ xs) l::[.int .i64 m,.slice (some ⟨vb,vo,none⟩) 1 vc]).toArray w _
  cases l with
  |soft T v=>exact hrow.elim
  |tree cs T v=>exact hrow.elim
  |nilrow=>
   obtain⟨e0,_,hn⟩:=hrow
   have e0:xs=[]:=e0
   subst e0
   obtain rfl:m=0:=by simpa using h1
   refine Q1B hf hb hname ((Q1C L hzs vb vo vc (cv 0) w (by simpa using hbig) hvl hvs hv1).mono λe w' ⟨g',c',he,ho⟩=>⟨_,he,?_⟩)
   rw[h9]at ho
   refine Q1D (n:=0) hS ho (.inr ⟨rfl,rfl⟩) hpin hpos rfl λi hi=>?_
   obtain rfl:i=0:=by simpa using hi
   exact⟨cv 0,hy0,λj v hj=>by rwa [Nat.zero_mul,Nat.zero_add]⟩
  |«at» g cap=>
   obtain⟨cur,fr,r1,r2,r3,r4,r5,r6,r7,r8⟩:=hrow
   obtain rfl:=r5 rfl
   have hcz:xs.length*nc τ<=cap*nc τ:=Nat.mul_le_mul_right _ r3
   have hct:cur.toList.length=cap*nc τ:=by rw[<-r2];exact Array.length_toList
   have hcell1:∀v∈cur.toList.take (xs.length*nc τ),v.oneCell'=true:=λv hv=>by
    obtain⟨j,hj,rfl⟩:=List.getElem_of_mem hv
    rw[List.length_take,hct]at hj
    have hj1:j / nc τ<xs.length:=Nat.div_lt_of_lt_mul (by rw[Nat.mul_comm];omega)
    obtain⟨cs,q1,q2⟩:=r8 _ hj1
    have hj2:j % nc τ<cs.length:=by rw[q1.len];exact Nat.mod_lt _ hpos
    have q3:=q2 _ _ (List.getElem?_eq_getElem hj2)
    have e1:j / nc τ*nc τ+j % nc τ=j:=by rw[Nat.mul_comm];exact Nat.div_add_mod j (nc τ)
    rw[e1,Array.getElem?_eq_getElem (by omega)]at q3
    rw[List.getElem_take,Array.getElem_toList,Option.some.inj q3]
    exact q1.one _ (List.getElem_mem hj2)
   have hvb:vb≠g:=λe=>hpin g cap rfl (e▸hSv)
   have hin:m<=xs.length:=by omega
   rw[<-h9]at r1
   refine Q1B hf hb hname ((ins_any L hpos hzs g xs.length cap m vb vo vc cur (cv 0) w hin r3 r4 hbig (by omega) r1 r2 hvb hvl hvs hcell1 hv1).mono λe w' ⟨g',c',he,ho⟩=>⟨_,he,?_⟩)
   rw[h9]at ho
   have hnl:(xs.take m++[y0]++xs.drop m).length=xs.length+1:=by simp;omega
   refine Q1D (n:=xs.length) hS ho (.inl rfl) hpin hpos hnl λi hi=>?_
   have hcl:(cur.toList.take (xs.length*nc τ)).length=xs.length*nc τ:=by rw[List.length_take,hct];omega
   have hmz:m*nc τ<=xs.length*nc τ:=Nat.mul_le_mul_right _ hin
   have htl:((cur.toList.take (xs.length*nc τ)).take (m*nc τ)).length=m*nc τ:=by rw[List.length_take,hcl];omega
   have hci:∀k (hk:k<xs.length),∃cs,CR (cS pv S w) w τ xs[k] cs/\cs.length=nc τ/\∀j v,cs[j]? =some v->(cur.toList.take (xs.length*nc τ))[k*nc τ+j]? =some v:=λk hk=>by
    obtain⟨cs,q1,q2⟩:=r8 k hk
    refine⟨cs,q1,q1.len,λj v hj=>?_⟩
    have hj2:=(List.getElem?_eq_some_iff.1 hj).1
    have hk2:(k+1)*nc τ<=xs.length*nc τ:=Nat.mul_le_mul_right _ hk
    rw[Nat.succ_mul]at hk2
    rw[q1.len]at hj2
    rw[List.getElem?_take,if_pos (by omega),Array.getElem?_toList]
    exact q2 j v hj
   rcases Nat.lt_trichotomy i m with hlt|rfl|hgt
   ·obtain⟨cs,q1,q2,q3⟩:=hci i (by omega)
    refine⟨cs,?_,λj v hj=>?_⟩
    ·have e:(xs.take m++[y0]++xs.drop m)[i]=xs[i]:=by
      have e1:(xs.take m++[y0]++xs.drop m)[i]? =xs[i]?:=by
       rw[List.append_assoc,List.getElem?_append_left (by rw[List.length_take];omega),List.getElem?_take,if_pos hlt]
      rw[List.getElem?_eq_getElem hi,List.getElem?_eq_getElem (by omega)]at e1
      exact Option.some.inj e1
     rw[e];exact q1
    ·have hj2:=(List.getElem?_eq_some_iff.1 hj).1
     have hk2:(i+1)*nc τ<=m*nc τ:=Nat.mul_le_mul_right _ hlt
     rw[Nat.succ_mul]at hk2
     rw[List.append_assoc,List.getElem?_append_left (by rw[htl];omega),List.getElem?_take,if_pos (by omega)]
     exact q3 j v hj
   ·refine⟨cv 0,?_,λj v hj=>?_⟩
    ·have e:(xs.take i++[y0]++xs.drop i)[i]=y0:=by
      have e1:(xs.take i++[y0]++xs.drop i)[i]? =some y0:=by
       rw[List.append_assoc,List.getElem?_append_right (by rw[List.length_take];omega),List.length_take,Nat.min_eq_left hin,Nat.sub_self]
       rfl
      rw[List.getElem?_eq_getElem hi]at e1
      exact Option.some.inj e1
     rw[e];exact hy0
    ·have hj2:=(List.getElem?_eq_some_iff.1 hj).1
     rw[List.append_assoc,List.getElem?_append_right (by rw[htl];omega),htl,Nat.add_sub_cancel_left,List.getElem?_append_left hj2]
     exact hj
   ·have hi2:i-1<xs.length:=by omega
    obtain⟨cs,q1,q2,q3⟩:=hci (i-1) hi2
    refine⟨cs,?_,λj v hj=>?_⟩
    ·have e:(xs.take m++[y0]++xs.drop m)[i]=xs[i-1]:=by
      have hl2:(xs.take m++[y0]).length=m+1:=by simp[Nat.min_eq_left hin]
      have e1:(xs.take m++[y0]++xs.drop m)[i]? =xs[i-1]?:=by
       rw[List.getElem?_append_right (by omega),hl2,List.getElem?_drop]
       congr 1
       omega
      rw[List.getElem?_eq_getElem hi,List.getElem?_eq_getElem hi2]at e1
      exact Option.some.inj e1
     rw[e];exact q1
    ·have hk2:(m+1)*nc τ<=i*nc τ:=Nat.mul_le_mul_right _ hgt
     have hk3:i*nc τ=(i-1)*nc τ+nc τ:=by rw[<-Nat.succ_mul];congr 1;omega
     rw[Nat.succ_mul]at hk2
     rw[List.getElem?_append_right (by rw[List.length_append,htl,hvl];omega),List.length_append,htl,hvl,List.getElem?_drop]
     have e:m*nc τ+(i*nc τ+j-(m*nc τ+nc τ))=(i-1)*nc τ+j:=by omega
     rw[e]
     exact q3 j v hj
end Go.Gx
end
section
namespace Go.Proofs.Ytfindpalabmmmaa
open Go.Gx
def tyT (t:Nat):Option Ty:=match t with
 |3=>some (.int .i64)
 |4=>some .bool
 |5=>some (.int .u8)
 |9=>some .str
 |10=>some .str
 |11=>some .str
 |22=>some (.sl .abbr)
 |24=>some .abbr
 |27=>some (.sl .abbr)
 |31=>some .abbr
 |45=>some (.sl (.int .u8))
 |60=>some (.int .u8)
 |_=>none
def elT (t:Nat):Nat:=match t with
 |22=>24
 |27=>31
 |45=>5
 |_=>0
def mdT (f:Nat):Bool:=match f with
 |11=>true
 |16=>true
 |30=>true
 |_=>false
def glT (g:Nat):Option AV:=match g with
 |_=>none
def giT (g:Nat):Bool:=match g with
 |_=>false
def dmT (f:Nat):Bool:=match f with
 |11=>true
 |_=>false
def pmT (f:Nat):Bool:=match f with
 |_=>false
def tmX (f:Nat):Bool:=match f with
 |_=>false
def Q7:Env:={ty:=tyT,el:=elT,gl:=glT,md:=mdT,gi:=giT,dm:=dmT,pm:=pmT,tm:=tmX}
theorem Q2w:∀T τ,Q7.ty T=some τ->TyOk Try.prog Q7 T τ:=λT τ h=>by
 dsimp only[Q7,tyT]at h
 split at h<;>first
  |(cases h;done)
  |(cases h;exact Q5H (by kernel_rfl) (by kernel_rfl))
theorem Q6b:EnvOk Try.prog Q7:=⟨Q2w,by kernel_rfl,λT h=>by
 dsimp only[Q7,tyT]at h
 split at h<;>first
  |(cases h;done)
  |exact Q5W Q2w rfl (by kernel_rfl) (by kernel_rfl) (by kernel_rfl),λT h=>by
 dsimp only[Q7,tyT]at h
 split at h<;>first
  |(cases h;done)
  |exact Q5X Q2w rfl (by kernel_rfl) (by kernel_rfl) (by kernel_rfl)⟩
def Z13.F (a0:Abbr)(a1:Int):Option (Int):=bif (decide ((IntKind.wrap .i64 (a1-(a0.word.size:Int)))<0))then(some (-1))else(bif (decide ((IntKind.wrap .i64 ((IntKind.wrap .i64 (a1-(a0.word.size:Int)))-(a0.short.size:Int)))<0))then(some (-1))else(some (IntKind.wrap .i64 ((IntKind.wrap .i64 (a1-(a0.word.size:Int)))-(a0.short.size:Int)))))
def Z13.C:Cal->Option CArm:=λc=>match c with
 |_=>none
theorem Z13.run (a0:Abbr)(a1:Int):JY Q7 (QP Z13.C) (QG 20 0 (λ_=>none)) Try.f5 [.t .abbr a0,.t (.int .i64) a1] (QN (.t (.int .i64)))=Z13.F a0 a1:=by kernel_rfl
theorem Z13.G (hE:EnvOk Try.prog Q7)(pv:Nat->Value):∀cal A,Z13.C cal=some A->QT Try.prog Q7 pv cal A:=by
 intro cal A h
 unfold Z13.C at h
 cases h
theorem Z13.good (hE:EnvOk Try.prog Q7)(pv:Nat->Value)(a0:Abbr)(a1:Int){y:_}(h:Z13.F a0 a1=some y):Qw Try.prog Q7 pv (.f 5) (Qs [.abbr,(.int .i64)] (a0,a1,())) (.t (.int .i64) y):=
 QX hE (Z13.G hE pv) (f:=5) (fn:=Try.f5) (by kernel_rfl) rfl (by kernel_rfl) (by kernel_rfl) ((Z13.run a0 a1).trans h) (λr hr=>Qq hr)
def Z10.l0:Nat->(List Abbr)->Int->Int->Option (Sum Int Int)
 |0,_,_,_=>none
 |k+1,x0,x1,x5=>bif (decide (x5<(x0.length:Int)))then(bif decide (0<=x5)then(bif decide (x5<(x0.length:Int))then((Z13.F (x0.getD (x5:Int).toNat (Q6 .abbr)) x1).bind λr1=>bif (decide (r1<0))then(some (.inl (-1)))else(Z10.l0 k x0 r1 (IntKind.wrap .i64 (x5+1))))else none)else none)else(some (.inr x1))
def Z10.F (k:Nat)(a0:List Abbr)(a1:Int):Option (Int):=bif (decide ((IntKind.wrap .i64 (a1-(a0.length:Int)))<0))then(some (-1))else((Z10.l0 k a0 (IntKind.wrap .i64 (a1-(a0.length:Int))) 0).bind λy2=>match y2 with|.inl z3=>some z3|.inr z3=>some z3)
def Z10.C (k:Nat):Cal->Option CArm:=λc=>match c with
 |.f 5=>some (.p [.abbr,(.int .i64)] _ (λx=>Z13.F x.1 x.2.1) (λr=>(.t (.int .i64) r)))
 |_=>none
def Z10.sp0:List Sp:=[.t 0 (.sl .abbr),.t 1 (.int .i64),.t 5 (.int .i64)]
def Z10.sp0_0:List Sp:=[.t 4 (.int .i64)]
def Z10.sp0_1:List Sp:=[.t 1 (.int .i64)]
def Z10.A0:LArm:=.two Z10.sp0 Z10.sp0_0 Z10.sp0_1 (Int) (Int) (λk x=>Z10.l0 k x.1 x.2.1 x.2.2.1) .ret (.exit 0) (λy=>(y,())) (λx=>x.1) (λy=>(y,())) (λx=>x.1)
def Z10.L:Nat->Option LArm:=λb=>match b with
 |0=>some Z10.A0
 |_=>none
theorem Z10.run (k:Nat)(a0:List Abbr)(a1:Int):JY Q7 (QP (Z10.C k)) (QG 27 k Z10.L) Try.f4 [.t (.sl .abbr) a0,.t (.int .i64) a1] (QN (.t (.int .i64)))=Z10.F k a0 a1:=by kernel_rfl
theorem Z10.step0 (k:Nat)(x0:List Abbr)(x1:Int)(x5:Int):Jy Q7 (QP (Z10.C k)) (QG 27 k Z10.L) 0 (Jc Try.f4 0) (YC 27 Z10.sp0 (x0,x1,x5,())) (Z10.A0.cont 27 k)=Z10.l0 (k+1) x0 x1 x5:=by kernel_rfl
theorem Z10.G (hE:EnvOk Try.prog Q7)(pv:Nat->Value)(k:Nat):∀cal A,Z10.C k cal=some A->QT Try.prog Q7 pv cal A:=by
 intro cal A h
 unfold Z10.C at h
 split at h
 ·cases h;exact λx y hy=>Z13.good hE pv x.1 x.2.1 hy
 ·cases h
theorem Z10.good (hE:EnvOk Try.prog Q7)(pv:Nat->Value)(k:Nat)(a0:List Abbr)(a1:Int){y:_}(h:Z10.F k a0 a1=some y):Qw Try.prog Q7 pv (.f 4) (Qs [(.sl .abbr),(.int .i64)] (a0,a1,())) (.t (.int .i64) y):=
 J9 hE (t:=Z10.C) k (λk _=>Z10.G hE pv k) (f:=4) (fn:=Try.f4) (by kernel_rfl) rfl (by kernel_rfl) (by kernel_rfl) (lt:=Z10.L) (by kernel_rfl) (λb A h=>by
  unfold Z10.L at h;split at h
  ·cases h;exact⟨by kernel_rfl,by kernel_rfl,by kernel_rfl,λ_=>rfl,λ_=>rfl,λ_=>rfl⟩
  ·cases h) (λb A h=>by
  unfold Z10.L at h;split at h
  ·cases h;exact λk x=>Z10.step0 k x.1 x.2.1 x.2.2.1
  ·cases h) ((Z10.run k a0 a1).trans h) (λr hr=>Qq hr)
def Z16.F (a0:Int)(a1:Int)(a2:Int):Option (Bool):=bif (decide (a0 ≥ a1))then(some (decide (a0<=a2)))else(some false)
def Z16.C:Cal->Option CArm:=λc=>match c with
 |_=>none
theorem Z16.run (a0:Int)(a1:Int)(a2:Int):JY Q7 (QP Z16.C) (QG 15 0 (λ_=>none)) Try.f24 [.t (.int .i64) a0,.t (.int .i64) a1,.t (.int .i64) a2] (QN (.t .bool))=Z16.F a0 a1 a2:=by kernel_rfl
theorem Z16.G (hE:EnvOk Try.prog Q7)(pv:Nat->Value):∀cal A,Z16.C cal=some A->QT Try.prog Q7 pv cal A:=by
 intro cal A h
 unfold Z16.C at h
 cases h
theorem Z16.good (hE:EnvOk Try.prog Q7)(pv:Nat->Value)(a0:Int)(a1:Int)(a2:Int){y:_}(h:Z16.F a0 a1 a2=some y):Qw Try.prog Q7 pv (.f 24) (Qs [(.int .i64),(.int .i64),(.int .i64)] (a0,a1,a2,())) (.t .bool y):=
 QX hE (Z16.G hE pv) (f:=24) (fn:=Try.f24) (by kernel_rfl) rfl (by kernel_rfl) (by kernel_rfl) ((Z16.run a0 a1 a2).trans h) (λr hr=>Qq hr)
def Z6.l0:Nat->ByteArray->Int->Int->Int->Option (Sum Bool (ByteArray×Int×Int))
 |0,_,_,_,_=>none
 |k+1,x0,x1,x2,x7=>bif (decide (x7<(x0.size:Int)))then(bif decide (0<=x7)then(bif decide (x7<(x0.size:Int))then(bif (decide ((bt x0 (x7:Int).toNat)<97))then(some (.inl false))else(bif decide (0<=x7)then(bif decide (x7<(x0.size:Int))then(bif (decide ((bt x0 (x7:Int).toNat) > 122))then(some (.inl false))else(Z6.l0 k x0 x1 x2 (IntKind.wrap .i64 (x7+1))))else none)else none))else none)else none)else(some (.inr (x0,x1,x2)))
def Z6.F (k:Nat)(a0:ByteArray)(a1:Int)(a2:Int):Option (Bool):=(Z6.l0 k a0 a1 a2 0).bind λy1=>match y1 with|.inl z2=>some z2|.inr z2=>(Z16.F (z2.1.size:Int) z2.2.1 z2.2.2).bind λr3=>some r3
def Z6.C (k:Nat):Cal->Option CArm:=λc=>match c with
 |.f 24=>some (.p [(.int .i64),(.int .i64),(.int .i64)] _ (λx=>Z16.F x.1 x.2.1 x.2.2.1) (λr=>(.t .bool r)))
 |_=>none
def Z6.sp0:List Sp:=[.t 0 .str,.t 1 (.int .i64),.t 2 (.int .i64),.t 7 (.int .i64)]
def Z6.sp0_0:List Sp:=[.t 6 .bool]
def Z6.sp0_1:List Sp:=[.t 0 .str,.t 1 (.int .i64),.t 2 (.int .i64)]
def Z6.A0:LArm:=.two Z6.sp0 Z6.sp0_0 Z6.sp0_1 (Bool) (ByteArray×Int×Int) (λk x=>Z6.l0 k x.1 x.2.1 x.2.2.1 x.2.2.2.1) .ret (.exit 0) (λy=>(y,())) (λx=>x.1) (λy=>(y.1,y.2.1,y.2.2,())) (λx=>(x.1,x.2.1,x.2.2.1))
def Z6.L:Nat->Option LArm:=λb=>match b with
 |0=>some Z6.A0
 |_=>none
theorem Z6.run (k:Nat)(a0:ByteArray)(a1:Int)(a2:Int):JY Q7 (QP (Z6.C k)) (QG 29 k Z6.L) Try.f19 [.t .str a0,.t (.int .i64) a1,.t (.int .i64) a2] (QN (.t .bool))=Z6.F k a0 a1 a2:=by kernel_rfl
theorem Z6.step0 (k:Nat)(x0:ByteArray)(x1:Int)(x2:Int)(x7:Int):Jy Q7 (QP (Z6.C k)) (QG 29 k Z6.L) 0 (Jc Try.f19 0) (YC 29 Z6.sp0 (x0,x1,x2,x7,())) (Z6.A0.cont 29 k)=Z6.l0 (k+1) x0 x1 x2 x7:=by kernel_rfl
theorem Z6.G (hE:EnvOk Try.prog Q7)(pv:Nat->Value)(k:Nat):∀cal A,Z6.C k cal=some A->QT Try.prog Q7 pv cal A:=by
 intro cal A h
 unfold Z6.C at h
 split at h
 ·cases h;exact λx y hy=>Z16.good hE pv x.1 x.2.1 x.2.2.1 hy
 ·cases h
theorem Z6.good (hE:EnvOk Try.prog Q7)(pv:Nat->Value)(k:Nat)(a0:ByteArray)(a1:Int)(a2:Int){y:_}(h:Z6.F k a0 a1 a2=some y):Qw Try.prog Q7 pv (.f 19) (Qs [.str,(.int .i64),(.int .i64)] (a0,a1,a2,())) (.t .bool y):=
 J9 hE (t:=Z6.C) k (λk _=>Z6.G hE pv k) (f:=19) (fn:=Try.f19) (by kernel_rfl) rfl (by kernel_rfl) (by kernel_rfl) (lt:=Z6.L) (by kernel_rfl) (λb A h=>by
  unfold Z6.L at h;split at h
  ·cases h;exact⟨by kernel_rfl,by kernel_rfl,by kernel_rfl,λ_=>rfl,λ_=>rfl,λ_=>rfl⟩
  ·cases h) (λb A h=>by
  unfold Z6.L at h;split at h
  ·cases h;exact λk x=>Z6.step0 k x.1 x.2.1 x.2.2.1 x.2.2.2.1
  ·cases h) ((Z6.run k a0 a1 a2).trans h) (λr hr=>Qq hr)
def Z15.F (a0:ByteArray)(a1:Int):Option (ByteArray):=bif (!Jq a0 (⟨#[]⟩:ByteArray))then(bif decide (0<=(IntKind.wrap .i64 ((a0.size:Int)-1)))then(bif decide ((IntKind.wrap .i64 ((a0.size:Int)-1))<(a0.size:Int))then(bif ((bt a0 ((IntKind.wrap .i64 ((a0.size:Int)-1)):Int).toNat)==a1)then(bif decide (0<=(IntKind.wrap .i64 ((a0.size:Int)-1)))then(bif decide ((IntKind.wrap .i64 ((a0.size:Int)-1))<=(a0.size:Int))then(some (a0.extract 0 ((IntKind.wrap .i64 ((a0.size:Int)-1)):Int).toNat))else none)else none)else(some a0))else none)else none)else(some a0)
def Z15.C:Cal->Option CArm:=λc=>match c with
 |_=>none
theorem Z15.run (a0:ByteArray)(a1:Int):JY Q7 (QP Z15.C) (QG 22 0 (λ_=>none)) Try.f20 [.t .str a0,.t (.int .u8) a1] (QN (.t .str))=Z15.F a0 a1:=by kernel_rfl
theorem Z15.G (hE:EnvOk Try.prog Q7)(pv:Nat->Value):∀cal A,Z15.C cal=some A->QT Try.prog Q7 pv cal A:=by
 intro cal A h
 unfold Z15.C at h
 cases h
theorem Z15.good (hE:EnvOk Try.prog Q7)(pv:Nat->Value)(a0:ByteArray)(a1:Int){y:_}(h:Z15.F a0 a1=some y):Qw Try.prog Q7 pv (.f 20) (Qs [.str,(.int .u8)] (a0,a1,())) (.t .str y):=
 QX hE (Z15.G hE pv) (f:=20) (fn:=Try.f20) (by kernel_rfl) rfl (by kernel_rfl) (by kernel_rfl) ((Z15.run a0 a1).trans h) (λr hr=>Qq hr)
def Z14.F (k:Nat)(a0:Abbr):Option (Bool):=(Z15.F a0.word 45).bind λr1=>(Z6.F k r1 2 15).bind λr2=>bif r2 then((Z15.F a0.short 46).bind λr3=>(Z6.F k r3 1 12).bind λr4=>some r4)else(some false)
def Z14.C (k:Nat):Cal->Option CArm:=λc=>match c with
 |.f 20=>some (.p [.str,(.int .u8)] _ (λx=>Z15.F x.1 x.2.1) (λr=>(.t .str r)))
 |.f 19=>some (.p [.str,(.int .i64),(.int .i64)] _ (λx=>Z6.F k x.1 x.2.1 x.2.2.1) (λr=>(.t .bool r)))
 |_=>none
theorem Z14.run (k:Nat)(a0:Abbr):JY Q7 (QP (Z14.C k)) (QG 13 0 (λ_=>none)) Try.f14 [.t .abbr a0] (QN (.t .bool))=Z14.F k a0:=by kernel_rfl
theorem Z14.G (hE:EnvOk Try.prog Q7)(pv:Nat->Value)(k:Nat):∀cal A,Z14.C k cal=some A->QT Try.prog Q7 pv cal A:=by
 intro cal A h
 unfold Z14.C at h
 split at h
 ·cases h;exact λx y hy=>Z15.good hE pv x.1 x.2.1 hy
 ·cases h;exact λx y hy=>Z6.good hE pv k x.1 x.2.1 x.2.2.1 hy
 ·cases h
theorem Z14.good (hE:EnvOk Try.prog Q7)(pv:Nat->Value)(k:Nat)(a0:Abbr){y:_}(h:Z14.F k a0=some y):Qw Try.prog Q7 pv (.f 14) (Qs [.abbr] (a0,())) (.t .bool y):=
 QX hE (Z14.G hE pv k) (f:=14) (fn:=Try.f14) (by kernel_rfl) rfl (by kernel_rfl) (by kernel_rfl) ((Z14.run k a0).trans h) (λr hr=>Qq hr)
def Z0.l0:Nat->(List Abbr)->Int->Option (Sum Bool (List Abbr))
 |0,_,_=>none
 |k+1,x0,x3=>bif (decide (x3<(x0.length:Int)))then(bif (decide (x3<=15))then(bif decide (0<=x3)then(bif decide (x3<(x0.length:Int))then((Z14.F k (x0.getD (x3:Int).toNat (Q6 .abbr))).bind λr1=>bif (!r1)then(some (.inl false))else(bif (decide (x3 > 0))then(bif decide (0<=(IntKind.wrap .i64 (x3-1)))then(bif decide ((IntKind.wrap .i64 (x3-1))<(x0.length:Int))then(bif decide (0<=x3)then(bif decide (x3<(x0.length:Int))then(bif (!ltS ((x0.getD ((IntKind.wrap .i64 (x3-1)):Int).toNat (Q6 .abbr)).word) ((x0.getD (x3:Int).toNat (Q6 .abbr)).word))then(some (.inl false))else(Z0.l0 k x0 (IntKind.wrap .i64 (x3+1))))else none)else none)else none)else none)else(Z0.l0 k x0 (IntKind.wrap .i64 (x3+1)))))else none)else none)else(some (.inr x0)))else(some (.inr x0))
def Z0.F (k:Nat)(a0:List Abbr):Option (Bool):=(Z0.l0 k a0 0).bind λy2=>match y2 with|.inl z3=>some z3|.inr z3=>some (decide ((z3.length:Int)<=15))
def Z0.C (k:Nat):Cal->Option CArm:=λc=>match c with
 |.f 14=>some (.p [.abbr] _ (λx=>Z14.F k x.1) (λr=>(.t .bool r)))
 |_=>none
def Z0.sp0:List Sp:=[.t 0 (.sl .abbr),.t 3 (.int .i64)]
def Z0.sp0_0:List Sp:=[.t 2 .bool]
def Z0.sp0_1:List Sp:=[.t 0 (.sl .abbr)]
def Z0.A0:LArm:=.two Z0.sp0 Z0.sp0_0 Z0.sp0_1 (Bool) ((List Abbr)) (λk x=>Z0.l0 k x.1 x.2.1) .ret (.exit 0) (λy=>(y,())) (λx=>x.1) (λy=>(y,())) (λx=>x.1)
def Z0.L:Nat->Option LArm:=λb=>match b with
 |0=>some Z0.A0
 |_=>none
theorem Z0.run (k:Nat)(a0:List Abbr):JY Q7 (QP (Z0.C k)) (QG 41 k Z0.L) Try.f13 [.t (.sl .abbr) a0] (QN (.t .bool))=Z0.F k a0:=by kernel_rfl
theorem Z0.step0 (k:Nat)(x0:List Abbr)(x3:Int):Jy Q7 (QP (Z0.C k)) (QG 41 k Z0.L) 0 (Jc Try.f13 0) (YC 41 Z0.sp0 (x0,x3,())) (Z0.A0.cont 41 k)=Z0.l0 (k+1) x0 x3:=by kernel_rfl
theorem Z0.G (hE:EnvOk Try.prog Q7)(pv:Nat->Value)(k:Nat):∀cal A,Z0.C k cal=some A->QT Try.prog Q7 pv cal A:=by
 intro cal A h
 unfold Z0.C at h
 split at h
 ·cases h;exact λx y hy=>Z14.good hE pv k x.1 hy
 ·cases h
theorem Z0.good (hE:EnvOk Try.prog Q7)(pv:Nat->Value)(k:Nat)(a0:List Abbr){y:_}(h:Z0.F k a0=some y):Qw Try.prog Q7 pv (.f 13) (Qs [(.sl .abbr)] (a0,())) (.t .bool y):=
 J9 hE (t:=Z0.C) k (λk _=>Z0.G hE pv k) (f:=13) (fn:=Try.f13) (by kernel_rfl) rfl (by kernel_rfl) (by kernel_rfl) (lt:=Z0.L) (by kernel_rfl) (λb A h=>by
  unfold Z0.L at h;split at h
  ·cases h;exact⟨by kernel_rfl,by kernel_rfl,by kernel_rfl,λ_=>rfl,λ_=>rfl,λ_=>rfl⟩
  ·cases h) (λb A h=>by
  unfold Z0.L at h;split at h
  ·cases h;exact λk x=>Z0.step0 k x.1 x.2.1
  ·cases h) ((Z0.run k a0).trans h) (λr hr=>Qq hr)
def Z4.l0:Nat->(List Abbr)->Abbr->Int->Option ((List Abbr)×Abbr×Int)
 |0,_,_,_=>none
 |k+1,x0,x3,x6=>bif (decide (x6<(x0.length:Int)))then(bif decide (0<=x6)then(bif decide (x6<(x0.length:Int))then(bif (ltS ((x0.getD (x6:Int).toNat (Q6 .abbr)).word) x3.word)then(Z4.l0 k x0 x3 (IntKind.wrap .i64 (x6+1)))else(some (x0,x3,x6)))else none)else none)else(some (x0,x3,x6))
def Z4.F (k:Nat)(a0:List Abbr)(a1:Abbr):Option ((List Abbr)×Bool):=(Z0.F k a0).bind λr1=>bif (!r1)then(some (([]:List Abbr),false))else((Z14.F k a1).bind λr2=>bif (!r2)then(some (([]:List Abbr),false))else((Z4.l0 k a0 a1 0).bind λy3=>bif (decide (y3.2.2<(y3.1.length:Int)))then(bif decide (0<=y3.2.2)then(bif decide (y3.2.2<(y3.1.length:Int))then(bif (Jq ((y3.1.getD (y3.2.2:Int).toNat (Q6 .abbr)).word) y3.2.1.word)then(bif decide (0<=y3.2.2)then(bif decide (y3.2.2<=(y3.1.length:Int))then(bif room (([]:List Abbr).length+(y3.1.take (y3.2.2:Int).toNat).length) .abbr then(bif room ((([]:List Abbr)++(y3.1.take (y3.2.2:Int).toNat)).length+([y3.2.1]:List Abbr).length) .abbr then(bif decide (0<=(IntKind.wrap .i64 (y3.2.2+1)))then(bif decide ((IntKind.wrap .i64 (y3.2.2+1))<=(y3.1.length:Int))then(bif room (((([]:List Abbr)++(y3.1.take (y3.2.2:Int).toNat))++([y3.2.1]:List Abbr)).length+(y3.1.drop ((IntKind.wrap .i64 (y3.2.2+1)):Int).toNat).length) .abbr then((Z0.F k (((([]:List Abbr)++(y3.1.take (y3.2.2:Int).toNat))++([y3.2.1]:List Abbr))++(y3.1.drop ((IntKind.wrap .i64 (y3.2.2+1)):Int).toNat))).bind λr4=>bif (!r4)then(some (([]:List Abbr),false))else(some ((((([]:List Abbr)++(y3.1.take (y3.2.2:Int).toNat))++([y3.2.1]:List Abbr))++(y3.1.drop ((IntKind.wrap .i64 (y3.2.2+1)):Int).toNat)),true)))else none)else none)else none)else none)else none)else none)else none)else(bif decide (0<=y3.2.2)then(bif decide (y3.2.2<=(y3.1.length:Int))then(bif room (([]:List Abbr).length+(y3.1.take (y3.2.2:Int).toNat).length) .abbr then(bif room ((([]:List Abbr)++(y3.1.take (y3.2.2:Int).toNat)).length+([y3.2.1]:List Abbr).length) .abbr then(bif decide (0<=y3.2.2)then(bif decide (y3.2.2<=(y3.1.length:Int))then(bif room (((([]:List Abbr)++(y3.1.take (y3.2.2:Int).toNat))++([y3.2.1]:List Abbr)).length+(y3.1.drop (y3.2.2:Int).toNat).length) .abbr then((Z0.F k (((([]:List Abbr)++(y3.1.take (y3.2.2:Int).toNat))++([y3.2.1]:List Abbr))++(y3.1.drop (y3.2.2:Int).toNat))).bind λr5=>bif (!r5)then(some (([]:List Abbr),false))else(some ((((([]:List Abbr)++(y3.1.take (y3.2.2:Int).toNat))++([y3.2.1]:List Abbr))++(y3.1.drop (y3.2.2:Int).toNat)),true)))else none)else none)else none)else none)else none)else none)else none))else none)else none)else(bif decide (0<=y3.2.2)then(bif decide (y3.2.2<=(y3.1.length:Int))then(bif room (([]:List Abbr).length+(y3.1.take (y3.2.2:Int).toNat).length) .abbr then(bif room ((([]:List Abbr)++(y3.1.take (y3.2.2:Int).toNat)).length+([y3.2.1]:List Abbr).length) .abbr then(bif decide (0<=y3.2.2)then(bif decide (y3.2.2<=(y3.1.length:Int))then(bif room (((([]:List Abbr)++(y3.1.take (y3.2.2:Int).toNat))++([y3.2.1]:List Abbr)).length+(y3.1.drop (y3.2.2:Int).toNat).length) .abbr then((Z0.F k (((([]:List Abbr)++(y3.1.take (y3.2.2:Int).toNat))++([y3.2.1]:List Abbr))++(y3.1.drop (y3.2.2:Int).toNat))).bind λr6=>bif (!r6)then(some (([]:List Abbr),false))else(some ((((([]:List Abbr)++(y3.1.take (y3.2.2:Int).toNat))++([y3.2.1]:List Abbr))++(y3.1.drop (y3.2.2:Int).toNat)),true)))else none)else none)else none)else none)else none)else none)else none)))
def Z4.C (k:Nat):Cal->Option CArm:=λc=>match c with
 |.f 13=>some (.p [(.sl .abbr)] _ (λx=>Z0.F k x.1) (λr=>(.t .bool r)))
 |.f 14=>some (.p [.abbr] _ (λx=>Z14.F k x.1) (λr=>(.t .bool r)))
 |_=>none
def Z4.sp0:List Sp:=[.t 0 (.sl .abbr),.rp 3 .abbr,.t 6 (.int .i64)]
def Z4.sp0_0:List Sp:=[.t 0 (.sl .abbr),.rp 3 .abbr,.t 6 (.int .i64)]
def Z4.A0:LArm:=.one Z4.sp0 Z4.sp0_0 ((List Abbr)×Abbr×Int) (λk x=>Z4.l0 k x.1 x.2.1 x.2.2.1) (.exit 0) (λy=>(y.1,y.2.1,y.2.2,())) (λx=>(x.1,x.2.1,x.2.2.1))
def Z4.L:Nat->Option LArm:=λb=>match b with
 |0=>some Z4.A0
 |_=>none
theorem Z4.run (k:Nat)(a0:List Abbr)(a1:Abbr):JY Q7 (QP (Z4.C k)) (QG 68 k Z4.L) Try.f6 [.t (.sl .abbr) a0,.t .abbr a1] (Q0i (.fr 31 .abbr) (.t .bool))=Z4.F k a0 a1:=by kernel_rfl
theorem Z4.step0 (k:Nat)(x0:List Abbr)(x3:Abbr)(x6:Int):Jy Q7 (QP (Z4.C k)) (QG 68 k Z4.L) 0 (Jc Try.f6 0) (YC 68 Z4.sp0 (x0,x3,x6,())) (Z4.A0.cont 68 k)=Z4.l0 (k+1) x0 x3 x6:=by kernel_rfl
theorem Z4.G (hE:EnvOk Try.prog Q7)(pv:Nat->Value)(k:Nat):∀cal A,Z4.C k cal=some A->QT Try.prog Q7 pv cal A:=by
 intro cal A h
 unfold Z4.C at h
 split at h
 ·cases h;exact λx y hy=>Z0.good hE pv k x.1 hy
 ·cases h;exact λx y hy=>Z14.good hE pv k x.1 hy
 ·cases h
theorem Z4.good (hE:EnvOk Try.prog Q7)(pv:Nat->Value)(k:Nat)(a0:List Abbr)(a1:Abbr){y:_}(h:Z4.F k a0 a1=some y):Qw Try.prog Q7 pv (.f 6) (Qs [(.sl .abbr),.abbr] (a0,a1,())) (.tup [.fr 31 .abbr y.1,.t .bool y.2]):=
 J9 hE (t:=Z4.C) k (λk _=>Z4.G hE pv k) (f:=6) (fn:=Try.f6) (by kernel_rfl) rfl (by kernel_rfl) (by kernel_rfl) (lt:=Z4.L) (by kernel_rfl) (λb A h=>by
  unfold Z4.L at h;split at h
  ·cases h;exact⟨by kernel_rfl,by kernel_rfl,λ_=>rfl,λ_=>rfl⟩
  ·cases h) (λb A h=>by
  unfold Z4.L at h;split at h
  ·cases h;exact λk x=>Z4.step0 k x.1 x.2.1 x.2.2.1
  ·cases h) ((Z4.run k a0 a1).trans h) (λr hr=>Q1y hr)
def Z12.F (a0:Abbr):Option (Abbr):=some (⟨a0.word,a0.short⟩:Abbr)
def Z12.C:Cal->Option CArm:=λc=>match c with
 |_=>none
theorem Z12.run (a0:Abbr):JY Q7 (QP Z12.C) (QG 11 0 (λ_=>none)) Try.f8 [.t .abbr a0] (QN (.t .abbr))=Z12.F a0:=by kernel_rfl
theorem Z12.G (hE:EnvOk Try.prog Q7)(pv:Nat->Value):∀cal A,Z12.C cal=some A->QT Try.prog Q7 pv cal A:=by
 intro cal A h
 unfold Z12.C at h
 cases h
theorem Z12.good (hE:EnvOk Try.prog Q7)(pv:Nat->Value)(a0:Abbr){y:_}(h:Z12.F a0=some y):Qw Try.prog Q7 pv (.f 8) (Qs [.abbr] (a0,())) (.t .abbr y):=
 QX hE (Z12.G hE pv) (f:=8) (fn:=Try.f8) (by kernel_rfl) rfl (by kernel_rfl) (by kernel_rfl) ((Z12.run a0).trans h) (λr hr=>Qq hr)
def Z7.l0:Nat->(List Abbr)->(List Abbr)->Int->Option ((List Abbr))
 |0,_,_,_=>none
 |k+1,x0,x3,x4=>bif (decide (x4<(x0.length:Int)))then(bif decide (0<=x4)then(bif decide (x4<(x0.length:Int))then((Z12.F (x0.getD (x4:Int).toNat (Q6 .abbr))).bind λr1=>bif decide (0<=x4)then(bif decide (x4<(x3.length:Int))then(Z7.l0 k x0 (x3.set ((x4:Int).toNat) r1) (IntKind.wrap .i64 (x4+1)))else none)else none)else none)else none)else(some x3)
def Z7.F (k:Nat)(a0:List Abbr):Option (List Abbr):=bif ((a0.length:Int)==(a0.length:Int))then(bif decide (0<=(a0.length:Int))then(bif Nat.ble (((a0.length:Int):Int).toNat*nb .abbr) 140737488355328 then((Z7.l0 k a0 (List.replicate ((a0.length:Int):Int).toNat (Q6 .abbr)) 0).bind λy2=>some y2)else none)else none)else none
def Z7.C (k:Nat):Cal->Option CArm:=λc=>match c with
 |.f 8=>some (.p [.abbr] _ (λx=>Z12.F x.1) (λr=>(.t .abbr r)))
 |_=>none
def Z7.sp0:List Sp:=[.t 0 (.sl .abbr),.own 3 1032 31 .abbr false true,.t 4 (.int .i64)]
def Z7.sp0_0:List Sp:=[.own 3 1032 31 .abbr false true]
def Z7.A0:LArm:=.one Z7.sp0 Z7.sp0_0 ((List Abbr)) (λk x=>Z7.l0 k x.1 x.2.1 x.2.2.1) (.exit 0) (λy=>(y,())) (λx=>x.1)
def Z7.L:Nat->Option LArm:=λb=>match b with
 |0=>some Z7.A0
 |_=>none
theorem Z7.run (k:Nat)(a0:List Abbr):JY Q7 (QP (Z7.C k)) (QG 23 k Z7.L) Try.f7 [.t (.sl .abbr) a0] (QN (.fr 31 .abbr))=Z7.F k a0:=by kernel_rfl
theorem Z7.step0 (k:Nat)(x0:List Abbr)(x3:List Abbr)(x4:Int):Jy Q7 (QP (Z7.C k)) (QG 23 k Z7.L) 0 (Jc Try.f7 0) (YC 23 Z7.sp0 (x0,x3,x4,())) (Z7.A0.cont 23 k)=Z7.l0 (k+1) x0 x3 x4:=by kernel_rfl
theorem Z7.G (hE:EnvOk Try.prog Q7)(pv:Nat->Value)(k:Nat):∀cal A,Z7.C k cal=some A->QT Try.prog Q7 pv cal A:=by
 intro cal A h
 unfold Z7.C at h
 split at h
 ·cases h;exact λx y hy=>Z12.good hE pv x.1 hy
 ·cases h
theorem Z7.good (hE:EnvOk Try.prog Q7)(pv:Nat->Value)(k:Nat)(a0:List Abbr){y:_}(h:Z7.F k a0=some y):Qw Try.prog Q7 pv (.f 7) (Qs [(.sl .abbr)] (a0,())) (.fr 31 .abbr y):=
 J9 hE (t:=Z7.C) k (λk _=>Z7.G hE pv k) (f:=7) (fn:=Try.f7) (by kernel_rfl) rfl (by kernel_rfl) (by kernel_rfl) (lt:=Z7.L) (by kernel_rfl) (λb A h=>by
  unfold Z7.L at h;split at h
  ·cases h;exact⟨by kernel_rfl,by kernel_rfl,λ_=>rfl,λ_=>rfl⟩
  ·cases h) (λb A h=>by
  unfold Z7.L at h;split at h
  ·cases h;exact λk x=>Z7.step0 k x.1 x.2.1 x.2.2.1
  ·cases h) ((Z7.run k a0).trans h) (λr hr=>Qq hr)
def Z17.F (a0:ByteArray)(a1:ByteArray):Option (Bool):=bif (decide ((a0.size:Int) ≥ (a1.size:Int)))then(bif decide (0<=(IntKind.wrap .i64 ((a0.size:Int)-(a1.size:Int))))then(bif decide ((IntKind.wrap .i64 ((a0.size:Int)-(a1.size:Int)))<=(a0.size:Int))then(some (Jq (a0.extract ((IntKind.wrap .i64 ((a0.size:Int)-(a1.size:Int))):Int).toNat a0.size) a1))else none)else none)else(some false)
def Z17.C:Cal->Option CArm:=λc=>match c with
 |_=>none
theorem Z17.run (a0:ByteArray)(a1:ByteArray):JY Q7 (QP Z17.C) (QG 21 0 (λ_=>none)) Try.f31 [.t .str a0,.t .str a1] (QN (.t .bool))=Z17.F a0 a1:=by kernel_rfl
theorem Z17.G (hE:EnvOk Try.prog Q7)(pv:Nat->Value):∀cal A,Z17.C cal=some A->QT Try.prog Q7 pv cal A:=by
 intro cal A h
 unfold Z17.C at h
 cases h
theorem Z17.good (hE:EnvOk Try.prog Q7)(pv:Nat->Value)(a0:ByteArray)(a1:ByteArray){y:_}(h:Z17.F a0 a1=some y):Qw Try.prog Q7 pv (.f 31) (Qs [.str,.str] (a0,a1,())) (.t .bool y):=
 QX hE (Z17.G hE pv) (f:=31) (fn:=Try.f31) (by kernel_rfl) rfl (by kernel_rfl) (by kernel_rfl) ((Z17.run a0 a1).trans h) (λr hr=>Qq hr)
def Z22.F (a0:ByteArray)(a1:ByteArray):Option (ByteArray):=(Z17.F a0 a1).bind λr1=>bif r1 then(bif decide (0<=(IntKind.wrap .i64 ((a0.size:Int)-(a1.size:Int))))then(bif decide ((IntKind.wrap .i64 ((a0.size:Int)-(a1.size:Int)))<=(a0.size:Int))then(some (a0.extract 0 ((IntKind.wrap .i64 ((a0.size:Int)-(a1.size:Int))):Int).toNat))else none)else none)else(some a0)
def Z22.C:Cal->Option CArm:=λc=>match c with
 |.f 31=>some (.p [.str,.str] _ (λx=>Z17.F x.1 x.2.1) (λr=>(.t .bool r)))
 |_=>none
theorem Z22.run (a0:ByteArray)(a1:ByteArray):JY Q7 (QP Z22.C) (QG 16 0 (λ_=>none)) Try.f29 [.t .str a0,.t .str a1] (QN (.t .str))=Z22.F a0 a1:=by kernel_rfl
theorem Z22.G (hE:EnvOk Try.prog Q7)(pv:Nat->Value):∀cal A,Z22.C cal=some A->QT Try.prog Q7 pv cal A:=by
 intro cal A h
 unfold Z22.C at h
 split at h
 ·cases h;exact λx y hy=>Z17.good hE pv x.1 x.2.1 hy
 ·cases h
theorem Z22.good (hE:EnvOk Try.prog Q7)(pv:Nat->Value)(a0:ByteArray)(a1:ByteArray){y:_}(h:Z22.F a0 a1=some y):Qw Try.prog Q7 pv (.f 29) (Qs [.str,.str] (a0,a1,())) (.t .str y):=
 QX hE (Z22.G hE pv) (f:=29) (fn:=Try.f29) (by kernel_rfl) rfl (by kernel_rfl) (by kernel_rfl) ((Z22.run a0 a1).trans h) (λr hr=>Qq hr)
def Z18.F (a0:ByteArray)(a1:ByteArray):Option (ByteArray):=(Z22.F a0 a1).bind λr1=>some r1
def Z18.C:Cal->Option CArm:=λc=>match c with
 |.f 29=>some (.p [.str,.str] _ (λx=>Z22.F x.1 x.2.1) (λr=>(.t .str r)))
 |_=>none
theorem Z18.run (a0:ByteArray)(a1:ByteArray):JY Q7 (QP Z18.C) (QG 8 0 (λ_=>none)) Try.f25 [.t .str a0,.t .str a1] (QN (.t .str))=Z18.F a0 a1:=by kernel_rfl
theorem Z18.G (hE:EnvOk Try.prog Q7)(pv:Nat->Value):∀cal A,Z18.C cal=some A->QT Try.prog Q7 pv cal A:=by
 intro cal A h
 unfold Z18.C at h
 split at h
 ·cases h;exact λx y hy=>Z22.good hE pv x.1 x.2.1 hy
 ·cases h
theorem Z18.good (hE:EnvOk Try.prog Q7)(pv:Nat->Value)(a0:ByteArray)(a1:ByteArray){y:_}(h:Z18.F a0 a1=some y):Qw Try.prog Q7 pv (.f 25) (Qs [.str,.str] (a0,a1,())) (.t .str y):=
 QX hE (Z18.G hE pv) (f:=25) (fn:=Try.f25) (by kernel_rfl) rfl (by kernel_rfl) (by kernel_rfl) ((Z18.run a0 a1).trans h) (λr hr=>Qq hr)
def Z19.F (a0:Int):Option (Bool):=bif (decide (a0 ≥ 97))then(some (decide (a0<=122)))else(some false)
def Z19.C:Cal->Option CArm:=λc=>match c with
 |_=>none
theorem Z19.run (a0:Int):JY Q7 (QP Z19.C) (QG 9 0 (λ_=>none)) Try.f26 [.t (.int .u8) a0] (QN (.t .bool))=Z19.F a0:=by kernel_rfl
theorem Z19.G (hE:EnvOk Try.prog Q7)(pv:Nat->Value):∀cal A,Z19.C cal=some A->QT Try.prog Q7 pv cal A:=by
 intro cal A h
 unfold Z19.C at h
 cases h
theorem Z19.good (hE:EnvOk Try.prog Q7)(pv:Nat->Value)(a0:Int){y:_}(h:Z19.F a0=some y):Qw Try.prog Q7 pv (.f 26) (Qs [(.int .u8)] (a0,())) (.t .bool y):=
 QX hE (Z19.G hE pv) (f:=26) (fn:=Try.f26) (by kernel_rfl) rfl (by kernel_rfl) (by kernel_rfl) ((Z19.run a0).trans h) (λr hr=>Qq hr)
def Z20.F (a0:Int)(a1:Int)(a2:Int):Option (Bool):=bif (decide (a0 ≥ a1))then(some (decide (a0<=a2)))else(some false)
def Z20.C:Cal->Option CArm:=λc=>match c with
 |_=>none
theorem Z20.run (a0:Int)(a1:Int)(a2:Int):JY Q7 (QP Z20.C) (QG 15 0 (λ_=>none)) Try.f27 [.t (.int .i64) a0,.t (.int .i64) a1,.t (.int .i64) a2] (QN (.t .bool))=Z20.F a0 a1 a2:=by kernel_rfl
theorem Z20.G (hE:EnvOk Try.prog Q7)(pv:Nat->Value):∀cal A,Z20.C cal=some A->QT Try.prog Q7 pv cal A:=by
 intro cal A h
 unfold Z20.C at h
 cases h
theorem Z20.good (hE:EnvOk Try.prog Q7)(pv:Nat->Value)(a0:Int)(a1:Int)(a2:Int){y:_}(h:Z20.F a0 a1 a2=some y):Qw Try.prog Q7 pv (.f 27) (Qs [(.int .i64),(.int .i64),(.int .i64)] (a0,a1,a2,())) (.t .bool y):=
 QX hE (Z20.G hE pv) (f:=27) (fn:=Try.f27) (by kernel_rfl) rfl (by kernel_rfl) (by kernel_rfl) ((Z20.run a0 a1 a2).trans h) (λr hr=>Qq hr)
def Z8.l0:Nat->ByteArray->Int->Int->Int->Option (Sum Bool (ByteArray×Int×Int))
 |0,_,_,_,_=>none
 |k+1,x0,x1,x2,x9=>bif (decide (x9<(x0.size:Int)))then(bif decide (0<=x9)then(bif decide (x9<(x0.size:Int))then((Z19.F (bt x0 (x9:Int).toNat)).bind λr2=>bif (!r2)then(some (.inl false))else(Z8.l0 k x0 x1 x2 (IntKind.wrap .i64 (x9+1))))else none)else none)else(some (.inr (x0,x1,x2)))
def Z8.F (k:Nat)(a0:ByteArray)(a1:Int)(a2:Int)(a3:ByteArray):Option (Bool):=(Z18.F a0 a3).bind λr1=>(Z8.l0 k r1 a1 a2 0).bind λy3=>match y3 with|.inl z4=>some z4|.inr z4=>(Z20.F (z4.1.size:Int) z4.2.1 z4.2.2).bind λr5=>some r5
def Z8.C (k:Nat):Cal->Option CArm:=λc=>match c with
 |.f 25=>some (.p [.str,.str] _ (λx=>Z18.F x.1 x.2.1) (λr=>(.t .str r)))
 |.f 26=>some (.p [(.int .u8)] _ (λx=>Z19.F x.1) (λr=>(.t .bool r)))
 |.f 27=>some (.p [(.int .i64),(.int .i64),(.int .i64)] _ (λx=>Z20.F x.1 x.2.1 x.2.2.1) (λr=>(.t .bool r)))
 |_=>none
def Z8.sp0:List Sp:=[.t 0 .str,.t 1 (.int .i64),.t 2 (.int .i64),.t 9 (.int .i64)]
def Z8.sp0_0:List Sp:=[.t 8 .bool]
def Z8.sp0_1:List Sp:=[.t 0 .str,.t 1 (.int .i64),.t 2 (.int .i64)]
def Z8.A0:LArm:=.two Z8.sp0 Z8.sp0_0 Z8.sp0_1 (Bool) (ByteArray×Int×Int) (λk x=>Z8.l0 k x.1 x.2.1 x.2.2.1 x.2.2.2.1) .ret (.exit 0) (λy=>(y,())) (λx=>x.1) (λy=>(y.1,y.2.1,y.2.2,())) (λx=>(x.1,x.2.1,x.2.2.1))
def Z8.L:Nat->Option LArm:=λb=>match b with
 |0=>some Z8.A0
 |_=>none
theorem Z8.run (k:Nat)(a0:ByteArray)(a1:Int)(a2:Int)(a3:ByteArray):JY Q7 (QP (Z8.C k)) (QG 29 k Z8.L) Try.f21 [.t .str a0,.t (.int .i64) a1,.t (.int .i64) a2,.t .str a3] (QN (.t .bool))=Z8.F k a0 a1 a2 a3:=by kernel_rfl
theorem Z8.step0 (k:Nat)(x0:ByteArray)(x1:Int)(x2:Int)(x9:Int):Jy Q7 (QP (Z8.C k)) (QG 29 k Z8.L) 0 (Jc Try.f21 0) (YC 29 Z8.sp0 (x0,x1,x2,x9,())) (Z8.A0.cont 29 k)=Z8.l0 (k+1) x0 x1 x2 x9:=by kernel_rfl
theorem Z8.G (hE:EnvOk Try.prog Q7)(pv:Nat->Value)(k:Nat):∀cal A,Z8.C k cal=some A->QT Try.prog Q7 pv cal A:=by
 intro cal A h
 unfold Z8.C at h
 split at h
 ·cases h;exact λx y hy=>Z18.good hE pv x.1 x.2.1 hy
 ·cases h;exact λx y hy=>Z19.good hE pv x.1 hy
 ·cases h;exact λx y hy=>Z20.good hE pv x.1 x.2.1 x.2.2.1 hy
 ·cases h
theorem Z8.good (hE:EnvOk Try.prog Q7)(pv:Nat->Value)(k:Nat)(a0:ByteArray)(a1:Int)(a2:Int)(a3:ByteArray){y:_}(h:Z8.F k a0 a1 a2 a3=some y):Qw Try.prog Q7 pv (.f 21) (Qs [.str,(.int .i64),(.int .i64),.str] (a0,a1,a2,a3,())) (.t .bool y):=
 J9 hE (t:=Z8.C) k (λk _=>Z8.G hE pv k) (f:=21) (fn:=Try.f21) (by kernel_rfl) rfl (by kernel_rfl) (by kernel_rfl) (lt:=Z8.L) (by kernel_rfl) (λb A h=>by
  unfold Z8.L at h;split at h
  ·cases h;exact⟨by kernel_rfl,by kernel_rfl,by kernel_rfl,λ_=>rfl,λ_=>rfl,λ_=>rfl⟩
  ·cases h) (λb A h=>by
  unfold Z8.L at h;split at h
  ·cases h;exact λk x=>Z8.step0 k x.1 x.2.1 x.2.2.1 x.2.2.2.1
  ·cases h) ((Z8.run k a0 a1 a2 a3).trans h) (λr hr=>Qq hr)
def Z2.l0:Nat->(List Abbr)->(List Abbr)->Int->Int->Option (Sum Bool (List Abbr))
 |0,_,_,_,_=>none
 |k+1,x0,x5,x6,x7=>bif (decide (x7<x6))then(bif decide (0<=x7)then(bif decide (x7<(x5.length:Int))then((Z8.F k ((x5.getD (x7:Int).toNat (Q6 .abbr)).word) 2 15 (⟨#[45]⟩:ByteArray)).bind λr1=>bif (!r1)then(some (.inl false))else((Z8.F k ((x5.getD (x7:Int).toNat (Q6 .abbr)).short) 1 12 (⟨#[46]⟩:ByteArray)).bind λr2=>bif (!r2)then(some (.inl false))else(bif (decide (x7 > 0))then(bif decide (0<=(IntKind.wrap .i64 (x7-1)))then(bif decide ((IntKind.wrap .i64 (x7-1))<(x0.length:Int))then(bif (!ltS ((x0.getD ((IntKind.wrap .i64 (x7-1)):Int).toNat (Q6 .abbr)).word) ((x5.getD (x7:Int).toNat (Q6 .abbr)).word))then(some (.inl false))else(Z2.l0 k x0 x5 x6 (IntKind.wrap .i64 (x7+1))))else none)else none)else(Z2.l0 k x0 x5 x6 (IntKind.wrap .i64 (x7+1))))))else none)else none)else(some (.inr x0))
def Z2.F (k:Nat)(a0:List Abbr):Option (Bool):=(Z2.l0 k a0 a0 (a0.length:Int) 0).bind λy3=>match y3 with|.inl z4=>some z4|.inr z4=>some (decide ((z4.length:Int)<=15))
def Z2.C (k:Nat):Cal->Option CArm:=λc=>match c with
 |.f 21=>some (.p [.str,(.int .i64),(.int .i64),.str] _ (λx=>Z8.F k x.1 x.2.1 x.2.2.1 x.2.2.2.1) (λr=>(.t .bool r)))
 |_=>none
def Z2.sp0:List Sp:=[.t 0 (.sl .abbr),.t 5 (.sl .abbr),.t 6 (.int .i64),.t 7 (.int .i64)]
def Z2.sp0_0:List Sp:=[.t 2 .bool]
def Z2.sp0_1:List Sp:=[.t 0 (.sl .abbr)]
def Z2.A0:LArm:=.two Z2.sp0 Z2.sp0_0 Z2.sp0_1 (Bool) ((List Abbr)) (λk x=>Z2.l0 k x.1 x.2.1 x.2.2.1 x.2.2.2.1) .ret (.exit 0) (λy=>(y,())) (λx=>x.1) (λy=>(y,())) (λx=>x.1)
def Z2.L:Nat->Option LArm:=λb=>match b with
 |0=>some Z2.A0
 |_=>none
theorem Z2.run (k:Nat)(a0:List Abbr):JY Q7 (QP (Z2.C k)) (QG 41 k Z2.L) Try.f15 [.t (.sl .abbr) a0] (QN (.t .bool))=Z2.F k a0:=by kernel_rfl
theorem Z2.step0 (k:Nat)(x0:List Abbr)(x5:List Abbr)(x6:Int)(x7:Int):Jy Q7 (QP (Z2.C k)) (QG 41 k Z2.L) 0 (Jc Try.f15 0) (YC 41 Z2.sp0 (x0,x5,x6,x7,())) (Z2.A0.cont 41 k)=Z2.l0 (k+1) x0 x5 x6 x7:=by kernel_rfl
theorem Z2.G (hE:EnvOk Try.prog Q7)(pv:Nat->Value)(k:Nat):∀cal A,Z2.C k cal=some A->QT Try.prog Q7 pv cal A:=by
 intro cal A h
 unfold Z2.C at h
 split at h
 ·cases h;exact λx y hy=>Z8.good hE pv k x.1 x.2.1 x.2.2.1 x.2.2.2.1 hy
 ·cases h
theorem Z2.good (hE:EnvOk Try.prog Q7)(pv:Nat->Value)(k:Nat)(a0:List Abbr){y:_}(h:Z2.F k a0=some y):Qw Try.prog Q7 pv (.f 15) (Qs [(.sl .abbr)] (a0,())) (.t .bool y):=
 J9 hE (t:=Z2.C) k (λk _=>Z2.G hE pv k) (f:=15) (fn:=Try.f15) (by kernel_rfl) rfl (by kernel_rfl) (by kernel_rfl) (lt:=Z2.L) (by kernel_rfl) (λb A h=>by
  unfold Z2.L at h;split at h
  ·cases h;exact⟨by kernel_rfl,by kernel_rfl,by kernel_rfl,λ_=>rfl,λ_=>rfl,λ_=>rfl⟩
  ·cases h) (λb A h=>by
  unfold Z2.L at h;split at h
  ·cases h;exact λk x=>Z2.step0 k x.1 x.2.1 x.2.2.1 x.2.2.2.1
  ·cases h) ((Z2.run k a0).trans h) (λr hr=>Qq hr)
def Z24.F (a0:List Abbr)(a1:Int)(a2:List Abbr):Option (List Abbr):=Q5Z .abbr a0 a1 a2
def Z24.ren:Go.Shelf.Ren:=⟨fun|22=>16|29=>22|30=>23|36=>28|n=>n,fun|3=>3|4=>4|9=>31|24=>27|n=>n,λn=>n⟩
theorem Z24.lay:Go.GxIns.InsL Try.prog Z24.ren "slices.Insert[[]loop.example/g00896/impl.Abbreviation,loop.example/g00896/impl.Abbreviation]" (nc .abbr) (nb .abbr) (Go.Gx.valOf (Go.Gx.AV.t .abbr (Q6 .abbr)) (zc .abbr)):={
 mixed:=by kernel_rfl
 f22:=Try.func16.trans (congrArg some (by kernel_rfl))
 ov:=λargs w=>Go.run_callFunc_extern (fn:=Try.f22) Try.func22 (by kernel_rfl) (by kernel_rfl) (by kernel_rfl) (e:=Go.Extern.SlicesOverlaps.overlaps #[27,27] #[4]) (by kernel_rfl) args w
 t0:=Try.underlying0
 a0:=Try.isAgg0
 z0:=Try.sizeOf0
 v0:=Try.zeroValue0
 t3:=Try.underlying3
 a3:=Try.isAgg3
 z3:=Try.sizeOf3
 v3:=Try.zeroValue3
 t4:=Try.underlying4
 a4:=Try.isAgg4
 z4:=Try.sizeOf4
 v4:=Try.zeroValue4
 z9:=Try.sizeOf31
 t24:=Try.underlying27
 a24:=Try.isAgg27
 z24:=Try.sizeOf27
 v24:=Try.zeroValue27
 i9:=by kernel_rfl}
theorem Z24.good (hE:EnvOk Try.prog Q7)(pv:Nat->Value)(a0:List Abbr)(a1:Int)(a2:List Abbr){y:_}(h:Z24.F a0 a1 a2=some y):Ju Try.prog Q7 pv 16 (.fr 31 .abbr a0) (Qs [(.int .i64),(.sl .abbr)] (a1,a2,())) (.mov 31 .abbr y):=
 Q2v (ρ:=Z24.ren) (fn:=Try.f16) hE (te:=31) rfl rfl (by decide) (by decide) Z24.lay rfl Try.func16 rfl (by kernel_rfl) h
def Z3.l0:Nat->Abbr->(List Abbr)->Int->Option (Abbr× (List Abbr)×Int)
 |0,_,_,_=>none
 |k+1,x3,x6,x7=>bif (decide (x7<(x6.length:Int)))then(bif decide (0<=x7)then(bif decide (x7<(x6.length:Int))then(bif (ltS ((x6.getD ((x7:Int).toNat) (Q6 .abbr)).word) x3.word)then(Z3.l0 k x3 x6 (IntKind.wrap .i64 (x7+1)))else(some (x3,x6,x7)))else none)else none)else(some (x3,x6,x7))
def Z3.F (k:Nat)(a0:List Abbr)(a1:Abbr):Option ((List Abbr)×Bool):=(Z2.F k a0).bind λr1=>bif (!r1)then(some ([],false))else(bif room (([]:List Abbr).length+a0.length) .abbr then((Z3.l0 k a1 (([]:List Abbr)++a0) 0).bind λy2=>bif (decide (y2.2.2<(y2.2.1.length:Int)))then(bif decide (0<=y2.2.2)then(bif decide (y2.2.2<(y2.2.1.length:Int))then(bif (Jq ((y2.2.1.getD ((y2.2.2:Int).toNat) (Q6 .abbr)).word) y2.1.word)then(bif decide (0<=y2.2.2)then(bif decide (y2.2.2<(y2.2.1.length:Int))then((Z2.F k (y2.2.1.set ((y2.2.2:Int).toNat) y2.1)).bind λr3=>bif (!r3)then(some ([],false))else(some ((y2.2.1.set ((y2.2.2:Int).toNat) y2.1),true)))else none)else none)else((Z24.F y2.2.1 y2.2.2 ([y2.1]:List Abbr)).bind λr4=>(Z2.F k r4).bind λr5=>bif (!r5)then(some ([],false))else(some (r4,true))))else none)else none)else((Z24.F y2.2.1 y2.2.2 ([y2.1]:List Abbr)).bind λr6=>(Z2.F k r6).bind λr7=>bif (!r7)then(some ([],false))else(some (r6,true))))else none)
def Z3.C (k:Nat):Cal->Option CArm:=λc=>match c with
 |.f 15=>some (.p [(.sl .abbr)] _ (λx=>Z2.F k x.1) (λr=>(.t .bool r)))
 |.f 16=>some (.m (.fr 31 .abbr) [(.int .i64),(.sl .abbr)] _ (λx0 x=>Z24.F x0 x.1 x.2.1) (λr=>.mov 31 .abbr r))
 |_=>none
def Z3.sp0:List Sp:=[.boxT 3 0 .abbr,.own 6 3072 31 .abbr false true,.t 7 (.int .i64)]
def Z3.sp0_0:List Sp:=[.boxT 3 0 .abbr,.own 6 3072 31 .abbr false true,.t 7 (.int .i64)]
def Z3.A0:LArm:=.one Z3.sp0 Z3.sp0_0 (Abbr× (List Abbr)×Int) (λk x=>Z3.l0 k x.1 x.2.1 x.2.2.1) (.exit 0) (λy=>(y.1,y.2.1,y.2.2,())) (λx=>(x.1,x.2.1,x.2.2.1))
def Z3.L:Nat->Option LArm:=λb=>match b with
 |0=>some Z3.A0
 |_=>none
theorem Z3.run (k:Nat)(a0:List Abbr)(a1:Abbr):JY Q7 (QP (Z3.C k)) (QG 57 k Z3.L) Try.f9 [.t (.sl .abbr) a0,.t .abbr a1] (Q0i (.fr 31 .abbr) (.t .bool))=Z3.F k a0 a1:=by kernel_rfl
theorem Z3.step0 (k:Nat)(x3:Abbr)(x6:List Abbr)(x7:Int):Jy Q7 (QP (Z3.C k)) (QG 57 k Z3.L) 0 (Jc Try.f9 0) (YC 57 Z3.sp0 (x3,x6,x7,())) (Z3.A0.cont 57 k)=Z3.l0 (k+1) x3 x6 x7:=by kernel_rfl
theorem Z3.G (hE:EnvOk Try.prog Q7)(pv:Nat->Value)(k:Nat):∀cal A,Z3.C k cal=some A->QT Try.prog Q7 pv cal A:=by
 intro cal A h
 unfold Z3.C at h
 split at h
 ·cases h;exact λx y hy=>Z2.good hE pv k x.1 hy
 ·cases h;exact⟨_,rfl,λx0 x y hy=>Z24.good hE pv x0 x.1 x.2.1 hy⟩
 ·cases h
theorem Z3.good (hE:EnvOk Try.prog Q7)(pv:Nat->Value)(k:Nat)(a0:List Abbr)(a1:Abbr){y:_}(h:Z3.F k a0 a1=some y):Qw Try.prog Q7 pv (.f 9) (Qs [(.sl .abbr),.abbr] (a0,a1,())) (.tup [.fr 31 .abbr y.1,.t .bool y.2]):=
 J9 hE (t:=Z3.C) k (λk _=>Z3.G hE pv k) (f:=9) (fn:=Try.f9) (by kernel_rfl) rfl (by kernel_rfl) (by kernel_rfl) (lt:=Z3.L) (by kernel_rfl) (λb A h=>by
  unfold Z3.L at h;split at h
  ·cases h;exact⟨by kernel_rfl,by kernel_rfl,λ_=>rfl,λ_=>rfl⟩
  ·cases h) (λb A h=>by
  unfold Z3.L at h;split at h
  ·cases h;exact λk x=>Z3.step0 k x.1 x.2.1 x.2.2.1
  ·cases h) ((Z3.run k a0 a1).trans h) (λr hr=>Q1y hr)
def Z21.F (a0:Abbr)(a1:Abbr):Option (Bool):=bif (!Jq a0.word a1.word)then(some false)else(bif (!Jq a0.short a1.short)then(some false)else(some true))
def Z21.C:Cal->Option CArm:=λc=>match c with
 |_=>none
theorem Z21.run (a0:Abbr)(a1:Abbr):JY Q7 (QP Z21.C) (QG 15 0 (λ_=>none)) Try.f17 [.t .abbr a0,.t .abbr a1] (QN (.t .bool))=Z21.F a0 a1:=by kernel_rfl
theorem Z21.G (hE:EnvOk Try.prog Q7)(pv:Nat->Value):∀cal A,Z21.C cal=some A->QT Try.prog Q7 pv cal A:=by
 intro cal A h
 unfold Z21.C at h
 cases h
theorem Z21.good (hE:EnvOk Try.prog Q7)(pv:Nat->Value)(a0:Abbr)(a1:Abbr){y:_}(h:Z21.F a0 a1=some y):Qw Try.prog Q7 pv (.f 17) (Qs [.abbr,.abbr] (a0,a1,())) (.t .bool y):=
 QX hE (Z21.G hE pv) (f:=17) (fn:=Try.f17) (by kernel_rfl) rfl (by kernel_rfl) (by kernel_rfl) ((Z21.run a0 a1).trans h) (λr hr=>Qq hr)
def Z5.l0:Nat->(List Abbr)->(List Abbr)->Int->Option (Sum Bool Unit)
 |0,_,_,_=>none
 |k+1,x0,x1,x5=>bif (decide (x5<(x0.length:Int)))then(bif decide (0<=x5)then(bif decide (x5<(x0.length:Int))then(bif decide (0<=x5)then(bif decide (x5<(x1.length:Int))then((Z21.F (x0.getD (x5:Int).toNat (Q6 .abbr)) (x1.getD (x5:Int).toNat (Q6 .abbr))).bind λr1=>bif (!r1)then(some (.inl false))else(Z5.l0 k x0 x1 (IntKind.wrap .i64 (x5+1))))else none)else none)else none)else none)else(some (.inr ()))
def Z5.F (k:Nat)(a0:List Abbr)(a1:List Abbr):Option (Bool):=bif ((a0.length:Int) != (a1.length:Int))then(some false)else((Z5.l0 k a0 a1 0).bind λy2=>match y2 with|.inl z3=>some z3|.inr z3=>some true)
def Z5.C (k:Nat):Cal->Option CArm:=λc=>match c with
 |.f 17=>some (.p [.abbr,.abbr] _ (λx=>Z21.F x.1 x.2.1) (λr=>(.t .bool r)))
 |_=>none
def Z5.sp0:List Sp:=[.t 0 (.sl .abbr),.t 1 (.sl .abbr),.t 5 (.int .i64)]
def Z5.sp0_0:List Sp:=[.t 4 .bool]
def Z5.sp0_1:List Sp:=[]
def Z5.A0:LArm:=.two Z5.sp0 Z5.sp0_0 Z5.sp0_1 (Bool) (Unit) (λk x=>Z5.l0 k x.1 x.2.1 x.2.2.1) .ret (.exit 0) (λy=>(y,())) (λx=>x.1) (λy=>()) (λx=>())
def Z5.L:Nat->Option LArm:=λb=>match b with
 |0=>some Z5.A0
 |_=>none
theorem Z5.run (k:Nat)(a0:List Abbr)(a1:List Abbr):JY Q7 (QP (Z5.C k)) (QG 27 k Z5.L) Try.f10 [.t (.sl .abbr) a0,.t (.sl .abbr) a1] (QN (.t .bool))=Z5.F k a0 a1:=by kernel_rfl
theorem Z5.step0 (k:Nat)(x0:List Abbr)(x1:List Abbr)(x5:Int):Jy Q7 (QP (Z5.C k)) (QG 27 k Z5.L) 0 (Jc Try.f10 0) (YC 27 Z5.sp0 (x0,x1,x5,())) (Z5.A0.cont 27 k)=Z5.l0 (k+1) x0 x1 x5:=by kernel_rfl
theorem Z5.G (hE:EnvOk Try.prog Q7)(pv:Nat->Value)(k:Nat):∀cal A,Z5.C k cal=some A->QT Try.prog Q7 pv cal A:=by
 intro cal A h
 unfold Z5.C at h
 split at h
 ·cases h;exact λx y hy=>Z21.good hE pv x.1 x.2.1 hy
 ·cases h
theorem Z5.good (hE:EnvOk Try.prog Q7)(pv:Nat->Value)(k:Nat)(a0:List Abbr)(a1:List Abbr){y:_}(h:Z5.F k a0 a1=some y):Qw Try.prog Q7 pv (.f 10) (Qs [(.sl .abbr),(.sl .abbr)] (a0,a1,())) (.t .bool y):=
 J9 hE (t:=Z5.C) k (λk _=>Z5.G hE pv k) (f:=10) (fn:=Try.f10) (by kernel_rfl) rfl (by kernel_rfl) (by kernel_rfl) (lt:=Z5.L) (by kernel_rfl) (λb A h=>by
  unfold Z5.L at h;split at h
  ·cases h;exact⟨by kernel_rfl,by kernel_rfl,by kernel_rfl,λ_=>rfl,λ_=>rfl,λ_=>rfl⟩
  ·cases h) (λb A h=>by
  unfold Z5.L at h;split at h
  ·cases h;exact λk x=>Z5.step0 k x.1 x.2.1 x.2.2.1
  ·cases h) ((Z5.run k a0 a1).trans h) (λr hr=>Qq hr)
def Z1.l0:Nat->Int->ByteArray->Option (ByteArray)
 |0,_,_=>none
 |k+1,x0,x3=>bif (decide (x0 > 0))then(bif (10==0)then(none)else(bif Nat.ble ((Q0L ([(IntKind.wrap .u8 (IntKind.wrap .i64 (48+(Int.tmod x0 10))))]:List Int)).size+x3.size) 9223372036854775807 then(bif (10==0)then(none)else(Z1.l0 k (IntKind.wrap .i64 (Int.tdiv x0 10)) ((Q0L ([(IntKind.wrap .u8 (IntKind.wrap .i64 (48+(Int.tmod x0 10))))]:List Int))++x3)))else none))else(some x3)
def Z1.F (k:Nat)(a0:Int):Option (ByteArray):=bif (decide (a0<=0))then(some (⟨#[109,48]⟩:ByteArray))else((Z1.l0 k a0 (⟨#[]⟩:ByteArray)).bind λy1=>bif Nat.ble ((⟨#[109]⟩:ByteArray).size+y1.size) 9223372036854775807 then(some ((⟨#[109]⟩:ByteArray)++y1))else none)
def Z1.C (k:Nat):Cal->Option CArm:=λc=>match c with
 |_=>none
def Z1.sp0:List Sp:=[.t 0 (.int .i64),.t 3 .str]
def Z1.sp0_0:List Sp:=[.t 3 .str]
def Z1.A0:LArm:=.one Z1.sp0 Z1.sp0_0 (ByteArray) (λk x=>Z1.l0 k x.1 x.2.1) (.exit 0) (λy=>(y,())) (λx=>x.1)
def Z1.L:Nat->Option LArm:=λb=>match b with
 |0=>some Z1.A0
 |_=>none
theorem Z1.run (k:Nat)(a0:Int):JY Q7 (QP (Z1.C k)) (QG 20 k Z1.L) Try.f18 [.t (.int .i64) a0] (QN (.t .str))=Z1.F k a0:=by kernel_rfl
theorem Z1.step0 (k:Nat)(x0:Int)(x3:ByteArray):Jy Q7 (QP (Z1.C k)) (QG 20 k Z1.L) 0 (Jc Try.f18 0) (YC 20 Z1.sp0 (x0,x3,())) (Z1.A0.cont 20 k)=Z1.l0 (k+1) x0 x3:=by kernel_rfl
theorem Z1.G (hE:EnvOk Try.prog Q7)(pv:Nat->Value)(k:Nat):∀cal A,Z1.C k cal=some A->QT Try.prog Q7 pv cal A:=by
 intro cal A h
 unfold Z1.C at h
 cases h
theorem Z1.good (hE:EnvOk Try.prog Q7)(pv:Nat->Value)(k:Nat)(a0:Int){y:_}(h:Z1.F k a0=some y):Qw Try.prog Q7 pv (.f 18) (Qs [(.int .i64)] (a0,())) (.t .str y):=
 J9 hE (t:=Z1.C) k (λk _=>Z1.G hE pv k) (f:=18) (fn:=Try.f18) (by kernel_rfl) rfl (by kernel_rfl) (by kernel_rfl) (lt:=Z1.L) (by kernel_rfl) (λb A h=>by
  unfold Z1.L at h;split at h
  ·cases h;exact⟨by kernel_rfl,by kernel_rfl,λ_=>rfl,λ_=>rfl⟩
  ·cases h) (λb A h=>by
  unfold Z1.L at h;split at h
  ·cases h;exact λk x=>Z1.step0 k x.1 x.2.1
  ·cases h) ((Z1.run k a0).trans h) (λr hr=>Qq hr)
def Z11.l0:Nat->(List Abbr)->Int->Int->Option ((List Abbr)×Int)
 |0,_,_,_=>none
 |k+1,x0,x1,x5=>bif (decide (x5<(x0.length:Int)))then((Z1.F k x1).bind λr1=>bif decide (0<=x5)then(bif decide (x5<(x0.length:Int))then((Z1.F k (IntKind.wrap .i64 (x1+1))).bind λr2=>bif decide (0<=x5)then(bif decide (x5<((x0.set ((x5:Int).toNat) (⟨r1,(x0.getD ((x5:Int).toNat) (Q6 .abbr)).short⟩:Abbr)).length:Int))then(Z11.l0 k ((x0.set ((x5:Int).toNat) (⟨r1,(x0.getD ((x5:Int).toNat) (Q6 .abbr)).short⟩:Abbr)).set ((x5:Int).toNat) (⟨((x0.set ((x5:Int).toNat) (⟨r1,(x0.getD ((x5:Int).toNat) (Q6 .abbr)).short⟩:Abbr)).getD ((x5:Int).toNat) (Q6 .abbr)).word,r2⟩:Abbr)) (IntKind.wrap .i64 ((IntKind.wrap .i64 (x1+1))+1)) (IntKind.wrap .i64 (x5+1)))else none)else none)else none)else none)else(some (x0,x1))
def Z11.F (k:Nat)(a0:List Abbr)(a1:Int):Option ((List Abbr)×Int):=(Z11.l0 k a0 a1 0).bind λy3=>bif Nat.beq (y3.1).length a0.length then(some (y3.1,y3.2))else none
def Z11.C (k:Nat):Cal->Option CArm:=λc=>match c with
 |.f 18=>some (.p [(.int .i64)] _ (λx=>Z1.F k x.1) (λr=>(.t .str r)))
 |_=>none
def Z11.sp0:List Sp:=[.own 0 1099511627776 31 .abbr false true,.t 1 (.int .i64),.t 5 (.int .i64)]
def Z11.sp0_0:List Sp:=[.own 0 1099511627776 31 .abbr false true,.t 1 (.int .i64)]
def Z11.A0:LArm:=.one Z11.sp0 Z11.sp0_0 ((List Abbr)×Int) (λk x=>Z11.l0 k x.1 x.2.1 x.2.2.1) (.exit 0) (λy=>(y.1,y.2,())) (λx=>(x.1,x.2.1))
def Z11.L:Nat->Option LArm:=λb=>match b with
 |0=>some Z11.A0
 |_=>none
theorem Z11.run (k:Nat)(a0:List Abbr)(a1:Int):Q4d Q7 (QP (Z11.C k)) (QG 29 k Z11.L) Try.f11 Q5 (.fr 31 .abbr a0) [.t (.int .i64) a1] (Q5c (.fr 31 .abbr) (QN (.t (.int .i64))))=Z11.F k a0 a1:=by kernel_rfl
theorem Z11.step0 (k:Nat)(x0:List Abbr)(x1:Int)(x5:Int):Jy Q7 (QP (Z11.C k)) (QG 29 k Z11.L) 0 (Jc Try.f11 0) (YC 29 Z11.sp0 (x0,x1,x5,())) (Z11.A0.cont 29 k)=Z11.l0 (k+1) x0 x1 x5:=by kernel_rfl
theorem Z11.G (hE:EnvOk Try.prog Q7)(pv:Nat->Value)(k:Nat):∀cal A,Z11.C k cal=some A->QT Try.prog Q7 pv cal A:=by
 intro cal A h
 unfold Z11.C at h
 split at h
 ·cases h;exact λx y hy=>Z1.good hE pv k x.1 hy
 ·cases h
theorem Z11.good (hE:EnvOk Try.prog Q7)(pv:Nat->Value)(k:Nat)(a0:List Abbr)(a1:Int){y:_}(h:Z11.F k a0 a1=some y):Ju Try.prog Q7 pv 11 (.fr 31 .abbr a0) (Qs [(.int .i64)] (a1,())) (.kep (.fr 31 .abbr y.1) (.t (.int .i64) y.2)):=
 Q2u hE (t:=Z11.C) k (λk _=>Z11.G hE pv k) (f:=11) (fn:=Try.f11) (by kernel_rfl) rfl (by kernel_rfl) (.inl rfl) (by kernel_rfl) (lt:=Z11.L) (by kernel_rfl) (λb A h=>by
  unfold Z11.L at h;split at h
  ·cases h;exact⟨by kernel_rfl,by kernel_rfl,λ_=>rfl,λ_=>rfl⟩
  ·cases h) (λb A h=>by
  unfold Z11.L at h;split at h
  ·cases h;exact λk x=>Z11.step0 k x.1 x.2.1 x.2.2.1
  ·cases h) ((Z11.run k a0 a1).trans h) (λr hr=>Q5d (λr y h=>Qq h) hr)
def Z9.l0:Nat->(List Abbr)->Int->Int->Option (Sum Int Int)
 |0,_,_,_=>none
 |k+1,x0,x1,x5=>bif (decide (x5<(x0.length:Int)))then(bif decide (0<=x5)then(bif decide (x5<(x0.length:Int))then((Z1.F k x1).bind λr1=>bif (!Jq ((x0.getD (x5:Int).toNat (Q6 .abbr)).word) r1)then(some (.inl (-1)))else(bif decide (0<=x5)then(bif decide (x5<(x0.length:Int))then((Z1.F k (IntKind.wrap .i64 (x1+1))).bind λr2=>bif (!Jq ((x0.getD (x5:Int).toNat (Q6 .abbr)).short) r2)then(some (.inl (-1)))else(Z9.l0 k x0 (IntKind.wrap .i64 ((IntKind.wrap .i64 (x1+1))+1)) (IntKind.wrap .i64 (x5+1))))else none)else none))else none)else none)else(some (.inr x1))
def Z9.F (k:Nat)(a0:List Abbr)(a1:Int):Option (Int):=(Z9.l0 k a0 a1 0).bind λy3=>match y3 with|.inl z4=>some z4|.inr z4=>some z4
def Z9.C (k:Nat):Cal->Option CArm:=λc=>match c with
 |.f 18=>some (.p [(.int .i64)] _ (λx=>Z1.F k x.1) (λr=>(.t .str r)))
 |_=>none
def Z9.sp0:List Sp:=[.t 0 (.sl .abbr),.t 1 (.int .i64),.t 5 (.int .i64)]
def Z9.sp0_0:List Sp:=[.t 4 (.int .i64)]
def Z9.sp0_1:List Sp:=[.t 1 (.int .i64)]
def Z9.A0:LArm:=.two Z9.sp0 Z9.sp0_0 Z9.sp0_1 (Int) (Int) (λk x=>Z9.l0 k x.1 x.2.1 x.2.2.1) .ret (.exit 0) (λy=>(y,())) (λx=>x.1) (λy=>(y,())) (λx=>x.1)
def Z9.L:Nat->Option LArm:=λb=>match b with
 |0=>some Z9.A0
 |_=>none
theorem Z9.run (k:Nat)(a0:List Abbr)(a1:Int):JY Q7 (QP (Z9.C k)) (QG 33 k Z9.L) Try.f12 [.t (.sl .abbr) a0,.t (.int .i64) a1] (QN (.t (.int .i64)))=Z9.F k a0 a1:=by kernel_rfl
theorem Z9.step0 (k:Nat)(x0:List Abbr)(x1:Int)(x5:Int):Jy Q7 (QP (Z9.C k)) (QG 33 k Z9.L) 0 (Jc Try.f12 0) (YC 33 Z9.sp0 (x0,x1,x5,())) (Z9.A0.cont 33 k)=Z9.l0 (k+1) x0 x1 x5:=by kernel_rfl
theorem Z9.G (hE:EnvOk Try.prog Q7)(pv:Nat->Value)(k:Nat):∀cal A,Z9.C k cal=some A->QT Try.prog Q7 pv cal A:=by
 intro cal A h
 unfold Z9.C at h
 split at h
 ·cases h;exact λx y hy=>Z1.good hE pv k x.1 hy
 ·cases h
theorem Z9.good (hE:EnvOk Try.prog Q7)(pv:Nat->Value)(k:Nat)(a0:List Abbr)(a1:Int){y:_}(h:Z9.F k a0 a1=some y):Qw Try.prog Q7 pv (.f 12) (Qs [(.sl .abbr),(.int .i64)] (a0,a1,())) (.t (.int .i64) y):=
 J9 hE (t:=Z9.C) k (λk _=>Z9.G hE pv k) (f:=12) (fn:=Try.f12) (by kernel_rfl) rfl (by kernel_rfl) (by kernel_rfl) (lt:=Z9.L) (by kernel_rfl) (λb A h=>by
  unfold Z9.L at h;split at h
  ·cases h;exact⟨by kernel_rfl,by kernel_rfl,by kernel_rfl,λ_=>rfl,λ_=>rfl,λ_=>rfl⟩
  ·cases h) (λb A h=>by
  unfold Z9.L at h;split at h
  ·cases h;exact λk x=>Z9.step0 k x.1 x.2.1 x.2.2.1
  ·cases h) ((Z9.run k a0 a1).trans h) (λr hr=>Qq hr)
def Z23.F (k:Nat)(a0:List Abbr)(a1:Abbr):Option (Bool):=(Z10.F k a0 1048576).bind λr1=>bif (decide (r1<0))then(some true)else((Z13.F a1 r1).bind λr2=>bif (decide (r2<0))then(some true)else((Z7.F k a0).bind λr3=>(Z12.F a1).bind λr4=>(Z4.F k r3 r4).bind λr5=>(Z7.F k a0).bind λr6=>(Z12.F a1).bind λr7=>(Z3.F k r6 r7).bind λr8=>(Z5.F k r8.1 r5.1).bind λr9=>bif (!r9)then(some false)else(bif (!(r8.2==r5.2))then(some false)else((Z7.F k a0).bind λr10=>(Z5.F k r6 r10).bind λr11=>bif (!r11)then(some false)else((Z11.F k r6 1).bind λr12=>bif (decide (r12.2<0))then(some false)else((Z5.F k r8.1 r5.1).bind λr13=>bif (!r13)then(some false)else(bif (!(r8.2==r5.2))then(some false)else((Z11.F k r8.1 1).bind λr14=>(Z9.F k r14.1 1).bind λr15=>bif (decide (r15<0))then(some false)else(bif (r15 != r14.2)then(some false)else((Z7.F k a0).bind λr16=>(Z12.F a1).bind λr17=>(Z3.F k r16 r17).bind λr18=>(Z5.F k r18.1 r5.1).bind λr19=>bif (!r19)then(some false)else(bif (!(r18.2==r5.2))then(some false)else((Z9.F k r14.1 1).bind λr20=>bif (decide (r20<0))then(some false)else(bif (r20 != r14.2)then(some false)else(some true))))))))))))))
def Z23.C (k:Nat):Cal->Option CArm:=λc=>match c with
 |.f 4=>some (.p [(.sl .abbr),(.int .i64)] _ (λx=>Z10.F k x.1 x.2.1) (λr=>(.t (.int .i64) r)))
 |.f 5=>some (.p [.abbr,(.int .i64)] _ (λx=>Z13.F x.1 x.2.1) (λr=>(.t (.int .i64) r)))
 |.f 7=>some (.p [(.sl .abbr)] _ (λx=>Z7.F k x.1) (λr=>(.fr 31 .abbr r)))
 |.f 8=>some (.p [.abbr] _ (λx=>Z12.F x.1) (λr=>(.t .abbr r)))
 |.f 6=>some (.p [(.sl .abbr),.abbr] _ (λx=>Z4.F k x.1 x.2.1) (λr=>(.tup [.fr 31 .abbr r.1,.t .bool r.2])))
 |.f 9=>some (.p [(.sl .abbr),.abbr] _ (λx=>Z3.F k x.1 x.2.1) (λr=>(.tup [.fr 31 .abbr r.1,.t .bool r.2])))
 |.f 10=>some (.p [(.sl .abbr),(.sl .abbr)] _ (λx=>Z5.F k x.1 x.2.1) (λr=>(.t .bool r)))
 |.f 11=>some (.m (.fr 31 .abbr) [(.int .i64)] _ (λx0 x=>Z11.F k x0 x.1) (λr=>.kep (.fr 31 .abbr r.1) (.t (.int .i64) r.2)))
 |.f 12=>some (.p [(.sl .abbr),(.int .i64)] _ (λx=>Z9.F k x.1 x.2.1) (λr=>(.t (.int .i64) r)))
 |_=>none
theorem Z23.run (k:Nat)(a0:List Abbr)(a1:Abbr):JY Q7 (QP (Z23.C k)) (QG 109 0 (λ_=>none)) Try.f3 [.t (.sl .abbr) a0,.t .abbr a1] (QN (.t .bool))=Z23.F k a0 a1:=by kernel_rfl
theorem Z23.G (hE:EnvOk Try.prog Q7)(pv:Nat->Value)(k:Nat):∀cal A,Z23.C k cal=some A->QT Try.prog Q7 pv cal A:=by
 intro cal A h
 unfold Z23.C at h
 split at h
 ·cases h;exact λx y hy=>Z10.good hE pv k x.1 x.2.1 hy
 ·cases h;exact λx y hy=>Z13.good hE pv x.1 x.2.1 hy
 ·cases h;exact λx y hy=>Z7.good hE pv k x.1 hy
 ·cases h;exact λx y hy=>Z12.good hE pv x.1 hy
 ·cases h;exact λx y hy=>Z4.good hE pv k x.1 x.2.1 hy
 ·cases h;exact λx y hy=>Z3.good hE pv k x.1 x.2.1 hy
 ·cases h;exact λx y hy=>Z5.good hE pv k x.1 x.2.1 hy
 ·cases h;exact⟨_,rfl,λx0 x y hy=>Z11.good hE pv k x0 x.1 hy⟩
 ·cases h;exact λx y hy=>Z9.good hE pv k x.1 x.2.1 hy
 ·cases h
theorem Z23.good (hE:EnvOk Try.prog Q7)(pv:Nat->Value)(k:Nat)(a0:List Abbr)(a1:Abbr){y:_}(h:Z23.F k a0 a1=some y):Qw Try.prog Q7 pv (.f 3) (Qs [(.sl .abbr),.abbr] (a0,a1,())) (.t .bool y):=
 QX hE (Z23.G hE pv k) (f:=3) (fn:=Try.f3) (by kernel_rfl) rfl (by kernel_rfl) (by kernel_rfl) ((Z23.run k a0 a1).trans h) (λr hr=>Qq hr)
end Go.Proofs.Ytfindpalabmmmaa
end
section
/- Plain laws: abbreviations,their check. -/
namespace Go.Proofs.Ytfindpalabmmmaa
open Go.Gx
def szA (a:Abbr):Nat:=a.word.size+a.short.size
def Ky (xs:List Abbr):Nat:=(xs.map szA).sum
theorem Q5q (a:Abbr)(l:Int)(hl:0<=l)(hl2:l<=1048576)(h:WF .abbr a):Z13.F a l=some (if l-szA a<0 then -1 else l-szA a):=by
 cases h with
 |abbr _ h1 h2=>
  have h1:=Q5k h1
  have h2:=Q5k h2
  unfold Z13.F szA
  by_cases c:l-(a.word.size:Int)<0
  ·simp(disch:=omega) only[wrap_in,J4]
   rw[if_pos (by omega)]
  ·by_cases c2:l-(a.word.size:Int)-(a.short.size:Int)<0
   ·simp(disch:=omega) only[wrap_in,J4,JR]
    rw[if_pos (by omega)]
   ·simp(disch:=omega) only[wrap_in,J4,JR]
    rw[if_neg (by omega)]
    congr 1;omega
theorem getD_at {α:Type}{xs:List α}{i:Nat}(h:i<xs.length)(d:α):xs.getD i d=xs[i]:=by simp[List.getD,List.getElem?_eq_getElem h]
theorem Q31 (xs:List Abbr)(hw:WF (.sl .abbr) xs)(hlen:xs.length<=1048576):∀n i:Nat,i+n=xs.length->∀l:Int,0<=l->l<=1048576->
  Ev (λk=>Z10.l0 k xs l i) (if l-Ky (xs.drop i)<0 then .inl (-1)else .inr (l-Ky (xs.drop i)))
 |0,i,h,l,h0,h1=>by
  refine Ev.step (λk=>by rw[Z10.l0]) ?_
  simp(disch:=omega) only[JR]
  rw[List.drop_eq_nil_of_le (by omega)]
  simp only[Ky,List.map_nil,List.sum_nil]
  rw[if_neg (by omega)]
  exact(Ev.pure _).eq (by congr 1;omega)
 |n+1,i,h,l,h0,h1=>by
  have hi:i<xs.length:=by omega
  have hwi:WF .abbr xs[i]:=by cases hw with|sl _ _ _ h=>exact h i hi
  have hd:Ky (xs.drop i)=szA xs[i]+Ky (xs.drop (i+1)):=by
   rw[List.drop_eq_getElem_cons hi];unfold Ky;rw[List.map_cons,List.sum_cons]
  refine Ev.step (λk=>by rw[Z10.l0]) ?_
  simp(disch:=omega) only[J4,Int.toNat_natCast,getD_at hi]
  refine Ev.bind0 (Q5q _ l h0 h1 hwi) ?_
  by_cases c:l-(szA xs[i]:Int)<0
  ·simp(disch:=omega) only[if_pos c,J4]
   rw[if_pos (by omega)]
   exact Ev.pure _
  ·simp(disch:=omega) only[if_neg c,JR,wrap_in]
   have:=Q31 xs hw hlen n (i+1) (by omega) (l-szA xs[i]) (by omega) (by omega)
   refine this.eq ?_
   rw[hd]
   by_cases c2:l-(szA xs[i]:Int)-(Ky (xs.drop (i+1)):Int)<0
   ·rw[if_pos c2,if_pos (by omega)]
   ·rw[if_neg c2,if_neg (by omega)];congr 1;omega
theorem Q6z {e:Ty}{xs:List (den e)}(h:WF (.sl e) xs):xs.length<=9223372036854775807:=by
 cases h with|sl _ _ h _=>exact maxLen_eq▸h
theorem Q60 (xs:List Abbr)(l:Int)(h0:0<=l)(h1:l<=1048576)(hw:WF (.sl .abbr) xs):∃r,Ev (λk=>Z10.F k xs l) r/\(0<=r->(xs.length:Int)+Ky xs+r=l):=by
 have hl:xs.length<=9223372036854775807:=Q6z hw
 unfold Z10.F
 by_cases c:l-(xs.length:Int)<0
 ·simp(disch:=omega) only[wrap_in,J4]
  exact⟨-1,Ev.pure _,λh=>by omega⟩
 ·simp(disch:=omega) only[wrap_in,JR]
  have:=Q31 xs hw (by omega) xs.length 0 (by omega) (l-xs.length) (by omega) (by omega)
  simp only[List.drop_zero]at this
  by_cases c2:l-(xs.length:Int)-(Ky xs:Int)<0
  ·rw[if_pos c2]at this
   exact⟨-1,Ev.bind this (Ev.pure _),λh=>by omega⟩
  ·rw[if_neg c2]at this
   exact⟨l-(xs.length:Int)-(Ky xs:Int),Ev.bind this (Ev.pure _),λh=>by omega⟩
theorem Q32 (xs:List Abbr)(hlen:xs.length<=1048576):∀n i:Nat,i+n=xs.length->∀ys:List Abbr,ys.length=xs.length->ys.take i=xs.take i->Ev (λk=>Z7.l0 k xs ys i) xs
 |0,i,h,ys,hy,ht=>by
  refine Ev.step (λk=>by rw[Z7.l0]) ?_
  simp(disch:=omega) only[JR]
  have:ys=xs:=by
   rw[List.take_of_length_le (by omega),List.take_of_length_le (by omega)]at ht
   exact ht
  rw[this];exact Ev.pure _
 |n+1,i,h,ys,hy,ht=>by
  have hi:i<xs.length:=by omega
  refine Ev.step (λk=>by rw[Z7.l0]) ?_
  simp(disch:=omega) only[J4,Int.toNat_natCast,getD_at hi]
  refine Ev.bind0 (a:=xs[i]) rfl ?_
  simp(disch:=omega) only[J4,wrap_in]
  have:=Q32 xs hlen n (i+1) (by omega) (ys.set i xs[i]) (by simpa using hy) (by
   rw[List.take_add_one,List.take_add_one,List.take_set_of_le (Nat.le_refl i),ht]
   simp[show i<ys.length by omega,hi])
  exact this
theorem Q61 (xs:List Abbr)(hlen:xs.length<=1048576):Ev (λk=>Z7.F k xs) xs:=by
 unfold Z7.F
 have hn:nb .abbr=32:=rfl
 simp(disch:=first|omega|(simp only[hn,Int.toNat_natCast];omega)) only[ceq,J4,Q6v]
 refine Ev.bind (a:=xs) ?_ (Ev.pure _)
 exact Q32 xs hlen xs.length 0 (by omega) _ (by simp) (by simp)
theorem Q6A (a:Abbr):Z21.F a a=some true:=by
 unfold Z21.F
 simp only[YX,Bool.not_true,cond_false]
theorem Q33 (xs:List Abbr)(hlen:xs.length<=1048576):∀n i:Nat,i+n=xs.length->Ev (λk=>Z5.l0 k xs xs i) (.inr ())
 |0,i,h=>by
  refine Ev.step (λk=>by rw[Z5.l0]) ?_
  simp(disch:=omega) only[JR]
  exact Ev.pure _
 |n+1,i,h=>by
  have hi:i<xs.length:=by omega
  refine Ev.step (λk=>by rw[Z5.l0]) ?_
  simp(disch:=omega) only[J4,Int.toNat_natCast,getD_at hi]
  refine Ev.bind0 (Q6A _) ?_
  simp(disch:=omega) only[Bool.not_true,cond_false,wrap_in]
  exact Q33 xs hlen n (i+1) (by omega)
theorem Q34 (xs:List Abbr)(hlen:xs.length<=1048576):Ev (λk=>Z5.F k xs xs) true:=by
 unfold Z5.F
 simp(disch:=omega) only[Q72]
 exact Ev.bind (Q33 xs hlen xs.length 0 (by omega)) (Ev.pure _)
def low (b:UInt8):Bool:=decide (97<=b.toNat)&&decide (b.toNat<=122)
def KW (s:ByteArray)(b:Nat):ByteArray:=if 0<s.size/\bt s (s.size-1)=b then s.extract 0 (s.size-1)else s
theorem Kz (s:ByteArray)(b:Nat):(KW s b).size<=s.size:=by
 unfold KW;split
 ·simp[ByteArray.size_extract]
 ·exact Nat.le_refl _
theorem Q5r {s:ByteArray}:(!Jq s ⟨#[]⟩)=decide (0<s.size):=by
 rw[Q30]
 have:L ⟨#[]⟩=[]:=rfl
 rw[this,<-UA]
 cases L s<;>rfl
theorem G6 (s:ByteArray)(b:Nat)(h:s.size<=9223372036854775807):Z15.F s b=some (KW s b):=by
 unfold Z15.F KW
 rw[Q5r]
 by_cases c:0<s.size
 ·simp(disch:=omega) only[J4,wrap_in]
  rw[show((s.size:Int)-1).toNat=s.size-1 by omega]
  by_cases c2:bt s (s.size-1)=b
  ·simp(disch:=first|omega|exact c2) only[ceq]
   rw[if_pos ⟨c,c2⟩]
  ·simp(disch:=first|omega|exact c2) only[cne]
   rw[if_neg (λh=>c2 h.2)]
 ·simp(disch:=omega) only[JR]
  rw[if_neg (λh=>c h.1)]
theorem Q3V (s:ByteArray)(c:UInt8)(h:s.size<=9223372036854775807):Z17.F s ⟨#[c]⟩=some (decide (0<s.size)&&(bt s (s.size-1)==(c.toNat:Int))):=by
 unfold Z17.F
 have h1:(⟨#[c]⟩:ByteArray).size=1:=rfl
 rw[h1]
 by_cases hs:0<s.size
 ·simp(disch:=omega) only[J4,wrap_in]
  rw[Q30,Q3T,show((s.size:Int)-((1:Nat):Int)).toNat=s.size-1 by omega,List.take_of_length_le (by rw[UA];omega),Q6y]
  congr 1
  have hl:s.size-1<(L s).length:=by rw[UA];omega
  rw[List.drop_eq_getElem_cons hl,List.drop_eq_nil_of_le (by rw[UA];omega),getD_at hl,decide_eq_true hs]
  show([(L s)[s.size-1]]==[c])=_
  rw[Bool.true_and]
  by_cases e:(L s)[s.size-1]=c
  ·rw[e];simp
  ·have:((L s)[s.size-1].toNat:Int)≠(c.toNat:Int):=λh=>e (UInt8.toNat_inj.1 (by omega))
   rw[show((((L s)[s.size-1]).toNat:Int)==(c.toNat:Int))=false by simpa using this]
   simpa using e
 ·simp(disch:=omega) only[JR]
  rw[decide_eq_false hs];rfl
theorem Q62 (s:ByteArray)(c:UInt8)(h:s.size<=9223372036854775807):Z18.F s ⟨#[c]⟩=some (KW s c.toNat):=by
 unfold Z18.F Z22.F
 rw[Q3V s c h]
 have h1:(⟨#[c]⟩:ByteArray).size=1:=rfl
 rw[h1]
 unfold KW
 simp only[Option.bind_some]
 by_cases hs:0<s.size
 ·simp(disch:=omega) only[J4,wrap_in,decide_eq_true hs,Bool.true_and]
  rw[show((s.size:Int)-((1:Nat):Int)).toNat=s.size-1 by omega]
  by_cases c2:bt s (s.size-1)=c.toNat
  ·simp(disch:=first|omega|exact c2) only[ceq]
   rw[if_pos ⟨hs,c2⟩];rfl
  ·simp(disch:=first|omega|exact c2) only[cne]
   rw[if_neg (λh=>c2 h.2)];rfl
 ·rw[decide_eq_false hs,if_neg (λh=>hs h.1)];rfl
theorem Q35 (b:UInt8):low b=(decide ((b.toNat:Int) ≥ 97)&&decide ((b.toNat:Int)<=122)):=by
 unfold low
 congr 1<;>exact decide_eq_decide.2 (by omega)
theorem Q2x (b:UInt8):Z19.F (b.toNat:Int)=some (low b):=by
 unfold Z19.F
 rw[Q35]
 cases decide ((b.toNat:Int) ≥ 97)<;>rfl
theorem Q6T (a b c:Int):Z16.F a b c=some (decide (a ≥ b)&&decide (a<=c)):=by
 unfold Z16.F
 cases decide (a ≥ b)<;>rfl
theorem Q3W (a b c:Int):Z20.F a b c=some (decide (a ≥ b)&&decide (a<=c)):=by
 unfold Z20.F
 cases decide (a ≥ b)<;>rfl
theorem Q1E {s:ByteArray}{i:Nat}(hi:i<s.size)(p:UInt8->Bool):((L s).drop i).all p=(p ((L s).getD i 0)&&((L s).drop (i+1)).all p):=by
 have hl:i<(L s).length:=by rw[UA];exact hi
 rw[List.drop_eq_getElem_cons hl,getD_at hl];rfl
theorem Q1F (s:ByteArray)(hs:s.size<=9223372036854775806)(lo hi:Int):∀n i:Nat,i+n=s.size->Ev (λk=>Z8.l0 k s lo hi i) (if((L s).drop i).all low=true then .inr (s,lo,hi)else .inl false)
 |0,i,h=>by
  refine Ev.step (λk=>by rw[Z8.l0]) ?_
  simp(disch:=omega) only[JR]
  rw[List.drop_eq_nil_of_le (by rw[UA];omega)]
  exact Ev.pure _
 |n+1,i,h=>by
  refine Ev.step (λk=>by rw[Z8.l0]) ?_
  simp(disch:=omega) only[J4,Int.toNat_natCast,Q6y]
  refine Ev.bind0 (Q2x _) ?_
  rw[Q1E (by omega)]
  cases hlow:low ((L s).getD i 0)with
  |false=>simp only[Bool.not_false,cond_true,Bool.false_and];exact Ev.pure _
  |true=>
   simp(disch:=omega) only[Bool.not_true,cond_false,Bool.true_and,wrap_in]
   exact Q1F s hs lo hi n (i+1) (by omega)
theorem G7 (s:ByteArray)(hs:s.size<=9223372036854775806)(lo hi:Int):∀n i:Nat,i+n=s.size->Ev (λk=>Z6.l0 k s lo hi i) (if((L s).drop i).all low=true then .inr (s,lo,hi)else .inl false)
 |0,i,h=>by
  refine Ev.step (λk=>by rw[Z6.l0]) ?_
  simp(disch:=omega) only[JR]
  rw[List.drop_eq_nil_of_le (by rw[UA];omega)]
  exact Ev.pure _
 |n+1,i,h=>by
  refine Ev.step (λk=>by rw[Z6.l0]) ?_
  simp(disch:=omega) only[J4,Int.toNat_natCast,Q6y]
  rw[Q1E (by omega),Q35]
  generalize (((L s).getD i 0).toNat:Int)=b
  by_cases c:b<97
  ·simp(disch:=omega) only[J4,Q6x,Bool.false_and];exact Ev.pure _
  ·by_cases c2:b > 122
   ·simp(disch:=omega) only[JR,J4,Q6w,Q6x,Bool.true_and,Bool.false_and];exact Ev.pure _
   ·simp(disch:=omega) only[JR,Q6w,Bool.true_and,wrap_in]
    exact G7 s hs lo hi n (i+1) (by omega)
def Y5 (s:ByteArray)(lo hi:Int)(b:Nat):Bool:=(L (KW s b)).all low&&(decide ((((KW s b).size:Nat):Int) ≥ lo)&&decide ((((KW s b).size:Nat):Int)<=hi))
theorem G8 (s:ByteArray)(lo hi:Int)(c:UInt8)(h:s.size<=9223372036854775806):Ev (λk=>Z8.F k s lo hi ⟨#[c]⟩) (Y5 s lo hi c.toNat):=by
 unfold Z8.F Y5
 refine Ev.bind0 (Q62 s c (by omega)) ?_
 have hc:=Kz s c.toNat
 have:=Q1F (KW s c.toNat) (by omega) lo hi (KW s c.toNat).size 0 (by omega)
 rw[List.drop_zero]at this
 cases hall:(L (KW s c.toNat)).all low with
 |true=>rw[hall]at this;exact Ev.bind this (Ev.bind0 (Q3W _ _ _) (Ev.pure _))
 |false=>rw[hall]at this;exact Ev.bind this (Ev.pure _)
theorem G9 (s:ByteArray)(lo hi:Int)(h:s.size<=9223372036854775806):Ev (λk=>Z6.F k s lo hi) ((L s).all low&&(decide ((s.size:Int) ≥ lo)&&decide ((s.size:Int)<=hi))):=by
 unfold Z6.F
 have:=G7 s h lo hi s.size 0 (by omega)
 rw[List.drop_zero]at this
 cases hall:(L s).all low with
 |true=>rw[hall]at this;exact Ev.bind this (Ev.bind0 (Q6T _ _ _) (Ev.pure _))
 |false=>rw[hall]at this;exact Ev.bind this (Ev.pure _)
def Gl (a:Abbr):Bool:=Y5 a.word 2 15 45&&Y5 a.short 1 12 46
theorem Ge (a:Abbr)(h1:a.word.size<=9223372036854775806)(h2:a.short.size<=9223372036854775806):Ev (λk=>Z14.F k a) (Gl a):=by
 unfold Z14.F Gl
 refine Ev.bind0 (G6 a.word 45 (by omega)) ?_
 have hc:=Kz a.word 45
 refine Ev.bind (G9 _ 2 15 (by omega)) ?_
 refine Ev.cond (λh=>?_) (λh=>?_)
 ·refine Ev.bind0 (G6 a.short 46 (by omega)) ?_
  have hc:=Kz a.short 46
  refine(Ev.bind (G9 _ 1 12 (by omega)) (Ev.pure _)).eq ?_
  show _=(Y5 a.word 2 15 45&&_)
  rw[show Y5 a.word 2 15 45=true from h,Bool.true_and];rfl
 ·rw[show Y5 a.word 2 15 45=false from h];exact Ev.pure _
def okA (xs:List Abbr)(i:Nat):Bool:=Gl (xs.getD i (Q6 .abbr))&&(decide (i=0)||ltS (xs.getD (i-1) (Q6 .abbr)).word (xs.getD i (Q6 .abbr)).word)
def smalls (xs:List Abbr):Prop:=xs.length<=1048576/\∀a∈xs,a.word.size<=1048576/\a.short.size<=1048576
theorem XQ (xs:List Abbr)(hs:smalls xs):∀n i:Nat,i+n=xs.length->Ev (λk=>Z2.l0 k xs xs xs.length i) (if(List.range' i n).all (okA xs)=true then .inr xs else .inl false)
 |0,i,h=>by
  refine Ev.step (λk=>by rw[Z2.l0]) ?_
  simp(disch:=omega) only[JR]
  exact Ev.pure _
 |n+1,i,h=>by
  have hi:i<xs.length:=by omega
  obtain⟨hl,hx⟩:=hs
  obtain⟨h1,h2⟩:=hx _ (List.getElem_mem hi)
  rw[<-getD_at hi (Q6 .abbr)]at h1 h2
  rw[List.range'_succ,List.all_cons]
  refine Ev.step (λk=>by rw[Z2.l0]) ?_
  simp(disch:=omega) only[J4,Int.toNat_natCast]
  refine Ev.bind (G8 _ 2 15 45 (by omega)) ?_
  unfold okA Gl
  cases hw:Y5 (xs.getD i (Q6 .abbr)).word 2 15 (45:UInt8).toNat with
  |false=>
   rw[show Y5 (xs.getD i (Q6 .abbr)).word 2 15 45=false from hw]
   exact Ev.pure _
  |true=>
   rw[show Y5 (xs.getD i (Q6 .abbr)).word 2 15 45=true from hw]
   simp only[Bool.not_true,cond_false,Bool.true_and]
   refine Ev.bind (G8 _ 1 12 46 (by omega)) ?_
   cases hw2:Y5 (xs.getD i (Q6 .abbr)).short 1 12 (46:UInt8).toNat with
   |false=>
    rw[show Y5 (xs.getD i (Q6 .abbr)).short 1 12 46=false from hw2]
    exact Ev.pure _
   |true=>
    rw[show Y5 (xs.getD i (Q6 .abbr)).short 1 12 46=true from hw2]
    simp only[Bool.not_true,cond_false,Bool.true_and]
    have ih:=XQ xs ⟨hl,hx⟩ n (i+1) (by omega)
    by_cases c:i=0
    ·simp(disch:=omega) only[JR,wrap_in,Q6w,Bool.true_or,Bool.true_and]
     exact ih
    ·simp(disch:=omega) only[J4,wrap_in,Q6x,Bool.false_or]
     rw[show((i:Int)-1).toNat=i-1 by omega]
     cases ltS (xs.getD (i-1) (Q6 .abbr)).word (xs.getD i (Q6 .abbr)).word with
     |false=>exact Ev.pure _
     |true=>exact ih
theorem XR (xs:List Abbr)(hs:smalls xs):∀n i:Nat,i+n=xs.length->∃r,Ev (λk=>Z0.l0 k xs i) r/\(r= .inl false\/r= .inr xs)/\(xs.length<=15->r=if(List.range' i n).all (okA xs)=true then .inr xs else .inl false)
 |0,i,h=>by
  refine⟨.inr xs,Ev.step (λk=>by rw[Z0.l0]) ?_,.inr rfl,λ_=>rfl⟩
  simp(disch:=omega) only[JR]
  exact Ev.pure _
 |n+1,i,h=>by
  have hi:i<xs.length:=by omega
  obtain⟨hl,hx⟩:=hs
  obtain⟨h1,h2⟩:=hx _ (List.getElem_mem hi)
  rw[<-getD_at hi (Q6 .abbr)]at h1 h2
  obtain⟨r,ih1,ih2,ih3⟩:=XR xs ⟨hl,hx⟩ n (i+1) (by omega)
  rw[List.range'_succ,List.all_cons]
  by_cases c15:(i:Int)<=15
  ·have st:∀r,Ev (λk=>Z0.l0 k xs i) r ↔ Ev (λk=>Z0.l0 k xs i) r:=λ_=>Iff.rfl
   cases ho:Gl (xs.getD i (Q6 .abbr))with
   |false=>
    refine⟨.inl false,Ev.step (λk=>by rw[Z0.l0]) ?_,.inl rfl,λ_=>by unfold okA;rw[ho];rfl⟩
    simp(disch:=omega) only[J4,Int.toNat_natCast]
    exact Ev.bind (Ge _ (by omega) (by omega)) (by rw[ho];exact Ev.pure _)
   |true=>
    by_cases c:i=0
    ·refine⟨r,Ev.step (λk=>by rw[Z0.l0]) ?_,ih2,λh15=>by rw[ih3 h15];unfold okA;rw[ho,decide_eq_true c];rfl⟩
     simp(disch:=omega) only[J4,Int.toNat_natCast]
     refine Ev.bind (Ge _ (by omega) (by omega)) ?_
     rw[ho]
     simp(disch:=omega) only[Bool.not_true,cond_false,JR,wrap_in]
     exact ih1
    ·cases hlt:ltS (xs.getD (i-1) (Q6 .abbr)).word (xs.getD i (Q6 .abbr)).word with
     |false=>
      refine⟨.inl false,Ev.step (λk=>by rw[Z0.l0]) ?_,.inl rfl,λ_=>by unfold okA;rw[ho,hlt,decide_eq_false c];rfl⟩
      simp(disch:=omega) only[J4,Int.toNat_natCast]
      refine Ev.bind (Ge _ (by omega) (by omega)) ?_
      rw[ho]
      simp(disch:=omega) only[Bool.not_true,cond_false,J4,wrap_in]
      rw[show((i:Int)-1).toNat=i-1 by omega,hlt]
      exact Ev.pure _
     |true=>
      refine⟨r,Ev.step (λk=>by rw[Z0.l0]) ?_,ih2,λh15=>by rw[ih3 h15];unfold okA;rw[ho,hlt,decide_eq_false c];rfl⟩
      simp(disch:=omega) only[J4,Int.toNat_natCast]
      refine Ev.bind (Ge _ (by omega) (by omega)) ?_
      rw[ho]
      simp(disch:=omega) only[Bool.not_true,cond_false,J4,wrap_in]
      rw[show((i:Int)-1).toNat=i-1 by omega,hlt]
      exact ih1
  ·refine⟨.inr xs,Ev.step (λk=>by rw[Z0.l0]) ?_,.inr rfl,λh15=>by omega⟩
   simp(disch:=omega) only[J4,JR]
   exact Ev.pure _
def JC (xs:List Abbr):Bool:=(List.range' 0 xs.length).all (okA xs)&&decide ((xs.length:Int)<=15)
theorem Uc (xs:List Abbr)(hs:smalls xs):Ev (λk=>Z2.F k xs) (JC xs):=by
 unfold Z2.F JC
 have:=XQ xs hs xs.length 0 (by omega)
 cases hall:(List.range' 0 xs.length).all (okA xs)with
 |true=>rw[hall]at this;exact Ev.bind this (Ev.pure _)
 |false=>rw[hall]at this;exact Ev.bind this (Ev.pure _)
theorem Ud (xs:List Abbr)(hs:smalls xs):Ev (λk=>Z0.F k xs) (JC xs):=by
 unfold Z0.F JC
 obtain⟨r,h1,h2,h3⟩:=XR xs hs xs.length 0 (by omega)
 by_cases c:xs.length<=15
 ·have:=h3 c
  cases hall:(List.range' 0 xs.length).all (okA xs)with
  |true=>rw[this,hall]at h1;exact Ev.bind h1 (Ev.pure _)
  |false=>rw[this,hall]at h1;exact Ev.bind h1 (Ev.pure _)
 ·rw[decide_eq_false (show¬(xs.length:Int)<=15 by omega),Bool.and_false]
  rcases h2 with rfl|rfl
  ·exact Ev.bind h1 (Ev.pure _)
  ·exact Ev.bind h1 ((Ev.pure _).eq (decide_eq_false (by omega)))
theorem Q3X {xs:List Abbr}{r l:Int}(h:(xs.length:Int)+Ky xs+r=l)(hr:0<=r)(hl:l<=1048576):smalls xs:=by
 refine⟨by omega,λa ha=>?_⟩
 have:szA a<=Ky xs:=by
  unfold Ky
  clear h
  induction xs with
  |nil=>cases ha
  |cons b l ih=>
   simp only[List.map_cons,List.sum_cons]
   rcases List.mem_cons.1 ha with rfl|h
   ·omega
   ·have:=ih h;omega
 unfold szA at this
 omega
end Go.Proofs.Ytfindpalabmmmaa
end
section
/- The plain law of AddAbbreviation. -/
namespace Go.Proofs.Ytfindpalabmmmaa
open Go.Gx
theorem Q1G {n:Nat}(h:n<=2097152):room n .abbr=true:=by
 show Nat.ble (n*32) 140737488355328=true
 exact Nat.ble_eq_true_of_le (by omega)
theorem neS {a b:ByteArray}(c:¬a=b):Jq a b=false:=by
 rw[<-Bool.not_eq_true]
 exact λh=>c (Q1A.1 h)
theorem Q1H (xs:List Abbr)(a:Abbr)(hl:xs.length<=1048576):∀n i:Nat,i+n=xs.length->∃p:Nat,p<=xs.length/\Ev (λk=>Z4.l0 k xs a i) (xs,a,(p:Int))/\Ev (λk=>Z3.l0 k a xs i) (a,xs,(p:Int))
 |0,i,h=>by
  refine⟨i,by omega,Ev.step (λk=>by rw[Z4.l0]) ?_,Ev.step (λk=>by rw[Z3.l0]) ?_⟩<;>
   (simp(disch:=omega) only[JR];exact Ev.pure _)
 |n+1,i,h=>by
  have hi:i<xs.length:=by omega
  cases hb:ltS xs[i].word a.word with
  |true=>
   obtain⟨p,p1,p2,p3⟩:=Q1H xs a hl n (i+1) (by omega)
   refine⟨p,p1,Ev.step (λk=>by rw[Z4.l0]) ?_,Ev.step (λk=>by rw[Z3.l0]) ?_⟩
   ·simp(disch:=omega) only[J4,Int.toNat_natCast,getD_at hi,hb,cond_true,wrap_in];exact p2
   ·simp(disch:=omega) only[J4,Int.toNat_natCast,getD_at hi,hb,cond_true,wrap_in];exact p3
  |false=>
   refine⟨i,by omega,Ev.step (λk=>by rw[Z4.l0]) ?_,Ev.step (λk=>by rw[Z3.l0]) ?_⟩<;>
    (simp(disch:=omega) only[J4,Int.toNat_natCast,getD_at hi,hb,cond_false];exact Ev.pure _)
theorem Q0a {xs:List Abbr}{p:Nat}{a:Abbr}(hp:xs[p]? =some a)(hv:JC xs=true):Gl a=true:=by
 have hlt:=(List.getElem?_eq_some_iff.1 hp).1
 unfold JC at hv
 rw[Bool.and_eq_true,List.all_eq_true]at hv
 have h:=hv.1 p (by rw[List.mem_range'_1];omega)
 unfold okA at h
 rw[Bool.and_eq_true]at h
 have e:xs.getD p (Q6 .abbr)=a:=by rw[getD_at hlt];rw[List.getElem?_eq_getElem hlt]at hp;exact Option.some.inj hp
 rw[e]at h
 exact h.1
theorem Q6B (xs:List Abbr)(hs:smalls xs)(a:Abbr)(h1:a.word.size<=1048576)(h2:a.short.size<=1048576):∃r b,Ev (λk=>Z4.F k xs a) (r,b)/\Ev (λk=>Z3.F k xs a) (r,b)/\r.length<=1048576:=by
 have v1:=Ud xs hs
 have v2:=Uc xs hs
 unfold Z4.F Z3.F
 cases hv:JC xs with
 |false=>
  rw[hv]at v1 v2
  exact⟨[],false,Ev.bind v1 (Ev.pure _),Ev.bind v2 (Ev.pure _),by simp⟩
 |true=>
  rw[hv]at v1 v2
  have hl:xs.length<=15:=by
   unfold JC at hv
   rw[Bool.and_eq_true,decide_eq_true_eq]at hv
   omega
  obtain⟨p,p1,p2,p3⟩:=Q1H xs a (by omega) xs.length 0 (by omega)
  have o1:=Ge a (by omega) (by omega)
  have r0:room (([]:List Abbr).length+xs.length) .abbr=true:=Q1G (by simp;omega)
  have key:∀q:Nat,p<=q->q<=xs.length->smalls (xs.take p++[a]++xs.drop q)/\(xs.take p++[a]++xs.drop q)[p]? =some a:=λq q0 q1=>by
   refine⟨⟨by simp;omega,λx hx=>?_⟩,?_⟩
   ·rcases List.mem_append.1 hx with hx|hx
    ·rcases List.mem_append.1 hx with hx|hx
     ·exact hs.2 x (List.mem_of_mem_take hx)
     ·rw[List.mem_singleton.1 hx];exact⟨h1,h2⟩
    ·exact hs.2 x (List.mem_of_mem_drop hx)
   ·rw[List.append_assoc,List.getElem?_append_right (by rw[List.length_take];omega),List.length_take,Nat.min_eq_left p1,Nat.sub_self]
    rfl
  have rooms:∀q:Nat,q<=xs.length->room (([]:List Abbr).length+(xs.take p).length) .abbr=true/\room ((([]:List Abbr)++xs.take p).length+([a]:List Abbr).length) .abbr=true/\room (((([]:List Abbr)++xs.take p)++([a]:List Abbr)).length+(xs.drop q).length) .abbr=true:=λq hq=>
   ⟨Q1G (by simp;omega),Q1G (by simp;omega),Q1G (by simp;omega)⟩
  by_cases hb:∃h:p<xs.length,xs[p].word=a.word
  ·obtain⟨hp,hw⟩:=hb
   obtain⟨k1,k2⟩:=key (p+1) (by omega) hp
   obtain⟨m1,m2,m3⟩:=rooms (p+1) hp
   have n1:=Ud _ k1
   have n2:=Uc _ k1
   have e:xs.set p a=xs.take p++[a]++xs.drop (p+1):=by
    rw[List.set_eq_take_append_cons_drop,if_pos hp,List.append_assoc];rfl
   have ew:((p:Int)+1)=((p+1:Nat):Int):=by omega
   have spec:∀b,Gl a=true->JC (xs.take p++[a]++xs.drop (p+1))=b->Ev (λk=>Z4.F k xs a) (if b=true then(xs.take p++[a]++xs.drop (p+1),true)else([],false)):=λb ho hb=>by
    rw[ho]at o1
    rw[hb]at n1
    unfold Z4.F
    refine Ev.bind v1 (Ev.bind o1 (Ev.bind p2 ?_))
    simp(disch:=omega) only[Bool.not_true,cond_false,J4,Int.toNat_natCast,getD_at hp,hw,YX,cond_true,m1,m2,m3,wrap_in,ew]
    refine Ev.bind n1 ?_
    cases b<;>exact Ev.pure _
   have impl:∀b,JC (xs.take p++[a]++xs.drop (p+1))=b->Ev (λk=>Z3.F k xs a) (if b=true then(xs.take p++[a]++xs.drop (p+1),true)else([],false)):=λb hb=>by
    rw[hb]at n2
    unfold Z3.F
    refine Ev.bind v2 ?_
    simp only[Bool.not_true,cond_false,r0,cond_true,List.nil_append]
    refine Ev.bind p3 ?_
    simp(disch:=omega) only[J4,Int.toNat_natCast,getD_at hp,hw,YX,cond_true,e]
    refine Ev.bind n2 ?_
    cases b<;>exact Ev.pure _
   cases ho:Gl a with
   |false=>
    rw[ho]at o1
    have hf:JC (xs.take p++[a]++xs.drop (p+1))=false:=by
     rw[<-Bool.not_eq_true]
     intro h
     rw[Q0a k2 h]at ho
     cases ho
    exact⟨[],false,Ev.bind v1 (Ev.bind o1 (Ev.pure _)),impl false hf,by simp⟩
   |true=>
    cases hn:JC (xs.take p++[a]++xs.drop (p+1))with
    |false=>exact⟨[],false,spec false ho hn,impl false hn,by simp⟩
    |true=>exact⟨_,true,spec true ho hn,impl true hn,by simp;omega⟩
  ·obtain⟨k1,k2⟩:=key p (Nat.le_refl _) p1
   obtain⟨m1,m2,m3⟩:=rooms p p1
   have n1:=Ud _ k1
   have n2:=Uc _ k1
   have ei:Z24.F xs p [a]=some (xs.take p++[a]++xs.drop p):=by
    unfold Z24.F Q5Z
    have hr:room (xs.length+1) .abbr=true:=Q1G (by omega)
    have h1:decide (0<=(p:Int))=true:=decide_eq_true (by omega)
    have h2:decide ((p:Int)<=(xs.length:Int))=true:=decide_eq_true (by omega)
    rw[hr,h1,h2]
    rfl
   have spec:∀b,Gl a=true->JC (xs.take p++[a]++xs.drop p)=b->Ev (λk=>Z4.F k xs a) (if b=true then(xs.take p++[a]++xs.drop p,true)else([],false)):=λb ho hb2=>by
    rw[ho]at o1
    rw[hb2]at n1
    unfold Z4.F
    refine Ev.bind v1 (Ev.bind o1 (Ev.bind p2 ?_))
    by_cases hp:p<xs.length
    ·have hw:Jq xs[p].word a.word=false:=neS λh=>hb ⟨hp,h⟩
     simp(disch:=omega) only[Bool.not_true,cond_false,J4,Int.toNat_natCast,getD_at hp,hw,cond_true,m1,m2,m3]
     refine Ev.bind n1 ?_
     cases b<;>exact Ev.pure _
    ·simp(disch:=omega) only[Bool.not_true,cond_false,JR,J4,Int.toNat_natCast,cond_true,m1,m2,m3]
     refine Ev.bind n1 ?_
     cases b<;>exact Ev.pure _
   have impl:∀b,JC (xs.take p++[a]++xs.drop p)=b->Ev (λk=>Z3.F k xs a) (if b=true then(xs.take p++[a]++xs.drop p,true)else([],false)):=λb hb2=>by
    rw[hb2]at n2
    unfold Z3.F
    refine Ev.bind v2 ?_
    simp only[Bool.not_true,cond_false,r0,cond_true,List.nil_append]
    refine Ev.bind p3 ?_
    by_cases hp:p<xs.length
    ·have hw:Jq xs[p].word a.word=false:=neS λh=>hb ⟨hp,h⟩
     simp(disch:=omega) only[J4,Int.toNat_natCast,getD_at hp,hw,cond_false,ei,Option.bind_some]
     refine Ev.bind n2 ?_
     cases b<;>exact Ev.pure _
    ·simp(disch:=omega) only[JR,ei,Option.bind_some]
     refine Ev.bind n2 ?_
     cases b<;>exact Ev.pure _
   cases ho:Gl a with
   |false=>
    rw[ho]at o1
    have hf:JC (xs.take p++[a]++xs.drop p)=false:=by
     rw[<-Bool.not_eq_true]
     intro h
     rw[Q0a k2 h]at ho
     cases ho
    exact⟨[],false,Ev.bind v1 (Ev.bind o1 (Ev.pure _)),impl false hf,by simp⟩
   |true=>
    cases hn:JC (xs.take p++[a]++xs.drop p)with
    |false=>exact⟨[],false,spec false ho hn,impl false hn,by simp⟩
    |true=>exact⟨_,true,spec true ho hn,impl true hn,by simp;omega⟩
theorem Q1I (s t:ByteArray):(s++t).size=s.size+t.size:=by rw[<-UA,Q5l,List.length_append];rfl
theorem Q1J:∀n:Nat,n<=2097152->∀s:ByteArray,s.size+n<=9223372036854775806->∃r,Ev (λk=>Z1.l0 k (n:Int) s) r/\r.size<=s.size+n:=λn=>by
 induction n using Nat.strongRecOn with
 |ind n ih=>
  intro hn s hs
  by_cases c:n=0
  ·refine⟨s,Ev.step (λk=>by rw[Z1.l0]) ?_,by omega⟩
   simp(disch:=omega) only[JR]
   exact Ev.pure _
  ·have ed:Int.tdiv (n:Int) 10=((n / 10:Nat):Int):=by
    rw[Int.tdiv_eq_ediv_of_nonneg (by omega)];omega
   have e1:∀v:Int,(Q0L ([v]:List Int)).size=1:=λv=>rfl
   obtain⟨r,r1,r2⟩:=ih (n / 10) (by omega) (by omega) (Q0L ([IntKind.wrap .u8 (IntKind.wrap .i64 (48+Int.tmod (n:Int) 10))]:List Int)++s) (by rw[Q1I,e1];omega)
   rw[Q1I,e1]at r2
   refine⟨r,Ev.step (λk=>by rw[Z1.l0]) ?_,by omega⟩
   have w1:IntKind.wrap .i64 (Int.tdiv (n:Int) 10)=((n / 10:Nat):Int):=by rw[ed,wrap_in (by omega) (by omega)]
   have hz:((10:Nat)==0)=false:=rfl
   rw[w1,hz]
   simp only[cond_false]
   simp(disch:=(try simp only[e1]);omega) only[J4,Q6v]
   exact r1
theorem Q1K (n:Nat)(hn:n<=2097152):∃r,Ev (λk=>Z1.F k (n:Int)) r:=by
 unfold Z1.F
 by_cases c:n=0
 ·refine⟨⟨#[109,48]⟩,?_⟩
  simp(disch:=omega) only[J4]
  exact Ev.pure _
 ·obtain⟨r,r1,r2⟩:=Q1J n hn ⟨#[]⟩ (by rw[show(⟨#[]⟩:ByteArray).size=0 from rfl];omega)
  have e0:(⟨#[]⟩:ByteArray).size=0:=rfl
  have e1:(⟨#[109]⟩:ByteArray).size=1:=rfl
  refine⟨⟨#[109]⟩++r,?_⟩
  simp(disch:=omega) only[JR]
  refine Ev.bind r1 ?_
  simp(disch:=omega) only[e1,Q6v]
  exact Ev.pure _
open Classical in
noncomputable def mt (n:Nat):ByteArray:=if h:∃r,Ev (λk=>Z1.F k (n:Int)) r then h.choose else⟨#[]⟩
theorem Q36 (n:Nat)(hn:n<=2097152):Ev (λk=>Z1.F k (n:Int)) (mt n):=by
 have h:=Q1K n hn
 unfold mt
 rw[dif_pos h]
 exact h.choose_spec
noncomputable def mkA (i:Nat):List Abbr:=(List.range i).map λj=>⟨mt (2*j+1),mt (2*j+2)⟩
theorem Ue (i:Nat):(mkA i).length=i:=by simp[mkA]
theorem Q5s (i:Nat):mkA (i+1)=mkA i++[⟨mt (2*i+1),mt (2*i+2)⟩]:=by
 unfold mkA
 rw[List.range_succ,List.map_append]
 rfl
theorem Q5t (xs:List Abbr)(hl:xs.length<=1048576):∀n i:Nat,i+n=xs.length->Ev (λk=>Z11.l0 k (mkA i++xs.drop i) ((2*i+1:Nat):Int) i) (mkA xs.length,((2*xs.length+1:Nat):Int))
 |0,i,h=>by
  have hl2:(mkA i++xs.drop i).length=xs.length:=by rw[List.length_append,Ue,List.length_drop];omega
  refine Ev.step (λk=>by rw[Z11.l0]) ?_
  simp(disch:=omega) only[JR]
  rw[List.drop_eq_nil_of_le (by omega),List.append_nil,show i=xs.length by omega]
  exact Ev.pure _
 |n+1,i,h=>by
  have hi:i<xs.length:=by omega
  have hl2:(mkA i++xs.drop i).length=xs.length:=by rw[List.length_append,Ue,List.length_drop];omega
  have hi2:i<(mkA i++xs.drop i).length:=by omega
  refine Ev.step (λk=>by rw[Z11.l0]) ?_
  simp(disch:=omega) only[J4,Int.toNat_natCast]
  refine Ev.bind (Q36 (2*i+1) (by omega)) ?_
  have ew:IntKind.wrap .i64 (((2*i+1:Nat):Int)+1)=((2*i+2:Nat):Int):=by rw[wrap_in (by omega) (by omega)];omega
  have ew2:IntKind.wrap .i64 (((2*i+2:Nat):Int)+1)=((2* (i+1)+1:Nat):Int):=by rw[wrap_in (by omega) (by omega)];omega
  simp(disch:=omega) only[ew,J4]
  refine Ev.bind (Q36 (2*i+2) (by omega)) ?_
  have hg:∀z:Abbr,((mkA i++xs.drop i).set i z).getD i (Q6 .abbr)=z:=λz=>by
   rw[getD_at (by rw[List.length_set];omega),List.getElem_set_self]
  have e:∀y z:Abbr,((mkA i++xs.drop i).set i y).set i z=mkA i++z::xs.drop (i+1):=λy z=>by
   rw[List.set_set,List.set_append_right _ _ (by rw[Ue];exact Nat.le_refl _),Ue,Nat.sub_self,List.drop_eq_getElem_cons hi,List.set_cons_zero]
  have hlt:∀z:Abbr,(((mkA i++xs.drop i).set i z).length:Int)=xs.length:=λz=>by rw[List.length_set,hl2]
  simp(disch:=omega) only[hg,e,hlt,ew2,J4,wrap_in]
  have ih:=Q5t xs hl n (i+1) (by omega)
  rw[Q5s,List.append_assoc]at ih
  exact ih
theorem Q5u (xs:List Abbr)(hl:xs.length<=1048576):Ev (λk=>Z11.F k xs 1) (mkA xs.length,((2*xs.length+1:Nat):Int)):=by
 unfold Z11.F
 refine Ev.bind (Q5t xs hl xs.length 0 (by omega)) ?_
 rw[show Nat.beq (mkA xs.length,((2*xs.length+1:Nat):Int)).1.length xs.length=true by rw[Nat.beq_eq];exact Ue _]
 exact Ev.pure _
theorem Q5v (m:Nat)(hl:m<=1048576):∀n i:Nat,i+n=m->Ev (λk=>Z9.l0 k (mkA m) ((2*i+1:Nat):Int) i) (.inr ((2*m+1:Nat):Int))
 |0,i,h=>by
  have hl2:=Ue m
  refine Ev.step (λk=>by rw[Z9.l0]) ?_
  simp(disch:=omega) only[JR]
  rw[show i=m by omega]
  exact Ev.pure _
 |n+1,i,h=>by
  have hl2:=Ue m
  have hi:i<(mkA m).length:=by omega
  have e:(mkA m)[i]=⟨mt (2*i+1),mt (2*i+2)⟩:=by simp[mkA]
  refine Ev.step (λk=>by rw[Z9.l0]) ?_
  simp(disch:=omega) only[J4,Int.toNat_natCast,getD_at hi,e]
  refine Ev.bind (Q36 (2*i+1) (by omega)) ?_
  have ew:IntKind.wrap .i64 (((2*i+1:Nat):Int)+1)=((2*i+2:Nat):Int):=by rw[wrap_in (by omega) (by omega)];omega
  have ew2:IntKind.wrap .i64 (((2*i+2:Nat):Int)+1)=((2* (i+1)+1:Nat):Int):=by rw[wrap_in (by omega) (by omega)];omega
  simp(disch:=omega) only[YX,Bool.not_true,cond_false,ew]
  refine Ev.bind (Q36 (2*i+2) (by omega)) ?_
  simp(disch:=omega) only[YX,Bool.not_true,cond_false,ew2,wrap_in]
  exact Q5v m hl n (i+1) (by omega)
theorem Q6C (m:Nat)(hl:m<=1048576):Ev (λk=>Z9.F k (mkA m) 1) ((2*m+1:Nat):Int):=by
 unfold Z9.F
 exact Ev.bind (Q5v m hl m 0 (by omega)) (Ev.pure _)
theorem UR (xs:List Abbr)(a:Abbr)(hw:WF (.sl .abbr) xs)(hwa:WF .abbr a):∃k,Z23.F k xs a=some true:=by
 refine Ev.get (?_:Ev (λk=>Z23.F k xs a) true)
 unfold Z23.F
 obtain⟨r,h1,h2⟩:=Q60 xs 1048576 (by omega) (by omega) hw
 refine Ev.bind h1 ?_
 by_cases c:r<0
 ·simp(disch:=omega) only[J4]
  exact Ev.pure _
 simp(disch:=omega) only[JR]
 have h3:=h2 (by omega)
 have hs:=Q3X h3 (by omega) (by omega)
 have ha:=Q5q a r (by omega) (by omega) hwa
 refine Ev.bind0 ha ?_
 by_cases c2:r-szA a<0
 ·simp(disch:=omega) only[if_pos c2,J4]
  exact Ev.pure _
 simp(disch:=omega) only[if_neg c2,JR]
 have hz:szA a<=1048576:=by omega
 unfold szA at hz
 have ta:=Q61 xs hs.1
 have t1:Z12.F a=some a:=rfl
 have ex:=Q34 xs hs.1
 have hlen:xs.length<=1048576:=hs.1
 obtain⟨r,b,v1,v2,v3⟩:=Q6B xs hs a (by omega) (by omega)
 have er:=Q34 r v3
 have mx:=Q5u xs hlen
 have mr:=Q5u r v3
 have hr:=Q6C r.length v3
 refine Ev.bind ta (Ev.bind0 t1 (Ev.bind v1 (Ev.bind ta (Ev.bind0 t1 (Ev.bind v2 (Ev.bind er ?_))))))
 simp only[beq_self_eq_true,Bool.not_true,cond_false]
 refine Ev.bind ta (Ev.bind ex ?_)
 simp only[Bool.not_true,cond_false]
 refine Ev.bind mx ?_
 simp(disch:=omega) only[JR]
 refine Ev.bind er ?_
 simp only[beq_self_eq_true,Bool.not_true,cond_false]
 refine Ev.bind mr (Ev.bind hr ?_)
 simp(disch:=omega) only[JR,bne_self_eq_false,cond_false]
 refine Ev.bind ta (Ev.bind0 t1 (Ev.bind v2 (Ev.bind er ?_)))
 simp only[beq_self_eq_true,Bool.not_true,cond_false]
 refine Ev.bind hr ?_
 simp(disch:=omega) only[JR,bne_self_eq_false,cond_false]
 exact Ev.pure _
end Go.Proofs.Ytfindpalabmmmaa
end
section
/- The law FnExactAddAbbreviation returns true for every input: without conditions. -/
namespace Go.Proofs.Ytfindpalabmmmaa
open Go.Gx Go.RowKit
theorem fnExactAddAbbreviation_contract (H:Type)(enc:TypeId×Value->H)(W:World)(base:Nat)(args:Array Value)(ds gs:List (DataW H))(before:List MemPlace)
  (Ya:∀(j:Nat) t v,Try.f3.params[j]? =some t->args[j]? =some v->Value.okWide Try.prog W .any base t v)
  (hW:DataW.Whole enc Try.prog Try.f3.params.toList Rows.fnExactAddAbbreviationSpec.vars false W args.toList ds gs before) (hsh:W.ShapedOpen Try.prog) :
  Calls Try.prog 3 args W λe W'=>∃v,e= .returned v/\Rows.fnExactAddAbbreviationSpec.post enc Try.prog Try.f3 false true false false W args v W':=by
 have hgs:gs=[]:=by
  obtain⟨p,q,_,hV,_⟩:=hW
  exact(Go.ChangeShapes.trodVars_none hV).1
 subst hgs
 have hds:∃d1 d2,ds=[d1,d2]:=by
  obtain⟨p,q,hA,_⟩:=hW
  obtain⟨_,_,d1,e0,_,_,_,rfl,_,_,h0⟩:=Go.ChangeShapes.trodAll_cons hA
  obtain⟨_,_,d2,e1,_,_,_,rfl,_,_,h1⟩:=Go.ChangeShapes.trodAll_cons h0
  obtain⟨_,rfl,_⟩:=Go.ChangeShapes.trodAll_nil h1
  exact⟨d1,d2,rfl⟩
 obtain⟨d1,d2,rfl⟩:=hds
 have hgl:Qe Q7 (λ_=>undef) (Lt W) W:=Qe.mk0 (λg b h=>(by cases h)) (λg hg=>absurd (show false=true from hg) (by decide))
 refine Q0G (τs:=[(.sl .abbr),.abbr]) (r:=.t .bool true) Q6b (by kernel_rfl) rfl (by kernel_rfl) (by kernel_rfl) rfl (by kernel_rfl) (by kernel_rfl) (λt ht=>?_) rfl (λx hx=>by
   obtain⟨k,hk⟩:=UR x.1 x.2.1 hx.1 hx.2.1
   exact Z23.good Q6b _ k _ _ hk) rfl Ya hW hgl (λq hq W' _=>?_)
 ·have:t∈[22,24]:=ht
  simp only[List.mem_cons,List.not_mem_nil,or_false]at this
  rcases this with rfl|rfl<;>exact⟨by kernel_rfl,Nat.le_of_ble_eq_true (by kernel_rfl)⟩
 ·obtain⟨_,rfl⟩:=Go.ChangeShapes.trodVars_none hq
  exact rfl
theorem fnExactAddAbbreviation_own:ownKnob Try.prog.godebug=none:=by kernel_rfl
set_option maxRecDepth 100000 in
theorem fnExactAddAbbreviation_lifted (os:Os)(started:os.Started)(H:Type)(enc:TypeId×Value->H) :
  ReturnsInHanded {} Try.checked os 3 .any (Rows.fnExactAddAbbreviationSpec.pre6 enc Try.prog Try.f3 Rows.fnExactAddAbbreviationRow.domain false) (Rows.fnExactAddAbbreviationSpec.post enc Try.prog Try.f3 false true false false):=by
 refine returnsInHanded_of_change_shaped (C:=Try.checked) fnExactAddAbbreviation_own started (by kernel_rfl) (by kernel_rfl)
  (ChangeSpec.witness6 (enc:=enc) (C:=Try.checked) false ⟨#[],#[.slice none 0 0,.agg #[.string ⟨#[]⟩,.string ⟨#[]⟩]],[]⟩ 8 (by kernel_rfl) (by kernel_rfl) (by kernel_rfl) (by kernel_rfl)) ?_
 intro W base args ds gs before Ya hW _ _ hsh _
 exact fnExactAddAbbreviation_contract H enc W base args ds gs before Ya hW hsh
theorem FnExactAddAbbreviation_holds:Rows.FnExactAddAbbreviationSaid:=
 OpenClaim.holds_of_wide 3 Try.f3 rfl rfl rfl rfl rfl rfl rfl ⟨rfl,rfl,rfl,rfl,rfl⟩ rfl rfl rfl rfl rfl (by kernel_rfl) (by kernel_rfl) (by kernel_rfl)
  (of_decide_eq_true (by kernel_rfl)) (by unfold Func.isWrapper;first|(rw[if_pos (by decide+kernel)];kernel_rfl)|(rw[if_neg (by decide+kernel)];exact⟨rfl,rfl⟩))
  (λos started H enc _=>fnExactAddAbbreviation_lifted os started H enc)
#print axioms FnExactAddAbbreviation_holds
end Go.Proofs.Ytfindpalabmmmaa
end
