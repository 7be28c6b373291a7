/- Trees: what is put together of rows,and taken apart. -/
import Derived.Test.YtlnhmbnbloakmaaGreatDoorMfd2
import Derived.Test.YtlnhmbnbloakmaaGreatDoorMfd1
set_option linter.unusedVariables false
set_option linter.unusedSimpArgs false
set_option maxRecDepth 100000
section
namespace Go.Gx
open Go.RowKit
def Dn:List Nat->(Nat->Option Loc)->Nat->Option Loc
 |[],ρ=>ρ
 |id::l,ρ=>Dn l (killL id (id+1) ρ)
theorem Q6W (i:Nat):inR i (i+1) i=true:=by
 unfold inR
 simp only[Bool.and_eq_true]
 exact⟨Nat.ble_eq_true_of_le (Nat.le_refl _),Nat.ble_eq_true_of_le (Nat.le_refl _)⟩
theorem JZ {i j:Nat}{ρ:Nat->Option Loc}{l:Loc}(h:killL i (i+1) ρ j=some l):j≠i/\ρ j=some l:=by
 unfold killL at h
 cases hb:inR i (i+1) j with
 |true=>rw[hb]at h;cases h
 |false=>
  rw[hb]at h
  refine⟨?_,h⟩
  rintro rfl
  rw[Q6W]at hb
  cases hb
theorem Xg:∀{ids:List Nat} {ρ:Nat->Option Loc} {j:Nat} {l:Loc},Dn ids ρ j=some l->j ∉ ids/\ρ j=some l
 |[],ρ,j,l,h=>⟨by simp,h⟩
 |id::ids,ρ,j,l,h=>by
  obtain⟨h1,h2⟩:=Xg (ids:=ids) h
  obtain⟨h3,h4⟩:=JZ h2
  exact⟨by simp[h3,h1],h4⟩
theorem DY:∀{ids:List Nat} {ρ:Nat->Option Loc} {j:Nat},ρ j=none->Dn ids ρ j=none:=λ{ids ρ j} h=>by
 cases hk:Dn ids ρ j with
 |none=>rfl
 |some l=>rw[(Xg hk).2]at h;cases h
theorem KO {st:St}{i j:Nat}(h:(st.kill i (i+1)).row j≠none):st.row j≠none:=λe=>h (by show Jj i (i+1) j (st.row j)=none;rw[e];exact Ji)
theorem Q17:∀{ids:List Nat} {st:St} {j:Nat},(st.killL ids).row j≠none->st.row j≠none
 |[],st,j,h=>h
 |id::ids,st,j,h=>KO (Q17 (ids:=ids) (st:=st.kill id (id+1)) h)
theorem Q2V:∀{ids:List Nat} {st:St},(st.killL ids).nt=st.nt
 |[],st=>rfl
 |id::ids,st=>Q2V (ids:=ids) (st:=st.kill id (id+1))
section
variable {w0:World} {B:Old} {pv:Nat->Value} {S:Nat->Prop} {ρ:Nat->Option Loc} {st:St} {a:Act} {w:World}
theorem Sim.killL':∀{ids:List Nat} {st:St} {ρ:Nat->Option Loc},Q7 ∉ ids->Sim w0 B pv S ρ st a w->Sim w0 B pv S (Dn ids ρ) (st.killL ids) a w
 |[],st,ρ,_,h=>h
 |id::ids,st,ρ,hm,h=>by
  simp only[List.mem_cons,not_or]at hm
  exact Sim.killL' (ids:=ids) (ρ:=killL id (id+1) ρ) hm.2 (h.kill id (id+1) (Ut (Ne.symm hm.1)))
end
section
variable {P:Program} {E:Env} {w0:World} {B:Old} {pv:Nat->Value} {S:Nat->Prop} {ρ:Nat->Option Loc} {st:St} {a:Act} {w:World} {o:Oper} {id:Nat} {K:Act->World->Prop} {Q:Exit->Act->World->Prop}
def NxS (E:Env)(w0:World)(B:Old)(pv:Nat->Value)(S:Nat->Prop)(ρ:Nat->Option Loc)(st':St)(id:Nat)(K:Act->World->Prop):Prop:=
 ∀S' ρ' a' w',Sim w0 B pv S' ρ' st' a' w'->Qr E pv S' w'->Grew B S S'->(∀j,ρ j=none->¬(id<=j/\j<id+4)->ρ' j=none)->K a' w'
theorem Q4O {row:Nat->Option Row}:∀{n:Nat} {a:AV} {cs:List Value},Yd row n a=true->AR S w ρ row pv a cs->∀id,id∈QW n a->∃r,row id=some r/\frz r=false
 |0,a,cs,h,_,_,_=>by cases h
 |n+1,a,cs,h,ha,id,hid=>by
  cases ha with
  |own j e τ xs fz app g cap hr hl=>
   simp only[QW,List.mem_singleton]at hid
   subst hid
   simp only[Yd,hr]at h
   split at h
   ·rename_i e1;cases e1;exact⟨_,hr,rfl⟩
   ·cases h
  |ownNil j e τ fz app hr hl=>
   simp only[QW,List.mem_singleton]at hid
   subst hid
   simp only[Yd,hr]at h
   split at h
   ·rename_i e1;cases e1;exact⟨_,hr,rfl⟩
   ·cases h
  |tv j τ b _ T v hr hl _ _=>
   simp only[QW,List.mem_singleton]at hid
   subst hid
   exact⟨_,hr,rfl⟩
  |vw j q p τ σ b _ T v u hr hl _ _=>
   simp only[QW,List.mem_singleton]at hid
   subst hid
   exact⟨_,hr,rfl⟩
  |agg τ fs css hl hh=>
   simp only[Yd,Bool.and_eq_true]at h
   simp only[QW]at hid
   obtain⟨b,hb,hi⟩:=Q1T hid
   obtain⟨k,hk⟩:=List.getElem?_of_mem hb
   have hkl:=(List.getElem?_eq_some_iff.1 hk).1
   exact Q4O (Ju h.2 b hb) (hh k b _ hk (List.getElem?_eq_getElem (by omega))) id hi
  |_=>simp[QW]at hid
theorem Q4P (h:HS S w ρ st.row pv B){ids:List Nat}(hf:∀id,id∈ids->∃r,st.row id=some r/\frz r=false){b:Nat}(hb:ownB ρ ids b):¬B b/\¬S b/\b<w.heap.size/\∀j l',Dn ids ρ j=some l'->l'.has b->(st.killL ids).row j=none:=by
 obtain⟨i,hi,l,hl,hb⟩:=hb
 obtain⟨r,hr,hz⟩:=hf i hi
 obtain⟨h1,h2,_⟩:=h.apart0 i r l b hl hr hb
 refine⟨h1,h2 hz,(h.rows i r l hr hl).has_lt hb,λj l' hj hb'=>?_⟩
 obtain⟨h3,h4⟩:=Xg hj
 apply Classical.byContradiction
 intro hn
 have:=h.inj0 j i l' l b h4 hl (Q17 hn) (by rw[hr];simp) hb' hb
 subst this
 exact h3 hi
theorem Q8S (h:HS S w ρ st.row pv B){id:Nat}{r:Row}{l:Loc}(hr:st.row id=some r)(hl:ρ id=some l){b:Nat}(hb:l.has b):OB w b:=by
 have:=h.rows id r l hr hl
 cases l with
 |nilrow=>exact hb.elim
 |soft T v=>
  cases r with
  |flat e τ xs fz app=>exact this.elim
  |box τ a=>exact Y9 this.2.2 hb
 |tree cs T v=>
  cases r with
  |flat e τ xs fz app=>exact this.elim
  |box τ a=>exact Y9 this.2.1 hb
 |«at» g c=>
  cases hb
  cases r with
  |flat e τ xs fz app=>obtain⟨cur,f,h1,_,_,_,_,h2,_⟩:=this;exact⟨cur,e,f,h1,h2⟩
  |box τ a=>obtain⟨cur,T,h1,_⟩:=this;exact⟨cur,T,(0,0),h1,.inl (Nat.le_refl _)⟩
variable (hE:EnvOk P E) (hs:Sim w0 B pv S ρ st a w) (hgl:Qr E pv S w) (hd:J9 o st.nt=true)
include hE hs hgl hd
theorem Q44 {T:TypeId}{x ix:Operand}{τ:Ty}{j:Nat}{q:Option Nat}{p:List Nat}{σ0 σ:Ty}{a' b':AV}{x':den σ}{xs:List (den τ)}{i:Int}(hid:ρ id=none)(ho:o.op= .indexAddr T x ix)(hT:E.ty T=some (.sl τ))(hx:ev E st x= .vw j q p τ)(hi:ev E st ix= .t (.int .i64) i)
  (hr:st.row j=some (.box σ0 (.tup [a',b',.t σ x']))) (hxs:viewAt σ x' q p=some (.t (.sl τ) xs)) (hjm:j≠Q7) (h0:0<=i) (h1:i<(xs.length:Int))
  (hK:NxS E w0 B pv S ρ (((st.kill j (j+1)).setRow id (QP 0 false (.sl τ) xs)).putO o.dst (.tq id i.toNat [])) id K):o.wp P a w K Q:=by
 have e2:=Qj hgl hs ix
 rw[hi]at e2
 have e1:=Qj hgl hs x
 rw[hx]at e1
 obtain⟨σ1,b0,cs,D,u,hr',hl,hpl⟩:=Q2Q e1
 obtain⟨rfl,hsl,hsw,htr,_⟩:=Jv hs.hs hr hl
 rw[hr]at hr'
 cases hr'
 obtain⟨T1,k1,k2,_⟩:=htr.focus hsw hxs hpl
 have hlt:i.toNat<xs.length:=by omega
 rcases XZ k2 with⟨rfl,_⟩|⟨g,c,hu,hg⟩
 ·simp at hlt
 rw[hu]at k2
 obtain⟨t,hun,_,hte,_⟩:=(hE.ty _ _ hT).und
 have hk:=hs.kill j (j+1) (Ut hjm)
 have hid':killL j (j+1) ρ id=none:=by
  cases h:killL j (j+1) ρ id with
  |none=>rfl
  |some l=>rw[(JZ h).2]at hid;cases hid
 have hm:=hk.adopt (id:=id) (r:=QP 0 false (.sl τ) xs) (l:=.tree [.slice (some ⟨g,0,none⟩) xs.length c] T1 w) hid' rfl (λb hb=>by
  obtain⟨m1,m2,_⟩:=hs.hs.apart0 j _ _ b hl hr (k1 b hb)
  refine⟨m1,m2 rfl,λj' l' hj' hb'=>?_⟩
  obtain⟨m3,m4⟩:=JZ hj'
  apply Classical.byContradiction
  intro hn
  exact m3 (hs.hs.inj0 j' j l' _ b m4 hl (KO hn) (by rw[hr];simp) hb' (k1 b hb))) (λρ' row'=>⟨rfl,Yg λb hb=>Y9 hsw (k1 b hb),0,false,xs,rfl,k2,λh=>by cases h⟩)
 have e3:a.eval x= .slice (some ⟨g,0,none⟩) xs.length c:=hu
 have hrun:(execOp a.eval o).run P w= .ok (.value (.pointer (some ⟨g,i.toNat*nc τ,none⟩))) w:=by
  unfold execOp
  simp[ho,e3,Qm e2,Instr.indexAt,asIntOf,run_underlying hun,h0,h1,Qz (hE.ty _ _ hte),Addr.add_lit]
 refine Oper.wp_value hrun (hK S _ _ w (hm.put (QK hd) (.inr ⟨_,.tq id i.toNat [] τ τ _ T1 w g xs.length c (by rw[Q1,if_pos rfl];rfl) (Qp _ _ _) hlt rfl rfl,by simp[valOf,isAg,Qk]⟩)) hgl (Grew.refl _ _) λj' hj' hn=>?_)
 have:j'≠id:=by rintro rfl;exact hn ⟨Nat.le_refl _,by omega⟩
 simp only[upd,if_neg this]
 cases h:killL j (j+1) ρ j' with
 |none=>rfl
 |some l=>rw[(JZ h).2]at hj';cases hj'
theorem GZ {T:TypeId}{τ:Ty}{n:Nat}{ps:Array (Nat×Operand)}{fs:List AV}{xs:List (den τ)}(hid:ρ id=none)(ho:o.op= .buildSlice T n ps)(hT:E.ty T=some (.sl τ))(hn:n*nc τ<=16777216)
  (hfs:Jk (ev E st) (List.replicate n τ) ps.toList (List.replicate n (.t τ (Q9 τ)))=some fs) (hxs:Je st.row τ fs=some xs) (htree:Q0B.allL (Yd st.row 6) fs=true) (hsl:slT τ=true) (hdis:Qy (Y5 fs)=true) (hmb:Q7 ∉ Y5 fs)
  (hK:NxS E w0 B pv S ρ (((st.killL (Y5 fs)).setRow id (QP (E.el T) true (.sl τ) xs)).putO o.dst (.tv id (.sl τ))) id K):o.wp P a w K Q:=by
 obtain⟨t,hu,het,hte,hpos,hnb⟩:=(hE.ty _ _ hT).und
 obtain⟨i,hi,hsz,hby,hz⟩:=(hE.ty _ _ hte).info
 have hzc:(valOf (.t τ (Q9 τ)) (zc τ)).cells.toList=zc τ:=J7 (S:=S) (w:=w) (ρ:=ρ) (row:=st.row) (pv:=pv) (.t τ (Q9 τ)) (.t τ _ _ (Jl S w τ))
 have hzs:(valOf (.t τ (Q9 τ)) (zc τ)).cells.size=nc τ:=by rw[<-Array.length_toList,hzc];exact(Jl S w τ).len
 have hpl:∀i σ,(List.replicate n τ)[i]? =some σ->(λi=>some (i*nc τ,nc τ)) i=some (QB (List.replicate n τ) i,nc σ):=λk σ hk=>by
  obtain⟨h6,h7⟩:=List.getElem?_eq_some_iff.1 hk
  simp only[List.length_replicate]at h6
  simp only[List.getElem_replicate]at h7
  subst h7
  rw[QX _ _ _ (by omega)]
 obtain⟨css',h6,h7,h8,h9,h10⟩:=KH (Qj hgl hs) hpl ps.toList _ fs (List.replicate n (zc τ)) hfs (by simp) (by simp) (λk σ b hk hb=>by
  have e1:=(List.getElem?_eq_some_iff.1 hk).2
  have e2:=(List.getElem?_eq_some_iff.1 hb).2
  simp only[List.getElem_replicate]at e1 e2
  subst e1;subst e2
  exact .t _ _) (λk b c hb hc=>by
  have e1:=(List.getElem?_eq_some_iff.1 hb).2
  have e2:=(List.getElem?_eq_some_iff.1 hc).2
  simp only[List.getElem_replicate]at e1 e2
  subst e1;subst e2
  exact .t _ _ _ (Jl S w τ))
 simp only[List.length_replicate]at h7 h8
 have hcells:(Array.range (n*i.size)).map ((valOf (.t τ (Q9 τ)) (zc τ)).cells[· % (valOf (.t τ (Q9 τ)) (zc τ)).cells.size]!)=(List.replicate n (zc τ)).flatten.toArray:=by
  apply Array.ext'
  have:=Xu (valOf (.t τ (Q9 τ)) (zc τ)).cells n
  rw[hzc,hzs]at this
  rw[hsz]
  simpa[madeCells]using this
 have hrun:(execOp a.eval o).run P w= .ok (.value (.slice (some ⟨w.heap.size,0,none⟩) n n)) (w.alloc (.cells css'.flatten.toArray t)):=by
  unfold execOp
  by_cases h0:n=0
  ·subst h0
   have e1:ps.toList=[]:=by
    cases hps:ps.toList with
    |nil=>rfl
    |cons p l=>rw[hps]at hfs;simp[Jk]at hfs
   have e2:ps= #[]:=Array.toList_eq_nil_iff.1 e1
   have e3:css'=[]:=List.eq_nil_of_length_eq_zero h8
   subst e2;subst e3
   simp[ho,Instr.buildSlice,run_underlying hu,sizeOf,typeInfo,hi,Instr.fill,newRow,Array.range_zero',Array.map_empty]
  ·have hr:=run_buildSlice (P:=P) w T t n (ps.map λp=>(p.1,a.eval p.2)) css'.flatten.toArray i _ hu hi hz (by rw[hsz];omega) (by rw[hsz];intro h;rcases Nat.mul_eq_zero.1 h with h|h<;>omega)
    (by rw[hcells,hsz,Array.toList_map];exact h6)
   simp only[ho,Sem.run_bind,hr,Result.andThen_ok,Sem.run_pure]
 obtain⟨hxl,hxg⟩:=Yz hxs
 have hlen:xs.length=n:=by omega
 have hft:∀id,id∈Y5 fs->∃r,st.row id=some r/\frz r=false:=λk hk=>by
  obtain⟨b,hb,hi⟩:=Q1T hk
  obtain⟨m,hm⟩:=List.getElem?_of_mem hb
  have hml:=(List.getElem?_eq_some_iff.1 hm).1
  exact Q4O (Ju htree b hb) (h10 m b _ hm (List.getElem?_eq_getElem (by omega))) k hi
 have hbl:∀b,b<w.heap.size->(w.alloc (.cells css'.flatten.toArray t)).heap[b]? =w.heap[b]?:=λb hb=>heap_alloc_old w _ b hb
 have hbt:∀b,ownB ρ (Y5 fs) b->b<w.heap.size:=λb hb=>(Q4P hs.hs hft hb).2.2.1
 have hclen:∀(k:Nat) (σ:Ty) (d:List Value),(List.replicate n τ)[k]? =some σ->css'[k]? =some d->d.length=nc σ:=λk σ d hk hd=>by
  have hkl:k<fs.length:=by have:=(List.getElem?_eq_some_iff.1 hk).1;simp at this;omega
  exact AR.len (h9 k σ _ hk (List.getElem?_eq_getElem hkl)) (h10 k _ d (List.getElem?_eq_getElem hkl) hd)
 obtain⟨hs1,hs2⟩:=seg (by simp[h8]) hclen
 have hnew:=heap_alloc_new w (.cells css'.flatten.toArray t)
 have hTR:TR (w.alloc (.cells css'.flatten.toArray t)) (λb=>b=w.heap.size\/ownB ρ (Y5 fs) b) (.sl τ) xs [.slice (some ⟨w.heap.size,0,none⟩) xs.length n]:=by
  refine .sl _ τ xs w.heap.size n (λk=>css'.getD k []) (λk=>ownB ρ (QW 6 (fs.getD k .any))) (by omega) (by have:=Nat.le_mul_of_pos_right n hpos;simp only[maxLen];omega) (.inl rfl) ⟨_,t,(0,0),hnew,.inl (Nat.le_refl _)⟩ (λk hk=>?_) (λk m v hk hv=>?_) (λk b hk hb=>?_) (λk k' b hk hk' hne hb hb'=>?_)
  ·obtain⟨b,c,h11,h12,h13⟩:=hxg k hk
   have hck:css'[k]? =some css'[k]:=List.getElem?_eq_getElem (by omega)
   have e1:css'.getD k []=css'[k]:=by simp[List.getD,hck]
   have e2:fs.getD k .any=b:=by simp[List.getD,h11]
   rw[e1,e2]
   refine(Q4M hs.hs (Ju htree b (List.mem_of_getElem? h11)) h12 h13 (h10 k b _ h11 hck) (JO (f:=QW 6) hdis h11 h11).1).mono (λ_ h=>h) λb' hb'=>hbl b' (hbt b' (hb'.mono λi hi=>Ux (f:=QW 6) h11 hi))
  ·have hkn:k<n:=by omega
   have hck:css'[k]? =some css'[k]:=List.getElem?_eq_getElem (by omega)
   have e1:css'.getD k []=css'[k]:=by simp[List.getD,hck]
   rw[e1]at hv
   obtain⟨h14,h15⟩:=hs2 k _ τ hck (by simp[hkn])
   rw[QX _ _ _ (by omega)]at h14 h15
   rw[<-h14,List.getElem?_take]at hv
   split at hv
   ·rw[List.getElem?_drop]at hv
    rw[cell_of hnew]
    simpa using hv
   ·cases hv
  ·have hkf:fs[k]? =some fs[k]:=List.getElem?_eq_getElem (by omega)
   have e2:fs.getD k .any=fs[k]:=by simp[List.getD,hkf]
   rw[e2]at hb
   have hb2:ownB ρ (Y5 fs) b:=hb.mono λi hi=>Ux (f:=QW 6) hkf hi
   exact⟨.inr hb2,Nat.ne_of_lt (hbt b hb2)⟩
  ·have hkf:fs[k]? =some fs[k]:=List.getElem?_eq_getElem (by omega)
   have hkf':fs[k']? =some fs[k']:=List.getElem?_eq_getElem (by omega)
   have e2:fs.getD k .any=fs[k]:=by simp[List.getD,hkf]
   have e3:fs.getD k' .any=fs[k']:=by simp[List.getD,hkf']
   rw[e2]at hb
   rw[e3]at hb'
   exact Q14 hs.hs ((JO (f:=QW 6) hdis hkf hkf').2 hne) (Xe (Ju htree _ (List.mem_of_getElem? hkf))) (Xe (Ju htree _ (List.mem_of_getElem? hkf'))) hb hb'
 have hk:=Sim.killL' (ids:=Y5 fs) hmb hs
 have hk2:=hk.growX (w':=w.alloc (.cells css'.flatten.toArray t)) (S':=S) (hs.below.alloc hs.hB _) (by rw[World.size_alloc'];omega) (λb hb=>hbl b (hs.hs.stab b hb)) (λj r l g h1 h2 h3=>hbl g ((hk.hs.rows j r l h2 h1).has_lt h3)) (λ_ h=>h) (λb hb=>.inl hb)
 have hm:=hk2.adopt (id:=id) (r:=QP (E.el T) true (.sl τ) xs) (l:=.tree [.slice (some ⟨w.heap.size,0,none⟩) xs.length n] (λb=>b=w.heap.size\/ownB ρ (Y5 fs) b) (w.alloc (.cells css'.flatten.toArray t))) (DY hid) rfl (λb hb=>by
  rcases hb with rfl|hb
  ·exact⟨λhb=>by have:=hs.hB _ hb;omega,λhb=>by have:=hs.hs.stab _ hb;omega,λj l' hj hb'=>by
    apply Classical.byContradiction
    intro hne
    cases hrj:(st.killL (Y5 fs)).row j with
    |none=>exact hne hrj
    |some r=>have:=(hk.hs.rows j r l' hrj hj).has_lt hb';omega⟩
  ·obtain⟨m1,m2,_,m4⟩:=Q4P hs.hs hft hb
   exact⟨m1,m2,m4⟩) (λρ' row'=>⟨rfl,Yg λb hb=>?_,E.el T,true,xs,rfl,hTR,λ_=>⟨τ,xs,rfl,HEq.rfl,hpos,.inr ⟨_,n,_,rfl,by rw[het];exact hnew,?_⟩⟩⟩)
 ·rw[hlen]at hm
  refine Oper.wp_value hrun (hK S _ _ _ (hm.put (by show∀d,o.dst=some d->d<((st.killL (Y5 fs)).setRow id _).nt;show∀d,o.dst=some d->d<(st.killL (Y5 fs)).nt;rw[Q2V];exact QK hd) (.inr ⟨_,.tv id (.sl τ) _ _ _ _ (by rw[Q1,if_pos rfl];rfl) (Qp _ _ _) rfl (by intro u hu;simp only[List.mem_singleton]at hu;subst hu;rfl),rfl⟩)) (hgl.mono (λ_ h=>h) λb hb=>hbl b (hs.hs.stab b hb)) (Grew.refl _ _) λj hj hn=>?_)
  have:j≠id:=by rintro rfl;exact hn ⟨Nat.le_refl _,by omega⟩
  simp only[upd,if_neg this]
  exact DY hj
 ·rcases hb with rfl|hb
  ·exact⟨_,t,(0,0),hnew,.inl (Nat.le_refl _)⟩
  ·refine OB.mono ?_ (hbl b (hbt b hb))
   obtain⟨i,hi,l,hl,hb⟩:=hb
   obtain⟨r,hr,_⟩:=hft i hi
   exact Q8S hs.hs hr hl hb
 ·simp[hs1,JV]
omit hE hs hgl hd in
theorem Q2W {T:Nat->Prop}{e:Ty}{xs:List (den e)}{h:Value}(ht:TR w T (.sl e) xs [h]):∃(A:Option Addr) (c:Nat) (cv:Nat->List Value) (Ts:Nat->Nat->Prop),h= .slice A xs.length c/\xs.length<=c/\c<=maxLen/\(∀i (hi:i<xs.length),TR w (Ts i) e xs[i] (cv i))/\
  (∀i,i<xs.length->∃g,A=some ⟨g,0,none⟩/\T g/\(∀j v,(cv i)[j]? =some v->w.cell? ⟨g,i*nc e+j,none⟩=some v)/\∀b,Ts i b->T b/\b≠g)/\∀i j b,i<xs.length->j<xs.length->i≠j->Ts i b->¬Ts j b:=by
 generalize hc:[h]=cs at ht
 cases ht with
 |flat _ _ _ _ hs _=>cases hs
 |nil=>
  cases hc
  exact⟨none,0,λ_=>[],λ_ _=>False,rfl,Nat.le_refl _,Nat.zero_le _,λi hi=>absurd hi (Nat.not_lt_zero i),λi hi=>absurd hi (Nat.not_lt_zero i),λi j b hi=>absurd hi (Nat.not_lt_zero i)⟩
 |sl _ _ _ g c cv Ts hc1 hm hg hO h1 h2 h3 h4=>
  cases hc
  exact⟨_,c,cv,Ts,rfl,hc1,hm,h1,λi hi=>⟨g,rfl,hg,λj v hv=>h2 i j v hi hv,λb hb=>h3 i b hi hb⟩,h4⟩
omit hE hs hgl hd in
theorem Q4Q {Tx Ty':Nat->Prop}{τ:Ty}{xs ys:List (den τ)}{cvx cvy:Nat->List Value}{Tsx Tsy:Nat->Nat->Prop}{w':World}{g cap:Nat}{cur:Array Value}{t:TypeId}{f:Nat×Nat}(hg:w'.heap[g]? =some (.cells cur t f))(hf:f.2<=f.1)(hcap:xs.length+ys.length<=cap)(hm:cap<=maxLen)
  (hx1:∀i (hi:i<xs.length),TR w (Tsx i) τ xs[i] (cvx i)) (hy1:∀i (hi:i<ys.length),TR w (Tsy i) τ ys[i] (cvy i)) (hx2:∀i j v,i<xs.length->(cvx i)[j]? =some v->cur[i*nc τ+j]? =some v) (hy2:∀i j v,i<ys.length->(cvy i)[j]? =some v->cur[(xs.length+i)*nc τ+j]? =some v)
  (hx3:∀i b,i<xs.length->Tsx i b->Tx b/\b≠g/\w'.heap[b]? =w.heap[b]?) (hy3:∀i b,i<ys.length->Tsy i b->Ty' b/\b≠g/\w'.heap[b]? =w.heap[b]?) (hx4:∀i j b,i<xs.length->j<xs.length->i≠j->Tsx i b->¬Tsx j b) (hy4:∀i j b,i<ys.length->j<ys.length->i≠j->Tsy i b->¬Tsy j b)
  (hd:∀b,Tx b->¬Ty' b):TR w' (λb=>b=g\/(Tx b\/Ty' b)) (.sl τ) (xs++ys) [.slice (some ⟨g,0,none⟩) (xs++ys).length cap]:=by
 have hl:(xs++ys).length=xs.length+ys.length:=List.length_append
 refine .sl _ τ (xs++ys) g cap (λk=>if k<xs.length then cvx k else cvy (k-xs.length)) (λk=>if k<xs.length then Tsx k else Tsy (k-xs.length)) (by omega) hm (.inl rfl) ⟨cur,t,f,hg,.inl hf⟩ (λk hk=>?_) (λk j v hk hv=>?_) (λk b hk hb=>?_) (λk k' b hk hk' hne hb hb'=>?_)
 ·by_cases h:k<xs.length
  ·simp only[if_pos h]
   rw[List.getElem_append_left h]
   exact(hx1 k h).mono (λ_ h=>h) λb hb=>(hx3 k b h hb).2.2
  ·have h2:k-xs.length<ys.length:=by omega
   simp only[if_neg h]
   rw[List.getElem_append_right (by omega)]
   exact(hy1 _ h2).mono (λ_ h=>h) λb hb=>(hy3 _ b h2 hb).2.2
 ·rw[cell_of hg]
  by_cases h:k<xs.length
  ·simp only[if_pos h]at hv
   exact hx2 k j v h hv
  ·simp only[if_neg h]at hv
   have:=hy2 (k-xs.length) j v (by omega) hv
   rwa [show xs.length+(k-xs.length)=k by omega]at this
 ·by_cases h:k<xs.length
  ·simp only[if_pos h]at hb
   obtain⟨h1,h2,_⟩:=hx3 k b h hb
   exact⟨.inr (.inl h1),h2⟩
  ·simp only[if_neg h]at hb
   obtain⟨h1,h2,_⟩:=hy3 (k-xs.length) b (by omega) hb
   exact⟨.inr (.inr h1),h2⟩
 ·by_cases h:k<xs.length<;>by_cases h':k'<xs.length
  ·simp only[if_pos h]at hb
   simp only[if_pos h']at hb'
   exact hx4 k k' b h h' hne hb hb'
  ·simp only[if_pos h]at hb
   simp only[if_neg h']at hb'
   exact hd b (hx3 k b h hb).1 (hy3 _ b (by omega) hb').1
  ·simp only[if_neg h]at hb
   simp only[if_pos h']at hb'
   exact hd b (hx3 k' b h' hb').1 (hy3 _ b (by omega) hb).1
  ·simp only[if_neg h]at hb
   simp only[if_neg h']at hb'
   exact hy4 _ _ b (by omega) (by omega) (by omega) hb hb'
theorem Q2X {args:Array Operand}{T:TypeId}{j k:Nat}{τ σ1 σ2:Ty}{a' b':AV}{xs ys:List (den τ)}(ho:o.op= .call {callee:=.builtin .append,args:=args,argTypes:=#[T,T]})(hargs:Qx (ev E st) args.toList=[.tv j (.sl τ),.tv k (.sl τ)])(hT:E.ty T=some (.sl τ))
  (hr1:st.row j=some (.box σ1 (.tup [.t (.int .i64) ((E.el T:Nat):Int),.t .bool true,.t (.sl τ) xs]))) (hr2:st.row k=some (.box σ2 (.tup [a',b',.t (.sl τ) ys]))) (hjk:j≠k) (hjm:j≠Q7) (hkm:k≠Q7) (hroom:room (xs.length+ys.length) τ=true)
  (hK:NxS E w0 B pv S ρ ((((st.kill k (k+1)).kill j (j+1)).setRow j (QP (E.el T) true (.sl τ) (xs++ys))).putO o.dst (.tv j (.sl τ))) id K):o.wp P a w K Q:=by
 obtain⟨x,y,rfl,hx,hy⟩:=KI hargs
 obtain⟨t,hu,het,hte,hpos,hnb⟩:=(hE.ty _ _ hT).und
 obtain⟨i,hi,hsz,hby,hz⟩:=(hE.ty _ _ hte).info
 have hzc:(valOf (.t τ (Q9 τ)) (zc τ)).cells.toList=zc τ:=J7 (S:=S) (w:=w) (ρ:=ρ) (row:=st.row) (pv:=pv) (.t τ (Q9 τ)) (.t τ _ _ (Jl S w τ))
 have hzs:(valOf (.t τ (Q9 τ)) (zc τ)).cells.size=nc τ:=by rw[<-Array.length_toList,hzc];exact(Jl S w τ).len
 have e1:=Qj hgl hs x
 have e2:=Qj hgl hs y
 rw[hx]at e1
 rw[hy]at e2
 obtain⟨b1,cs1,Tj,u1,hr1',hl1,e3,_⟩:=DW e1
 obtain⟨b2,cs2,Tk,u2,hr2',hl2,e4,_⟩:=DW e2
 obtain⟨rfl,hsl1,hsw1,ht1,ee,eap,he1,he2,hap⟩:=Jv hs.hs hr1 hl1
 obtain⟨rfl,hsl2,hsw2,ht2,_⟩:=Jv hs.hs hr2 hl2
 have hee:ee=E.el T:=by
  injection he1 with _ he1
  have:((E.el T:Nat):Int)=(ee:Int):=he1
  omega
 have heap1:eap=true:=by
  injection he2 with _ he2
  exact he2.symm
 subst hee
 obtain⟨v1,rfl⟩:=YL ht1
 obtain⟨v2,rfl⟩:=YL ht2
 have hv1:a.eval x=v1:=e3
 have hv2:a.eval y=v2:=e4
 obtain⟨A2,c2,cvy,Tsy,rfl,hc2,hm2,py1,py2,py3⟩:=Q2W ht2
 have hap:=hap heap1
 obtain⟨σ',xs',q1,q2,_,q3⟩:=hap
 injection q1 with q1
 subst q1
 have q2:=eq_of_heq q2
 subst q2
 have far1:=λb hb=>hs.hs.apart0 j _ _ b hl1 hr1 hb
 have far2:=λb hb=>hs.hs.apart0 k _ _ b hl2 hr2 hb
 have hdis:∀b,Tj b->¬Tk b:=λb h1 h2=>hjk (hs.hs.inj0 j k _ _ b hl1 hl2 (by rw[hr1];simp) (by rw[hr2];simp) h1 h2)
 have lt1:∀b,Tj b->b<w.heap.size:=λb hb=>(hsw1 b hb).1
 have lt2:∀b,Tk b->b<w.heap.size:=λb hb=>(hsw2 b hb).1
 have run:∀{v:Value} {w':World},(Builtin.append_ #[T,T] o.type #[a.eval x,a.eval y]).run P w= .ok v w'->(execOp a.eval o).run P w= .ok (.value v) w':=λhr=>Jf ho (by simp[builtin,hr])
 have fin:∀{w':World} {h':Value} {T':Nat->Prop},(Builtin.append_ #[T,T] o.type #[a.eval x,a.eval y]).run P w= .ok h' w'->Blw B w0 w'->w.heap.size<=w'.heap.size->(∀b,b<w.heap.size->¬Tj b->w'.heap[b]? =w.heap[b]?)->TR w' T' (.sl τ) (xs++ys) [h']->
   (∀b,T' b->(Tj b\/Tk b)\/w.heap.size<=b)->(∀b,T' b->OB w' b)->(h'= .slice none 0 0\/∃g c cur,h'= .slice (some ⟨g,0,none⟩) (xs++ys).length c/\w'.heap[g]? =some (.cells cur (E.el T) (0,0))/\cur.size=c*nc τ)->o.wp P a w K Q:=λ{w' h' T'} hrun hb hsz hold htr hT' hO happ=>by
  have hk:=(hs.kill k (k+1) (Ut hkm)).kill j (j+1) (Ut hjm)
  have live:∀{i l},killL j (j+1) (killL k (k+1) ρ) i=some l->i≠j/\i≠k/\ρ i=some l:=λh=>by
   obtain⟨h1,h2⟩:=JZ h
   obtain⟨h3,h4⟩:=JZ h2
   exact⟨h1,h3,h4⟩
  have away:∀{i l b},killL j (j+1) (killL k (k+1) ρ) i=some l->((st.kill k (k+1)).kill j (j+1)).row i≠none->l.has b->¬Tj b/\¬Tk b:=λ{i l b} h hn hb=>by
   obtain⟨h1,h2,h3⟩:=live h
   have hn':=KO (KO hn)
   exact⟨λhj=>h1 (hs.hs.inj0 i j l _ b h3 hl1 hn' (by rw[hr1];simp) hb hj),λhj=>h2 (hs.hs.inj0 i k l _ b h3 hl2 hn' (by rw[hr2];simp) hb hj)⟩
  have hk2:=hk.growX (w':=w') (S':=S) hb hsz (λb hb=>hold b (hs.hs.stab b hb) λhj=>(far1 b hj).2.1 rfl hb)
   (λi r l g h1 h2 h3=>hold g ((hk.hs.rows i r l h2 h1).has_lt h3) (away h1 (by rw[h2];simp) h3).1) (λ_ h=>h) (λb hb=>.inl hb)
  have hjn:killL j (j+1) (killL k (k+1) ρ) j=none:=by
   cases h:killL j (j+1) (killL k (k+1) ρ) j with
   |none=>rfl
   |some l=>exact absurd rfl (live h).1
  have hm:=hk2.adopt (id:=j) (r:=QP (E.el T) true (.sl τ) (xs++ys)) (l:=.tree [h'] T' w') hjn rfl (λb hb=>by
   rcases hT' b hb with(hb'|hb')|hb'
   ·refine⟨(far1 b hb').1,(far1 b hb').2.1 rfl,λi l' hi hbi=>?_⟩
    apply Classical.byContradiction
    intro hn
    exact(away hi hn hbi).1 hb'
   ·refine⟨(far2 b hb').1,(far2 b hb').2.1 rfl,λi l' hi hbi=>?_⟩
    apply Classical.byContradiction
    intro hn
    exact(away hi hn hbi).2 hb'
   ·refine⟨λh=>by have:=hs.hB b h;omega,λh=>by have:=hs.hs.stab b h;omega,λi l' hi hbi=>?_⟩
    cases hri:((st.kill k (k+1)).kill j (j+1)).row i with
    |none=>rfl
    |some r=>have:=(hk.hs.rows i r l' hri hi).has_lt hbi;omega) (λρ' row'=>⟨rfl,Yg hO,E.el T,true,xs++ys,rfl,htr,λ_=>⟨τ,xs++ys,rfl,HEq.rfl,hpos,by
     rcases happ with rfl|⟨g,c,cur,rfl,h1,h2⟩
     ·exact .inl rfl
     ·exact .inr ⟨g,c,cur,rfl,h1,h2⟩⟩⟩)
  have hone:h'.oneCell'=true:=by rcases happ with rfl|⟨g,c,cur,rfl,_⟩<;>rfl
  refine Oper.wp_value (run hrun) (hK S _ _ w' (hm.put (QK hd) (.inr ⟨_,.tv j (.sl τ) _ [h'] T' w' (by rw[Q1,if_pos rfl];rfl) (Qp _ _ _) rfl (by intro u hu;simp only[List.mem_singleton]at hu;subst hu;exact hone),rfl⟩)) (hgl.mono (λ_ h=>h) λb hb=>hold b (hs.hs.stab b hb) λhj=>(far1 b hj).2.1 rfl hb) (Grew.refl _ _) λi hi _=>?_)
  have:i≠j:=by rintro rfl;rw[hl1]at hi;cases hi
  simp only[upd,if_neg this]
  cases h:killL j (j+1) (killL k (k+1) ρ) i with
  |none=>rfl
  |some l=>rw[(live h).2.2]at hi;cases hi
 have small:∀n,room n τ=true->n<=140737488355328/\n*i.bytes<=140737488355328:=λn hn=>by
  have h1:=Nat.le_of_ble_eq_true hn
  exact⟨Nat.le_trans (Nat.le_mul_of_pos_right _ hnb) h1,by rw[hby];exact h1⟩
 obtain⟨hm1,hm3⟩:=small _ hroom
 have hdold:∀(o':Obj) (b:Nat),b<w.heap.size->(w.drew.alloc o').heap[b]? =w.heap[b]?:=λo' b hb=>heap_alloc_old w.drew _ b hb
 have hdb:∀o':Obj,Blw B w0 (w.drew.alloc o'):=λo'=>hs.drew.below.alloc hs.drew.hB _
 have hdsz:∀o':Obj,w.heap.size<=(w.drew.alloc o').heap.size:=λo'=>by rw[World.size_alloc'];exact Nat.le_succ _
 have ob1:∀b,Tj b->OB w b:=λb hb=>Y9 hsw1 hb
 have ob2:∀b,Tk b->OB w b:=λb hb=>Y9 hsw2 hb
 obtain⟨A1,c1,cvx,Tsx,hvx,hc1,hm1',px1,px2,px3⟩:=Q2W ht1
 have hnews:ys.length≠0->∃(g:Nat) (news:List Value),A2=some ⟨g,0,none⟩/\news.length=ys.length*nc τ/\(∀j u,news[j]? =some u->w.cell? ⟨g,j,none⟩=some u)/\(∀u∈news,u.oneCell'=true)/\∀i j v,i<ys.length->(cvy i)[j]? =some v->news[i*nc τ+j]? =some v:=λh0=>by
  have hel:∀i (hi:i<ys.length),∃g o cs,A2=some ⟨g,o,none⟩/\CR Tk w τ ys[i] cs/\∀j u,cs[j]? =some u->w.cell? ⟨g,o+(i*nc τ+j),none⟩=some u:=λi hi=>by
   obtain⟨g,h1,h2,h3,h4⟩:=py2 i hi
   exact⟨g,0,cvy i,h1,(py1 i hi).cr.mono (λb hb=>(h4 b hb).1) (λ_ _=>rfl),λj u hj=>by rw[Nat.zero_add];exact h3 j u hj⟩
  obtain⟨g,o',hA,news,hn1,hn2,hn3,hn4⟩:=Gi hpos hel h0
  obtain⟨g',h1,h2,h3,h4⟩:=py2 0 (by omega)
  rw[hA]at h1
  cases h1
  have hn2':∀j u,news[j]? =some u->w.cell? ⟨g,j,none⟩=some u:=λj u hj=>by have:=hn2 j u hj;rwa [Nat.zero_add]at this
  refine⟨g,news,hA,hn1,hn2',hn3,λi j v hi hv=>?_⟩
  obtain⟨g2,h5,h6,h7,h8⟩:=py2 i hi
  rw[hA]at h5
  cases h5
  have hc:=h7 j v hv
  have hj:j<nc τ:=by have:=(List.getElem?_eq_some_iff.1 hv).1;rw[(py1 i hi).cr.len]at this;exact this
  have hlt:i*nc τ+j<news.length:=by
   rw[hn1]
   have:(i+1)*nc τ<=ys.length*nc τ:=Nat.mul_le_mul_right _ hi
   rw[Nat.succ_mul]at this
   omega
  have:=hn2' _ _ (List.getElem?_eq_getElem hlt)
  rw[hc]at this
  rw[List.getElem?_eq_getElem hlt]
  exact this.symm
 have fresh:∀(olds news:List Value) (n cap:Nat),n=xs.length+ys.length->olds.length=xs.length*nc τ->news.length=ys.length*nc τ->(∀i j v,i<xs.length->(cvx i)[j]? =some v->olds[i*nc τ+j]? =some v)->(∀i j v,i<ys.length->(cvy i)[j]? =some v->news[i*nc τ+j]? =some v)->n<=cap->cap<=maxLen->
   (Builtin.append_ #[T,T] o.type #[a.eval x,a.eval y]).run P w= .ok (.slice (some ⟨w.heap.size,0,none⟩) n cap) (w.drew.alloc (.cells (olds.toArray++news.toArray++Builtin.zeroCells (valOf (.t τ (Q9 τ)) (zc τ)).cells (cap-n)) t))->o.wp P a w K Q:=λolds news n cap hn ho' hn2 h1 h2 h3 h4 hrun=>by
  have hl:(xs++ys).length=n:=by rw[List.length_append];exact hn.symm
  have hnew:=heap_alloc_new w.drew (.cells (olds.toArray++news.toArray++Builtin.zeroCells (valOf (.t τ (Q9 τ)) (zc τ)).cells (cap-n)) t)
  have hnew:(w.drew.alloc (.cells (olds.toArray++news.toArray++Builtin.zeroCells (valOf (.t τ (Q9 τ)) (zc τ)).cells (cap-n)) t)).heap[w.heap.size]? =some (.cells (olds.toArray++news.toArray++Builtin.zeroCells (valOf (.t τ (Q9 τ)) (zc τ)).cells (cap-n)) t (0,0)):=hnew
  have htr:=Q4Q (w:=w) (Tx:=Tj) (Ty':=Tk) (cap:=cap) hnew (Nat.le_refl _) (by omega) h4 px1 py1 (λi j v hi hv=>?_) (λi j v hi hv=>?_)
   (λi b hi hb=>by obtain⟨g,_,_,_,k4⟩:=px2 i hi;have:=lt1 b (k4 b hb).1;exact⟨(k4 b hb).1,by omega,hdold _ b this⟩)
   (λi b hi hb=>by obtain⟨g,_,_,_,k4⟩:=py2 i hi;have:=lt2 b (k4 b hb).1;exact⟨(k4 b hb).1,by omega,hdold _ b this⟩) px3 py3 hdis
  ·rw[hl]at htr
   refine fin hrun (hdb _) (hdsz _) (λb hb _=>hdold _ b hb) htr (λb hb=>?_) (λb hb=>?_) (.inr ⟨_,cap,_,by rw[hl],by rw[het];exact hnew,?_⟩)
   ·rcases hb with rfl|hb
    ·exact .inr (Nat.le_refl _)
    ·exact .inl hb
   ·rcases hb with rfl|hb|hb
    ·exact⟨_,_,_,hnew,.inl (Nat.le_refl _)⟩
    ·exact(ob1 b hb).mono (hdold _ b (lt1 b hb))
    ·exact(ob2 b hb).mono (hdold _ b (lt2 b hb))
   ·simp only[Array.size_append,List.size_toArray,size_zeroCells,hzs,ho',hn2,<-Nat.add_mul]
    congr 1
    omega
  ·have:=h1 i j v hi hv
   have hlt:=(List.getElem?_eq_some_iff.1 this).1
   rw[Array.append_assoc,Array.getElem?_append_left (by simpa using hlt)]
   simpa using this
  ·have:=h2 i j v hi hv
   have hlt:=(List.getElem?_eq_some_iff.1 this).1
   rw[Nat.add_mul,Nat.add_assoc,Array.append_assoc,Array.getElem?_append_right (by simp[ho']),Array.getElem?_append_left (by simp[ho'];omega)]
   simp only[List.size_toArray,ho',Nat.add_sub_cancel_left]
   simpa using this
 have same0:ys.length=0->∀h',(Builtin.append_ #[T,T] o.type #[a.eval x,a.eval y]).run P w= .ok h' w->v1=h'->o.wp P a w K Q:=λh0 h' hrun e=>by
  have e5:ys=[]:=List.eq_nil_of_length_eq_zero h0
  subst e
  refine fin hrun hs.below (Nat.le_refl _) (λ_ _ _=>rfl) (T':=Tj) (by rw[e5,List.append_nil];exact ht1) (λb hb=>.inl (.inl hb)) ob1 ?_
  rw[e5,List.append_nil]
  rcases q3 with q3|⟨g,c,cur,q4,q5,q6⟩
  ·cases q3;exact .inl rfl
  ·cases q4;exact .inr ⟨g,c,cur,rfl,q5,q6⟩
 rcases q3 with q3|⟨g,c,cur,q4,q5,q6⟩
 ·
  cases q3
  have hx0:xs=[]:=by
   cases hvx':xs with
   |nil=>rfl
   |cons a l=>rw[hvx']at hvx;cases hvx
  by_cases h0:ys.length=0
  ·have hrun:=Jt (P:=P) (w:=w) (ty:=o.type) hu hi none A2 0 0 c2 (Nat.le_refl _)
   rw[h0]at hv2
   exact same0 h0 _ (by rw[hv1,hv2];exact hrun) rfl
  ·obtain⟨ga,news,hA,hn1,hn2,hn3,hn4⟩:=hnews h0
   subst hA
   have hroom':ys.length<=140737488355328/\ys.length*i.bytes<=140737488355328:=by rw[hx0]at hm1 hm3;simp only[List.length_nil,Nat.zero_add]at hm1 hm3;exact⟨hm1,hm3⟩
   have hrun:=run_append_nil (P:=P) w T o.type t i _ hu hi hz ⟨ga,0,none⟩ ys.length c2 news (by rw[hn1,hsz]) (λj v hj=>by rw[Addr.add_lit,Nat.zero_add];exact hn2 j v hj) (by omega) (by omega) (by omega)
   have hcm:grownCap w ys.length 0 t<=maxLen:=grownCap_le_maxLen w _ _ _ (by simp only[maxLen];omega)
   refine fresh [] news ys.length (grownCap w ys.length 0 t) (by rw[hx0];simp) (by rw[hx0];simp) hn1 (λi j v hi=>by rw[hx0]at hi;exact absurd hi (Nat.not_lt_zero i)) hn4 (grownCap_ge _ _ _ _) hcm ?_
   rw[hv1,hv2]
   simpa using hrun
 ·cases q4
  by_cases h0:ys.length=0
  ·have hcl:xs.length<=c:=by cases hvx;exact hc1
   have hrun:=Jt (P:=P) (w:=w) (ty:=o.type) hu hi (some ⟨g,0,none⟩) A2 xs.length c c2 hcl
   rw[h0]at hv2
   exact same0 h0 _ (by rw[hv1,hv2];exact hrun) rfl
  ·injection hvx with eA _ ec
   subst eA
   subst ec
   obtain⟨ga,news,hA,hn1,hn2,hn3,hn4⟩:=hnews h0
   subst hA
   have hg:Tj g:=ht1.root
   have hxl:(cur.toList.take (xs.length*nc τ)).length=xs.length*nc τ:=by
    have e:cur.toList.length=cur.size:=Array.length_toList
    rw[List.length_take,e,q6]
    exact Nat.min_eq_left (Nat.mul_le_mul_right _ hc1)
   have hold:∀i j v,i<xs.length->(cvx i)[j]? =some v->cur[i*nc τ+j]? =some v/\i*nc τ+j<xs.length*nc τ:=λi j v hi hv=>by
    obtain⟨g',h1,_,h3,_⟩:=px2 i hi
    cases h1
    have hj:j<nc τ:=by have:=(List.getElem?_eq_some_iff.1 hv).1;rw[(px1 i hi).cr.len]at this;exact this
    refine⟨by have:=h3 j v hv;rwa [cell_of q5]at this,?_⟩
    have:(i+1)*nc τ<=xs.length*nc τ:=Nat.mul_le_mul_right _ hi
    rw[Nat.succ_mul]at this
    omega
   by_cases hfit:xs.length+ys.length<=c
   ·have hfit2:xs.length*nc τ+news.length<=cur.size:=by rw[hn1,q6,<-Nat.add_mul];exact Nat.mul_le_mul_right _ hfit
    rw[het]at q5
    have hrun:=run_append_room (P:=P) w T o.type t i hu hi g xs.length c cur q5 ⟨ga,0,none⟩ ys.length c2 news (by rw[hn1,hsz]) (λj v hj=>by rw[Addr.add_lit,Nat.zero_add];exact hn2 j v hj) hn3 hfit (by rw[hsz];exact hfit2)
    rw[hsz]at hrun
    have hset:=setRow_heap w g cur (cur.toList.take (xs.length*nc τ)++news++cur.toList.drop (xs.length*nc τ+news.length)).toArray t (0,0) q5
    have htr:=Q4Q (w:=w) (Tx:=Tj) (Ty':=Tk) (cap:=c) hset (Nat.le_refl _) hfit hm1' px1 py1 (λi j v hi hv=>?_) (λi j v hi hv=>?_)
     (λi b hi hb=>by obtain⟨g',k1,_,_,k4⟩:=px2 i hi;cases k1;exact⟨(k4 b hb).1,(k4 b hb).2,setRow_other w g b _ (k4 b hb).2⟩)
     (λi b hi hb=>by obtain⟨g',_,_,_,k4⟩:=py2 i hi;have hne:b≠g:=λe=>hdis g hg (e▸ (k4 b hb).1);exact⟨(k4 b hb).1,hne,setRow_other w g b _ hne⟩) px3 py3 hdis
    ·refine fin (h':=.slice (some ⟨g,0,none⟩) (xs++ys).length c) (by rw[hv1,hv2,List.length_append];exact hrun) (below_setRow hs.below (far1 g hg).1 _) (by simp[World.setRow]) (λb hb hn=>setRow_other w g b _ λe=>hn (e▸hg)) htr (λb hb=>?_) (λb hb=>?_) (.inr ⟨g,c,_,rfl,by rw[het];exact hset,?_⟩)
     ·rcases hb with rfl|hb
      ·exact .inl (.inl hg)
      ·exact .inl hb
     ·by_cases hbg:b=g
      ·subst hbg;exact⟨_,_,_,hset,.inl (Nat.le_refl _)⟩
      ·rcases hb with hb|hb|hb
       ·exact absurd hb hbg
       ·exact(ob1 b hb).mono (setRow_other w g b _ hbg)
       ·exact(ob2 b hb).mono (setRow_other w g b _ hbg)
     ·simp only[List.size_toArray,List.length_append,hxl,List.length_drop,Array.length_toList]
      omega
    ·obtain⟨h1,h2⟩:=hold i j v hi hv
     simp only[List.getElem?_toArray,List.append_assoc]
     rw[List.getElem?_append_left (by rw[hxl];exact h2),List.getElem?_take,if_pos h2]
     simpa using h1
    ·have:=hn4 i j v hi hv
     have hlt:=(List.getElem?_eq_some_iff.1 this).1
     simp only[List.getElem?_toArray,List.append_assoc]
     rw[Nat.add_mul,Nat.add_assoc,List.getElem?_append_right (by rw[hxl];omega),hxl,Nat.add_sub_cancel_left,List.getElem?_append_left hlt]
     exact this
   ·have holds:∀m v,(cur.toList.take (xs.length*nc τ))[m]? =some v->w.cell? ((⟨g,0,none⟩:Addr).add m)=some v:=λm v hm=>by
     rw[Addr.add_lit]
     rw[List.getElem?_take]at hm
     split at hm
     ·exact KF q5 m v hm
     ·cases hm
    have hrun:=run_append_grow (P:=P) w T o.type t i _ hu hi hz ⟨g,0,none⟩ xs.length c (cur.toList.take (xs.length*nc τ)) (by rw[hxl,hsz]) holds ⟨ga,0,none⟩ ys.length c2 news (by rw[hn1,hsz]) (λj v hj=>by rw[Addr.add_lit,Nat.zero_add];exact hn2 j v hj)
     (by omega) (by omega) (growslice_fits (by omega) hm3)
    have hcm:grownCap w (xs.length+ys.length) c t<=maxLen:=grownCap_le_maxLen w _ _ _ (by simp only[maxLen];omega)
    refine fresh _ news _ _ rfl hxl hn1 (λi j v hi hv=>?_) hn4 (grownCap_ge _ _ _ _) hcm (by rw[hv1,hv2];exact hrun)
    obtain⟨h1,h2⟩:=hold i j v hi hv
    rw[List.getElem?_take,if_pos h2]
    simpa using h1
theorem Q6X (hid:∀c,c<4->ρ (id+c)=none){st':St}(h:MOp E o id st st')(hK:NxS E w0 B pv S ρ st' id K):o.wp P a w K Q:=by
 have h0:ρ id=none:=by simpa using hid 0 (by omega)
 obtain⟨dst,op,type,pos,after,guard⟩:=o
 unfold MOp at h
 cases op<;>simp only at h
 case buildSlice T n ps=>
  obtain⟨τ,fs,xs,hT,hn,hfs,hxs,htree,hsl,hdis,hmb,rfl⟩:=h
  exact GZ hE hs hgl hd h0 rfl hT hn hfs hxs htree hsl hdis hmb hK
 case indexAddr T x ix=>
  obtain⟨τ,j,q,p,σ0,a',b',σ,x',xs,i,hT,hx,hi,hr,hxs,hjm,h1,h2,rfl⟩:=h
  exact Q44 hE hs hgl hd h0 rfl hT hx hi hr hxs hjm h1 h2 hK
 case call c=>
  obtain⟨T,j,k,τ,σ1,σ2,a',b',xs,ys,hc,hat,hargs,hT,hr1,hr2,hjk,hjm,hkm,hroom,rfl⟩:=h
  obtain⟨callee,args,ats⟩:=c
  simp only at hc hat
  subst hc
  subst hat
  exact Q2X hE hs hgl hd rfl hargs hT hr1 hr2 hjk hjm hkm hroom hK
end
end Go.Gx
end
section
/- What an operation's meaning hangs on: its operands,and the rows that are there. -/
namespace Go.Gx
open Go.RowKit
def Yh (row row':Nat->Option Row):Prop:=∀id r,row id=some r->row' id=some r
theorem Y1 {f g:AV->Option AV}(h:∀a b,f a=some b->g a=some b):∀{l m:List AV},Yt f l=some m->Yt g l=some m
 |[],m,hm=>hm
 |a::l,m,hm=>by
  simp only[Yt]at hm ⊢
  split at hm
  ·rename_i b hb
   rw[h a b hb]
   split at hm
   ·rename_i ms hms
    rw[Y1 h hms]
    exact hm
   ·cases hm
  ·cases hm
section
variable {row row':Nat->Option Row} (h:Yh row row')
include h
theorem JI:∀{n:Nat} {a b:AV},Q2 row n a=some b->Q2 row' n a=some b
 |0,a,b,hb=>by cases hb
 |n+1,a,b,hb=>by
  have ih:∀a b,Q2 row n a=some b->Q2 row' n a=some b:=λa b=>JI
  cases a with
  |own id=>
   simp only[Q2]at hb ⊢
   split at hb
   ·rename_i e τ xs fz app hr
    rw[h _ _ hr];exact hb
   ·cases hb
  |ep id i p=>
   cases i with
   |none=>
    simp only[Q2]at hb ⊢
    split at hb
    ·rename_i σ c hr
     rw[h _ _ hr]
     split at hb
     ·rename_i d τ hg ht
      simp only[hg,ht]
      split at hb
      ·rename_i e he
       rw[ih _ _ he]
       exact hb
      ·cases hb
     ·cases hb
    ·cases hb
   |some i=>
    simp only[Q2]at hb ⊢
    split at hb
    ·rename_i e τ xs fz app hr
     rw[h _ _ hr];exact hb
    ·cases hb
  |agg τ fs=>
   simp only[Q2]at hb ⊢
   split at hb
   ·rename_i gs hgs
    rw[Y1 ih hgs];exact hb
   ·cases hb
  |clo f fs=>
   simp only[Q2]at hb ⊢
   split at hb
   ·rename_i gs hgs
    rw[Y1 ih hgs];exact hb
   ·cases hb
  |ds id τ x=>
   simp only[Q2]at hb ⊢
   split at hb
   ·rename_i hr
    rw[h _ _ hr];exact hb
   ·cases hb
  |tv id τ=>
   simp only[Q2]at hb ⊢
   split at hb
   ·rename_i hr
    rw[h _ _ hr];exact hb
   ·cases hb
  |vw id q p τ=>
   simp only[Q2]at hb ⊢
   split at hb
   ·rename_i hr
    rw[h _ _ hr];exact hb
   ·cases hb
  |_=>exact hb
theorem XK {τ:Ty}:∀{fs:List AV} {xs:List (den τ)},Je row τ fs=some xs->Je row' τ fs=some xs
 |[],xs,hx=>hx
 |a::l,xs,hx=>by
  simp only[Je]at hx ⊢
  split at hx
  ·rename_i b hb
   rw[JI h hb]
   split at hx
   ·rename_i x hxx
    simp only[hxx]
    split at hx
    ·rename_i ys hys
     rw[XK hys];exact hx
    ·cases hx
   ·cases hx
  ·cases hx
theorem DZ {τ:Ty}{a:AV}{xs:List (den τ)}(hx:listOf row τ a=some xs):listOf row' τ a=some xs:=by
 unfold listOf at hx ⊢
 split at hx
 ·exact hx
 ·exact hx
 ·rename_i id
  split at hx
  ·rename_i e σ ys fz app hr
   rw[h _ _ hr];exact hx
  ·cases hx
 ·cases hx
theorem Q5F {t:Option Ty}{a:AV}{n:Int}(hx:Q3y row t a=some n):Q3y row' t a=some n:=by
 unfold Q3y at hx ⊢
 split at hx
 ·exact hx
 ·exact hx
 ·exact hx
 ·rename_i id
  split at hx
  ·rename_i e σ ys fz app hr
   rw[h _ _ hr];exact hx
  ·cases hx
 ·exact hx
 ·cases hx
theorem Q00 {G:Cal->List AV->AV->Prop}{dr:Bool}{id:Nat}{cal:Cal}{args:List AV}{u:Upd}(hx:DU G row dr id cal args u):DU G row' dr id cal args u:=by
 obtain⟨cl,r,av,news,h1,h2⟩:=hx
 exact⟨cl,r,av,news,Y1 (λa b hb=>JI h hb) h1,h2⟩
theorem Q5G {a:AV}{x:Nat×AV}(hx:Q1C row a=some x):Q1C row' a=some x:=by
 unfold Q1C at hx ⊢
 split at hx
 ·split at hx
  ·rename_i hr;rw[h _ _ hr];exact hx
  ·cases hx
 ·split at hx
  ·rename_i hr;rw[h _ _ hr];exact hx
  ·cases hx
 ·cases hx
theorem Q2Y {i n:Nat}{a:AV}(hx:plE row i n a=true):plE row' i n a=true:=by
 unfold plE at hx ⊢
 split at hx
 ·split at hx
  ·rename_i hb hr
   rw[h _ _ hr,hb]
  ·cases hx
 ·exact hx
 ·exact hx
theorem Q2Z {i n:Nat}:∀{l:List AV},plL row i n l=true->plL row' i n l=true
 |[],_=>rfl
 |a::l,hx=>by
  simp only[plL,Bool.and_eq_true]at hx ⊢
  exact⟨Q2Y h hx.1,Q2Z hx.2⟩
theorem Q6Y {i:Nat}{a:AV}(hx:plA row i a=true):plA row' i a=true:=by
 unfold plA at hx ⊢
 split at hx
 ·exact Q2Z h hx
 ·exact Q2Y h hx
theorem G0 {i:Nat}:∀{l:List AV},Ur row i l=true->Ur row' i l=true
 |[],_=>rfl
 |a::l,hx=>by
  simp only[Ur,Bool.and_eq_true]at hx ⊢
  exact⟨Q6Y h hx.1,G0 hx.2⟩
theorem Q45 {E:Env}{G:Cal->List AV->AV->Prop}{dr d':Bool}{id:Nat}{g:Nat}{args:List AV}{u:Upd}(hx:Q2A E G row dr d' id g args u):Q2A E G row' dr d' id g args u:=by
 rcases hx with⟨h1,h2⟩|⟨h1,hd,a0,rest,i,x0,cl,r,e,h2,h3,h4,h5⟩
 ·exact .inl ⟨h1,Q00 h h2⟩
 ·exact .inr ⟨h1,hd,a0,rest,i,x0,cl,r,e,Q5G h h2,Y1 (λa b hb=>JI h hb) h3,h4.imp _root_.id (G0 h),h5⟩
theorem Q5H {E:Env}{sT:Nat}{a b:AV}{id:Nat}{u:Upd}(hx:Q6o E sT a b id row u):Q6o E sT a b id row' u:=by
 obtain⟨τ,ys,h1,hon,h2,h3⟩:=hx
 refine⟨τ,ys,h1,hon,DZ h h2,?_⟩
 rcases h3 with h3|⟨j,xs,h4,hj,h5,h6⟩
 ·exact .inl h3
 ·exact .inr ⟨j,xs,h4,hj,h _ _ h5,h6⟩
theorem Q30 {E:Env}{b:Builtin}{ats:Array Nat}{args:List AV}{id:Nat}{u:Upd}(hx:Q1M E b ats args id row u):Q1M E b ats args id row' u:=by
 rcases hx with⟨h1,a,n,T,h2,h3,h4,h5⟩|⟨h1,a,x,T,h2,h3,h4⟩|hx|hx|hx|⟨h1,j,i,e,τ,xs,app,p,T,h2,h3,h4,h5,h6,h7⟩
 ·exact .inl ⟨h1,a,n,T,h2,h3,Q5F h h4,h5⟩
 ·exact .inr (.inl ⟨h1,a,x,T,h2,h3,Q5H h h4⟩)
 ·exact .inr (.inr (.inl hx))
 ·exact .inr (.inr (.inr (.inl hx)))
 ·exact .inr (.inr (.inr (.inr (.inl hx))))
 ·exact .inr (.inr (.inr (.inr (.inr ⟨h1,j,i,e,τ,xs,app,p,T,h2,h3,h4,h5,h _ _ h6,h7⟩))))
end
theorem YM {f g:Operand->AV}:∀{l:List Operand},(∀x∈l,g x=f x)->Qx g l=Qx f l
 |[],_=>rfl
 |x::l,h=>by simp only[Qx,h x List.mem_cons_self,YM λy hy=>h y (List.mem_cons_of_mem _ hy)]
theorem UA {f g:Operand->AV}{l:List Ty}:∀{ps:List (Nat×Operand)} {fs:List AV},(∀p∈ps,g p.2=f p.2)->Jk g l ps fs=Jk f l ps fs
 |[],_,_=>rfl
 |p::ps,fs,h=>by
  simp only[Jk,h p List.mem_cons_self]
  split
  ·split
   ·exact UA λq hq=>h q (List.mem_cons_of_mem _ hq)
   ·rfl
  ·rfl
theorem Q18 {f g:Operand->AV}{x:Option Operand}(h:∀y,x=some y->g y=f y):evO g x=evO f x:=by
 cases x with
 |none=>rfl
 |some y=>simp only[evO,h y rfl]
theorem U0.mono {E:Env}{G:Cal->List AV->AV->Prop}{dr:Bool}{o:Oper}{id:Nat}{ev ev':Operand->AV}{row row':Nat->Option Row}{u:Upd}(h:U0 E G dr o id ev row u)(he:∀x∈o.op.operands,ev' x=ev x)(hr:Yh row row'):U0 E G dr o id ev' row' u:=by
 obtain⟨dst,op,type,pos,after,guard⟩:=o
 unfold U0 at h ⊢
 cases op<;>simp only[Op.operands]at h he ⊢
 case move x=>rw[he x (by simp)];exact h
 case assign x=>rw[he x (by simp)];exact h
 case pick c a b=>rw[he c (by simp),he a (by simp),he b (by simp)];exact h
 case alloc T=>exact h
 case box T x=>rw[he x (by simp)];exact h
 case build T ps=>
  obtain⟨τ,fs,h1,h2,h3,h4⟩:=h
  exact⟨τ,fs,h1,h2,by rw[UA (f:=ev) (g:=ev') λp hp=>he p.2 (by simpa using⟨p.1,by simpa using hp⟩)];exact h3,h4⟩
 case buildSlice T n ps=>
  obtain⟨τ,fs,xs,h1,hon,h2,h3,h4,h5⟩:=h
  exact⟨τ,fs,xs,h1,hon,h2,by rw[UA (f:=ev) (g:=ev') λp hp=>he p.2 (by simpa using⟨p.1,by simpa using hp⟩)];exact h3,XK hr h4,h5⟩
 case load T x=>
  rw[he x (by simp)]
  obtain⟨τ,h1,h2|⟨j,p,σ,a,b,h2,h3,h4⟩|⟨j,i,p,e,σ,xs,fz,app,b,h2,h3,h4⟩⟩:=h
  ·exact⟨τ,h1,.inl h2⟩
  ·exact⟨τ,h1,.inr (.inl ⟨j,p,σ,a,b,h2,hr _ _ h3,h4⟩)⟩
  ·exact⟨τ,h1,.inr (.inr ⟨j,i,p,e,σ,xs,fz,app,b,h2,hr _ _ h3,h4⟩)⟩
 case store T x v=>
  rw[he x (by simp),he v (by simp)]
  obtain⟨τ,h1,h0,⟨j,p,σ,a,b,h2,h3,h4⟩|⟨j,i,p,e,σ,xs,app,b,y,h2,h3,h4⟩⟩:=h
  ·exact⟨τ,h1,h0,.inl ⟨j,p,σ,a,b,h2,hr _ _ h3,h4⟩⟩
  ·exact⟨τ,h1,h0,.inr ⟨j,i,p,e,σ,xs,app,b,y,h2,hr _ _ h3,h4⟩⟩
 case nilCheck x=>rw[he x (by simp)];exact h
 case binOp op t x y z=>rw[he x (by simp),he y (by simp)];exact h
 case unOp op t x=>rw[he x (by simp)];exact h
 case convert S T x=>
  rw[he x (by simp)]
  rcases h with h|h|h|⟨xs,h1,h2,h3,h4⟩|h
  ·exact .inl h
  ·exact .inr (.inl h)
  ·exact .inr (.inr (.inl h))
  ·exact .inr (.inr (.inr (.inl ⟨xs,h1,h2,DZ hr h3,h4⟩)))
  ·exact .inr (.inr (.inr (.inr h)))
 case makeFunc fn first caps=>
  rw[YM (f:=ev) (g:=ev') λx hx=>he x (by simp at hx ⊢;exact .inr hx)]
  exact h
 case makeSlice T l c=>rw[he l (by simp),he c (by simp)];exact h
 case slice T x lo hi mx=>
  rw[he x (by simp),Q18 (f:=ev) (g:=ev') (x:=lo) λy hy=>he y (by simp[hy]),Q18 (f:=ev) (g:=ev') (x:=hi) λy hy=>he y (by simp[hy])]
  obtain⟨h0,l,h',h1,h2,⟨hdr,j,e,τ,xs,app,a,b,h3,h4,h5,h6⟩|h3|h3|⟨h3,j,e,τ,xs,fz,app,a,b,h4,h5,h6,h7⟩|h3|⟨j,e,τ,xs,app,a,b,h4,h5,h6,h7⟩⟩:=h
  ·exact⟨h0,l,h',h1,h2,.inl ⟨hdr,j,e,τ,xs,app,a,b,h3,h4,hr _ _ h5,h6⟩⟩
  ·exact⟨h0,l,h',h1,h2,.inr (.inl h3)⟩
  ·exact⟨h0,l,h',h1,h2,.inr (.inr (.inl h3))⟩
  ·exact⟨h0,l,h',h1,h2,.inr (.inr (.inr (.inl ⟨h3,j,e,τ,xs,fz,app,a,b,h4,h5,hr _ _ h6,h7⟩)))⟩
  ·exact⟨h0,l,h',h1,h2,.inr (.inr (.inr (.inr (.inl h3))))⟩
  ·exact⟨h0,l,h',h1,h2,.inr (.inr (.inr (.inr (.inr ⟨j,e,τ,xs,app,a,b,h4,h5,hr _ _ h6,h7⟩))))⟩
 case fieldAddr T x f=>
  rw[he x (by simp)]
  obtain⟨τ,h1,h2,h3|⟨j,i,p,σ,r,h3,h4,h5⟩⟩:=h
  ·exact⟨τ,h1,h2,.inl h3⟩
  ·exact⟨τ,h1,h2,.inr ⟨j,i,p,σ,r,h3,hr _ _ h4,h5⟩⟩
 case field T x f=>rw[he x (by simp)];exact h
 case indexAddr T x ix=>
  rw[he x (by simp),he ix (by simp)]
  obtain⟨i,h1,h2,h3|⟨j,e,τ,xs,fz,app,h4,h5,h6,h7⟩|h3⟩:=h
  ·exact⟨i,h1,h2,.inl h3⟩
  ·exact⟨i,h1,h2,.inr (.inl ⟨j,e,τ,xs,fz,app,h4,h5,hr _ _ h6,h7⟩)⟩
  ·exact⟨i,h1,h2,.inr (.inr h3)⟩
 case index T x ix=>rw[he x (by simp),he ix (by simp)];exact h
 case extract x i=>rw[he x (by simp)];exact h
 case call c=>
  have hargs:Qx ev' c.args.toList=Qx ev c.args.toList:=YM λx hx=>he x (by
   simp only[Call.operands]
   cases c.callee<;>simp at hx ⊢ <;>first|exact hx|exact .inr hx)
  rw[hargs]
  rcases h with⟨b,h1,h2⟩|⟨f,h1,h2⟩
  ·exact .inl ⟨b,h1,Q30 hr h2⟩
  ·have hf:ev' f=ev f:=he f (by simp[Call.operands,h1])
   rw[<-hf]at h2
   rcases h2 with⟨g,caps,h3,h4⟩|⟨i,h3,h4⟩
   ·exact .inr ⟨f,h1,.inl ⟨g,caps,h3,Q45 hr h4⟩⟩
   ·exact .inr ⟨f,h1,.inr ⟨i,h3,Q00 hr h4⟩⟩
theorem DOp.mono {E:Env}{G:Cal->List AV->AV->Prop}{dr:Bool}{o:Oper}{id:Nat}{ev ev':Operand->AV}{row row':Nat->Option Row}{u:Upd}(h:DOp E G dr o id ev row u)(he:∀x∈o.op.operands,ev' x=ev x)(hr:Yh row row'):DOp E G dr o id ev' row' u:=by
 obtain⟨dst,op,type,pos,after,guard⟩:=o
 unfold DOp at h ⊢
 cases op<;>simp only[Op.operands]at h he ⊢
 case load T x=>rw[he x (by simp)];exact h
 case store T x v=>
  rw[he x (by simp),he v (by simp)]
  obtain⟨τ,j,y,z,ρ,b,h1,h2,h3,h4⟩:=h
  exact⟨τ,j,y,z,ρ,b,h1,h2,hr _ _ h3,h4⟩
 case nilCheck x=>rw[he x (by simp)];exact h
 case fieldAddr T x f=>rw[he x (by simp)];exact h
 case field T x f=>rw[he x (by simp)];exact h
 case indexAddr T x ix=>rw[he x (by simp),he ix (by simp)];exact h
 case call c=>
  have hargs:Qx ev' c.args.toList=Qx ev c.args.toList:=YM λx hx=>he x (by
   simp only[Call.operands]
   cases c.callee<;>simp at hx ⊢ <;>first|exact hx|exact .inr hx)
  rw[hargs]
  obtain⟨f,g,caps,h1,h2,h3⟩:=h
  have hf:ev' f=ev f:=he f (by simp[Call.operands,h1])
  refine⟨f,g,caps,h1,hf.trans h2,?_⟩
  rcases h3 with⟨cl,τ,x,h4,h5⟩|⟨h0,j,τ,x,k,σ,b,m,h4,h5,h6⟩
  ·exact .inl ⟨cl,τ,x,Y1 (λa b hb=>JI hr hb) h4,h5⟩
  ·exact .inr ⟨h0,j,τ,x,k,σ,b,m,h4,hr _ _ h5,h6⟩
theorem Q5I {row row':Nat->Option Row}(hr:Yh row row'){E:Env}{ts:List Nat}{as:List AV}{n:Int}(h:Q3D row E ts as=some n):Q3D row' E ts as=some n:=by
 unfold Q3D at h ⊢
 split at h
 ·split at h
  ·rename_i h1 h2
   rw[h1,hr _ _ h2]
   exact h
  ·cases h
 ·split at h
  ·rename_i h1 h2
   rw[h1,hr _ _ h2]
   exact h
  ·cases h
 ·cases h
theorem TOp.mono {E:Env}{G:Cal->List AV->AV->Prop}{dr:Bool}{o:Oper}{id:Nat}{ev ev':Operand->AV}{row row':Nat->Option Row}{u:Upd}(h:TOp E G dr o id ev row u)(he:∀x∈o.op.operands,ev' x=ev x)(hr:Yh row row'):TOp E G dr o id ev' row' u:=by
 obtain⟨dst,op,type,pos,after,guard⟩:=o
 unfold TOp at h ⊢
 cases op<;>simp only[Op.operands]at h he ⊢
 case load T x=>
  rw[he x (by simp)]
  obtain⟨τ,j,i,p,σ0,a,b,σ,x',y,h1,h2,h3,h4⟩:=h
  exact⟨τ,j,i,p,σ0,a,b,σ,x',y,h1,h2,hr _ _ h3,h4⟩
 case store T x v=>
  rw[he x (by simp),he v (by simp)]
  obtain⟨τ,j,i,p,σ0,a,b,σ,x',y,z,z0,h1,h2,h3,h4,h5⟩:=h
  exact⟨τ,j,i,p,σ0,a,b,σ,x',y,z,z0,h1,h2,h3,hr _ _ h4,h5⟩
 case nilCheck x=>rw[he x (by simp)];exact h
 case fieldAddr T x f=>
  rw[he x (by simp)]
  obtain⟨τ,j,i,p,σ,a,h1,h2,h3,h4⟩:=h
  exact⟨τ,j,i,p,σ,a,h1,h2,hr _ _ h3,h4⟩
 case field T x f=>
  rw[he x (by simp)]
  obtain⟨τ,j,σ0,a,b,y,ρ,z,h1,h2,h3,h4⟩:=h
  exact⟨τ,j,σ0,a,b,y,ρ,z,h1,h2,hr _ _ h3,h4⟩
 case indexAddr T x ix=>
  rw[he x (by simp),he ix (by simp)]
  obtain⟨τ,j,σ0,a,b,xs,i,h1,h2,h3,h4,h5⟩:=h
  exact⟨τ,j,σ0,a,b,xs,i,h1,h2,h3,hr _ _ h4,h5⟩
 case buildSlice T n ps=>exact h
 case call c=>
  have hargs:Qx ev' c.args.toList=Qx ev c.args.toList:=YM λx hx=>he x (by
   simp only[Call.operands]
   cases c.callee<;>simp at hx ⊢ <;>first|exact hx|exact .inr hx)
  rw[hargs]
  rcases h with⟨n,h1,h2,h3⟩|⟨f,g,caps,h1,h2,h3⟩
  ·exact .inl ⟨n,h1,Q5I hr h2,h3⟩
  ·have hf:ev' f=ev f:=he f (by simp[Call.operands,h1])
   rw[<-hf]at h2
   refine .inr ⟨f,g,caps,h1,h2,?_⟩
   rcases h3 with⟨h4,j,τ,rest,σ0,a,b,x,y,cl,h5,h6,h7,h8⟩|⟨cl,r,av,news,h4,h5⟩|⟨h4,k,m,⟨j,τ,σ0,a,b,x,y,h5,h6,h7⟩|⟨j,q,p,τ,σ0,a,b,σ,x,x',z,y,h5,h6,h7⟩⟩
   ·exact .inl ⟨h4,j,τ,rest,σ0,a,b,x,y,cl,h5,hr _ _ h6,Y1 (λ_ _=>JI hr) h7,h8⟩
   ·exact .inr (.inl ⟨cl,r,av,news,Y1 (λ_ _=>JI hr) h4,h5⟩)
   ·exact .inr (.inr ⟨h4,k,m,.inl ⟨j,τ,σ0,a,b,x,y,h5,hr _ _ h6,h7⟩⟩)
   ·exact .inr (.inr ⟨h4,k,m,.inr ⟨j,q,p,τ,σ0,a,b,σ,x,x',z,y,h5,hr _ _ h6,h7⟩⟩)
theorem AOp.mono {E:Env}{G:Cal->List AV->AV->Prop}{dr:Bool}{o:Oper}{id:Nat}{ev ev':Operand->AV}{row row':Nat->Option Row}{u:Upd}(h:AOp E G dr o id ev row u)(he:∀x∈o.op.operands,ev' x=ev x)(hr:Yh row row'):AOp E G dr o id ev' row' u:=
 h.imp (λh=>h.mono he hr) λh=>h.imp (λh=>h.mono he hr) λh=>h.mono he hr
theorem Ui (E:Env)(row:Nat->Option Row):Yh (Ym E row) row:=λid r h=>by
 unfold Ym at h
 cases hr:row id with
 |none=>rw[hr]at h;cases h
 |some r0=>
  rw[hr]at h
  cases hc:hidR E id r0 with
  |true=>simp only[hc]at h;cases h
  |false=>simp only[hc]at h;cases h;rfl
theorem Q8d {E:Env}{row:Nat->Option Row}{id:Nat}{r:Row}(h:row id=some r)(hc:hidR E id r=false):Ym E row id=some r:=by
 unfold Ym;rw[h];simp only[hc]
theorem Do (E:Env)(c:Nat)(row:Nat->Option Row):Yh (UR E c row) row:=λid r h=>by
 unfold UR at h
 cases hr:row id with
 |none=>rw[hr]at h;cases h
 |some r0=>
  rw[hr]at h
  cases hc:(hidR E id r0&& !Nat.beq (YZ E id) c)with
  |true=>simp only[hc]at h;cases h
  |false=>simp only[hc]at h;cases h;rfl
theorem Q31 {E:Env}{c:Nat}{row:Nat->Option Row}{id:Nat}{r:Row}(h:row id=some r)(hc:(hidR E id r&& !Nat.beq (YZ E id) c)=false):UR E c row id=some r:=by
 unfold UR;rw[h];simp only[hc]
theorem Q6Z {E:Env}{c:Nat}{row:Nat->Option Row}{id:Nat}{r:Row}(h:UR E c row id=some r):(hidR E id r&& !Nat.beq (YZ E id) c)=false:=by
 have h2:=Do E c _ _ _ h
 unfold UR at h
 rw[h2]at h
 cases hc:(hidR E id r&& !Nat.beq (YZ E id) c)with
 |true=>simp only[hc]at h;cases h
 |false=>rfl
end Go.Gx
end
section
/- The interpreter's operations are the machine's: all of them. -/
namespace Go.Gx
open Go.RowKit
theorem KP {P:Program}{E:Env}{w0:World}{B:Old}{pv:Nat->Value}{S:Nat->Prop}{ρ:Nat->Option Loc}{st:St}{a:Act}{w:World}{o:Oper}{id:Nat}{K:Act->World->Prop}{Q:Exit->Act->World->Prop}
  (hE:EnvOk P E) {G:Cal->List AV->AV->Prop} (hG:GOk P E pv G) (hs:Sim w0 B pv S ρ st a w) (hgl:Qr E pv S w) (hd:J9 o st.nt=true) (hid:∀c,c<4->ρ (id+c)=none) {dr:Bool} {u:Upd}
  (h:U0 E G dr o id (ev E st) st.row u) (hK:Nx E w0 B pv S ρ st o.dst u id K):o.wp P a w K Q:=by
 have h0:ρ id=none:=by simpa using hid 0 (by omega)
 obtain⟨dst,op,type,pos,after,guard⟩:=o
 unfold U0 at h
 cases op<;>simp only at h
 case move x=>subst h;exact Q0Y hs hgl hd (.inl rfl) hK
 case assign x=>subst h;exact Q0Y hs hgl hd (.inr rfl) hK
 case pick c x y=>obtain⟨v,hc,rfl⟩:=h;exact Q5p hs hgl hd rfl hc hK
 case alloc T=>obtain⟨τ,hτ,rfl⟩:=h;exact Q3M hE hs hgl hd h0 rfl hτ hK
 case box T x=>obtain⟨τ,hτ,hf,rfl⟩:=h;exact Q6B hs hgl hd h0 rfl hf hK
 case build T ps=>obtain⟨τ,fs,hτ,hag,hfs,rfl⟩:=h;exact Q3S hE hs hgl hd rfl hτ hag hfs hK
 case buildSlice T n ps=>obtain⟨τ,fs,xs,hτ,hon,hn,hfs,hxs,hep,_,rfl⟩:=h;exact G8 hE hs hgl hd h0 rfl hτ hon hn hfs hxs hep hK
 case load T x=>obtain⟨τ,hτ,h⟩:=h;exact Q5q hE hs hgl hd rfl hτ h hK
 case store T x v=>obtain⟨τ,hτ,hf,h⟩:=h;exact Q3R hE hs hgl hd rfl hτ hf h hK
 case nilCheck x=>obtain⟨rfl,h⟩:=h;exact Q0E hs hgl hd rfl h hK
 case binOp op t x y z=>obtain⟨b,hb,rfl⟩:=h;exact Q5r hE hs hgl hd rfl hb hK
 case unOp op t x=>obtain⟨b,hb,rfl⟩:=h;exact Q5s hs hgl hd rfl hb hK
 case convert S0 T x=>exact Q1S hE hs hgl hd h0 rfl h hK
 case makeFunc fn first caps=>obtain⟨f,rfl,rfl,hn,rfl⟩:=h;exact Q0F hs hgl hd rfl hK hn
 case makeSlice T l c=>obtain⟨τ,n,hT,hl,hc,hp,hb,rfl⟩:=h;exact GO hE hs hgl hd h0 rfl hT hl hc hp hb hK
 case slice T x lo hi mx=>
  obtain⟨rfl,l,h',hl,hh,hx⟩:=h
  rcases hx with⟨_,hx⟩|hx
  ·exact Q2L hE hs hgl hd rfl hl hh hx hK
  ·exact Q3Q hE hs hgl hd rfl hl hh hx hK
 case fieldAddr T x f=>obtain⟨τ,hτ,hst,h⟩:=h;exact GK hE hs hgl hd rfl hτ hst h hK
 case field T x f=>obtain⟨τ,b,hτ,hst,hf,hb,rfl⟩:=h;exact Q3N hE hs hgl hd rfl hτ hst hb hf hK
 case indexAddr T x ix=>obtain⟨i,hi,hp,h⟩:=h;exact GN hE hs hgl hd rfl hi hp h hK
 case index T x ix=>
  rcases h with⟨s,_,i,hT,hx,hi,hp,h1,rfl⟩|⟨n,xs,i,hT,hx,hi,hp,h1,rfl⟩
  ·exact Q3O hE hs hgl hd rfl hT hx hi hp h1 hK
  ·exact Q0G hE hs hgl hd rfl hT hx hi hp h1 hK
 case extract x i=>obtain⟨vs,b,hx,hb,rfl⟩:=h;exact Q1R hs hgl hd rfl hx hb hK
 case call c=>
  obtain⟨callee,args,ats⟩:=c
  rcases h with⟨b,hb,h⟩|⟨f,hf,h⟩
  ·simp only at hb h
   subst hb
   rcases h with⟨rfl,x,n,T,hargs,rfl,hl,rfl⟩|⟨rfl,x,y,T,hargs,rfl,h⟩|⟨rfl,x,y,hargs,rfl⟩|⟨rfl,x,y,hargs,rfl⟩|⟨rfl,x,y,z,hargs,rfl⟩|⟨rfl,j,i,e,τ,xs,app,p,T,hargs,rfl,hT,hp,hr,hag,rfl⟩
   ·exact Q6F hE hs hgl hd rfl hargs hl hK
   ·exact Q2I hE hs hgl hd h0 rfl hargs h hK
   ·exact Xb hs hgl hd rfl (.inl ⟨rfl,x,y,hargs,rfl⟩) hK
   ·exact Xb hs hgl hd rfl (.inr (.inl ⟨rfl,x,y,hargs,rfl⟩)) hK
   ·exact Xb hs hgl hd rfl (.inr (.inr ⟨rfl,x,y,z,hargs,rfl⟩)) hK
   ·exact Q3V hE hs hgl hd rfl hargs hT hp hr hag hK
  ·simp only at hf h
   subst hf
   exact Q5A hs hgl hd hG rfl hid h hK
theorem Q70 {P:Program}{E:Env}{w0:World}{B:Old}{pv:Nat->Value}{S:Nat->Prop}{ρ:Nat->Option Loc}{st:St}{a:Act}{w:World}{o:Oper}{id:Nat}{K:Act->World->Prop}{Q:Exit->Act->World->Prop}
  (hE:EnvOk P E) {G:Cal->List AV->AV->Prop} (hG:GOk P E pv G) (hs:Sim w0 B pv S ρ st a w) (hgl:Qr E pv S w) (hd:J9 o st.nt=true) (hid:∀c,c<4->ρ (id+c)=none) {dr:Bool} {u:Upd}
  (h:DOp E G dr o id (ev E st) st.row u) (hK:Nx E w0 B pv S ρ st o.dst u id K):o.wp P a w K Q:=by
 have h0:ρ id=none:=by simpa using hid 0 (by omega)
 obtain⟨dst,op,type,pos,after,guard⟩:=o
 unfold DOp at h
 cases op<;>simp only at h
 case load T x=>obtain⟨j,e,y,hT,hx,rfl⟩:=h;exact Q3X hE hs hgl hd rfl hT hx hK
 case store T x v=>obtain⟨τ,j,y,z,ρ',b,hT,hx,hr,hag,hsl,hv,rfl⟩:=h;exact Q2N hE hs hgl hd rfl hT hx hr hag hsl hv hK
 case nilCheck x=>obtain⟨j,σ,y,hx,rfl⟩:=h;exact Q5B hs hgl hd rfl hx hK
 case fieldAddr T x f=>obtain⟨τ,j,y,σ,z,hT,hst,hx,hz,rfl⟩:=h;exact G9 hE hs hgl hd rfl hT hst hx hz hK
 case field T x f=>obtain⟨τ,j,y,b,hT,hst,hx,hb,rfl⟩:=h;exact Q2O hE hs hgl hd rfl hT hst hx hb hK
 case indexAddr T x ix=>obtain⟨τ,j,xs,i,hT,hx,hi,h1,h2,rfl⟩:=h;exact Q2P hE hs hgl hd rfl hT hx hi h1 h2 hK
 case call c=>
  obtain⟨callee,args,ats⟩:=c
  obtain⟨f,g,caps,hc,hf,h⟩:=h
  simp only at hc h
  subst hc
  rcases h with h|h
  ·exact Q3Y hs hgl hd hG rfl hf h0 h hK
  ·exact Q3Z hs hgl hd hG rfl hf h hK
theorem Q71 {P:Program}{E:Env}{w0:World}{B:Old}{pv:Nat->Value}{S:Nat->Prop}{ρ:Nat->Option Loc}{st:St}{a:Act}{w:World}{o:Oper}{id:Nat}{K:Act->World->Prop}{Q:Exit->Act->World->Prop}
  (hE:EnvOk P E) {G:Cal->List AV->AV->Prop} (hG:GOk P E pv G) (hs:Sim w0 B pv S ρ st a w) (hgl:Qr E pv S w) (hd:J9 o st.nt=true) (hid:∀c,c<4->ρ (id+c)=none) {dr:Bool} {u:Upd}
  (h:TOp E G dr o id (ev E st) st.row u) (hK:Nx E w0 B pv S ρ st o.dst u id K):o.wp P a w K Q:=by
 have h0:ρ id=none:=by simpa using hid 0 (by omega)
 obtain⟨dst,op,type,pos,after,guard⟩:=o
 unfold TOp at h
 cases op<;>simp only at h
 case load T x=>obtain⟨τ,j,i,p,σ0,a',b,σ,x',y,hT,hx,hr,hy,rfl⟩:=h;exact Q41 hE hs hgl hd rfl hT hx hr hy hK
 case store T x v=>obtain⟨τ,j,i,p,σ0,a',b,σ,x',y,z,z0,hT,hx,hv,hr,hag,hsl,hz,hy,rfl⟩:=h;exact Q2R hE hs hgl hd rfl hT hx hv hr hag hsl hz hy hK
 case nilCheck x=>obtain⟨j,i,p,hx,rfl⟩:=h;exact Q5D hs hgl hd rfl hx hK
 case fieldAddr T x f=>obtain⟨τ,j,i,p,σ,a',hT,hx,hr,hp,hst,rfl⟩:=h;exact Ge hE hs hgl hd rfl hT hst hx hr hp hK
 case field T x f=>obtain⟨τ,j,σ0,a',b,y,σ,z,hT,hx,hr,hz,hst,rfl⟩:=h;exact Q2S hE hs hgl hd rfl hT hst hx hr hz hK
 case indexAddr T x ix=>obtain⟨τ,j,σ0,a',b,xs,i,hT,hx,hi,hr,h1,h2,rfl⟩:=h;exact Q2T hE hs hgl hd rfl hT hx hi hr h1 h2 hK
 case buildSlice T n ps=>
  obtain⟨τ,hT,rfl,hsl,hps,rfl⟩:=h
  exact GZ (fs:=[]) (xs:=[]) hE hs hgl hd h0 rfl hT (by omega) (by rw[hps];rfl) rfl rfl hsl rfl (by simp[Y5,J3.go]) λS' ρ' a' w' k1 k2 k3 k4=>hK S' ρ' a' w' k1 k2 k3 k4
 case call c=>
  obtain⟨callee,args,ats⟩:=c
  rcases h with⟨n,hc,hl,rfl⟩|⟨f,g,caps,hc,hf,h⟩
  ·simp only at hc
   subst hc
   exact Q5E hE hs hgl hd rfl hl hK
  ·simp only at hc h
   subst hc
   rcases h with h|h|h
   ·exact Q43 hs hgl hd hG rfl hf h hK
   ·exact Q42 hs hgl hd hG rfl hf hid h hK
   ·exact Q2U hs hgl hd hG rfl hf h hK
theorem step_ok {P:Program}{E:Env}{w0:World}{B:Old}{pv:Nat->Value}{S:Nat->Prop}{ρ:Nat->Option Loc}{st:St}{a:Act}{w:World}{o:Oper}{id:Nat}{K:Act->World->Prop}{Q:Exit->Act->World->Prop}
  (hE:EnvOk P E) {G:Cal->List AV->AV->Prop} (hG:GOk P E pv G) (hs:Sim w0 B pv S ρ st a w) (hgl:Qr E pv S w) (hd:J9 o st.nt=true) (hid:∀c,c<4->ρ (id+c)=none) {dr:Bool} {u:Upd}
  (h:AOp E G dr o id (ev E st) st.row u) (hK:Nx E w0 B pv S ρ st o.dst u id K):o.wp P a w K Q:=by
 rcases h with h|h|h
 ·exact KP hE hG hs hgl hd hid h hK
 ·exact Q70 hE hG hs hgl hd hid h hK
 ·exact Q71 hE hG hs hgl hd hid h hK
theorem Dp {u u':Upd}(h:Gy u=some u'):∃i j e τ,∃xs:List (den τ),u=⟨.own i,[(j,.flat e τ xs false true)],[],none,none⟩/\u'=quiet (.t (.sl τ) xs):=by
 obtain⟨v,news,frz,app,sto⟩:=u
 unfold Gy at h
 split at h
 ·rename_i i j e τ xs h1 h2 h3 h4 h5
  simp only at h1 h2 h3 h4 h5
  subst h1;subst h2;subst h3;subst h4;subst h5
  cases h
  exact⟨_,_,_,_,_,rfl,rfl⟩
 ·cases h
theorem KQ {P:Program}{E:Env}{w0:World}{B:Old}{pv:Nat->Value}{S:Nat->Prop}{ρ:Nat->Option Loc}{st:St}{a:Act}{w:World}{o:Oper}{id:Nat}{K:Act->World->Prop}{Q:Exit->Act->World->Prop}
  (hE:EnvOk P E) {G:Cal->List AV->AV->Prop} (hG:GOk P E pv G) (hs:Sim w0 B pv S ρ st a w) (hgl:Qr E pv S w) (hd:J9 o st.nt=true) (hid:∀c,c<4->ρ (id+c)=none) {dr:Bool} {u:Upd}
  (h:Q2B E G dr o id (ev E st) st.row u) (hK:Nx E w0 B pv S ρ st o.dst u id K):o.wp P a w K Q:=by
 rcases h with⟨_,h⟩|⟨_,⟨_,h,_⟩|⟨_,hb,u0,h,hu⟩|⟨_,_,h,_⟩|⟨_,h,_⟩⟩
 ·exact step_ok hE hG hs hgl hd hid h hK
 ·exact KP hE hG hs hgl hd hid (h.mono (ev':=ev E st) (λ_ _=>rfl) (Do E _ st.row)) hK
 ·have h0:ρ id=none:=by simpa using hid 0 (by omega)
  obtain⟨i,j,e,τ',xs',rfl,rfl⟩:=Dp hu
  have h:=h.mono (ev':=ev E st) (λ_ _=>rfl) (Ui E st.row)
  obtain⟨dst,op,type,pos,after,guard⟩:=o
  cases op<;>simp only[Q3E]at hb<;>try cases hb
  unfold U0 at h
  obtain⟨τ,fs,xs,hτ,hon,hn,hfs,hxs,hep,_,hu⟩:=h
  injection hu with h1 h2 h3 h4 h5
  have hids:QQ fs=[]:=h3.symm
  injection h2 with h2 _
  injection h2 with _ h2
  injection h2 with _ hτ' hxs' _ _
  subst hτ'
  have hxs':=eq_of_heq hxs'
  subst hxs'
  exact Uf hE hs hgl hd h0 rfl hτ hon hn hfs hxs hep hids hK
 ·exact KP hE hG hs hgl hd hid (h.mono (ev':=ev E st) (λ_ _=>rfl) (Ui E st.row)) hK
 ·exact step_ok hE hG hs hgl hd hid (.inr (.inr (h.mono (ev':=ev E st) (λ_ _=>rfl) (Ui E st.row)))) hK
end Go.Gx
end
section
/- A region,carried out in order. -/
namespace Go.Gx
open Go.RowKit
def Q01 (ops:Array Oper)(o:Oper)(st:St):Prop:=o.guard=none\/∃j b g d,o.guard=some (j,b)/\ops[j]? =some g/\g.dst=some d/\st.slot d= .t .bool b
def Q19 (ops:Array Oper)(o:Oper)(st:St):Prop:=∃j b,o.guard=some (j,b)/\(ops[j]? =none\/∃g,ops[j]? =some g/\(g.dst=none\/∃d,g.dst=some d/\(st.slot d= .t .bool (!b)\/st.slot d= .tup [])))
inductive RunR (E:Env)(G:Cal->List AV->AV->Prop)(dr:Bool)(ops:Array Oper)(rid:Nat):List Oper->Nat->St->St->Prop
 |nil (i:Nat) (st:St):RunR E G dr ops rid [] i st st
 |yes (o:Oper) (l:List Oper) (i:Nat) (st st':St) (u:Upd) (hd:J9 o st.nt=true) (hw:Q01 ops o st) (h:Q2B E (clG (clM E dr ops o) G) dr o ((rid*256+i)*4) (ev E st) st.row u) (hr:RunR E G dr ops rid l (i+1) (st.apply o.dst u) st'):RunR E G dr ops rid (o::l) i st st'
 |mv (o:Oper) (l:List Oper) (i:Nat) (st st1 st':St) (hdr:dr=false) (hd:J9 o st.nt=true) (hw:Q01 ops o st) (h:MOp E o ((rid*256+i)*4) st st1) (hr:RunR E G dr ops rid l (i+1) st1 st'):RunR E G dr ops rid (o::l) i st st'
 |no (o:Oper) (l:List Oper) (i:Nat) (st st':St) (hd:J9 o st.nt=true) (hw:Q19 ops o st) (hr:RunR E G dr ops rid l (i+1) (st.putO o.dst QV) st'):RunR E G dr ops rid (o::l) i st st'
theorem KR {st:St}{d:Nat}{b:AV}(h:st.slot d=b):st.put d b=st:=by
 cases st with
 |mk slot row nt=>
  simp only[St.put]at*
  congr 1
  funext t
  rw[Qn]
  by_cases e:t=d
  ·subst e;simp[h]
  ·simp[e]
theorem Q32 {R:Type}{r:R}{ops:Array Oper}{o:Oper}{st:St}{yes no:St->Option R}(h:Q1D ops o st yes no=some r):(Q01 ops o st/\yes st=some r)\/(Q19 ops o st/\no st=some r):=by
 unfold Q1D at h
 split at h
 ·rename_i hg
  exact .inl ⟨.inl hg,h⟩
 ·rename_i j want hg
  split at h
  ·rename_i g hj
   split at h
   ·rename_i d hd
    split at h
    ·rename_i b hb
     cases want with
     |true=>
      cases b with
      |true=>rw[KR hb]at h;exact .inl ⟨.inr ⟨j,true,g,d,hg,hj,hd,hb⟩,h⟩
      |false=>rw[KR hb]at h;exact .inr ⟨⟨j,true,hg,.inr ⟨g,hj,.inr ⟨d,hd,.inl hb⟩⟩⟩,h⟩
     |false=>
      cases b with
      |true=>rw[KR hb]at h;exact .inr ⟨⟨j,false,hg,.inr ⟨g,hj,.inr ⟨d,hd,.inl hb⟩⟩⟩,h⟩
      |false=>rw[KR hb]at h;exact .inl ⟨.inr ⟨j,false,g,d,hg,hj,hd,hb⟩,h⟩
    ·rename_i hb
     exact .inr ⟨⟨j,want,hg,.inr ⟨g,hj,.inr ⟨d,hd,.inr hb⟩⟩⟩,h⟩
    ·cases h
   ·rename_i hd
    exact .inr ⟨⟨j,want,hg,.inr ⟨g,hj,.inl hd⟩⟩,h⟩
  ·rename_i hj
   exact .inr ⟨⟨j,want,hg,.inl hj⟩,h⟩
theorem UB {R:Type}{r:R}{E:Env}{C:Orc}{G:Cal->List AV->AV->Prop}(hC:JE C G){dr:Bool}{ops:Array Oper}{rid:Nat}:∀(l:List Oper) (i:Nat) (st:St) {K:St->Option R},Dc E C dr ops rid l i st K=some r->
  ∃st',RunR E G dr ops rid l i st st'/\K st'=some r
 |[],i,st,K,h=>⟨st,.nil i st,h⟩
 |o::l,i,st,K,h=>by
  unfold Dc at h
  split at h
  ·rename_i hd
   rcases Q32 h with⟨hw,h⟩|⟨hw,h⟩
   ·split at h
    ·cases hx:(dr||E.so)with
     |true=>rw[hx]at h;cases h
     |false=>
      rw[hx,cond_false]at h
      obtain⟨st1,h1,h⟩:=Q84 h
      obtain⟨st',h2,h3⟩:=UB hC l (i+1) _ h
      exact⟨st',.mv o l i st st1 st' (by simpa using(Bool.or_eq_false_iff.1 hx).1) hd hw h1 h2,h3⟩
    ·obtain⟨u,h1,h⟩:=Q6x (hC.cl _) h
     obtain⟨st',h2,h3⟩:=UB hC l (i+1) _ h
     exact⟨st',.yes o l i st st' u hd hw h1 h2,h3⟩
   ·obtain⟨st',h2,h3⟩:=UB hC l (i+1) _ h
    exact⟨st',.no o l i st st' hd hw h2,h3⟩
  ·cases h
section
variable {P:Program} {E:Env} {w0:World} {B:Old} {pv:Nat->Value} {S:Nat->Prop} {ρ:Nat->Option Loc} {st:St} {a:Act} {w:World} {G:Cal->List AV->AV->Prop} {Q:Exit->Act->World->Prop}
theorem Q33 {d:Nat}{v:Value}(h:a.tmps.getD d undef=v)(hv:v≠undef):a.tmps[d]? =some v:=by
 rw[Array.getD_eq_getD_getElem?]at h
 cases hd:a.tmps[d]? with
 |none=>rw[hd]at h;exact absurd h.symm hv
 |some u=>rw[hd]at h;rw[<-h];rfl
theorem Dq {ops:Array Oper}{o:Oper}(hs:Sim w0 B pv S ρ st a w)(h:Q01 ops o st):Region.wanted o (yielded ops a.tmps)=true:=by
 rcases h with h|⟨j,b,g,d,h1,h2,h3,h4⟩
 ·simp[Region.wanted,h]
 ·have:=hs.slots d
  rw[h4]at this
  have hv:=Q33 (Yy this) (by simp[undef])
  simp[Region.wanted,h1,yielded,h2,h3,hv]
theorem Q1U {ops:Array Oper}{o:Oper}(hs:Sim w0 B pv S ρ st a w)(h:Q19 ops o st):Region.wanted o (yielded ops a.tmps)=false:=by
 obtain⟨j,b,h1,h2|⟨g,h2,h3|⟨d,h3,h4|h4⟩⟩⟩:=h
 ·simp[Region.wanted,h1,yielded,h2]
 ·simp[Region.wanted,h1,yielded,h2,h3]
 ·have:=hs.slots d
  rw[h4]at this
  have hv:=Q33 (Yy this) (by simp[undef])
  simp[Region.wanted,h1,yielded,h2,h3,hv]
 ·have:=hs.slots d
  rw[h4]at this
  obtain⟨cs,h',h5⟩:=Qw this (by simp)
  cases h' with
  |tup _ css hl _=>
   have:a.tmps.getD d undef= .tuple #[]:=by rw[h5];cases css<;>rfl
   rw[Array.getD_eq_getD_getElem?]at this
   cases hd:a.tmps[d]? with
   |none=>simp[Region.wanted,h1,yielded,h2,h3,hd]
   |some u=>
    rw[hd]at this
    have:u= .tuple #[]:=this
    subst this
    simp[Region.wanted,h1,yielded,h2,h3,hd]
theorem seq_ok (hE:EnvOk P E)(hG:GOk P E pv G){ops:Array Oper}{rid:Nat}{dr:Bool}:∀{l:List Oper} {i:Nat} {st st':St} {S:Nat->Prop} {ρ:Nat->Option Loc} {a:Act} {w:World},RunR E G dr ops rid l i st st'->Sim w0 B pv S ρ st a w->Qr E pv S w->
  (∀k,i<=k->k<i+l.length->∀c,c<4->ρ ((rid*256+k)*4+c)=none)->
  (∀S' ρ' a' w',Sim w0 B pv S' ρ' st' a' w'->Qr E pv S' w'->Grew B S S'->Q .normal a' w')->wpList P ops Q l a w
 |[],i,st,st',S,ρ,a,w,hr,hs,hgl,_,hQ=>by
  cases hr
  exact hQ S ρ a w hs hgl (Grew.refl _ _)
 |o::l,i,st,st',S,ρ,a,w,hr,hs,hgl,hid,hQ=>by
  cases hr with
  |yes _ _ _ _ _ u hd hw h hr=>
   unfold wpList
   rw[if_pos (Dq hs hw)]
   refine .inl (KQ hE (hG.cl _) hs hgl hd (hid i (Nat.le_refl _) (by simp)) h λS1 ρ1 a1 w1 hs1 hgl1 hS1 hρ1=>?_)
   exact seq_ok hE hG hr hs1 hgl1 (λk hk1 hk2 c hc=>hρ1 _ (hid k (by omega) (by simp;omega) c hc) (by omega)) λS2 ρ2 a2 w2 hs2 hgl2 hS2=>hQ S2 ρ2 a2 w2 hs2 hgl2 (hS1.trans hS2)
  |mv _ _ _ _ st1 _ hdr hd hw h hr=>
   unfold wpList
   rw[if_pos (Dq hs hw)]
   refine .inl (Q6X hE hs hgl hd (hid i (Nat.le_refl _) (by simp)) h λS1 ρ1 a1 w1 hs1 hgl1 hS1 hρ1=>?_)
   exact seq_ok hE hG hr hs1 hgl1 (λk hk1 hk2 c hc=>hρ1 _ (hid k (by omega) (by simp;omega) c hc) (by omega)) λS2 ρ2 a2 w2 hs2 hgl2 hS2=>hQ S2 ρ2 a2 w2 hs2 hgl2 (hS1.trans hS2)
  |no _ _ _ _ _ hd hw hr=>
   unfold wpList
   rw[Q1U hs hw]
   exact seq_ok hE hG hr (hs.put (QK hd) Jm) hgl (λk hk1 hk2 c hc=>hid k (by omega) (by simp;omega) c hc) hQ
end
end Go.Gx
end
section
/- What an operation's meaning hangs on: its operands,and the rows that are there. -/
namespace Go.Gx
open Go.RowKit
structure UpdOk (E:Env)(dr:Bool)(o:Oper)(id:Nat)(row:Nat->Option Row)(u:Upd):Prop where
 news:YJ id u.news
 frz:dr=true->u.frz=[]
 quiet:dr=true->(Q3F o||mdL E o)=false->u.app=none/\u.sto=none
 app:∀j r,u.app=some (j,r)->row j≠none
 sto:∀j r,u.sto=some (j,r)->row j≠none
theorem UpdOk.q {E:Env}{dr:Bool}{o:Oper}{id:Nat}{row:Nat->Option Row}(v:AV):UpdOk E dr o id row (Gx.quiet v):=
 ⟨QI id,λ_=>rfl,λ_ _=>⟨rfl,rfl⟩,λ_ _ h=>(by cases h),λ_ _ h=>(by cases h)⟩
theorem UpdOk.m {E:Env}{dr:Bool}{o:Oper}{id:Nat}{row:Nat->Option Row}(v:AV){l:List (Nat×Row)}(h:YJ id l):UpdOk E dr o id row (makes v l):=
 ⟨h,λ_=>rfl,λ_ _=>⟨rfl,rfl⟩,λ_ _ h=>(by cases h),λ_ _ h=>(by cases h)⟩
theorem UpdOk.f {E:Env}{dr:Bool}{o:Oper}{id:Nat}{row:Nat->Option Row}(v:AV){l:List (Nat×Row)}(h:YJ id l){ids:List Nat}(hd:ids=[]\/dr=false):UpdOk E dr o id row ⟨v,l,ids,none,none⟩:=
 ⟨h,λe=>(by rcases hd with hd|hd;exact hd;rw[e]at hd;cases hd),λ_ _=>⟨rfl,rfl⟩,λ_ _ h=>(by cases h),λ_ _ h=>(by cases h)⟩
theorem Q1a {E:Env}{G:Cal->List AV->AV->Prop}{row:Nat->Option Row}{dr:Bool}{o:Oper}{id:Nat}{cal:Cal}{args:List AV}{u:Upd}(hx:DU G row dr id cal args u):UpdOk E dr o id row u:=by
 obtain⟨cl,r,av,news,h1,h2,h3,⟨h4,rfl⟩|⟨h4,h5,rfl⟩⟩:=hx
 ·exact .m _ (YK h3)
 ·exact .f _ (YK h3) h5
theorem Q02 {row:Nat->Option Row}{a:AV}{i:Nat}{x:AV}(h:Q1C row a=some (i,x)):∃r,row i=some r/\rowOf x=some r:=by
 unfold Q1C at h
 split at h
 ·split at h
  ·rename_i hr;cases h;exact⟨_,hr,rfl⟩
  ·cases h
 ·split at h
  ·rename_i σ σ' y hr
   split at h
   ·rename_i e _
    subst e
    cases h
    exact⟨_,hr,rfl⟩
   ·cases h
  ·cases h
 ·cases h
theorem Q46 {a:AV}{rest:List AV}(h:Q2s (a::rest)=true):QQ rest=[]:=by
 simp only[Q2s]at h
 split at h
 ·rename_i e;exact e
 ·cases h
theorem Q5J {E:Env}{G:Cal->List AV->AV->Prop}{row:Nat->Option Row}{dr d':Bool}{o:Oper}{id:Nat}{g:Nat}{args:List AV}{u:Upd}(hd':dr=true->d'=false->Q2s args=true/\mdL E o=true)(hx:Q4C G row d' id g args u):UpdOk E dr o id row u:=by
 obtain⟨hd,a0,rest,i,x0,cl,r,ea,hh,_,_,_,_,⟨o',r',ro,av,news,_,_,_,hn,hu⟩|⟨e,τ,ys,_,_,_,hu⟩|⟨_,_,_,_,_,_,_,_,_,rfl⟩⟩:=hx
 all_goals have hq:dr=true->(Q3F o||mdL E o)=false->False:=λh1 h2=>by rw[(hd' h1 hd).2,Bool.or_true]at h2;cases h2
 all_goals have hz:dr=true->QQ rest=[]:=λh1=>Q46 (ea▸ (hd' h1 hd).1)
 ·obtain⟨r0,hr,_⟩:=Q02 hh
  rcases hu with⟨_,_,rfl⟩|⟨_,rfl⟩
  ·exact⟨YK hn,λ_=>rfl,λh1 h2=>(hq h1 h2).elim,λ_ _ h=>(by cases h),λ_ _ h=>(by cases h;rw[hr];simp)⟩
  ·exact⟨YK hn,hz,λh1 h2=>(hq h1 h2).elim,λ_ _ h=>(by cases h),λ_ _ h=>(by cases h;rw[hr];simp)⟩
 ·obtain⟨r0,hr,_⟩:=Q02 hh
  rcases hu with⟨_,rfl⟩|⟨_,rfl⟩
  ·exact⟨QI id,λ_=>rfl,λh1 h2=>(hq h1 h2).elim,λ_ _ h=>(by cases h;rw[hr];simp),λ_ _ h=>(by cases h)⟩
  ·exact⟨QI id,hz,λh1 h2=>(hq h1 h2).elim,λ_ _ h=>(by cases h;rw[hr];simp),λ_ _ h=>(by cases h)⟩
 ·obtain⟨r0,hr,_⟩:=Q02 hh
  exact⟨QI id,λ_=>rfl,λh1 h2=>(hq h1 h2).elim,λ_ _ h=>(by cases h;rw[hr];simp),λ_ _ h=>(by cases h)⟩
theorem Q5K {E:Env}{G:Cal->List AV->AV->Prop}{row:Nat->Option Row}{dr:Bool}{o:Oper}{id:Nat}{g:Nat}{args:List AV}{d':Bool}{u:Upd}(hd':E.md g=true->dr=true->d'=false->Q2s args=true/\mdL E o=true)(hx:Q2A E G row dr d' id g args u):UpdOk E dr o id row u:=by
 rcases hx with⟨_,h⟩|⟨hm,h⟩
 ·exact Q1a h
 ·exact Q5J (hd' hm) h
theorem U0.upd {E:Env}{G:Cal->List AV->AV->Prop}{dr:Bool}{o:Oper}{id:Nat}{ev:Operand->AV}{row:Nat->Option Row}{u:Upd}(h:U0 E G dr o id ev row u):UpdOk E dr o id row u:=by
 obtain⟨dst,op,type,pos,after,guard⟩:=o
 unfold U0 at h
 cases op<;>simp only at h
 case move x=>subst h;exact .q _
 case assign x=>subst h;exact .q _
 case pick c a b=>obtain⟨v,_,rfl⟩:=h;exact .q _
 case alloc T=>obtain⟨τ,_,rfl⟩:=h;exact .m _ (JS _ _)
 case box T x=>obtain⟨τ,_,_,rfl⟩:=h;exact .m _ (JS _ _)
 case build T ps=>obtain⟨τ,fs,_,_,_,rfl⟩:=h;exact .q _
 case buildSlice T n ps=>obtain⟨τ,fs,xs,_,_,_,_,_,_,h1,rfl⟩:=h;exact .f _ (JS _ _) h1
 case load T x=>
  obtain⟨τ,_,⟨_,_,rfl⟩|⟨_,_,_,_,_,_,_,_,_,rfl⟩|⟨_,_,_,_,_,_,_,_,_,_,_,_,_,rfl⟩⟩:=h<;>exact .q _
 case store T x v=>
  obtain⟨τ,_,_,⟨j,p,σ,a,b,_,h3,_,_,rfl⟩|⟨j,i,p,e,σ,xs,app,b,y,_,h3,_,_,_,rfl⟩⟩:=h<;>
   exact⟨QI id,λ_=>rfl,λ_ h=>(by cases h),λ_ _ h=>(by cases h),λj' r' h=>by cases h;rw[h3];simp⟩
 case nilCheck x=>obtain⟨rfl,_⟩:=h;exact .q _
 case binOp op t x y z=>obtain⟨_,_,rfl⟩:=h;exact .q _
 case unOp op t x=>obtain⟨_,_,rfl⟩:=h;exact .q _
 case convert S T x=>
  rcases h with⟨_,_,_,_,_,_,_,rfl⟩|⟨_,_,_,_,rfl⟩|⟨_,_,_,_,_,rfl⟩|⟨_,_,_,_,rfl⟩|⟨_,_,_,_,_,_,rfl⟩
  ·exact .q _
  ·exact .q _
  ·exact .m _ (JS _ _)
  ·exact .q _
  ·exact .q _
 case makeFunc fn first caps=>obtain⟨_,_,_,_,rfl⟩:=h;exact .q _
 case makeSlice T l c=>obtain⟨_,_,_,_,_,_,_,rfl⟩:=h;exact .m _ (JS _ _)
 case slice T x lo hi mx=>
  obtain⟨h0,l,h',h1,h2,⟨hdr,j,e,τ,xs,app,a,b,_,_,hr,_,_,_,⟨_,_,_,rfl⟩|⟨_,_,_,rfl⟩⟩|⟨_,_,_,_,_,_,rfl⟩|⟨_,_,_,_,_,_,_,rfl⟩|⟨hd,j,e,τ,xs,fz,app,a,b,_,_,_,_,rfl⟩|⟨_,_,_,_,_,_,_,_,rfl⟩|⟨_,_,_,_,_,_,_,_,_,_,_,rfl⟩⟩:=h
  ·exact .q _
  ·exact⟨QI id,λ_=>rfl,λh=>(by rw[hdr]at h;cases h),λj' r' h=>(by cases h;rw[hr];simp),λ_ _ h=>(by cases h)⟩
  ·exact .q _
  ·exact .q _
  ·exact .f _ (QI _) (.inr hd)
  ·exact .q _
  ·exact .q _
 case fieldAddr T x f=>
  obtain⟨τ,h1,h2,⟨_,_,_,_,rfl⟩|⟨_,_,_,_,_,_,_,_,_,rfl⟩⟩:=h<;>exact .q _
 case field T x f=>obtain⟨_,_,_,_,_,_,rfl⟩:=h;exact .q _
 case indexAddr T x ix=>
  obtain⟨i,h1,h2,⟨_,_,_,_,_,rfl⟩|⟨_,_,_,_,_,_,_,_,_,_,rfl⟩|⟨_,_,_,_,_,_,_,rfl⟩⟩:=h<;>exact .q _
 case index T x ix=>rcases h with⟨_,_,_,_,_,_,_,_,rfl⟩|⟨_,_,_,_,_,_,_,_,rfl⟩<;>exact .q _
 case extract x i=>obtain⟨_,_,_,_,rfl⟩:=h;exact .q _
 case call c=>
  rcases h with⟨b,hb,h⟩|⟨f,hf,⟨g,caps,_,h⟩|⟨i,_,h⟩⟩
  rotate_left
  ·refine Q5K (λhm h1 h2=>?_) h
   subst h1
   obtain⟨callee,args,ats⟩:=c
   simp only at hf
   subst hf
   cases f with
   |func h'=>
    simp only[drM,Q3z,Bool.true_and,Bool.not_eq_false',Bool.and_eq_true]at h2
    obtain rfl:=Nat.eq_of_beq_eq_true h2.1
    exact⟨h2.2,hm⟩
   |_=>simp[drM,Q3z]at h2
  ·exact Q1a h
  ·rcases h with⟨_,_,_,_,_,_,_,rfl⟩|⟨rfl,a,x,T,_,_,τ,ys,_,_,_,⟨_,_,rfl⟩|⟨j,xs,_,_,hr,_,rfl⟩⟩|⟨_,_,_,_,rfl⟩|⟨_,_,_,_,rfl⟩|⟨_,_,_,_,_,rfl⟩|⟨rfl,j,i,e,τ,xs,app,p,T,_,_,_,_,hr,_,rfl⟩
   ·exact .q _
   ·exact .m _ (JS _ _)
   ·refine⟨QI id,λ_=>rfl,λ_ h=>?_,λj' r' h=>?_,λ_ _ h=>(by cases h)⟩
    ·obtain⟨callee,args,ats⟩:=c
     simp only at hb
     subst hb
     cases h
    ·cases h;rw[hr];simp
   ·exact .q _
   ·exact .q _
   ·exact .q _
   ·refine⟨QI id,λ_=>rfl,λ_ h=>?_,λ_ _ h=>(by cases h),λj' r' h=>(by cases h;rw[hr];simp)⟩
    obtain⟨callee,args,ats⟩:=c
    simp only at hb
    subst hb
    cases h
theorem DOp.upd {E:Env}{G:Cal->List AV->AV->Prop}{dr:Bool}{o:Oper}{id:Nat}{ev:Operand->AV}{row:Nat->Option Row}{u:Upd}(h:DOp E G dr o id ev row u):UpdOk E dr o id row u:=by
 obtain⟨dst,op,type,pos,after,guard⟩:=o
 unfold DOp at h
 cases op<;>simp only at h
 case load T x=>obtain⟨_,_,_,_,_,rfl⟩:=h;exact .q _
 case store T x v=>
  obtain⟨τ,j,y,z,ρ,b,_,_,h3,_,_,_,rfl⟩:=h
  exact⟨QI id,λ_=>rfl,λ_ h=>(by cases h),λ_ _ h=>(by cases h),λj' r' h=>by cases h;rw[h3];simp⟩
 case nilCheck x=>obtain⟨_,_,_,_,rfl⟩:=h;exact .q _
 case fieldAddr T x f=>obtain⟨_,_,_,_,_,_,_,_,_,rfl⟩:=h;exact .q _
 case field T x f=>obtain⟨_,_,_,_,_,_,_,_,rfl⟩:=h;exact .q _
 case indexAddr T x ix=>obtain⟨_,_,_,_,_,_,_,_,_,rfl⟩:=h;exact .q _
 case call c=>
  obtain⟨f,g,caps,h1,h2,⟨cl,τ,x,h4,_,⟨h5,rfl⟩|⟨h5,rfl⟩⟩|⟨h0,j,τ,x,k,σ,b,m,h4,h5,h6,rfl⟩⟩:=h
  ·exact .m _ (JS _ _)
  ·exact .m _ (QI id)
  ·exact⟨QI id,λh=>(by simp[h0]at h),λh=>(by simp[h0]at h),λ_ _ h=>(by cases h),λ_ _ h=>(by cases h;rw[h5];simp)⟩
theorem Y2 {id:Nat}{r:AV}{b:AV}{l:List (Nat×Row)}(hi:Jb id r (λb l=>some (b,l))=some (b,l)):l=[]\/∃row,l=[(id,row)]:=by
 cases r<;>simp only[Jb]at hi<;>first
  |(cases hi;done)
  |(cases hi;exact .inl rfl)
  |(cases hs:slT _<;>rw[hs]at hi<;>cases hi<;>first
    |exact .inl rfl
    |exact .inr ⟨_,rfl⟩)
theorem Q47 {id:Nat}{r:AV}{b:AV}{l:List (Nat×Row)}(hi:JQ id r (λb l=>some (b,l))=some (b,l)):YJ id l:=by
 have one:Jb id r (λb l=>some (b,l))=some (b,l)->YJ id l:=λhi=>by
  rcases Y2 hi with rfl|⟨row,rfl⟩
  ·exact QI id
  ·exact JS id row
 cases r with
 |tup rs=>
  match rs,hi with
  |[],hi=>simp[JQ]at hi
  |[_],hi=>simp[JQ]at hi
  |[x,y],hi=>
   simp only[JQ]at hi
   obtain⟨b1,l1,e1,hi⟩:=QC hi
   obtain⟨b2,l2,e2,hi⟩:=QC hi
   cases hi
   rcases Y2 e1 with rfl|⟨r1,rfl⟩<;>rcases Y2 e2 with rfl|⟨r2,rfl⟩<;>
    exact KL (by simp<;>omega) (by simp)
  |[x,y,z],hi=>
   simp only[JQ]at hi
   obtain⟨b1,l1,e1,hi⟩:=QC hi
   obtain⟨b2,l2,e2,hi⟩:=QC hi
   obtain⟨b3,l3,e3,hi⟩:=QC hi
   cases hi
   rcases Y2 e1 with rfl|⟨r1,rfl⟩<;>rcases Y2 e2 with rfl|⟨r2,rfl⟩<;>rcases Y2 e3 with rfl|⟨r3,rfl⟩<;>
    exact KL (by simp<;>omega) (by simp)
  |_::_::_::_::_,hi=>simp[JQ]at hi
 |_=>exact one (by simpa only[JQ]using hi)
theorem TOp.upd {E:Env}{G:Cal->List AV->AV->Prop}{dr:Bool}{o:Oper}{id:Nat}{ev:Operand->AV}{row:Nat->Option Row}{u:Upd}(h:TOp E G dr o id ev row u):UpdOk E dr o id row u:=by
 obtain⟨dst,op,type,pos,after,guard⟩:=o
 unfold TOp at h
 cases op<;>simp only at h
 case load T x=>obtain⟨_,_,_,_,_,_,_,_,_,_,_,_,_,_,rfl⟩:=h;exact .q _
 case store T x v=>
  obtain⟨_,_,_,_,_,_,_,_,_,_,_,_,_,_,_,h3,_,_,_,_,rfl⟩:=h
  exact⟨QI id,λ_=>rfl,λ_ h=>(by cases h),λ_ _ h=>(by cases h),λj' r' h=>by cases h;rw[h3];simp⟩
 case nilCheck x=>obtain⟨_,_,_,_,rfl⟩:=h;exact .q _
 case fieldAddr T x f=>obtain⟨_,_,_,_,_,_,_,_,_,_,_,rfl⟩:=h;exact .q _
 case field T x f=>obtain⟨_,_,_,_,_,_,_,_,_,_,_,_,_,rfl⟩:=h;exact .q _
 case indexAddr T x ix=>obtain⟨_,_,_,_,_,_,_,_,_,_,_,_,_,rfl⟩:=h;exact .q _
 case buildSlice T n ps=>obtain⟨_,_,_,_,_,rfl⟩:=h;exact .m _ (JS _ _)
 case call c=>
  rcases h with⟨_,_,_,rfl⟩|⟨f,g,caps,hc,hf,⟨hdr,j,τ,rest,σ0,a,b,x,y,cl,_,hr,_,_,_,_,rfl⟩|⟨cl,r,av,news,_,_,hi,rfl⟩|⟨hdr,k,m,⟨j,τ,σ0,a,b,x,y,_,hr,_,rfl⟩|⟨j,q,p,τ,σ0,a,b,σ,x,x',z,y,_,hr,_,_,_,rfl⟩⟩⟩
  ·exact .q _
  ·refine⟨QI id,λ_=>rfl,λh1 h2=>?_,λ_ _ h=>(by cases h;rw[hr];simp),λ_ _ h=>(by cases h)⟩
   subst h1
   exfalso
   obtain⟨callee,args,ats⟩:=c
   simp only at hc
   subst hc
   cases f with
   |func h'=>
    simp only[Q3z,Bool.true_and,Bool.not_eq_false',Bool.and_eq_true]at hdr
    simp only[Q3F,mdL,Bool.false_or]at h2
    obtain rfl:=Nat.eq_of_beq_eq_true hdr.1
    rw[hdr.2]at h2
    cases h2
   |_=>simp[Q3z]at hdr
  ·exact .m _ (Q47 hi)
  ·exact⟨QI id,λh=>(by simp[hdr]at h),λh=>(by simp[hdr]at h),λ_ _ h=>(by cases h),λ_ _ h=>(by cases h;rw[hr];simp)⟩
  ·exact⟨QI id,λh=>(by simp[hdr]at h),λh=>(by simp[hdr]at h),λ_ _ h=>(by cases h),λ_ _ h=>(by cases h;rw[hr];simp)⟩
theorem AOp.upd {E:Env}{G:Cal->List AV->AV->Prop}{dr:Bool}{o:Oper}{id:Nat}{ev:Operand->AV}{row:Nat->Option Row}{u:Upd}(h:AOp E G dr o id ev row u):UpdOk E dr o id row u:=
 h.elim (λh=>h.upd) λh=>h.elim (λh=>h.upd) λh=>h.upd
theorem Q48 {E:Env}{o:Oper}(h:XR E o=false)(h':QF E o=false):(Q3F o||mdL E o)=false:=by
 unfold XR at h
 rw[h']at h
 simpa using h
theorem Q03 {E:Env}{o:Oper}{row:Nat->Option Row}{u:Upd}(h:DO E o row u=true):u.news=[]/\u.frz=[]/\u.app=none/\∃i r r',u.sto=some (i,r')/\row i=some r/\YZ E i=QR E o/\hidR E i r=true/\hidR E i r'=true:=by
 unfold DO at h
 split at h
 ·rename_i i r' h1 h2 h3 h4
  split at h
  ·rename_i r hr
   simp only[Bool.and_eq_true]at h
   exact⟨h1,h2,h3,i,r,r',h4,hr,Nat.eq_of_beq_eq_true h.1,h.2.1,h.2.2⟩
  ·cases h
 ·cases h
theorem Q2B.upd {E:Env}{G:Cal->List AV->AV->Prop}{o:Oper}{id:Nat}{ev:Operand->AV}{row:Nat->Option Row}{u:Upd}(h:Q2B E G true o id ev row u) :
  YJ id u.news/\u.frz=[]/\(∀j r,u.app=some (j,r)->row j≠none)/\(∀j r,u.sto=some (j,r)->row j≠none)/\(XR E o=false->QF E o=false->u.app=none/\u.sto=none)/\
  (QF E o=true->DO E o row u=true)/\(E.so=true->DR E u.news=true):=by
 rcases h with⟨hs,h⟩|⟨hs,⟨hf,h,hu⟩|⟨hf,hb,u0,h,hu⟩|⟨hf,hb,h,hu⟩|⟨hf,h,hu⟩⟩
 ·obtain⟨h1,h2,h3,h4,h5⟩:=h.upd
  exact⟨h1,h2 rfl,h4,h5,λh h'=>h3 rfl (Q48 h h'),λh=>(by simp[QF,hs]at h),λh=>(by rw[hs]at h;cases h)⟩
 ·obtain⟨h1,h2,h3,i,x,y,h4,h5,_⟩:=Q03 hu
  refine⟨by rw[h1];exact QI id,h2,λj r e=>(by rw[h3]at e;cases e),λj r e=>?_,λ_ e=>(by simp[QF,hs,hf]at e),λ_=>hu,λ_=>by rw[h1];rfl⟩
  rw[h4]at e
  cases e
  rw[h5];simp
 ·obtain⟨i,j,e,τ,xs,rfl,rfl⟩:=Dp hu
  exact⟨QI id,rfl,λ_ _ h=>(by cases h),λ_ _ h=>(by cases h),λ_ _=>⟨rfl,rfl⟩,λe=>(by simp[QF,hf]at e),λ_=>rfl⟩
 ·obtain⟨h1,h2,h3,h4,h5⟩:=h.upd
  have hh:∀j,Ym E row j≠none->row j≠none:=λj hj e=>by
   cases hr:Ym E row j with
   |none=>exact hj hr
   |some r=>rw[Ui E row _ _ hr]at e;cases e
  exact⟨h1,h2 rfl,λj r e=>hh j (h4 j r e),λj r e=>hh j (h5 j r e),λh h'=>h3 rfl (Q48 h h'),λe=>(by simp[QF,hf]at e),λ_=>hu⟩
 ·obtain⟨h1,h2,h3,h4,h5⟩:=h.upd
  have hh:∀j,Ym E row j≠none->row j≠none:=λj hj e=>by
   cases hr:Ym E row j with
   |none=>exact hj hr
   |some r=>rw[Ui E row _ _ hr]at e;cases e
  exact⟨h1,h2 rfl,λj r e=>hh j (h4 j r e),λj r e=>hh j (h5 j r e),λh h'=>h3 rfl (Q48 h h'),λe=>(by simp[QF,hf]at e),λ_=>hu⟩
theorem Xw {E:Env}:∀{l:List (Nat×Row)},DR E l=true->∀p∈l,hidR E p.1 p.2=false
 |[],_,p,hp=>by cases hp
 |q::l,h,p,hp=>by
  simp only[DR,Bool.and_eq_true,Bool.not_eq_true']at h
  rcases List.mem_cons.1 hp with rfl|hp
  ·exact h.1
  ·exact Xw h.2 p hp
end Go.Gx
end
section
/- A region whose order is open: any order comes to the same. -/
namespace Go.Gx
open Go.RowKit
def KT (E:Env)(G:Cal->List AV->AV->Prop)(ops:Array Oper)(rid i:Nat)(o:Oper)(s s':St):Prop:=
 J9 o s.nt=true/\((Q01 ops o s/\∃u,Q2B E (clG (clM E true ops o) G) true o ((rid*256+i)*4) (ev E s) s.row u/\s'=s.apply o.dst u)\/(Q19 ops o s/\s'=s.putO o.dst QV))
theorem Q8D {E:Env}{G:Cal->List AV->AV->Prop}{ops:Array Oper}{rid:Nat}:∀{l:List Oper} {i:Nat} {st st':St},RunR E G true ops rid l i st st'->
  ∃sq:Nat->St,sq i=st/\sq (i+l.length)=st'/\∀k o,l[k]? =some o->KT E G ops rid (i+k) o (sq (i+k)) (sq (i+k+1))
 |[],i,st,st',h=>by
  cases h
  exact⟨λ_=>st,rfl,rfl,λk o h=>by simp at h⟩
 |o::l,i,st,st',h=>by
  have go:∀s1,KT E G ops rid i o st s1->RunR E G true ops rid l (i+1) s1 st'->∃sq:Nat->St,sq i=st/\sq (i+(o::l).length)=st'/\∀k o',(o::l)[k]? =some o'->KT E G ops rid (i+k) o' (sq (i+k)) (sq (i+k+1)):=λs1 h1 h2=>by
   obtain⟨sq,h3,h4,h5⟩:=Q8D h2
   refine⟨λj=>if j=i then st else sq j,by simp,?_,λk o' hk=>?_⟩
   ·show(if i+(o::l).length=i then st else sq (i+(o::l).length))=st'
    rw[if_neg (by simp),<-h4,List.length_cons]
    congr 1
    omega
   ·cases k with
    |zero=>
     simp only[List.getElem?_cons_zero,Option.some.injEq]at hk
     subst hk
     simp only[Nat.add_zero,if_true]
     rw[if_neg (by omega),h3]
     exact h1
    |succ k=>
     have:=h5 k o' (by simpa using hk)
     show KT E G ops rid (i+(k+1)) o' (if i+(k+1)=i then st else sq (i+(k+1))) (if i+(k+1)+1=i then st else sq (i+(k+1)+1))
     rw[if_neg (by omega),if_neg (by omega)]
     rw[show i+(k+1)=i+1+k by omega]
     exact this
  cases h with
  |yes _ _ _ _ _ u hd hw h hr=>exact go _ ⟨hd,.inl ⟨hw,u,h,rfl⟩⟩ hr
  |mv _ _ _ _ _ _ hdr=>cases hdr
  |no _ _ _ _ _ hd hw hr=>exact go _ ⟨hd,.inr ⟨hw,rfl⟩⟩ hr
theorem Qs (st:St)(d:Option Nat)(b:AV):(st.putO d b).row=st.row/\(st.putO d b).nt=st.nt:=by cases d<;>exact⟨rfl,rfl⟩
theorem QU (st:St)(d:Option Nat)(b:AV)(t:Nat):(st.putO d b).slot t=if d=some t then b else st.slot t:=by
 cases d with
 |none=>simp[St.putO]
 |some d=>
  simp only[St.putO,St.put,Qn]
  by_cases e:t=d
  ·subst e;simp
  ·have:¬d=t:=λh=>e h.symm
   simp[e,this]
theorem YN:∀(l:List (Nat×Row)) (st:St),(st.setRows l).nt=st.nt/\(st.setRows l).slot=st.slot
 |[],st=>⟨rfl,rfl⟩
 |p::l,st=>YN l (st.setRow p.1 p.2)
theorem Q04 (st:St)(d:Option Nat)(u:Upd):(st.apply d u).nt=st.nt:=by
 unfold St.apply
 rw[(Qs _ _ _).2]
 have h1:((st.freeze u.frz).setRows u.news).nt=st.nt:=by rw[(YN _ _).1,(QL _ _).2]
 cases u.sto with
 |none=>
  cases u.app with
  |none=>exact h1
  |some p=>obtain⟨j,r⟩:=p;exact h1
 |some q=>
  obtain⟨k,s⟩:=q
  cases u.app with
  |none=>exact h1
  |some p=>obtain⟨j,r⟩:=p;exact h1
structure Ordered (E:Env)(ops:Array Oper)(pre:Nat->Nat->Prop):Prop where
 lt:∀i o,ops[i]? =some o->∀e∈o.after,Region.binds .any e=true->e.on<i
 step:∀i o j,ops[i]? =some o->pre i j->∃e∈o.after,Region.binds .any e=true/\(e.on=j\/pre e.on j)
 ord:∀i j o p,ops[i]? =some o->ops[j]? =some p->i≠j->pre (max i j) (min i j)\/(XR E o=false/\∀d,p.dst=some d->d ∉ o.looksAt ops/\o.dst≠some d)
theorem Ds {B:List Nat}{j:Nat}:∀(l:List Edge) (s:Nat),(l.foldl (λs e=>if Region.binds .any e then s|||2 ^ e.on|||B.getD e.on 0 else s) s).testBit j=true->s.testBit j=true\/∃e∈l,Region.binds .any e=true/\(e.on=j\/(B.getD e.on 0).testBit j=true)
 |[],s,h=>.inl h
 |e::l,s,h=>by
  rcases Ds l _ h with h1|⟨e',he,h1⟩
  ·simp only at h1
   by_cases hb:Region.binds .any e=true
   ·rw[if_pos hb,Nat.testBit_or,Nat.testBit_or,Nat.testBit_two_pow]at h1
    simp only[Bool.or_eq_true,decide_eq_true_eq]at h1
    rcases h1 with(h1|h1)|h1
    ·exact .inl h1
    ·exact .inr ⟨e,List.mem_cons_self,hb,.inl h1⟩
    ·exact .inr ⟨e,List.mem_cons_self,hb,.inr h1⟩
   ·rw[if_neg hb]at h1
    exact .inl h1
  ·exact .inr ⟨e',List.mem_cons_of_mem _ he,h1⟩
theorem Q05 {E:Env}{ops:Array Oper}(h:XS E ops=true):Ordered E ops λi j=>((Region.before ops).toList.getD i 0).testBit j=true:=by
 unfold XS at h
 simp only[List.all_eq_true,List.mem_range]at h
 have row:∀i o,ops[i]? =some o->(∀e∈o.after,Region.binds .any e=true->e.on<i)/\
   ((Region.before ops).toList.getD i 0=o.after.toList.foldl (λs e=>if Region.binds .any e then s|||2 ^ e.on|||(Region.before ops).toList.getD e.on 0 else s) 0)/\
   ∀j p,ops[j]? =some p->inOrder (Region.before ops).toList i j=true\/(XR E o=false/\∀d,p.dst=some d->d ∉ o.looksAt ops/\o.dst≠some d):=λi o hi=>by
  have h1:=h i (Array.getElem?_eq_some_iff.1 hi).1
  rw[hi]at h1
  simp only[Bool.and_eq_true,List.all_eq_true,List.mem_range]at h1
  obtain⟨⟨⟨_,h2⟩,h3⟩,h4⟩:=h1
  refine⟨λe he hb=>?_,Nat.eq_of_beq_eq_true h3,λj p hj=>?_⟩
  ·have:=h2 e (by simpa using he)
   rw[hb]at this
   simpa using this
  ·have h5:=h4 j (Array.getElem?_eq_some_iff.1 hj).1
   rw[hj]at h5
   simp only[Bool.or_eq_true,Bool.and_eq_true,Bool.not_eq_true']at h5
   rcases h5 with h5|⟨h5,h6⟩
   ·exact .inl h5
   ·refine .inr ⟨h5,λd hd=>?_⟩
    rw[hd]at h6
    simp only[Bool.and_eq_true,Bool.not_eq_true',bne_iff_ne,looks]at h6
    exact⟨by simpa using h6.1,h6.2⟩
 refine⟨λi o hi=>(row i o hi).1,λi o j hi hp=>?_,λi j o p hi hj hne=>?_⟩
 ·rw[(row i o hi).2.1]at hp
  rcases Ds _ _ hp with h1|⟨e,he,h1⟩
  ·simp at h1
  ·exact⟨e,by simpa using he,h1⟩
 ·rcases(row i o hi).2.2 j p hj with h1|h1
  ·unfold inOrder at h1
   simp only[Bool.or_eq_true]at h1
   rcases h1 with h1|h1
   ·exact absurd (Nat.eq_of_beq_eq_true h1) hne
   ·exact .inl h1
  ·exact .inr h1
theorem Q4R {E:Env}{ops:Array Oper}{pre:Nat->Nat->Prop}(ho:Ordered E ops pre){X:Nat->Prop}(hlt:∀i,X i->i<ops.size)(hX:∀i o,ops[i]? =some o->X i->∀e∈o.after,Region.binds .any e=true->X e.on):∀(i:Nat) (o:Oper) (j:Nat),ops[i]? =some o->pre i j->
  (∀e∈o.after,Region.binds .any e=true->X e.on)->X j:=by
 intro i
 induction i using Nat.strongRecOn with
 |_ i ih=>
  intro o j hi hp hall
  obtain⟨e,he,hb,h1⟩:=ho.step i o j hi hp
  have hXe:=hall e he hb
  rcases h1 with h1|h1
  ·exact h1▸hXe
  ·have hlt':=hlt _ hXe
   have hoe:ops[e.on]? =some ops[e.on]:=Array.getElem?_eq_getElem hlt'
   exact ih e.on (ho.lt i o hi e he hb) _ j hoe h1 (hX _ _ hoe hXe)
end Go.Gx
end
section
/- A region whose order is open: any order comes to the same. The states between. -/
namespace Go.Gx
open Go.RowKit
section
variable {E:Env} {G:Cal->List AV->AV->Prop} {ops:Array Oper} {rid:Nat}
def Site (rid i id:Nat):Prop:=(rid*256+i)*4<=id/\id<(rid*256+i)*4+4
theorem Site.ne {rid i j id:Nat}(h:Site rid i id)(h':Site rid j id):i=j:=by unfold Site at*;omega
def Q8e (E:Env)(o:Oper)(row row':Nat->Option Row):Prop:=∀id,row' id=row id\/(YZ E id=QR E o/\∃r r',row id=some r/\row' id=some r'/\hidR E id r=true/\hidR E id r'=true)
theorem Uj {i:Nat}{o:Oper}{s s':St}(h:KT E G ops rid i o s s'):s'.nt=s.nt/\(∀k,i<k->(∀id,Site rid k id->s.row id=none)->∀id,Site rid k id->s'.row id=none)/\
  (XR E o=false->(∀id,Site rid i id->s.row id=none)->
   (QF E o=false->Yh s.row s'.row/\(∀id,¬Site rid i id->s'.row id=s.row id)/\(E.so=true->∀id r,Site rid i id->s'.row id=some r->hidR E id r=false))/\
   (QF E o=true->Q8e E o s.row s'.row)/\
   ∃v,∀t,s'.slot t=if o.dst=some t then v else s.slot t):=by
 obtain⟨hd,⟨hw,u,h,rfl⟩|⟨hw,rfl⟩⟩:=h
 ·obtain⟨h1,hz,h4,h5,h3,hsf,hnc⟩:=h.upd
  refine⟨Q04 _ _ _,λk hk hf id hid=>?_,λhq hf=>?_⟩
  ·have e1:((s.freeze u.frz).setRows u.news).row id=none:=by
    rw[hz]
    rcases(h1 s).2.1 id with e|⟨p,hp,e⟩
    ·exact e.trans (hf id hid)
    ·have:=((h1 s).1 p hp).2
     unfold Site at hid
     omega
   have e2:∀s2:St,s2.row id=none->∀j r,s.row j≠none->(s2.setRow j r).row id=none:=λs2 h6 j r h7=>by
    rw[Q1,if_neg (by rintro rfl;exact h7 (hf id hid))]
    exact h6
   have e3:∀(s2:St) (j:Nat),s2.row id=none->(s2.kill j (j+1)).row id=none:=λs2 j h6=>by
    show Jj j (j+1) id (s2.row id)=none
    rw[h6,Ji]
   unfold St.apply
   rw[(Qs _ _ _).1]
   cases hsto:u.sto with
   |none=>
    cases happ:u.app with
    |none=>exact e1
    |some p=>obtain⟨j,r⟩:=p;exact e2 _ (e3 _ _ e1) _ _ (h4 j r happ)
   |some q=>
    obtain⟨k',r'⟩:=q
    cases happ:u.app with
    |none=>exact e2 _ e1 _ _ (h5 k' r' hsto)
    |some p=>obtain⟨j,r⟩:=p;exact e2 _ (e2 _ (e3 _ _ e1) _ _ (h4 j r happ)) _ _ (h5 k' r' hsto)
  ·cases hso:QF E o with
   |false=>
    obtain⟨h6,h7⟩:=h3 hq hso
    have e:s.apply o.dst u=(s.setRows u.news).putO o.dst u.v:=by
     unfold St.apply
     rw[hz,h6,h7]
     rfl
    rw[e]
    refine⟨λ_=>⟨λid r hr=>?_,λid hid=>?_,λhE id r hid hr=>?_⟩,λh=>(by cases h),u.v,λt=>?_⟩
    ·rw[(Qs _ _ _).1]
     rcases(h1 s).2.1 id with e|⟨p,hp,e⟩
     ·rw[e];exact hr
     ·have:=hf id (by have:=((h1 s).1 p hp).2;unfold Site;omega)
      rw[hr]at this
      cases this
    ·rw[(Qs _ _ _).1]
     rcases(h1 s).2.1 id with e|⟨p,hp,e⟩
     ·exact e
     ·exact absurd (show Site rid i id by have:=((h1 s).1 p hp).2;unfold Site;omega) hid
    ·rw[(Qs _ _ _).1]at hr
     rcases(h1 s).2.1 id with e|⟨p,hp,e⟩
     ·rw[e,hf id hid]at hr;cases hr
     ·have h8:=((h1 s).1 p hp).1
      rw[e,hr]at h8
      cases h8
      have:=Xw (hnc hE) p hp
      rwa [e]at this
    ·rw[QU,(YN _ _).2]
   |true=>
    obtain⟨h6,h7,h8,j,x,y,h9,h10,h11,h12,h13⟩:=Q03 (hsf hso)
    have e:s.apply o.dst u=(s.setRow j y).putO o.dst u.v:=by
     unfold St.apply
     rw[h6,h7,h8,h9]
     rfl
    rw[e]
    refine⟨λh=>(by cases h),λ_ id=>?_,u.v,λt=>QU _ _ _ _⟩
    rw[(Qs _ _ _).1,Q1]
    by_cases e1:id=j
    ·subst e1;rw[if_pos rfl];exact .inr ⟨h11,_,_,h10,rfl,h12,h13⟩
    ·rw[if_neg e1];exact .inl rfl
 ·refine⟨(Qs _ _ _).2,λk hk hf id hid=>by rw[(Qs _ _ _).1];exact hf id hid,λ_ hf=>⟨λ_=>⟨λid r hr=>by rw[(Qs _ _ _).1];exact hr,λid _=>by rw[(Qs _ _ _).1],λ_ id r hid hr=>by rw[(Qs _ _ _).1,hf id hid]at hr;cases hr⟩,λ_ id=>.inl (by rw[(Qs _ _ _).1]),QV,λt=>QU _ _ _ _⟩⟩
variable {sq:Nat->St} (hsq:∀i o,ops[i]? =some o->KT E G ops rid i o (sq i) (sq (i+1))) (h0:∀k,k<ops.size->∀id,Site rid k id->(sq 0).row id=none)
include hsq h0
theorem Xx:∀i,i<=ops.size->∀k,i<=k->k<ops.size->∀id,Site rid k id->(sq i).row id=none
 |0,_,k,_,hk,id,hid=>h0 k hk id hid
 |i+1,hi,k,hk,hk2,id,hid=>by
  have ho:ops[i]? =some ops[i]:=Array.getElem?_eq_getElem (by omega)
  exact(Uj (hsq i _ ho)).2.1 k (by omega) (λid hid=>Xx i (by omega) k (by omega) hk2 id hid) id hid
omit h0 in
theorem G1:∀i,i<=ops.size->(sq i).nt=(sq 0).nt
 |0,_=>rfl
 |i+1,hi=>by
  have ho:ops[i]? =some ops[i]:=Array.getElem?_eq_getElem (by omega)
  rw[(Uj (hsq i _ ho)).1]
  exact G1 i (by omega)
theorem Uk {b e1:Nat}(he:e1<=ops.size)(hq:∀i o,b<=i->i<e1->ops[i]? =some o->XR E o=false){i:Nat}(hb:b<=i):∀d,i+d<=e1->
  (∀id r,(sq i).row id=some r->∃r',(sq (i+d)).row id=some r'/\(r'=r\/(hidR E id r=true/\hidR E id r'=true/\E.so=true)))/\
  (∀id,(∀k,i<=k->k<i+d->¬Site rid k id)->(sq i).row id=none->(sq (i+d)).row id=none)/\
  (E.so=true->∀id r',(sq (i+d)).row id=some r'->hidR E id r'=true->∃r,(sq i).row id=some r/\hidR E id r=true)/\
  (∀id,(∀j o,i<=j->j<i+d->ops[j]? =some o->QF E o=true->QR E o≠YZ E id)->∀r,(sq i).row id=some r->(sq (i+d)).row id=some r)
 |0,_=>⟨λid r h=>⟨r,h,.inl rfl⟩,λ_ _ h=>h,λ_ id r h h'=>⟨r,h,h'⟩,λ_ _ _ h=>h⟩
 |d+1,hd=>by
  obtain⟨h1,h2,h3,h4⟩:=Uk he hq hb d (by omega)
  have ho:ops[i+d]? =some ops[i+d]:=Array.getElem?_eq_getElem (by omega)
  obtain⟨k1,k2,_⟩:=(Uj (hsq (i+d) _ ho)).2.2 (hq (i+d) _ (by omega) (by omega) ho) (λid hid=>Xx hsq h0 (i+d) (by omega) (i+d) (Nat.le_refl _) (by omega) id hid)
  cases hso:QF E ops[i+d]with
  |false=>
   obtain⟨k3,k4,k5⟩:=k1 hso
   refine⟨λid r h=>?_,λid hid h=>?_,λhE id r' h h'=>?_,λid hn r h=>k3 id r (h4 id (λj o a b c=>hn j o a (by omega) c) r h)⟩
   ·obtain⟨r',h5,h6⟩:=h1 id r h
    exact⟨r',k3 id r' h5,h6⟩
   ·exact(k4 id (hid (i+d) (by omega) (by omega))).trans (h2 id (λk a b=>hid k a (by omega)) h)
   ·by_cases hsite:Site rid (i+d) id
    ·rw[k5 hE id r' hsite h]at h';cases h'
    ·exact h3 hE id r' ((k4 id hsite).symm.trans h) h'
  |true=>
   have k3:=k2 hso
   refine⟨λid r h=>?_,λid hid h=>?_,λhE id r' h h'=>?_,λid hn r h=>?_⟩
   ·obtain⟨r',h5,h6⟩:=h1 id r h
    rcases k3 id with e|⟨_,r1,r2,e1,e2,e3,e4⟩
    ·exact⟨r',e.trans h5,h6⟩
    ·rw[h5]at e1
     cases e1
     refine⟨r2,e2,.inr ⟨?_,e4,by simp[QF]at hso;exact hso.1⟩⟩
     rcases h6 with rfl|h6
     ·exact e3
     ·exact h6.1
   ·have h5:=h2 id (λk a b=>hid k a (by omega)) h
    rcases k3 id with e|⟨_,r1,r2,e1,e2,e3,e4⟩
    ·exact e.trans h5
    ·rw[h5]at e1;cases e1
   ·rcases k3 id with e|⟨_,r1,r2,e1,e2,e3,e4⟩
    ·exact h3 hE id r' (e.symm.trans h) h'
    ·exact h3 hE id r1 e1 e3
   ·have h5:=h4 id (λj o a b c=>hn j o a (by omega) c) r h
    rcases k3 id with e|⟨e,_⟩
    ·exact e.trans h5
    ·exact absurd e.symm (hn (i+d) _ (by omega) (by omega) ho hso)
theorem Q06 {b e1:Nat}(he:e1<=ops.size)(hq:∀i o,b<=i->i<e1->ops[i]? =some o->XR E o=false){i:Nat}(hb:b<=i)(hi:i<e1){o:Oper}(ho:ops[i]? =some o)(t:Nat)(ht:o.dst≠some t):(sq (i+1)).slot t=(sq i).slot t:=by
 obtain⟨_,_,v,hv⟩:=(Uj (hsq i _ ho)).2.2 (hq i o hb hi ho) (λid hid=>Xx hsq h0 i (by omega) i (Nat.le_refl _) (by omega) id hid)
 rw[hv,if_neg ht]
end
def rx (E:Env)(sq:Nat->St)(m:Nat->Nat)(e1:Nat):Nat->Option Row:=λid=>match(sq e1).row id with
 |some r=>match hidR E id r with
  |true=>(sq (m (YZ E id))).row id
  |false=>some r
 |none=>none
theorem Gj (E:Env)(sq:Nat->St){m:Nat->Nat}{e1:Nat}(h:∀c,m c=e1):rx E sq m e1=(sq e1).row:=by
 funext id
 unfold rx
 cases hr:(sq e1).row id with
 |none=>rfl
 |some r=>
  cases hc:hidR E id r
  ·simp only[hc]
  ·simp only[hc,h,hr]
theorem Dt {E:Env}{sq:Nat->St}{m:Nat->Nat}{e1 id:Nat}{r:Row}(h:(sq e1).row id=some r)(hc:hidR E id r=true):rx E sq m e1 id=(sq (m (YZ E id))).row id:=by unfold rx;simp only[h,hc]
theorem Ko {E:Env}{sq:Nat->St}{m:Nat->Nat}{e1 id:Nat}{r:Row}(h:(sq e1).row id=some r)(hc:hidR E id r=false):rx E sq m e1 id=some r:=by unfold rx;simp only[h,hc]
theorem Gk {E:Env}{sq:Nat->St}{m:Nat->Nat}{e1 id:Nat}(h:(sq e1).row id=none):rx E sq m e1 id=none:=by unfold rx;simp only[h]
section
variable {E:Env} {sq:Nat->St} {i e1:Nat} {m:Nat->Nat} (h1:∀id r,(sq i).row id=some r->∃r',(sq e1).row id=some r'/\(r'=r\/(hidR E id r=true/\hidR E id r'=true/\E.so=true)))
include h1
theorem Q8T (hm:∀id r,(sq i).row id=some r->(sq (m (YZ E id))).row id=some r):Yh (sq i).row (rx E sq m e1):=λid r h=>by
 obtain⟨r',h2,h3⟩:=h1 id r h
 cases hc:hidR E id r' with
 |true=>rw[Dt h2 hc];exact hm id r h
 |false=>
  rw[Ko h2 hc]
  rcases h3 with rfl|h3
  ·rfl
  ·rw[h3.2.1]at hc;cases hc
theorem Q72 {c:Nat}(hm:m c=i):Yh (UR E c (sq i).row) (UR E c (rx E sq m e1)):=λid r h=>by
 have h2:=Do E c _ _ _ h
 have hc:=Q6Z h
 obtain⟨r',h3,h4⟩:=h1 id r h2
 cases hh:hidR E id r' with
 |true=>
  have hr:hidR E id r=true:=by
   rcases h4 with rfl|h4
   ·exact hh
   ·exact h4.1
  have hcl:YZ E id=c:=by
   rw[hr]at hc
   simp only[Bool.true_and,Bool.not_eq_false']at hc
   exact Nat.eq_of_beq_eq_true hc
  refine Q31 ?_ hc
  rw[Dt h3 hh,hcl,hm]
  exact h2
 |false=>
  refine Q31 ?_ hc
  rw[Ko h3 hh]
  rcases h4 with rfl|h4
  ·rfl
  ·rw[h4.2.1]at hh;cases hh
theorem Q1V:Yh (Ym E (sq i).row) (Ym E (rx E sq m e1)):=λid r h=>by
 have h2:=Ui E _ _ _ h
 have hc:hidR E id r=false:=by
  unfold Ym at h
  rw[h2]at h
  cases hc:hidR E id r with
  |true=>simp only[hc]at h;cases h
  |false=>rfl
 obtain⟨r',h3,h4⟩:=h1 id r h2
 rcases h4 with rfl|h4
 ·exact Q8d (Ko h3 hc) hc
 ·rw[h4.1]at hc;cases hc
end
def ovl (ops:Array Oper)(sq:Nat->St)(X:Nat->Bool)(b:Nat):Nat->Nat->AV
 |0,t=>(sq b).slot t
 |m+1,t=>match X (b+m),ops[b+m]? with
  |true,some o=>if o.dst=some t then(sq (b+m+1)).slot t else ovl ops sq X b m t
  |_,_=>ovl ops sq X b m t
section
variable {ops:Array Oper} {sq:Nat->St} {X:Nat->Bool} {b:Nat}
theorem YX {m t:Nat}(h:X (b+m)=false\/∀o,ops[b+m]? =some o->o.dst≠some t):ovl ops sq X b (m+1) t=ovl ops sq X b m t:=by
 simp only[ovl]
 split
 ·rename_i o h1 h2
  rcases h with h|h
  ·rw[h]at h1;cases h1
  ·rw[if_neg (h o h2)]
 ·rfl
theorem KU {m t:Nat}{o:Oper}(h:X (b+m)=true)(ho:ops[b+m]? =some o)(hd:o.dst=some t):ovl ops sq X b (m+1) t=(sq (b+m+1)).slot t:=by
 simp only[ovl,h,ho,hd,if_true]
theorem KV {k t:Nat}:∀{m:Nat},k<=m->(∀i,b+k<=i->i<b+m->X i=false\/∀o,ops[i]? =some o->o.dst≠some t)->ovl ops sq X b m t=ovl ops sq X b k t
 |0,h,_=>by
  have:k=0:=by omega
  subst this;rfl
 |m+1,h,hn=>by
  by_cases e:k=m+1
  ·subst e;rfl
  ·rw[YX (hn (b+m) (by omega) (by omega))]
   exact KV (by omega) λi h1 h2=>hn i h1 (by omega)
theorem Gl {t:Nat}:∀{m:Nat},(∀i,b<=i->i<b+m->∃o,ops[i]? =some o/\(o.dst=some t->X i=true)/\(o.dst≠some t->(sq (i+1)).slot t=(sq i).slot t))->ovl ops sq X b m t=(sq (b+m)).slot t
 |0,_=>rfl
 |m+1,h=>by
  obtain⟨o,ho,h1,h2⟩:=h (b+m) (by omega) (by omega)
  by_cases hd:o.dst=some t
  ·rw[KU (h1 hd) ho hd];rfl
  ·rw[YX (.inr λo' ho'=>by rw[ho]at ho';cases ho';exact hd),Gl λi hi1 hi2=>h i hi1 (by omega)]
   exact(h2 hd).symm
theorem Q1b {X':Nat->Bool}{t:Nat}:∀{m:Nat},(∀i,b<=i->i<b+m->X' i=X i\/∀o,ops[i]? =some o->o.dst≠some t)->ovl ops sq X' b m t=ovl ops sq X b m t
 |0,_=>rfl
 |m+1,h=>by
  have ih:=Q1b (m:=m) λi h1 h2=>h i h1 (by omega)
  rcases h (b+m) (by omega) (by omega)with h1|h1
  ·simp only[ovl,h1,ih]
  ·rw[YX (.inr h1),YX (.inr h1),ih]
end
end Go.Gx
end
section
/- A region whose order is open: any order comes to the same. -/
namespace Go.Gx
open Go.RowKit
theorem Sim.rows {w0:World}{B:Old}{pv:Nat->Value}{S:Nat->Prop}{ρ:Nat->Option Loc}{st:St}{a:Act}{w:World}(h:Sim w0 B pv S ρ st a w){row':Nat->Option Row}(hr:∀id l,ρ id=some l->row' id=st.row id):Sim w0 B pv S ρ ⟨st.slot,row',st.nt⟩ a w:=
 h.grow h.below (Nat.le_refl _) (λ_ _=>rfl) (λ_ h=>h) (λ_ h=>.inl h) (λid l h1=>⟨h1,hr id l h1⟩) (λid r l h1 h2=>by rw[h1]at h2;cases h2) (λid id' g c c' h1 _ h2=>by rw[h1]at h2;cases h2)
theorem Sim.slotsEq {w0:World}{B:Old}{pv:Nat->Value}{S:Nat->Prop}{ρ:Nat->Option Loc}{st:St}{a:Act}{w:World}(h:Sim w0 B pv S ρ st a w){st':St}(h1:∀t,st'.slot t=st.slot t)(h2:st'.row=st.row)(h3:st'.nt=st.nt):Sim w0 B pv S ρ st' a w:=
 h.cong (funext h1) h2 h3
theorem Q4S {E:Env}{ops:Array Oper}:∀(d b:Nat),b+d=ops.size->∃e1,b<=e1/\e1<=ops.size/\(∀i o,b<=i->i<e1->ops[i]? =some o->XR E o=false)/\(e1=ops.size\/∃o,ops[e1]? =some o/\XR E o=true)
 |0,b,h=>⟨b,Nat.le_refl _,by omega,λi o h1 h2=>by omega,.inl (by omega)⟩
 |d+1,b,h=>by
  have ho:ops[b]? =some ops[b]:=Array.getElem?_eq_getElem (by omega)
  cases hb:XR E ops[b]with
  |true=>exact⟨b,Nat.le_refl _,by omega,λi o h1 h2=>by omega,.inr ⟨_,ho,hb⟩⟩
  |false=>
   obtain⟨e1,h1,h2,h3,h4⟩:=Q4S (E:=E) (ops:=ops) d (b+1) (by omega)
   refine⟨e1,by omega,h2,λi o h5 h6 h7=>?_,h4⟩
   by_cases e:i=b
   ·subst e;rw[ho]at h7;cases h7;exact hb
   ·exact h3 i o (by omega) h6 h7
theorem Q07 {E:Env}{ops:Array Oper}(c:Nat):∀(d b:Nat),b+d<=ops.size->∃m,b<=m/\m<=b+d/\(∀i o,b<=i->i<m->ops[i]? =some o->QF E o=true->QR E o≠c)/\(m=b+d\/∃o,ops[m]? =some o/\QF E o=true/\QR E o=c)
 |0,b,h=>⟨b,Nat.le_refl _,Nat.le_refl _,λi o h1 h2=>by omega,.inl rfl⟩
 |d+1,b,h=>by
  have ho:ops[b]? =some ops[b]:=Array.getElem?_eq_getElem (by omega)
  by_cases hb:QF E ops[b]=true/\QR E ops[b]=c
  ·exact⟨b,Nat.le_refl _,by omega,λi o h1 h2=>by omega,.inr ⟨_,ho,hb⟩⟩
  ·obtain⟨m,h1,h2,h3,h4⟩:=Q07 (E:=E) (ops:=ops) c d (b+1) (by omega)
   refine⟨m,by omega,by omega,λi o h5 h6 h7 h8=>?_,h4.imp (λe=>by omega) _root_.id⟩
   by_cases e:i=b
   ·subst e;rw[ho]at h7;cases h7;exact λe=>hb ⟨h8,e⟩
   ·exact h3 i o (by omega) h6 h7 h8
theorem Q5L {E:Env}{ops:Array Oper}{b e1:Nat}(hb:b<=e1)(he:e1<=ops.size):∃m:Nat->Nat,∀c,b<=m c/\m c<=e1/\(∀i o,b<=i->i<m c->ops[i]? =some o->QF E o=true->QR E o≠c)/\(m c=e1\/∃o,ops[m c]? =some o/\QF E o=true/\QR E o=c):=by
 have h:∀c,∃m,b<=m/\m<=e1/\(∀i o,b<=i->i<m->ops[i]? =some o->QF E o=true->QR E o≠c)/\(m=e1\/∃o,ops[m]? =some o/\QF E o=true/\QR E o=c):=λc=>by
  have:=Q07 (E:=E) (ops:=ops) c (e1-b) b (by omega)
  rwa [show b+(e1-b)=e1 by omega]at this
 exact⟨λc=>Classical.choose (h c),λc=>Classical.choose_spec (h c)⟩
theorem G2 {ops:Array Oper}{o:Oper}{s s':St}(h:∀t∈o.looksAt ops,s'.slot t=s.slot t)(hw:Q01 ops o s):Q01 ops o s':=by
 rcases hw with hw|⟨j,b,g,d,h1,h2,h3,h4⟩
 ·exact .inl hw
 ·refine .inr ⟨j,b,g,d,h1,h2,h3,?_⟩
  rw[h d (by simp[Oper.looksAt,h1,h2,h3])];exact h4
theorem G3 {ops:Array Oper}{o:Oper}{s s':St}(h:∀t∈o.looksAt ops,s'.slot t=s.slot t)(hw:Q19 ops o s):Q19 ops o s':=by
 obtain⟨j,b,h1,h2|⟨g,h2,h3|⟨d,h3,h4⟩⟩⟩:=hw
 ·exact⟨j,b,h1,.inl h2⟩
 ·exact⟨j,b,h1,.inr ⟨g,h2,.inl h3⟩⟩
 ·refine⟨j,b,h1,.inr ⟨g,h2,.inr ⟨d,h3,?_⟩⟩⟩
  rw[h d (by simp[Oper.looksAt,h1,h2,h3])];exact h4
theorem Q1W {l:List (Nat×Row)}{st:St}(h:∀p∈l,st.row p.1=some p.2):st.setRows l=st:=by
 induction l with
 |nil=>rfl
 |cons p l ih=>
  have e:st.setRow p.1 p.2=st:=by
   have:(st.setRow p.1 p.2).row=st.row:=by
    funext j
    rw[Q1]
    by_cases e:j=p.1
    ·subst e;rw[if_pos rfl,h p List.mem_cons_self]
    ·rw[if_neg e]
   cases st
   simp only[St.setRow]at this ⊢
   rw[this]
  show(st.setRow p.1 p.2).setRows l=st
  rw[e]
  exact ih λq hq=>h q (List.mem_cons_of_mem _ hq)
section
variable {P:Program} {E:Env} {w0:World} {B:Old} {pv:Nat->Value} {G:Cal->List AV->AV->Prop} {Q:Exit->Act->World->Prop} {ops:Array Oper} {rid:Nat} {S0:Nat->Prop} {sq:Nat->St} {pre:Nat->Nat->Prop}
def Inv (E:Env)(w0:World)(B:Old)(pv:Nat->Value)(ops:Array Oper)(rid:Nat)(S0:Nat->Prop)(sq:Nat->St)(X:Nat->Bool)(S:Nat->Prop)(ρ:Nat->Option Loc)(a:Act)(w:World):Prop:=
 ∃b,∃m:Nat->Nat,∃e1,b<=e1/\(∀c,b<=m c/\m c<=e1)/\e1<=ops.size/\(∀i,i<b->X i=true)/\(∀i,e1<=i->X i=false)/\(∀i o,b<=i->i<e1->ops[i]? =some o->XR E o=false)/\(e1=ops.size\/∃o,ops[e1]? =some o/\XR E o=true)/\
  (∀i o,b<=i->i<m (QR E o)->ops[i]? =some o->QF E o=true->X i=true)/\(∀i o,m (QR E o)<=i->ops[i]? =some o->QF E o=true->X i=false)/\(∀c,m c=e1\/∃o,ops[m c]? =some o/\QF E o=true/\QR E o=c)/\
  Sim w0 B pv S ρ ⟨ovl ops sq X b (e1-b),rx E sq m e1,(sq 0).nt⟩ a w/\Qr E pv S w/\(∀i,i<ops.size->X i=false->∀id,Site rid i id->ρ id=none)/\
  (∀i o,ops[i]? =some o->X i=true->∀e∈o.after,Region.binds .any e=true->X e.on=true)/\Grew B S0 S
variable (hE:EnvOk P E) (hG:GOk P E pv G) (hO:Ordered E ops pre) (hSo:∀i j o p,ops[i]? =some o->ops[j]? =some p->QF E o=true->QF E p=true->QR E o=QR E p->i≠j->pre (max i j) (min i j)) (hsq:∀i o,ops[i]? =some o->KT E G ops rid i o (sq i) (sq (i+1))) (h0:∀k,k<ops.size->∀id,Site rid k id->(sq 0).row id=none)
include hsq h0
theorem Q34 {X:Nat->Bool}{b:Nat}(hb:b<=ops.size)(h1:∀i,i<b->X i=true)(h2:∀i,b<=i->X i=false){S:Nat->Prop}{ρ:Nat->Option Loc}{a:Act}{w:World}(hs:Sim w0 B pv S ρ (sq b) a w)(hgl:Qr E pv S w)
  (hρ:∀i,i<ops.size->X i=false->∀id,Site rid i id->ρ id=none) (hX:∀i o,ops[i]? =some o->X i=true->∀e∈o.after,Region.binds .any e=true->X e.on=true) (hS:Grew B S0 S):Inv E w0 B pv ops rid S0 sq X S ρ a w:=by
 obtain⟨e1,h3,h4,h5,h6⟩:=Q4S (E:=E) (ops:=ops) (ops.size-b) b (by omega)
 obtain⟨m,hm⟩:=Q5L (E:=E) (ops:=ops) h3 h4
 refine⟨b,m,e1,h3,λc=>⟨(hm c).1,(hm c).2.1⟩,h4,h1,λi hi=>h2 i (by omega),h5,h6,λi o a c d e=>absurd rfl ((hm _).2.2.1 i o a c d e),λi o a _ _=>h2 i (by have:=(hm (QR E o)).1;omega),λc=>(hm c).2.2.2,?_,hgl,hρ,hX,hS⟩
 obtain⟨k1,k2,_,_⟩:=Uk hsq h0 h4 h5 (Nat.le_refl b) (e1-b) (by omega)
 rw[show b+(e1-b)=e1 by omega]at k1 k2
 have hsub:=Q8T (m:=m) k1 λid r hr=>by
  obtain⟨q1,q2,q3,_⟩:=hm (YZ E id)
  have k4:=(Uk hsq h0 h4 h5 (Nat.le_refl b) (m (YZ E id)-b) (by omega)).2.2.2 id
  rw[show b+(m (YZ E id)-b)=m (YZ E id) by omega]at k4
  exact k4 (λj o a c d e=>q3 j o a c d e) r hr
 have hz:=hs.rows (row':=rx E sq m e1) λid l hl=>by
  cases hr:(sq b).row id with
  |some r=>exact hsub id r hr
  |none=>exact Gk (k2 id (λk hk1 hk2 hsite=>by
    rw[hρ k (by omega) (h2 k hk1) id hsite]at hl
    cases hl) hr)
 refine hz.slotsEq (λt=>?_) rfl (G1 hsq b hb).symm
 exact KV (k:=0) (Nat.zero_le _) λi hi _=>.inl (h2 i (by omega))
include hE hG hO hSo in
theorem Q73 {X X':Nat->Bool}{i:Nat}{o:Oper}{S:Nat->Prop}{ρ:Nat->Option Loc}{a:Act}{w:World}(hn:ops.size<=256)(h:Inv E w0 B pv ops rid S0 sq X S ρ a w)(ho:ops[i]? =some o)(hi:X i=false)(hready:∀e∈o.after,Region.binds .any e=true->X e.on=true)
  (hX':∀j,X' j=if j=i then true else X j) {K:Act->World->Prop} (hK:∀S' ρ' a' w',Inv E w0 B pv ops rid S0 sq X' S' ρ' a' w'->K a' w'):wpOp P ops Q i K a w:=by
 obtain⟨b,m,e1,hbe,hmm,hen,hX1,hX2,hq,heff,hm1,hm2,hm3,hs,hgl,hρ,hcl,hS⟩:=h
 have hin:i<ops.size:=(Array.getElem?_eq_some_iff.1 ho).1
 have hbi:b<=i:=by
  apply Classical.byContradiction
  intro hlt
  rw[hX1 i (by omega)]at hi
  cases hi
 have hXlt:∀j,X j=true->j<ops.size:=λj hj=>by
  apply Classical.byContradiction
  intro hge
  rw[hX2 j (by omega)]at hj
  cases hj
 have hpre:∀j,pre i j->X j=true:=λj hp=>Q4R hO (X:=λj=>X j=true) hXlt hcl i o j ho hp hready
 have hpost:∀j,pre j i->X j=false:=λj hp=>by
  cases hj:X j with
  |false=>rfl
  |true=>
   have hjl:=hXlt j hj
   have hoj:ops[j]? =some ops[j]:=Array.getElem?_eq_getElem hjl
   have:=Q4R hO (X:=λj=>X j=true) hXlt hcl j _ i hoj hp (hcl j _ hoj hj)
   rw[hi]at this
   cases this
 have hcl':∀j o',ops[j]? =some o'->X' j=true->∀e∈o'.after,Region.binds .any e=true->X' e.on=true:=λj o' hj hXj e he hb=>by
  rw[hX']at hXj ⊢
  split
  ·rfl
  ·by_cases e':j=i
   ·subst e';rw[ho]at hj;cases hj;exact hready e he hb
   ·rw[if_neg e']at hXj;exact hcl j o' hj hXj e he hb
 have hid:∀c,c<4->ρ ((rid*256+i)*4+c)=none:=λc hc=>hρ i hin hi _ (by unfold Site;omega)
 have hρ':∀ρ':Nat->Option Loc,(∀j,ρ j=none->¬((rid*256+i)*4<=j/\j<(rid*256+i)*4+4)->ρ' j=none)->∀j,j<ops.size->X' j=false->∀id,Site rid j id->ρ' id=none:=λρ' hk j hj hXj id hsite=>by
  rw[hX']at hXj
  split at hXj
  ·cases hXj
  ·rename_i e
   exact hk id (hρ j hj hXj id hsite) λhsite'=>e (Site.ne hsite hsite')
 have hstep:=hsq i o ho
 unfold wpOp
 rw[ho]
 simp only
 by_cases hlt:i<e1
 ·
  have hqi:=hq i o hbi hlt ho
  have hfr:=Xx hsq h0 i (by omega) i (Nat.le_refl _) hin
  have hlooks:∀t∈o.looksAt ops,ovl ops sq X b (e1-b) t=(sq i).slot t:=λt ht=>by
   have hord:∀j p,ops[j]? =some p->i≠j->p.dst=some t->pre (max i j) (min i j):=λj p hp hne hd=>by
    rcases hO.ord i j o p ho hp hne with h1|⟨_,h1⟩
    ·exact h1
    ·exact absurd ht (h1 t hd).1
   rw[KV (k:=i-b) (by omega) λj hj1 hj2=>?_,Gl λj hj1 hj2=>?_,show b+(i-b)=i by omega]
   ·have hj:j<ops.size:=by omega
    have hoj:ops[j]? =some ops[j]:=Array.getElem?_eq_getElem hj
    refine⟨_,hoj,λhd=>?_,λhd=>Q06 hsq h0 hen hq hj1 (by omega) hoj t hd⟩
    have:=hord j _ hoj (by omega) hd
    rw[Nat.max_eq_left (by omega),Nat.min_eq_right (by omega)]at this
    exact hpre j this
   ·by_cases e:j=i
    ·subst e;exact .inl hi
    ·by_cases hd:∃p,ops[j]? =some p/\p.dst=some t
     ·obtain⟨p,hp,hd⟩:=hd
      have:=hord j p hp (λh=>e h.symm) hd
      rw[Nat.max_eq_right (by omega),Nat.min_eq_left (by omega)]at this
      exact .inl (hpost j this)
     ·exact .inr λp hp hd'=>hd ⟨p,hp,hd'⟩
  obtain⟨hseg,_,hcur,_⟩:=Uk hsq h0 hen hq hbi (e1-i) (by omega)
  rw[show i+(e1-i)=e1 by omega]at hseg hcur
  obtain⟨hseg1,hnone1,hcur1,_⟩:=Uk hsq h0 hen hq (show b<=i+1 by omega) (e1-(i+1)) (by omega)
  rw[show i+1+(e1-(i+1))=e1 by omega]at hseg1 hnone1 hcur1
  have hsr:=(Uj (hsq i o ho)).2.2 hqi (λid hid=>hfr id hid)
  have hovl:∀v,(∀t,(sq (i+1)).slot t=if o.dst=some t then v else(sq i).slot t)->∀t,ovl ops sq X' b (e1-b) t=if o.dst=some t then v else ovl ops sq X b (e1-b) t:=λv hv t=>by
   by_cases hd:o.dst=some t
   ·rw[if_pos hd,KV (k:=i-b+1) (by omega) λj hj1 hj2=>?_,KU (o:=o) (by rw[show b+(i-b)=i by omega,hX',if_pos rfl]) (by rw[show b+(i-b)=i by omega];exact ho) hd,
     show b+(i-b)+1=i+1 by omega,hv,if_pos hd]
    by_cases hdj:∃p,ops[j]? =some p/\p.dst=some t
    ·obtain⟨p,hp,hdj⟩:=hdj
     rcases hO.ord i j o p ho hp (by omega)with h1|⟨_,h1⟩
     ·rw[Nat.max_eq_right (by omega),Nat.min_eq_left (by omega)]at h1
      exact .inl (by rw[hX',if_neg (by omega)];exact hpost j h1)
     ·exact absurd hd (h1 t hdj).2
    ·exact .inr λp hp hd'=>hdj ⟨p,hp,hd'⟩
   ·rw[if_neg hd]
    refine Q1b λj _ _=>?_
    by_cases e:j=i
    ·subst e
     exact .inr λp hp=>by rw[ho]at hp;cases hp;exact hd
    ·exact .inl (by rw[hX',if_neg e])
  have fin:∀S' ρ' a' w' v (m':Nat->Nat),(∀t,(sq (i+1)).slot t=if o.dst=some t then v else(sq i).slot t)->(∀c,b<=m' c/\m' c<=e1)->(∀j p,b<=j->j<m' (QR E p)->ops[j]? =some p->QF E p=true->X' j=true)->(∀j p,m' (QR E p)<=j->ops[j]? =some p->QF E p=true->X' j=false)->(∀c,m' c=e1\/∃o,ops[m' c]? =some o/\QF E o=true/\QR E o=c)->
    Sim w0 B pv S' ρ' ((⟨ovl ops sq X b (e1-b),rx E sq m' e1,(sq 0).nt⟩:St).putO o.dst v) a' w'->Qr E pv S' w'->Grew B S S'->
    (∀j,ρ j=none->¬((rid*256+i)*4<=j/\j<(rid*256+i)*4+4)->ρ' j=none)->K a' w':=λS' ρ' a' w' v m' hv n1 n3 n4 n5 hs' hgl' hS' hk=>by
   refine hK S' ρ' a' w' ⟨b,m',e1,hbe,n1,hen,λj hj=>by rw[hX',if_neg (by omega)];exact hX1 j hj,λj hj=>by rw[hX',if_neg (by omega)];exact hX2 j hj,hq,heff,n3,n4,n5,?_,hgl',hρ' ρ' hk,hcl',hS.trans hS'⟩
   refine hs'.slotsEq (λt=>?_) (Qs (⟨ovl ops sq X b (e1-b),rx E sq m' e1,(sq 0).nt⟩:St) o.dst v).1.symm (Qs (⟨ovl ops sq X b (e1-b),rx E sq m' e1,(sq 0).nt⟩:St) o.dst v).2.symm
   rw[QU]
   exact hovl v hv t
  cases hso:QF E o with
  |false=>
   obtain⟨ssub,sout,scur⟩:=hsr.1 hso
   have n3:∀j p,b<=j->j<m (QR E p)->ops[j]? =some p->QF E p=true->X' j=true:=λj p a c d e=>by
    rw[hX'];split
    ·rfl
    ·exact hm1 j p a c d e
   have n4:∀j p,m (QR E p)<=j->ops[j]? =some p->QF E p=true->X' j=false:=λj p a d e=>by
    rw[hX',if_neg (by rintro rfl;rw[ho]at d;cases d;rw[hso]at e;cases e)]
    exact hm2 j p a d e
   obtain⟨hd,⟨hw,u,hop,hsu⟩|⟨hw,hsu⟩⟩:=hstep
   ·have hwX:=G2 (s':=(⟨ovl ops sq X b (e1-b),rx E sq m e1,(sq 0).nt⟩:St)) hlooks hw
    rw[if_pos (Dq hs hwX)]
    obtain⟨hnews,hfz,_,_,hquiet,_,hnc⟩:=hop.upd
    obtain⟨happ,hsto⟩:=hquiet hqi hso
    have hev:∀x∈o.op.operands,ev E (⟨ovl ops sq X b (e1-b),rx E sq m e1,(sq 0).nt⟩:St) x=ev E (sq i) x:=λx hx=>by
     cases x with
     |tmp t=>
      refine hlooks t (List.mem_append_left _ (List.mem_filterMap.2 ⟨.tmp t,by simpa using hx,rfl⟩))
     |_=>rfl
    have hopX:Q2B E (clG (clM E true ops o) G) true o ((rid*256+i)*4) (ev E (⟨ovl ops sq X b (e1-b),rx E sq m e1,(sq 0).nt⟩:St)) (rx E sq m e1) u:=by
     rcases hop with⟨hE0,hop⟩|⟨hE1,⟨hf,_⟩|⟨hf,hb,u0,hop,hu⟩|⟨hf,hb,hop,hu⟩|⟨hf,hop,hu⟩⟩
     ·have hme':∀c,m c=e1:=λc=>by
       rcases hm3 c with e|⟨p,_,e,_⟩
       ·exact e
       ·simp[QF,hE0]at e
      refine .inl ⟨hE0,hop.mono hev λid r hr=>?_⟩
      obtain⟨r',h5,h6⟩:=hseg id r hr
      rcases h6 with rfl|h6
      ·show rx E sq m e1 id=some r'
       rw[Gj E sq hme'];exact h5
      ·rw[hE0]at h6;cases h6.2.2
     ·simp[QF,hE1,hf]at hso
     ·exact .inr ⟨hE1,.inr (.inl ⟨hf,hb,u0,hop.mono hev (Q1V hseg),hu⟩)⟩
     ·exact .inr ⟨hE1,.inr (.inr (.inl ⟨hf,hb,hop.mono hev (Q1V hseg),hu⟩))⟩
     ·exact .inr ⟨hE1,.inr (.inr (.inr ⟨hf,hop.mono hev (Q1V hseg),hu⟩))⟩
    have happly:∀s:St,s.apply o.dst u=(s.setRows u.news).putO o.dst u.v:=λs=>by
     unfold St.apply
     rw[hfz,happ,hsto]
     rfl
    refine .inl (KQ hE (hG.cl _) hs hgl (by rw[<-G1 hsq i (by omega)];exact hd) hid hopX λS' ρ' a' w' hs' hgl' hS' hk=>?_)
    rw[happly,Q1W λp hp=>?_]at hs'
    ·refine fin S' ρ' a' w' u.v m (λt=>?_) hmm n3 n4 hm3 hs' hgl' hS' hk
     rw[hsu,happly,QU,(YN _ _).2]
    ·have h9:(sq (i+1)).row p.1=some p.2:=by
      rw[hsu,happly,(Qs _ _ _).1]
      exact((hnews (sq i)).1 p hp).1
     obtain⟨r',h5,h6⟩:=hseg1 _ _ h9
     show rx E sq m e1 p.1=some p.2
     rcases h6 with rfl|h6
     ·cases hE0:E.so with
      |false=>
       have hme':∀c,m c=e1:=λc=>by
        rcases hm3 c with e|⟨p,_,e,_⟩
        ·exact e
        ·simp[QF,hE0]at e
       rw[Gj E sq hme'];exact h5
      |true=>exact Ko h5 (Xw (hnc hE0) p hp)
     ·rw[Xw (hnc h6.2.2) p hp]at h6
      cases h6.1
   ·have hwX:=G3 (s':=(⟨ovl ops sq X b (e1-b),rx E sq m e1,(sq 0).nt⟩:St)) hlooks hw
    rw[Q1U hs hwX]
    refine fin S ρ _ w QV m (λt=>?_) hmm n3 n4 hm3 (hs.put (QK (by rw[<-G1 hsq i (by omega)];exact hd)) Jm) hgl (Grew.refl _ _) (λj hj _=>hj)
    rw[hsu,QU]
  |true=>
   have him:m (QR E o)=i:=by
    apply Classical.byContradiction
    intro hne
    by_cases hlt':i<m (QR E o)
    ·rw[hm1 i o hbi hlt' ho hso]at hi;cases hi
    ·rcases hm3 (QR E o)with e|⟨p,hp,hsp,hcp⟩
     ·omega
     ·have:=hSo i _ o p ho hp hso hsp hcp.symm (λe=>hne e.symm)
      rw[Nat.max_eq_left (by omega),Nat.min_eq_right (by omega)]at this
      have h5:=hpre _ this
      rw[hm2 _ p (by rw[hcp];exact Nat.le_refl _) hp hsp]at h5
      cases h5
   have heq:i+1+(e1-(i+1))=e1:=by clear hm1 hm2 hm3 hmm;omega
   obtain⟨mn,p1,p2,p3,p4⟩:=Q07 (E:=E) (ops:=ops) (QR E o) (e1-(i+1)) (i+1) (by omega)
   rw[heq]at p2 p4
   have hEs:E.so=true:=by simp[QF]at hso;exact hso.1
   have hmc:∀c,(if c=QR E o then mn else m c)=if c=QR E o then mn else m c:=λ_=>rfl
   have n1:∀c,b<=(if c=QR E o then mn else m c)/\(if c=QR E o then mn else m c)<=e1:=λc=>by
    split
    ·exact⟨by omega,p2⟩
    ·exact hmm c
   have n3:∀j p,b<=j->j<(if QR E p=QR E o then mn else m (QR E p))->ops[j]? =some p->QF E p=true->X' j=true:=λj p a c d e=>by
    rw[hX']
    split
    ·rfl
    ·split at c
     ·rename_i hcl
      by_cases hj:j<i
      ·exact hm1 j p a (by rw[hcl,him];exact hj) d e
      ·exact absurd hcl (p3 j p (by omega) c d e)
     ·exact hm1 j p a c d e
   have n4:∀j p,(if QR E p=QR E o then mn else m (QR E p))<=j->ops[j]? =some p->QF E p=true->X' j=false:=λj p a d e=>by
    split at a
    ·rename_i hcl
     rw[hX',if_neg (by omega)]
     exact hm2 j p (by rw[hcl,him];omega) d e
    ·rename_i hcl
     rw[hX',if_neg (by rintro rfl;rw[ho]at d;cases d;exact hcl rfl)]
     exact hm2 j p a d e
   have n5:∀c,(if c=QR E o then mn else m c)=e1\/∃p,ops[(if c=QR E o then mn else m c)]? =some p/\QF E p=true/\QR E p=c:=λc=>by
    by_cases hc:c=QR E o
    ·simp only[if_pos hc]
     exact p4.imp _root_.id λ⟨p,a,d,e⟩=>⟨p,a,d,e.trans hc.symm⟩
    ·simp only[if_neg hc]
     exact hm3 c
   have hsegn:=(Uk hsq h0 hen hq (show b<=i+1 by omega) (mn-(i+1)) (by omega)).2.2.2
   rw[show i+1+(mn-(i+1))=mn by omega]at hsegn
   have hrows:∀R:Nat->Option Row,(∀id,YZ E id=QR E o->R id=(sq (i+1)).row id\/(R id=rx E sq m e1 id/\(sq (i+1)).row id=(sq i).row id))->(∀id,YZ E id≠QR E o->R id=rx E sq m e1 id)->(∀id r,(sq e1).row id=some r->hidR E id r=false->R id=some r)->(∀id,(sq e1).row id=none->R id=none)->R=rx E sq (λc=>if c=QR E o then mn else m c) e1:=λR hR hRo hR2 hR3=>by
    funext id
    cases he:(sq e1).row id with
    |none=>rw[Gk he];exact hR3 id he
    |some r=>
     cases hc:hidR E id r with
     |false=>rw[Ko he hc];exact hR2 id r he hc
     |true=>
      rw[Dt he hc]
      by_cases hcl:YZ E id=QR E o
      ·rw[if_pos hcl]
       obtain⟨r1,h5,h6⟩:=hcur1 hEs id r he hc
       rw[hsegn id (λj p a c d e=>by rw[hcl];exact p3 j p a c d e) r1 h5]
       rcases hR id hcl with e|⟨e1',e2'⟩
       ·rw[e,h5]
       ·rw[e1',Dt he hc,hcl,him,<-e2',h5]
      ·rw[if_neg hcl,hRo id hcl,Dt he hc]
   obtain⟨hd,⟨hw,u,hop,hsu⟩|⟨hw,hsu⟩⟩:=hstep
   ·have hwX:=G2 (s':=(⟨ovl ops sq X b (e1-b),rx E sq m e1,(sq 0).nt⟩:St)) hlooks hw
    rw[if_pos (Dq hs hwX)]
    have hev:∀x∈o.op.operands,ev E (⟨ovl ops sq X b (e1-b),rx E sq m e1,(sq 0).nt⟩:St) x=ev E (sq i) x:=λx hx=>by
     cases x with
     |tmp t=>
      refine hlooks t (List.mem_append_left _ (List.mem_filterMap.2 ⟨.tmp t,by simpa using hx,rfl⟩))
     |_=>rfl
    have hsf:US E o=true:=by simp[QF]at hso;exact hso.2
    obtain⟨hop0,hU⟩:U0 E (clG (clM E true ops o) G) false o ((rid*256+i)*4) (ev E (sq i)) (UR E (QR E o) (sq i).row) u/\DO E o (sq i).row u=true:=by
     rcases hop with⟨hE0,_⟩|⟨_,⟨_,h5,h6⟩|⟨hf,_⟩|⟨hf,_⟩|⟨hf,_⟩⟩
     ·rw[hEs]at hE0;cases hE0
     ·exact⟨h5,h6⟩
     ·rw[hsf]at hf;cases hf
     ·rw[hsf]at hf;cases hf
     ·rw[hsf]at hf;cases hf
    obtain⟨u1,u2,u3,j,rj,rj',u4,u5,u6,u7,u8⟩:=Q03 hU
    obtain⟨r1,hj1,hj2⟩:=hseg j rj u5
    have hj1h:hidR E j r1=true:=by
     rcases hj2 with rfl|hj2
     ·exact u7
     ·exact hj2.2.1
    have hrxj:rx E sq m e1 j=some rj:=by rw[Dt hj1 hj1h,u6,him];exact u5
    have hUx:DO E o (rx E sq m e1) u=true:=by
     unfold DO
     rw[u1,u2,u3,u4]
     simp only[hrxj,u6,u7,u8,Bool.and_true,Nat.beq_refl]
    have hopX:Q2B E (clG (clM E true ops o) G) true o ((rid*256+i)*4) (ev E (⟨ovl ops sq X b (e1-b),rx E sq m e1,(sq 0).nt⟩:St)) (rx E sq m e1) u:=
     .inr ⟨hEs,.inl ⟨hsf,hop0.mono hev (Q72 hseg him),hUx⟩⟩
    have happly:∀s:St,s.apply o.dst u=(s.setRow j rj').putO o.dst u.v:=λs=>by
     unfold St.apply
     rw[u1,u2,u3,u4]
     rfl
    have hsuj:∀id,(sq (i+1)).row id=if id=j then some rj' else(sq i).row id:=λid=>by
     rw[hsu,happly,(Qs _ _ _).1,Q1]
    refine .inl (KQ hE (hG.cl _) hs hgl (by rw[<-G1 hsq i (by omega)];exact hd) hid hopX λS' ρ' a' w' hs' hgl' hS' hk=>?_)
    rw[happly]at hs'
    have hR:((⟨ovl ops sq X b (e1-b),rx E sq m e1,(sq 0).nt⟩:St).setRow j rj').row=rx E sq (λc=>if c=QR E o then mn else m c) e1:=by
     refine hrows _ (λid _=>?_) (λid hcl=>?_) (λid r h5 h6=>?_) (λid h5=>?_)
     ·rw[Q1,hsuj]
      by_cases e:id=j
      ·rw[if_pos e,if_pos e];exact .inl rfl
      ·rw[if_neg e,if_neg e];exact .inr ⟨rfl,rfl⟩
     ·rw[Q1,if_neg (by rintro rfl;exact hcl u6)]
     ·rw[Q1,if_neg (by rintro rfl;rw[hj1]at h5;cases h5;rw[hj1h]at h6;cases h6)]
      exact Ko h5 h6
     ·rw[Q1,if_neg (by rintro rfl;rw[hj1]at h5;cases h5)]
      exact Gk h5
    refine fin S' ρ' a' w' u.v _ (λt=>?_) n1 n3 n4 n5 (hs'.slotsEq (λt=>(by rw[QU,QU];rfl)) (by rw[(Qs _ _ _).1,(Qs _ _ _).1,hR]) (by rw[(Qs _ _ _).2,(Qs _ _ _).2];rfl)) hgl' hS' hk
    rw[hsu,happly,QU];rfl
   ·have hwX:=G3 (s':=(⟨ovl ops sq X b (e1-b),rx E sq m e1,(sq 0).nt⟩:St)) hlooks hw
    rw[Q1U hs hwX]
    have hsame:∀id,(sq (i+1)).row id=(sq i).row id:=λid=>by rw[hsu,(Qs _ _ _).1]
    have hR:rx E sq m e1=rx E sq (λc=>if c=QR E o then mn else m c) e1:=hrows _ (λid _=>.inr ⟨rfl,hsame id⟩) (λid _=>rfl) (λid r h5 h6=>Ko h5 h6) (λid h5=>Gk h5)
    rw[hR]at hs
    refine fin S ρ _ w QV _ (λt=>?_) n1 n3 n4 n5 (hs.put (QK (by rw[<-G1 hsq i (by omega)];exact hd)) Jm) hgl (Grew.refl _ _) (λj hj _=>hj)
    rw[hsu,QU]
 ·
  obtain⟨oe,hoe,hee⟩:∃o,ops[e1]? =some o/\XR E o=true:=by
   rcases heff with h1|h1
   ·omega
   ·exact h1
  have hie:i=e1:=by
   apply Classical.byContradiction
   intro hne
   rcases hO.ord e1 i oe o hoe ho (λh=>hne h.symm)with h1|⟨h1,_⟩
   ·rw[Nat.max_eq_right (by omega),Nat.min_eq_left (by omega)]at h1
    have:=hpre e1 h1
    rw[hX2 e1 (Nat.le_refl _)]at this
    cases this
   ·rw[hee]at h1;cases h1
  subst hie
  rw[ho]at hoe
  cases hoe
  have hall:∀j,j<i->X j=true:=λj hj=>by
   have hoj:ops[j]? =some ops[j]:=Array.getElem?_eq_getElem (by omega)
   rcases hO.ord i j o _ ho hoj (by omega)with h1|⟨h1,_⟩
   ·rw[Nat.max_eq_left (by omega),Nat.min_eq_right (by omega)]at h1
    exact hpre j h1
   ·rw[hee]at h1;cases h1
  have hmi:∀c,m c=i:=λc=>by
   rcases hm3 c with e|⟨p,hp,hsp,hcp⟩
   ·exact e
   ·apply Classical.byContradiction
    intro hne
    have:=hm2 (m c) p (by rw[hcp];exact Nat.le_refl _) hp hsp
    rw[hall (m c) (by have:=(hmm c).2;omega)]at this
    cases this
  rw[Gj E sq hmi]at hs
  have hs2:Sim w0 B pv S ρ (sq i) a w:=hs.slotsEq (λt=>by
   have:=Gl (ops:=ops) (sq:=sq) (X:=X) (b:=b) (t:=t) (m:=i-b) λj hj1 hj2=>by
    have hoj:ops[j]? =some ops[j]:=Array.getElem?_eq_getElem (by omega)
    exact⟨_,hoj,λ_=>hall j (by omega),λhd=>Q06 hsq h0 hen hq hj1 (by omega) hoj t hd⟩
   rw[show b+(i-b)=i by omega]at this
   exact this.symm) rfl (G1 hsq i (by omega))
  have fin:∀S' ρ' a' w',Sim w0 B pv S' ρ' (sq (i+1)) a' w'->Qr E pv S' w'->Grew B S S'->(∀j,ρ j=none->¬((rid*256+i)*4<=j/\j<(rid*256+i)*4+4)->ρ' j=none)->K a' w':=λS' ρ' a' w' hs' hgl' hS' hk=>
   hK S' ρ' a' w' (Q34 hsq h0 (b:=i+1) (by omega) (λj hj=>by
    rw[hX']
    split
    ·rfl
    ·exact hall j (by omega)) (λj hj=>by rw[hX',if_neg (by omega)];exact hX2 j (by omega)) hs' hgl' (hρ' ρ' hk) hcl' (hS.trans hS'))
  obtain⟨hd,⟨hw,u,hop,hsu⟩|⟨hw,hsu⟩⟩:=hstep
  ·rw[if_pos (Dq hs2 hw)]
   refine .inl (KQ hE (hG.cl _) hs2 hgl hd hid hop λS' ρ' a' w' hs' hgl' hS' hk=>?_)
   rw[<-hsu]at hs'
   exact fin S' ρ' a' w' hs' hgl' hS' hk
  ·rw[Q1U hs2 hw]
   refine fin S ρ _ w ?_ hgl (Grew.refl _ _) (λj hj _=>hj)
   rw[hsu]
   exact hs2.put (QK hd) Jm
end
end Go.Gx
end
section
/- Regions. -/
namespace Go.Gx
open Go.RowKit
theorem Q1c {l:List Bool}:∀{i:Nat},l[i]? =some false->(l.set i true).count false+1=l.count false:=by
 induction l with
 |nil=>intro i h;simp at h
 |cons b l ih=>
  intro i h
  cases i with
  |zero=>
   simp only[List.getElem?_cons_zero,Option.some.injEq]at h
   subst h
   simp
  |succ i=>
   have:=ih (i:=i) (by simpa using h)
   simp only[List.set_cons_succ,List.count_cons]
   omega
section
variable {P:Program} {E:Env} {w0:World} {B:Old} {pv:Nat->Value} {G:Cal->List AV->AV->Prop} {Q:Exit->Act->World->Prop} {ops:Array Oper} {rid:Nat} {S0:Nat->Prop} {sq:Nat->St} {pre:Nat->Nat->Prop}
theorem any_ok (hE:EnvOk P E)(hG:GOk P E pv G)(hO:Ordered E ops pre)(hSo:∀i j o p,ops[i]? =some o->ops[j]? =some p->QF E o=true->QF E p=true->QR E o=QR E p->i≠j->pre (max i j) (min i j))(hsq:∀i o,ops[i]? =some o->KT E G ops rid i o (sq i) (sq (i+1)))(h0:∀k,k<ops.size->∀id,Site rid k id->(sq 0).row id=none)(hn:ops.size<=256)
  (hQ:∀S' ρ' a' w',Sim w0 B pv S' ρ' (sq ops.size) a' w'->Qr E pv S' w'->Grew B S0 S'->Q .normal a' w') :
  ∀(fuel:Nat) (listed:Array Bool) (S:Nat->Prop) (ρ:Nat->Option Loc) (a:Act) (w:World),listed.size=ops.size->listed.toList.count false<=fuel->Inv E w0 B pv ops rid S0 sq (λi=>listed.getD i false) S ρ a w->wpAny P .any ops Q fuel listed a w:=by
 have done:∀(listed:Array Bool) (S:Nat->Prop) (ρ:Nat->Option Loc) (a:Act) (w:World),Inv E w0 B pv ops rid S0 sq (λi=>listed.getD i false) S ρ a w->(∀i,i<ops.size->listed.getD i false=true)->Q .normal a w:=λlisted S ρ a w h hall=>by
  obtain⟨b,m,e1,hbe,hmm,hen,hX1,hX2,hq,heff,hm1,hm2,hm3,hs,hgl,hρ,hcl,hS⟩:=h
  have he:e1=ops.size:=by
   apply Classical.byContradiction
   intro hne
   have:listed.getD e1 false=false:=hX2 e1 (Nat.le_refl _)
   rw[hall e1 (by omega)]at this
   cases this
  subst he
  have hms:∀c,m c=ops.size:=λc=>by
   rcases hm3 c with e|⟨p,hp,hsp,hcp⟩
   ·exact e
   ·have:listed.getD (m c) false=false:=hm2 (m c) p (by rw[hcp];exact Nat.le_refl _) hp hsp
    rw[hall (m c) (Array.getElem?_eq_some_iff.1 hp).1]at this
    cases this
  rw[Gj E sq hms]at hs
  refine hQ S ρ a w (hs.slotsEq (λt=>?_) rfl (G1 hsq _ (Nat.le_refl _))) hgl hS
  have:=Gl (ops:=ops) (sq:=sq) (X:=λi=>listed.getD i false) (b:=b) (t:=t) (m:=ops.size-b) λj hj1 hj2=>by
   have hoj:ops[j]? =some ops[j]:=Array.getElem?_eq_getElem (by omega)
   exact⟨_,hoj,λ_=>hall j (by omega),λhd=>Q06 hsq h0 hen hq hj1 (by omega) hoj t hd⟩
  rw[show b+(ops.size-b)=ops.size by omega]at this
  exact this.symm
 have stuck:∀(listed:Array Bool),listed.size=ops.size->Region.ready .any ops listed=[]->∀i,i<ops.size->listed.getD i false=true:=λlisted hsz hr i=>by
  induction i using Nat.strongRecOn with
  |_ i ih=>
   intro hi
   apply Classical.byContradiction
   intro hne
   have hoi:ops[i]? =some ops[i]:=Array.getElem?_eq_getElem hi
   have hmem:i∈Region.ready .any ops listed:=by
    rw[mem_ready]
    refine⟨?_,ops[i],hoi,λe he hb=>?_⟩
    ·have hlt:i<listed.size:=by omega
     rw[Array.getD_eq_getD_getElem?,Array.getElem?_eq_getElem hlt]at hne ⊢
     simpa using hne
    ·have:=hO.lt i _ hoi e he hb
     exact ih e.on this (by omega)
   rw[hr]at hmem
   cases hmem
 intro fuel
 induction fuel with
 |zero=>
  intro listed S ρ a w hsz hc hI
  have hall:∀i,i<ops.size->listed.getD i false=true:=λi hi=>by
   have hlt:i<listed.size:=by omega
   rw[Array.getD_eq_getD_getElem?,Array.getElem?_eq_getElem hlt]
   cases hb:listed[i]with
   |true=>rfl
   |false=>
    have hm:false∈listed.toList:=by rw[<-hb];exact Array.getElem_mem_toList hlt
    have:=List.count_pos_iff.2 hm
    omega
  refine⟨?_,done listed S ρ a w hI hall⟩
  apply List.eq_nil_iff_forall_not_mem.2
  intro i hi
  rw[mem_ready]at hi
  obtain⟨h1,o,ho,_⟩:=hi
  have hlt:i<listed.size:=by have:=(Array.getElem?_eq_some_iff.1 ho).1;omega
  have:=hall i (by omega)
  rw[Array.getD_eq_getD_getElem?,Array.getElem?_eq_getElem hlt]at this h1
  simp at this h1
  rw[this]at h1
  cases h1
 |succ fuel ih=>
  intro listed S ρ a w hsz hc hI
  refine⟨λhr=>done listed S ρ a w hI (stuck listed hsz hr),λi hi=>?_⟩
  rw[mem_ready]at hi
  obtain⟨h1,o,ho,hall⟩:=hi
  have hlt:i<listed.size:=by have:=(Array.getElem?_eq_some_iff.1 ho).1;omega
  have hli:listed[i]=false:=by
   rw[Array.getD_eq_getD_getElem?,Array.getElem?_eq_getElem hlt]at h1
   simpa using h1
  refine Q73 hE hG hO hSo hsq h0 hn hI ho ?_ hall (X':=λj=>(listed.setIfInBounds i true).getD j false) (λj=>?_) λS' ρ' a' w' hI'=>ih _ S' ρ' a' w' (by simpa using hsz) ?_ hI'
  ·rw[Array.getD_eq_getD_getElem?,Array.getElem?_eq_getElem hlt,hli]
   rfl
  ·rw[Array.getD_eq_getD_getElem?,Array.getD_eq_getD_getElem?,Array.getElem?_setIfInBounds]
   by_cases e:j=i
   ·subst e;simp[hlt]
   ·rw[if_neg (λh=>e h.symm),if_neg e]
  ·have:=Q1c (l:=listed.toList) (i:=i) (by rw[Array.getElem?_toList,Array.getElem?_eq_getElem hlt,hli])
   rw[Array.toList_setIfInBounds]
   omega
theorem Q74 {E:Env}{ops:Array Oper}(h:E.so=true->Q6h E ops=true):∀i j o p,ops[i]? =some o->ops[j]? =some p->QF E o=true->QF E p=true->QR E o=QR E p->i≠j->((Region.before ops).toList.getD (max i j) 0).testBit (min i j)=true:=λi j o p hi hj h1 h2 hcl hne=>by
 simp only[QF,Bool.and_eq_true]at h1 h2
 have h:=h h1.1
 unfold Q6h at h
 simp only[List.all_eq_true,List.mem_range]at h
 have h3:=h i (Array.getElem?_eq_some_iff.1 hi).1
 rw[hi]at h3
 simp only[h1.2,Bool.not_true,Bool.false_or,List.all_eq_true,List.mem_range]at h3
 have h4:=h3 j (Array.getElem?_eq_some_iff.1 hj).1
 rw[hj]at h4
 simp only[h2.2,hcl,Nat.beq_refl,Bool.not_true,Bool.false_or,inOrder,Bool.or_eq_true]at h4
 exact h4.resolve_left λe=>hne (Nat.eq_of_beq_eq_true e)
theorem Q5M (hE:EnvOk P E)(hG:GOk P E pv G){dr:Bool}(hn:ops.size<=256)(hm:rid*1024+1024<=Q7)(hdr:dr=true->XS E ops=true)(hso:dr=true->E.so=true->Q6h E ops=true){S:Nat->Prop}{ρ:Nat->Option Loc}{st st':St}{a:Act}{w:World}
  (hr:RunR E G dr ops rid ops.toList 0 (st.kill (rid*1024) (rid*1024+1024)) st') (hs:Sim w0 B pv S ρ st a w) (hgl:Qr E pv S w)
  (hQ:∀S' ρ' a' w',Sim w0 B pv S' ρ' st' a' w'->Qr E pv S' w'->Grew B S S'->Q .normal a' w'):(Code.region rid ops dr).wp P Q a w:=by
 have hk:=hs.kill (rid*1024) (rid*1024+1024) (by
  unfold inR
  rw[Bool.and_eq_false_iff]
  refine .inr ?_
  cases hb:Nat.blt Q7 (rid*1024+1024)with
  |false=>rfl
  |true=>have:=Nat.le_of_ble_eq_true hb;omega)
 have hin:∀k,k<256->∀id,Site rid k id->inR (rid*1024) (rid*1024+1024) id=true:=λk hk id hsite=>by
  unfold Site at hsite
  simp only[inR,Bool.and_eq_true,Nat.blt,Nat.ble_eq]
  omega
 have hkn:∀k,k<256->∀id,Site rid k id->killL (rid*1024) (rid*1024+1024) ρ id=none:=λk hk id hsite=>by
  unfold killL;rw[hin k hk id hsite];rfl
 cases dr with
 |false=>
  refine wp_region_list (seq_ok hE hG hr hk hgl (λk _ hk2 c hc=>hkn k (by simp at hk2;omega) _ (by unfold Site;omega)) λS' ρ' a' w' h1 h2 h3=>hQ S' ρ' a' w' h1 h2 h3)
 |true=>
  have hO:=Q05 (hdr rfl)
  obtain⟨sq,h1,h2,h3⟩:=Q8D hr
  simp only[Nat.zero_add,Array.length_toList]at h2 h3
  have hsq:∀i o,ops[i]? =some o->KT E G ops rid i o (sq i) (sq (i+1)):=λi o ho=>h3 i o (by simpa using ho)
  have h0:∀k,k<ops.size->∀id,Site rid k id->(sq 0).row id=none:=λk hk id hsite=>by
   rw[h1]
   exact Q6k (hin k (by omega) id hsite)
  refine wp_region_any hE.mixed (any_ok (S0:=S) hE hG hO (Q74 λh=>hso rfl h) hsq h0 hn (by rw[h2];exact hQ) ops.size _ S (killL (rid*1024) (rid*1024+1024) ρ) a _ (by simp) (by simp) ?_)
  have hdrew:=hk.drew
  rw[<-h1]at hdrew
  have hX:∀i,(Array.replicate ops.size false).getD i false=false:=λi=>by
   rw[Array.getD_eq_getD_getElem?]
   by_cases hi:i<ops.size
   ·simp[hi]
   ·simp[hi]
  refine Q34 hsq h0 (b:=0) (Nat.zero_le _) (λi hi=>absurd hi (Nat.not_lt_zero i)) (λi _=>hX i) hdrew (hgl.mono (λ_ h=>h) λ_ _=>rfl) (λi hi _ id hsite=>hkn i (by omega) id hsite) (λi o _ hx=>?_) (Grew.refl _ _)
  have hx:(Array.replicate ops.size false).getD i false=true:=hx
  rw[hX i]at hx
  cases hx
end
end Go.Gx
end
section
/- A region whose order is open: its appends stand in order to each other,all else floats. -/
namespace Go.Gx
open Go.RowKit
def Q08 (E:Env)(G:Cal->List AV->AV->Prop)(ops:Array Oper)(rid i:Nat)(o:Oper)(s s':St):Prop:=
 J9 o s.nt=true/\o.guard=none/\((QO ops o=true/\∃u,AOp E G false o ((rid*256+i)*4) (ev E s) s.row u/\(apB ops=true\/u.app=none)/\s'=s.apply o.dst u)\/
  (QO ops o=false/\∃u v,U0 E G true o ((rid*256+i)*4) (ev E s) (Q7Y ops i s.row) u/\Q7Z o u=some v/\Kw (apB ops) v=true/\s'=s.putO o.dst v))
theorem Q1d {R:Type}{r:R}{E:Env}{C:Orc}{G:Cal->List AV->AV->Prop}(hC:JE C G){ops:Array Oper}{rid:Nat}:∀(l:List Oper) (i:Nat) (st:St) {K:St->Option R},Q0L E C ops rid l i st K=some r->
  ∃sq:Nat->St,sq i=st/\(∀k o,l[k]? =some o->Q08 E G ops rid (i+k) o (sq (i+k)) (sq (i+k+1)))/\K (sq (i+l.length))=some r
 |[],i,st,K,h=>⟨λ_=>st,rfl,λk o h=>by simp at h,h⟩
 |o::l,i,st,K,h=>by
  have go:∀s1,Q08 E G ops rid i o st s1->Q0L E C ops rid l (i+1) s1 K=some r->∃sq:Nat->St,sq i=st/\(∀k o',(o::l)[k]? =some o'->Q08 E G ops rid (i+k) o' (sq (i+k)) (sq (i+k+1)))/\K (sq (i+(o::l).length))=some r:=λs1 h1 h2=>by
   obtain⟨sq,h3,h5,h4⟩:=Q1d hC l (i+1) s1 h2
   refine⟨λj=>if j=i then st else sq j,by simp,λk o' hk=>?_,?_⟩
   ·cases k with
    |zero=>
     simp only[List.getElem?_cons_zero,Option.some.injEq]at hk
     subst hk
     simp only[Nat.add_zero,if_true]
     rw[if_neg (by omega),h3]
     exact h1
    |succ k=>
     have:=h5 k o' (by simpa using hk)
     show Q08 E G ops rid (i+(k+1)) o' (if i+(k+1)=i then st else sq (i+(k+1))) (if i+(k+1)+1=i then st else sq (i+(k+1)+1))
     rw[if_neg (by omega),if_neg (by omega)]
     rw[show i+(k+1)=i+1+k by omega]
     exact this
   ·show K (if i+(o::l).length=i then st else sq (i+(o::l).length))=some r
    rw[if_neg (by simp),<-h4,List.length_cons]
    congr 2
    omega
  unfold Q0L at h
  split at h
  ·rename_i hd hg
   split at h
   ·rename_i hh
    obtain⟨u,h1,h2⟩:=Q4E hC h
    obtain⟨ha,h2⟩:=Q5 h2
    simp only[Bool.or_eq_true,Option.isNone_iff_eq_none]at ha
    exact go _ ⟨hd,hg,.inl ⟨hh,u,h1,ha,rfl⟩⟩ h2
   ·rename_i hh
    obtain⟨u,h1,h2⟩:=UX hC h
    split at h2
    ·rename_i v hv
     obtain⟨hf,h2⟩:=Q5 h2
     exact go _ ⟨hd,hg,.inr ⟨hh,u,v,h1,hv,hf,rfl⟩⟩ h2
    ·cases h2
  ·cases h
theorem Q75 {P:Program}{E:Env}{w0:World}{B:Old}{pv:Nat->Value}{S:Nat->Prop}{ρ:Nat->Option Loc}{st:St}{a:Act}{w:World}{o:Oper}{id:Nat}{K:Act->World->Prop}{Q:Exit->Act->World->Prop}
  (hE:EnvOk P E) {G:Cal->List AV->AV->Prop} (hG:GOk P E pv G) (hs:Sim w0 B pv S ρ st a w) (hgl:Qr E pv S w) (hd:J9 o st.nt=true) (hid:∀c,c<4->ρ (id+c)=none) {u:Upd} {v:AV}
  (h:U0 E G true o id (ev E st) st.row u) (hu:Q7Z o u=some v) (hK:Nx E w0 B pv S ρ st o.dst (quiet v) id K):o.wp P a w K Q:=by
 unfold Q7Z at hu
 split at hu
 ·rename_i hb
  split at hu
  ·rename_i u' hu'
   cases hu
   have h0:ρ id=none:=by simpa using hid 0 (by omega)
   obtain⟨i,j,e,τ',xs',rfl,rfl⟩:=Dp hu'
   obtain⟨dst,op,type,pos,after,guard⟩:=o
   cases op<;>simp only[Q3E]at hb<;>try cases hb
   unfold U0 at h
   obtain⟨τ,fs,xs,hτ,hon,hn,hfs,hxs,hep,_,hu⟩:=h
   injection hu with h1 h2 h3 h4 h5
   have hids:QQ fs=[]:=h3.symm
   injection h2 with h2 _
   injection h2 with _ h2
   injection h2 with _ hτ' hxs' _ _
   subst hτ'
   have hxs':=eq_of_heq hxs'
   subst hxs'
   exact Uf hE hs hgl hd h0 rfl hτ hon hn hfs hxs hep hids hK
  ·cases hu
 ·obtain⟨uv,news,frz,app,sto⟩:=u
  simp only at hu
  split at hu
  ·cases hu
   exact KP hE hG hs hgl hd hid h hK
  ·cases hu
theorem Q76 {v:AV}(h:Q6i v=true)(lo hi:Nat):Ku lo hi v=v:=by
 have:Gu lo hi v=false:=by
  unfold Q6i at h
  split at h
  ·rfl
  ·split at h
   ·rfl
   ·cases h
  ·rfl
  ·split at h
   ·rfl
   ·cases h
  ·cases h
 unfold Ku
 rw[this];rfl
def kz (u:Upd)(a:AV):AV:=match u.app with
 |some (j,_)=>Ku j (j+1) a
 |none=>a
theorem Q4T {ap:Bool}{u:Upd}{a:AV}(hf:Kw ap a=true)(ha:ap=true\/u.app=none):kz u a=a:=by
 unfold kz
 rcases ha with rfl|ha
 ·split
  ·exact Q76 (by simpa[Kw]using hf) _ _
  ·rfl
 ·rw[ha]
theorem Q8U (u:Upd):kz u .any= .any:=by
 unfold kz
 split<;>rfl
theorem UC (s:St)(d:Option Nat)(u:Upd)(t:Nat):(s.apply d u).slot t=if d=some t then u.v else kz u (s.slot t):=by
 unfold St.apply
 rw[QU]
 by_cases e:d=some t
 ·rw[if_pos e,if_pos e]
 rw[if_neg e,if_neg e]
 have h1:((s.freeze u.frz).setRows u.news).slot=s.slot:=by rw[(YN _ _).2,(QL _ _).1]
 unfold kz
 cases u.sto with
 |none=>
  cases u.app with
  |none=>exact congrFun h1 t
  |some p=>obtain⟨j,r⟩:=p;show Ku j (j+1) (((s.freeze u.frz).setRows u.news).slot t)=_;rw[h1]
 |some q=>
  obtain⟨k',r'⟩:=q
  cases u.app with
  |none=>exact congrFun h1 t
  |some p=>obtain⟨j,r⟩:=p;show Ku j (j+1) (((s.freeze u.frz).setRows u.news).slot t)=_;rw[h1]
theorem KW:∀(l:List (Nat×Row)) (s s':St),s.row=s'.row->(s.setRows l).row=(s'.setRows l).row
 |[],s,s',h=>h
 |p::l,s,s',h=>KW l _ _ (by funext j;rw[Q1,Q1,h])
theorem Q49 (s s':St)(d:Option Nat)(u:Upd)(h:s.row=s'.row):(s.apply d u).row=(s'.apply d u).row:=by
 have h0:(s.freeze u.frz).row=(s'.freeze u.frz).row:=by funext j;rw[JG,JG,h]
 have h1:=KW u.news _ _ h0
 have hk:∀j,(((s.freeze u.frz).setRows u.news).kill j (j+1)).row=(((s'.freeze u.frz).setRows u.news).kill j (j+1)).row:=λj=>by
  funext id
  show Jj j (j+1) id (((s.freeze u.frz).setRows u.news).row id)=Jj j (j+1) id (((s'.freeze u.frz).setRows u.news).row id)
  rw[h1]
 unfold St.apply
 rw[(Qs _ _ _).1,(Qs _ _ _).1]
 cases u.sto with
 |none=>
  cases u.app with
  |none=>exact h1
  |some p=>
   obtain⟨j,r⟩:=p
   show((((s.freeze u.frz).setRows u.news).kill j (j+1)).setRow j r).row=((((s'.freeze u.frz).setRows u.news).kill j (j+1)).setRow j r).row
   funext id
   rw[Q1,Q1,hk]
 |some q=>
  obtain⟨k',r'⟩:=q
  cases u.app with
  |none=>
   show(((s.freeze u.frz).setRows u.news).setRow k' r').row=(((s'.freeze u.frz).setRows u.news).setRow k' r').row
   funext id
   rw[Q1,Q1,h1]
  |some p=>
   obtain⟨j,r⟩:=p
   show(((((s.freeze u.frz).setRows u.news).kill j (j+1)).setRow j r).setRow k' r').row=(((((s'.freeze u.frz).setRows u.news).kill j (j+1)).setRow j r).setRow k' r').row
   funext id
   rw[Q1,Q1,Q1,Q1,hk]
structure Flt (ops:Array Oper)(st0:St)(pre:Nat->Nat->Prop):Prop where
 lt:∀i o,ops[i]? =some o->∀e∈o.after,Region.binds .any e=true->e.on<i
 step:∀i o j,ops[i]? =some o->pre i j->∃e∈o.after,Region.binds .any e=true/\(e.on=j\/pre e.on j)
 hard:∀(i j:Nat) (o p:Oper),ops[i]? =some o->ops[j]? =some p->QO ops o=true->QO ops p=true->j<i->pre i j
 uniq:∀(i j:Nat) (o p:Oper) (d:Nat),ops[i]? =some o->ops[j]? =some p->QO ops o=false->o.dst=some d->i≠j->p.dst≠some d
 look:∀(i j:Nat) (o p:Oper) (d:Nat),ops[i]? =some o->ops[j]? =some p->QO ops o=false->o.dst=some d->d∈p.looksAt ops->i<j/\pre j i
 flo:∀(i j:Nat) (o p:Oper) (d:Nat),ops[i]? =some o->ops[j]? =some p->QO ops o=false->QO ops p=true->p.dst=some d->d∈o.looksAt ops->i<j/\pre j i
 outer:∀(i:Nat) (o:Oper) (t:Nat),ops[i]? =some o->QO ops o=false->t∈o.looksAt ops->(∃j:Nat,∃p:Oper,ops[j]? =some p/\QO ops p=false/\p.dst=some t)\/Kw (apB ops) (st0.slot t)=true
theorem Q5N {ops:Array Oper}{st0:St}(h:Q2u ops st0=true):Flt ops st0 λi j=>((Region.before ops).toList.getD i 0).testBit j=true:=by
 unfold Q2u at h
 simp only[List.all_eq_true,List.mem_range]at h
 have row:=λ(i:Nat) (o:Oper) (hi:ops[i]? =some o)=>by
  have h1:=h i (Array.getElem?_eq_some_iff.1 hi).1
  rw[hi]at h1
  simp only[Bool.and_eq_true,List.all_eq_true,List.mem_range]at h1
  exact h1
 have pair:=λ(i j:Nat) (o p:Oper) (hi:ops[i]? =some o) (hj:ops[j]? =some p)=>by
  have h1:=(row i o hi).2.1.2 j (Array.getElem?_eq_some_iff.1 hj).1
  rw[hj]at h1
  exact h1
 have hO:∀i j,j<i->inOrder (Region.before ops).toList i j=true->((Region.before ops).toList.getD i 0).testBit j=true:=λi j hlt h1=>by
  unfold inOrder at h1
  simp only[Bool.or_eq_true]at h1
  rcases h1 with h1|h1
  ·have:=Nat.eq_of_beq_eq_true h1;omega
  ·rwa [Nat.max_eq_left (by omega),Nat.min_eq_right (by omega)]at h1
 have hO':∀i j,i<j->inOrder (Region.before ops).toList i j=true->((Region.before ops).toList.getD j 0).testBit i=true:=λi j hlt h1=>by
  unfold inOrder at h1
  simp only[Bool.or_eq_true]at h1
  rcases h1 with h1|h1
  ·have:=Nat.eq_of_beq_eq_true h1;omega
  ·rwa [Nat.max_eq_right (by omega),Nat.min_eq_left (by omega)]at h1
 refine⟨λi o hi e he hb=>?_,λi o j hi hp=>?_,λi j o p hi hj h1 h2 hlt=>?_,λi j o p d hi hj h1 hd hne=>?_,λi j o p d hi hj h1 hd hl=>?_,λi j o p d hi hj h1 h2 hd hl=>?_,λi o t hi h1 ht=>?_⟩
 ·have:=(row i o hi).1 e (by simpa using he)
  rw[hb]at this
  simpa using this
 ·rw[Nat.eq_of_beq_eq_true (row i o hi).2.1.1]at hp
  rcases Ds _ _ hp with h1|⟨e,he,h1⟩
  ·simp at h1
  ·exact⟨e,by simpa using he,h1⟩
 ·have h3:=pair i j o p hi hj
  rw[h1]at h3
  simp only[h2,Bool.not_true,Bool.false_or]at h3
  exact hO i j hlt h3
 ·have h3:=pair i j o p hi hj
  rw[h1]at h3
  simp only[hd,Bool.and_eq_true,Bool.or_eq_true,bne_iff_ne]at h3
  rcases h3.1.2 with h4|h4
  ·exact absurd (Nat.eq_of_beq_eq_true h4) hne
  ·exact h4
 ·have h3:=pair i j o p hi hj
  rw[h1]at h3
  simp only[hd,Bool.and_eq_true,Bool.or_eq_true,Bool.not_eq_true',looks]at h3
  rcases h3.1.1 with h4|⟨h4,h5⟩
  ·rw[List.contains_eq_mem]at h4;simp[hl]at h4
  ·have h6:i+1<=j:=by simpa[Nat.blt]using h4
   have:i<j:=h6
   exact⟨this,hO' i j this h5⟩
 ·have h3:=pair i j o p hi hj
  rw[h1]at h3
  simp only[hd,h2,Bool.and_eq_true,Bool.or_eq_true,Bool.not_eq_true',looks,Bool.true_eq_false,false_or]at h3
  rcases h3.2 with h4|⟨h4,h5⟩
  ·rw[List.contains_eq_mem]at h4;simp[hl]at h4
  ·have h6:i+1<=j:=by simpa[Nat.blt]using h4
   have:i<j:=h6
   exact⟨this,hO' i j this h5⟩
 ·have h3:=(row i o hi).2.2
  rw[h1]at h3
  simp only[Bool.false_or,List.all_eq_true,Bool.or_eq_true,Bool.and_eq_true,Bool.not_eq_true',List.any_eq_true,beq_iff_eq,looks]at h3
  rcases h3 t ht with⟨p,hp,h5,h4⟩|h4
  ·obtain⟨j,hj⟩:=List.getElem?_of_mem hp
   exact .inl ⟨j,p,by simpa using hj,h5,h4⟩
  ·exact .inr h4
theorem Q35 {ops:Array Oper}{i:Nat}(h:Q7X ops i=true){j:Nat}{p:Oper}(hj:ops[j]? =some p)(hp:QO ops p=true)(hne:i≠j):((Region.before ops).toList.getD (max i j) 0).testBit (min i j)=true:=by
 unfold Q7X at h
 simp only[List.all_eq_true,List.mem_range]at h
 have h1:=h j (Array.getElem?_eq_some_iff.1 hj).1
 rw[hj]at h1
 simp only[hp,Bool.not_true,Bool.false_or,inOrder,Bool.or_eq_true]at h1
 exact h1.resolve_left λe=>hne (Nat.eq_of_beq_eq_true e)
theorem Flt.mem {ops:Array Oper}{st0:St}{pre:Nat->Nat->Prop}(ho:Flt ops st0 pre){X:Nat->Prop}(hlt:∀i,X i->i<ops.size)(hX:∀i o,ops[i]? =some o->X i->∀e∈o.after,Region.binds .any e=true->X e.on):∀(i:Nat) (o:Oper) (j:Nat),ops[i]? =some o->pre i j->
  (∀e∈o.after,Region.binds .any e=true->X e.on)->X j:=by
 intro i
 induction i using Nat.strongRecOn with
 |_ i ih=>
  intro o j hi hp hall
  obtain⟨e,he,hb,h1⟩:=ho.step i o j hi hp
  have hXe:=hall e he hb
  rcases h1 with h1|h1
  ·exact h1▸hXe
  ·have hlt':=hlt _ hXe
   have hoe:ops[e.on]? =some ops[e.on]:=Array.getElem?_eq_getElem hlt'
   exact ih e.on (ho.lt i o hi e he hb) _ j hoe h1 (hX _ _ hoe hXe)
end Go.Gx
end
section
/- A region whose order is open: its appends stand in order to each other,all else floats. Any order comes to the same. -/
namespace Go.Gx
open Go.RowKit
section
variable {P:Program} {E:Env} {w0:World} {B:Old} {pv:Nat->Value} {G:Cal->List AV->AV->Prop} {Q:Exit->Act->World->Prop} {ops:Array Oper} {rid:Nat} {S0:Nat->Prop} {sq:Nat->St} {pre:Nat->Nat->Prop}
def FW (ops:Array Oper)(t p:Nat):Prop:=∃o:Oper,ops[p]? =some o/\QO ops o=false/\o.dst=some t
open Classical in
noncomputable def flS (ops:Array Oper)(sq:Nat->St)(X:Nat->Bool)(b t:Nat):AV:=
 if h:∃p,FW ops t p then(match X (Classical.choose h)with
  |true=>(sq (Classical.choose h+1)).slot t
  |false=>.any)else(sq b).slot t
variable (hO:Flt ops (sq 0) pre) (hsq:∀i o,ops[i]? =some o->Q08 E G ops rid i o (sq i) (sq (i+1)))
include hO in
theorem Q4U {t p q:Nat}(h:FW ops t p)(h':FW ops t q):p=q:=by
 obtain⟨o,h1,h2,h3⟩:=h
 obtain⟨o',h4,h5,h6⟩:=h'
 apply Classical.byContradiction
 intro hne
 exact hO.uniq p q o o' t h1 h4 h2 h3 hne h6
include hO in
theorem YA {X:Nat->Bool}{b t p:Nat}(h:FW ops t p)(hX:X p=true):flS ops sq X b t=(sq (p+1)).slot t:=by
 have h0:∃p,FW ops t p:=⟨p,h⟩
 unfold flS
 rw[dif_pos h0,Q4U hO (Classical.choose_spec h0) h,hX]
include hO in
theorem UD {X:Nat->Bool}{b t p:Nat}(h:FW ops t p)(hX:X p=false):flS ops sq X b t= .any:=by
 have h0:∃p,FW ops t p:=⟨p,h⟩
 unfold flS
 rw[dif_pos h0,Q4U hO (Classical.choose_spec h0) h,hX]
theorem U1 {X:Nat->Bool}{b t:Nat}(h:¬∃p,FW ops t p):flS ops sq X b t=(sq b).slot t:=by
 unfold flS
 rw[dif_neg h]
include hsq
theorem Q8f:∀i,i<=ops.size->(sq i).nt=(sq 0).nt
 |0,_=>rfl
 |i+1,hi=>by
  have ho:ops[i]? =some ops[i]:=Array.getElem?_eq_getElem (by omega)
  obtain⟨_,_,⟨_,u,_,ha,e⟩|⟨_,u,v,_,_,_,e⟩⟩:=hsq i _ ho
  ·rw[e,Q04];exact Q8f i (by omega)
  ·rw[e,(Qs _ _ _).2];exact Q8f i (by omega)
theorem Xy {t b:Nat}(hf:Kw (apB ops) ((sq b).slot t)=true):∀d,b+d<=ops.size->(∀j o,b<=j->j<b+d->ops[j]? =some o->o.dst≠some t)->(sq (b+d)).slot t=(sq b).slot t
 |0,_,_=>rfl
 |d+1,h,hn=>by
  have ih:=Xy hf d (by omega) λj o a c=>hn j o a (by omega)
  have ho:ops[b+d]? =some ops[b+d]:=Array.getElem?_eq_getElem (by omega)
  have hd:=hn (b+d) _ (by omega) (by omega) ho
  obtain⟨_,_,⟨_,u,_,ha,e⟩|⟨_,u,v,_,_,_,e⟩⟩:=hsq (b+d) _ ho
  ·show(sq (b+d+1)).slot t=_
   rw[e,UC,if_neg hd,ih]
   exact Q4T hf ha
  ·show(sq (b+d+1)).slot t=_
   rw[e,QU,if_neg hd,ih]
include hO
theorem Q1X {t p:Nat}(h:FW ops t p){j:Nat}(hj:p<j)(hj2:j<=ops.size):(sq j).slot t=(sq (p+1)).slot t/\Kw (apB ops) ((sq (p+1)).slot t)=true:=by
 obtain⟨o,h1,h2,h3⟩:=h
 have hp:p<ops.size:=(Array.getElem?_eq_some_iff.1 h1).1
 have hf:Kw (apB ops) ((sq (p+1)).slot t)=true:=by
  obtain⟨_,_,⟨h4,_⟩|⟨_,u,v,_,_,hv,e⟩⟩:=hsq p o h1
  ·rw[h2]at h4;cases h4
  ·rw[e,QU,if_pos h3];exact hv
 refine⟨?_,hf⟩
 have:=Xy hsq hf (j-(p+1)) (by omega) (λq o' hq _ ho'=>hO.uniq p q o o' t h1 ho' h2 h3 (by omega))
 rwa [show p+1+(j-(p+1))=j by omega]at this
omit hO in
theorem Gm {i:Nat}:∀d,i+d<=ops.size->(∀j o,i<=j->j<i+d->ops[j]? =some o->QO ops o=false)->(sq (i+d)).row=(sq i).row/\∀t,(¬∃p,FW ops t p)->(sq (i+d)).slot t=(sq i).slot t
 |0,_,_=>⟨rfl,λ_ _=>rfl⟩
 |d+1,h,hq=>by
  obtain⟨ih1,ih2⟩:=Gm d (by omega) λj o a b=>hq j o a (by omega)
  have ho:ops[i+d]? =some ops[i+d]:=Array.getElem?_eq_getElem (by omega)
  have hh:=hq (i+d) _ (by omega) (by omega) ho
  obtain⟨_,_,⟨h4,_⟩|⟨_,u,v,_,_,hv,e⟩⟩:=hsq (i+d) _ ho
  ·rw[hh]at h4;cases h4
  ·refine⟨?_,λt ht=>?_⟩
   ·show(sq (i+d+1)).row=_
    rw[e,(Qs _ _ _).1,ih1]
   ·show(sq (i+d+1)).slot t=_
    rw[e,QU,if_neg (λhd=>ht ⟨i+d,_,ho,hh,hd⟩),ih2 t ht]
omit hsq hO in
theorem Q36 {ops:Array Oper}:∀(d b:Nat),b+d=ops.size->∃e,b<=e/\e<=ops.size/\(∀i o,b<=i->i<e->ops[i]? =some o->QO ops o=false)/\(e=ops.size\/∃o,ops[e]? =some o/\QO ops o=true)
 |0,b,h=>⟨b,Nat.le_refl _,by omega,λi o h1 h2=>by omega,.inl (by omega)⟩
 |d+1,b,h=>by
  have ho:ops[b]? =some ops[b]:=Array.getElem?_eq_getElem (by omega)
  cases hb:QO ops ops[b]with
  |true=>exact⟨b,Nat.le_refl _,by omega,λi o h1 h2=>by omega,.inr ⟨_,ho,hb⟩⟩
  |false=>
   obtain⟨e1,h1,h2,h3,h4⟩:=Q36 (ops:=ops) d (b+1) (by omega)
   refine⟨e1,by omega,h2,λi o h5 h6 h7=>?_,h4⟩
   by_cases e:i=b
   ·subst e;rw[ho]at h7;cases h7;exact hb
   ·exact h3 i o (by omega) h6 h7
omit hsq hO in
def Q77 (E:Env)(w0:World)(B:Old)(pv:Nat->Value)(ops:Array Oper)(rid:Nat)(S0:Nat->Prop)(sq:Nat->St)(X:Nat->Bool)(S:Nat->Prop)(ρ:Nat->Option Loc)(a:Act)(w:World):Prop:=
 ∃b,b<=ops.size/\(∀i o,ops[i]? =some o->QO ops o=true->i<b->X i=true)/\(∀i o,ops[i]? =some o->QO ops o=true->b<=i->X i=false)/\(b=ops.size\/∃o,ops[b]? =some o/\QO ops o=true)/\(∀i,X i=true->i<ops.size)/\
  Sim w0 B pv S ρ ⟨flS ops sq X b,(sq b).row,(sq 0).nt⟩ a w/\Qr E pv S w/\(∀i,i<ops.size->X i=false->∀id,Site rid i id->ρ id=none)/\
  (∀i o,ops[i]? =some o->X i=true->∀e∈o.after,Region.binds .any e=true->X e.on=true)/\Grew B S0 S
theorem Q1e {X:Nat->Bool}{b:Nat}(hb:b<=ops.size)(h1:∀i o,ops[i]? =some o->QO ops o=true->i<b->X i=true)(h2:∀i o,ops[i]? =some o->QO ops o=true->b<=i->X i=false)(h3:∀i,X i=true->i<ops.size)
  {S:Nat->Prop} {ρ:Nat->Option Loc} {a:Act} {w:World} (hs:Sim w0 B pv S ρ ⟨flS ops sq X b,(sq b).row,(sq 0).nt⟩ a w) (hgl:Qr E pv S w) (hρ:∀i,i<ops.size->X i=false->∀id,Site rid i id->ρ id=none)
  (hX:∀i o,ops[i]? =some o->X i=true->∀e∈o.after,Region.binds .any e=true->X e.on=true) (hS:Grew B S0 S):Q77 E w0 B pv ops rid S0 sq X S ρ a w:=by
 obtain⟨e,h4,h5,h6,h7⟩:=Q36 (ops:=ops) (ops.size-b) b (by omega)
 obtain⟨k1,k2⟩:=Gm hsq (i:=b) (e-b) (by omega) λj o a c=>h6 j o a (by omega)
 rw[show b+(e-b)=e by omega]at k1 k2
 refine⟨e,h5,λi o ho hh hi=>?_,λi o ho hh hi=>h2 i o ho hh (by omega),h7,h3,hs.slotsEq (λt=>?_) k1 rfl,hgl,hρ,hX,hS⟩
 ·by_cases hlt:i<b
  ·exact h1 i o ho hh hlt
  ·rw[h6 i o (by omega) hi ho]at hh;cases hh
 ·show flS ops sq X e t=flS ops sq X b t
  by_cases h:∃p,FW ops t p
  ·obtain⟨p,hp⟩:=h
   cases hXp:X p with
   |true=>rw[YA hO hp hXp,YA hO hp hXp]
   |false=>rw[UD hO hp hXp,UD hO hp hXp]
  ·rw[U1 h,U1 h,k2 t h]
theorem Q5O (hB:pre=λi j=>((Region.before ops).toList.getD i 0).testBit j=true)(hE:EnvOk P E)(hG:GOk P E pv G){X X':Nat->Bool}{i:Nat}{o:Oper}{S:Nat->Prop}{ρ:Nat->Option Loc}{a:Act}{w:World}(h:Q77 E w0 B pv ops rid S0 sq X S ρ a w)(ho:ops[i]? =some o)(hi:X i=false)(hready:∀e∈o.after,Region.binds .any e=true->X e.on=true)
  (hX':∀j,X' j=if j=i then true else X j) {K:Act->World->Prop} (hK:∀S' ρ' a' w',Q77 E w0 B pv ops rid S0 sq X' S' ρ' a' w'->K a' w'):wpOp P ops Q i K a w:=by
 obtain⟨b,hb,hX1,hX2,hbe,hXlt,hs,hgl,hρ,hcl,hS⟩:=h
 have hin:i<ops.size:=(Array.getElem?_eq_some_iff.1 ho).1
 have hpre:∀j,pre i j->X j=true:=λj hp=>hO.mem (X:=λj=>X j=true) hXlt hcl i o j ho hp hready
 have hcl':∀j o',ops[j]? =some o'->X' j=true->∀e∈o'.after,Region.binds .any e=true->X' e.on=true:=λj o' hj hXj e he hbn=>by
  rw[hX']at hXj ⊢
  split
  ·rfl
  ·by_cases e':j=i
   ·subst e';rw[ho]at hj;cases hj;exact hready e he hbn
   ·rw[if_neg e']at hXj;exact hcl j o' hj hXj e he hbn
 have hXlt':∀j,X' j=true->j<ops.size:=λj hj=>by
  rw[hX']at hj
  split at hj
  ·omega
  ·exact hXlt j hj
 have hid:∀c,c<4->ρ ((rid*256+i)*4+c)=none:=λc hc=>hρ i hin hi _ (by unfold Site;omega)
 have hρ':∀ρ':Nat->Option Loc,(∀j,ρ j=none->¬((rid*256+i)*4<=j/\j<(rid*256+i)*4+4)->ρ' j=none)->∀j,j<ops.size->X' j=false->∀id,Site rid j id->ρ' id=none:=λρ' hk j hj hXj id hsite=>by
  rw[hX']at hXj
  split at hXj
  ·cases hXj
  ·rename_i e
   exact hk id (hρ j hj hXj id hsite) λhsite'=>e (Site.ne hsite hsite')
 obtain⟨hd,hg,hst⟩:=hsq i o ho
 have hnt:(sq i).nt=(sq 0).nt:=Q8f hsq i (by omega)
 have hd':J9 o (⟨flS ops sq X b,(sq b).row,(sq 0).nt⟩:St).nt=true:=by rw[hnt]at hd;exact hd
 have hev:(∀t∈o.looksAt ops,flS ops sq X b t=(sq i).slot t)->∀x∈o.op.operands,ev E (⟨flS ops sq X b,(sq b).row,(sq 0).nt⟩:St) x=ev E (sq i) x:=λhl x hx=>by
  cases x with
  |tmp t=>exact hl t (List.mem_append_left _ (List.mem_filterMap.2 ⟨.tmp t,by simpa using hx,rfl⟩))
  |_=>rfl
 have hread:∀t∈o.looksAt ops,∀p,FW ops t p->flS ops sq X b t=(sq i).slot t:=λt ht p hp=>by
  obtain⟨o',h1,h2,h3⟩:=hp
  obtain⟨hlt,hpr⟩:=hO.look p i o' o t h1 ho h2 h3 ht
  rw[YA hO ⟨o',h1,h2,h3⟩ (hpre p hpr)]
  exact(Q1X hO hsq ⟨o',h1,h2,h3⟩ hlt (by omega)).1.symm
 unfold wpOp
 rw[ho]
 simp only
 rw[if_pos (Dq hs (.inl hg))]
 refine .inl ?_
 rcases hst with⟨hh,u,hop,ha,hsu⟩|⟨hh,u,v,hop,hu,hv,hsu⟩
 ·have hbi:b=i:=by
   have h1:b<=i:=by
    apply Classical.byContradiction
    intro hlt
    rw[hX1 i o ho hh (by omega)]at hi
    cases hi
   apply Classical.byContradiction
   intro hne
   rcases hbe with h2|⟨ob,h2,h3⟩
   ·omega
   ·have:=hpre b (hO.hard i b o ob ho h2 hh h3 (by omega))
    rw[hX2 b ob h2 h3 (Nat.le_refl _)]at this
    cases this
  subst hbi
  have hlooks:∀t∈o.looksAt ops,flS ops sq X b t=(sq b).slot t:=λt ht=>by
   by_cases h:∃p,FW ops t p
   ·obtain⟨p,hp⟩:=h
    exact hread t ht p hp
   ·exact U1 h
  have hopX:AOp E G false o ((rid*256+b)*4) (ev E (⟨flS ops sq X b,(sq b).row,(sq 0).nt⟩:St)) (⟨flS ops sq X b,(sq b).row,(sq 0).nt⟩:St).row u:=hop.mono (hev hlooks) λ_ _ h=>h
  refine step_ok hE hG hs hgl hd' hid hopX λS' ρ' a' w' hs' hgl' hS' hk=>?_
  refine hK S' ρ' a' w' (Q1e hO hsq (b:=b+1) (by omega) (λj p hp hhp hj=>?_) (λj p hp hhp hj=>?_) hXlt' (hs'.slotsEq (λt=>?_) ?_ ?_) hgl' (hρ' ρ' hk) hcl' (hS.trans hS'))
  ·rw[hX']
   split
   ·rfl
   ·exact hX1 j p hp hhp (by omega)
  ·rw[hX',if_neg (by omega)]
   exact hX2 j p hp hhp (by omega)
  ·rw[UC]
   show flS ops sq X' (b+1) t=if o.dst=some t then u.v else kz u (flS ops sq X b t)
   by_cases h:∃p,FW ops t p
   ·obtain⟨p,hp⟩:=h
    have hpb:p≠b:=λe=>by
     obtain⟨o',h1,h2,_⟩:=hp
     rw[e,ho]at h1;cases h1
     rw[hh]at h2;cases h2
    have hdn:o.dst≠some t:=by
     obtain⟨o',h1,h2,h3⟩:=hp
     exact hO.uniq p b o' o t h1 ho h2 h3 hpb
    have hXp:X' p=X p:=by rw[hX',if_neg hpb]
    have hpn:p<ops.size:=by obtain⟨o',h1,_⟩:=hp;exact(Array.getElem?_eq_some_iff.1 h1).1
    rw[if_neg hdn]
    cases hc:X p with
    |true=>
     rw[YA hO hp (hXp.trans hc),YA hO hp hc]
     exact(Q4T (Q1X hO hsq hp (Nat.lt_succ_self p) (by omega)).2 ha).symm
    |false=>
     rw[UD hO hp (hXp.trans hc),UD hO hp hc]
     exact(Q8U u).symm
   ·rw[U1 h,U1 h,hsu,UC]
  ·rw[hsu]
   exact Q49 _ _ _ _ rfl
  ·rw[Q04]
 ·have hlooks:∀t∈o.looksAt ops,flS ops sq X b t=(sq i).slot t:=λt ht=>by
   by_cases h:∃p,FW ops t p
   ·obtain⟨p,hp⟩:=h
    exact hread t ht p hp
   ·have hno:∀(j:Nat) (p:Oper),ops[j]? =some p->p.dst=some t->QO ops p=true/\i<j/\pre j i:=λj p hp hdp=>by
     cases hhp:QO ops p with
     |false=>exact absurd ⟨j,p,hp,hhp,hdp⟩ h
     |true=>exact⟨rfl,hO.flo i j o p t ho hp hh hhp hdp ht⟩
    rcases hO.outer i o t ho hh ht with⟨j,p,hp,hhp,hdp⟩|hf
    ·exact absurd ⟨j,p,hp,hhp,hdp⟩ h
    ·have k1:=Xy hsq hf b (by omega) λj p _ hj hp hdp=>by
      obtain⟨q1,_,q2⟩:=hno j p hp hdp
      have q3:=hX1 j p hp q1 (by omega)
      have:=hO.mem (X:=λj=>X j=true) hXlt hcl j p i hp q2 (hcl j p hp q3)
      rw[hi]at this
      cases this
     have k2:=Xy hsq hf i (by omega) λj p _ hj hp hdp=>by
      have:=(hno j p hp hdp).2.1
      omega
     rw[Nat.zero_add]at k1 k2
     rw[U1 h,k1,k2]
  have hrowF:Yh (Q7Y ops i (sq i).row) (sq b).row:=λid r h=>by
   unfold Q7Y at h
   cases hoi:Q7X ops i with
   |false=>rw[hoi]at h;cases h
   |true=>
    rw[hoi]at h
    have hne:∀j p,ops[j]? =some p->QO ops p=true->i≠j:=λj p hp hhp e=>by
     rw[<-e,ho]at hp;cases hp;rw[hh]at hhp;cases hhp
    have hlt:∀j p,ops[j]? =some p->QO ops p=true->j<i->j<b:=λj p hp hhp hj=>by
     have:=Q35 hoi hp hhp (hne j p hp hhp)
     rw[Nat.max_eq_left (by omega),Nat.min_eq_right (by omega)]at this
     have h1:=hpre j (hB▸this)
     apply Classical.byContradiction
     intro hn
     rw[hX2 j p hp hhp (by omega)]at h1
     cases h1
    have hgt:∀j p,ops[j]? =some p->QO ops p=true->i<j->b<=j:=λj p hp hhp hj=>by
     have:=Q35 hoi hp hhp (hne j p hp hhp)
     rw[Nat.max_eq_right (by omega),Nat.min_eq_left (by omega)]at this
     apply Classical.byContradiction
     intro hn
     have q3:=hX1 j p hp hhp (by omega)
     have:=hO.mem (X:=λj=>X j=true) hXlt hcl j p i hp (hB▸this) (hcl j p hp q3)
     rw[hi]at this
     cases this
    have e:(sq b).row=(sq i).row:=by
     by_cases hbi:b<=i
     ·have:=(Gm hsq (i:=b) (i-b) (by omega) λj p h1 h2 hp=>by
       cases hhp:QO ops p with
       |false=>rfl
       |true=>have:=hlt j p hp hhp (by omega);omega).1
      rw[show b+(i-b)=i by omega]at this
      exact this.symm
     ·have:=(Gm hsq (i:=i) (b-i) (by omega) λj p h1 h2 hp=>by
       cases hhp:QO ops p with
       |false=>rfl
       |true=>
        have h3:=hne j p hp hhp
        have:=hgt j p hp hhp (by omega);omega).1
      rwa [show i+(b-i)=b by omega]at this
    rw[e]
    exact h
  have hopX:U0 E G true o ((rid*256+i)*4) (ev E (⟨flS ops sq X b,(sq b).row,(sq 0).nt⟩:St)) (⟨flS ops sq X b,(sq b).row,(sq 0).nt⟩:St).row u:=hop.mono (hev hlooks) hrowF
  refine Q75 hE hG hs hgl hd' hid hopX hu λS' ρ' a' w' hs' hgl' hS' hk=>?_
  have hne:∀j p,ops[j]? =some p->QO ops p=true->j≠i:=λj p hp hhp e=>by
   rw[e,ho]at hp;cases hp;rw[hh]at hhp;cases hhp
  refine hK S' ρ' a' w' ⟨b,hb,λj p hp hhp hj=>?_,λj p hp hhp hj=>?_,hbe,hXlt',hs'.slotsEq (λt=>?_) ?_ ?_,hgl',hρ' ρ' hk,hcl',hS.trans hS'⟩
  ·rw[hX',if_neg (hne j p hp hhp)]
   exact hX1 j p hp hhp hj
  ·rw[hX',if_neg (hne j p hp hhp)]
   exact hX2 j p hp hhp hj
  ·rw[UC]
   show flS ops sq X' b t=if o.dst=some t then v else flS ops sq X b t
   by_cases hdt:o.dst=some t
   ·rw[if_pos hdt,YA hO ⟨o,ho,hh,hdt⟩ (by rw[hX',if_pos rfl]),hsu,QU,if_pos hdt]
   ·rw[if_neg hdt]
    by_cases h:∃p,FW ops t p
    ·obtain⟨p,hp⟩:=h
     have hpi:p≠i:=λe=>by
      obtain⟨o',h1,_,h3⟩:=hp
      rw[e,ho]at h1;cases h1
      exact hdt h3
     have hXp:X' p=X p:=by rw[hX',if_neg hpi]
     cases hc:X p with
     |true=>rw[YA hO hp (hXp.trans hc),YA hO hp hc]
     |false=>rw[UD hO hp (hXp.trans hc),UD hO hp hc]
    ·rw[U1 h,U1 h]
  ·exact((Qs (⟨flS ops sq X b,(sq b).row,(sq 0).nt⟩:St) o.dst v).1).symm
  ·exact((Qs (⟨flS ops sq X b,(sq b).row,(sq 0).nt⟩:St) o.dst v).2).symm
theorem Q8g (hB:pre=λi j=>((Region.before ops).toList.getD i 0).testBit j=true)(hE:EnvOk P E)(hG:GOk P E pv G)
  (hQ:∀S' ρ' a' w',Sim w0 B pv S' ρ' (sq ops.size) a' w'->Qr E pv S' w'->Grew B S0 S'->Q .normal a' w') :
  ∀(fuel:Nat) (listed:Array Bool) (S:Nat->Prop) (ρ:Nat->Option Loc) (a:Act) (w:World),listed.size=ops.size->listed.toList.count false<=fuel->Q77 E w0 B pv ops rid S0 sq (λi=>listed.getD i false) S ρ a w->wpAny P .any ops Q fuel listed a w:=by
 have done:∀(listed:Array Bool) (S:Nat->Prop) (ρ:Nat->Option Loc) (a:Act) (w:World),Q77 E w0 B pv ops rid S0 sq (λi=>listed.getD i false) S ρ a w->(∀i,i<ops.size->listed.getD i false=true)->Q .normal a w:=λlisted S ρ a w h hall=>by
  obtain⟨b,hb,hX1,hX2,hbe,hXlt,hs,hgl,hρ,hcl,hS⟩:=h
  have he:b=ops.size:=by
   rcases hbe with h1|⟨ob,h2,h3⟩
   ·exact h1
   ·have h4:listed.getD b false=false:=hX2 b ob h2 h3 (Nat.le_refl _)
    rw[hall b (Array.getElem?_eq_some_iff.1 h2).1]at h4
    cases h4
  subst he
  refine hQ S ρ a w (hs.slotsEq (λt=>?_) rfl (Q8f hsq _ (Nat.le_refl _))) hgl hS
  show(sq ops.size).slot t=flS ops sq (λi=>listed.getD i false) ops.size t
  by_cases h:∃p,FW ops t p
  ·obtain⟨p,hp⟩:=h
   have hpn:p<ops.size:=by obtain⟨o',h1,_⟩:=hp;exact(Array.getElem?_eq_some_iff.1 h1).1
   rw[YA hO hp (hall p hpn)]
   exact(Q1X hO hsq hp hpn (Nat.le_refl _)).1
  ·rw[U1 h]
 have stuck:∀(listed:Array Bool),listed.size=ops.size->Region.ready .any ops listed=[]->∀i,i<ops.size->listed.getD i false=true:=λlisted hsz hr i=>by
  induction i using Nat.strongRecOn with
  |_ i ih=>
   intro hi
   apply Classical.byContradiction
   intro hne
   have hoi:ops[i]? =some ops[i]:=Array.getElem?_eq_getElem hi
   have hmem:i∈Region.ready .any ops listed:=by
    rw[mem_ready]
    refine⟨?_,ops[i],hoi,λe he hb=>?_⟩
    ·have hlt:i<listed.size:=by omega
     rw[Array.getD_eq_getD_getElem?,Array.getElem?_eq_getElem hlt]at hne ⊢
     simpa using hne
    ·have:=hO.lt i _ hoi e he hb
     exact ih e.on this (by omega)
   rw[hr]at hmem
   cases hmem
 intro fuel
 induction fuel with
 |zero=>
  intro listed S ρ a w hsz hc hI
  have hall:∀i,i<ops.size->listed.getD i false=true:=λi hi=>by
   have hlt:i<listed.size:=by omega
   rw[Array.getD_eq_getD_getElem?,Array.getElem?_eq_getElem hlt]
   cases hb:listed[i]with
   |true=>rfl
   |false=>
    have hm:false∈listed.toList:=by rw[<-hb];exact Array.getElem_mem_toList hlt
    have:=List.count_pos_iff.2 hm
    omega
  refine⟨?_,done listed S ρ a w hI hall⟩
  apply List.eq_nil_iff_forall_not_mem.2
  intro i hi
  rw[mem_ready]at hi
  obtain⟨h1,o,ho,_⟩:=hi
  have hlt:i<listed.size:=by have:=(Array.getElem?_eq_some_iff.1 ho).1;omega
  have:=hall i (by omega)
  rw[Array.getD_eq_getD_getElem?,Array.getElem?_eq_getElem hlt]at this h1
  simp at this h1
  rw[this]at h1
  cases h1
 |succ fuel ih=>
  intro listed S ρ a w hsz hc hI
  refine⟨λhr=>done listed S ρ a w hI (stuck listed hsz hr),λi hi=>?_⟩
  rw[mem_ready]at hi
  obtain⟨h1,o,ho,hall⟩:=hi
  have hlt:i<listed.size:=by have:=(Array.getElem?_eq_some_iff.1 ho).1;omega
  have hli:listed[i]=false:=by
   rw[Array.getD_eq_getD_getElem?,Array.getElem?_eq_getElem hlt]at h1
   simpa using h1
  refine Q5O hO hsq hB hE hG hI ho ?_ hall (X':=λj=>(listed.setIfInBounds i true).getD j false) (λj=>?_) λS' ρ' a' w' hI'=>ih _ S' ρ' a' w' (by simpa using hsz) ?_ hI'
  ·rw[Array.getD_eq_getD_getElem?,Array.getElem?_eq_getElem hlt,hli]
   rfl
  ·rw[Array.getD_eq_getD_getElem?,Array.getD_eq_getD_getElem?,Array.getElem?_setIfInBounds]
   by_cases e:j=i
   ·subst e;simp[hlt]
   ·rw[if_neg (λh=>e h.symm),if_neg e]
  ·have:=Q1c (l:=listed.toList) (i:=i) (by rw[Array.getElem?_toList,Array.getElem?_eq_getElem hlt,hli])
   rw[Array.toList_setIfInBounds]
   omega
omit hO hsq in
theorem Q4a (hE:EnvOk P E)(hG:GOk P E pv G)(hn:ops.size<=256)(hm:rid*1024+1024<=Q7){S:Nat->Prop}{ρ:Nat->Option Loc}{st st':St}{a:Act}{w:World}(hok:Q2u ops (st.kill (rid*1024) (rid*1024+1024))=true)
  (hr:∃sq:Nat->St,sq 0=st.kill (rid*1024) (rid*1024+1024)/\(∀i o,ops[i]? =some o->Q08 E G ops rid i o (sq i) (sq (i+1)))/\sq ops.size=st') (hs:Sim w0 B pv S ρ st a w) (hgl:Qr E pv S w)
  (hQ:∀S' ρ' a' w',Sim w0 B pv S' ρ' st' a' w'->Qr E pv S' w'->Grew B S S'->Q .normal a' w'):(Code.region rid ops true).wp P Q a w:=by
 have hk:=hs.kill (rid*1024) (rid*1024+1024) (by
  unfold inR
  rw[Bool.and_eq_false_iff]
  refine .inr ?_
  cases hb:Nat.blt Q7 (rid*1024+1024)with
  |false=>rfl
  |true=>have:=Nat.le_of_ble_eq_true hb;omega)
 have hkn:∀k,k<256->∀id,Site rid k id->killL (rid*1024) (rid*1024+1024) ρ id=none:=λk hk id hsite=>by
  have:inR (rid*1024) (rid*1024+1024) id=true:=by
   unfold Site at hsite
   simp only[inR,Bool.and_eq_true,Nat.blt,Nat.ble_eq]
   omega
  unfold killL;rw[this];rfl
 obtain⟨sq,h1,hsq,h2⟩:=hr
 have hO:=Q5N hok
 rw[<-h1]at hO
 refine wp_region_any hE.mixed (Q8g (S0:=S) hO hsq rfl hE hG (by rw[h2];exact hQ) ops.size _ S (killL (rid*1024) (rid*1024+1024) ρ) a _ (by simp) (by simp) ?_)
 have hdrew:=hk.drew
 rw[<-h1]at hdrew
 have hX:∀i,(Array.replicate ops.size false).getD i false=false:=λi=>by
  rw[Array.getD_eq_getD_getElem?]
  by_cases hi:i<ops.size
  ·simp[hi]
  ·simp[hi]
 have hX0:∀{p:Prop} i,(Array.replicate ops.size false).getD i false=true->p:=λi h=>by rw[hX i]at h;cases h
 refine Q1e hO hsq (b:=0) (Nat.zero_le _) (λi _ _ _ hi=>absurd hi (Nat.not_lt_zero i)) (λi _ _ _ _=>hX i) (λi h=>hX0 i h) ?_ (hgl.mono (λ_ h=>h) λ_ _=>rfl) (λi hi _ id hsite=>hkn i (by omega) id hsite) (λi o _ hx=>hX0 i hx) (Grew.refl _ _)
 refine⟨hdrew.size,hdrew.defers,λt=>?_,hdrew.hs,hdrew.below,hdrew.hB⟩
 have hz:=hdrew.slots t
 by_cases h:∃p,FW ops t p
 ·obtain⟨p,hp⟩:=h
  exact .inl (UD hO (X:=λi=>(Array.replicate ops.size false).getD i false) (b:=0) hp (hX p))
 ·have e:=U1 (sq:=sq) (X:=λi=>(Array.replicate ops.size false).getD i false) (b:=0) h
  rw[<-e]at hz
  exact hz
omit hO hsq in
theorem Sim.rdSlot {S:Nat->Prop}{ρ:Nat->Option Loc}{st:St}{a:Act}{w:World}(h:Sim w0 B pv S ρ st a w)(t:Nat):Sim w0 B pv S ρ (rdSlot st t) a w:=by
 unfold Gx.rdSlot
 split
 ·rename_i j hj
  split
  ·rename_i e τ xs app hr
   refine⟨h.size,h.defers,λt'=>?_,h.hs,h.below,h.hB⟩
   have h0:=h.slots t'
   show VR S w ρ st.row pv (cond (Nat.beq t' t) (.t (.sl τ) xs) (st.slot t')) _
   cases hb:Nat.beq t' t with
   |false=>exact h0
   |true=>
    obtain rfl:=Nat.eq_of_beq_eq_true hb
    rw[hj]at h0
    rcases Yv h0 hr with⟨g,c,hl,h9⟩|⟨hl,h9,h8⟩
    ·rw[h9]
     exact .inr ⟨_,.t _ _ _ (XV h.hs (λ_ h=>h) hr hl ((h.hs.apart j _ g c hl hr).2.2 rfl)),rfl⟩
    ·subst h9
     rw[h8]
     exact .inr ⟨_,.t _ _ _ (Jr _ _ _),rfl⟩
  ·exact h
 ·exact h
omit hO hsq in
theorem Sim.rdSlots {S:Nat->Prop}{ρ:Nat->Option Loc}{a:Act}{w:World}:∀(l:List Nat) {st:St},Sim w0 B pv S ρ st a w->Sim w0 B pv S ρ (rdSlots st l) a w
 |[],st,h=>h
 |t::l,st,h=>Sim.rdSlots l (h.rdSlot t)
end
end Go.Gx
end
section
/- Code: what the interpreter finds is what the machine does,loops being given. -/
namespace Go.Gx
open Go.RowKit
theorem TyOk.soft {P:Program}{E:Env}{T:Nat}:∀{τ:Ty},TyOk P E T τ->∀b pt pr,TyOk P (E.soft b pt pr) T τ:=λ{τ} h b pt pr=>⟨h.info,by have:=h.und;cases τ<;>exact this⟩
theorem EnvOk.soft {P:Program}{E:Env}(h:EnvOk P E)(b:Bool)(pt pr:List Nat):EnvOk P (E.soft b pt pr):=⟨λT τ e=>(h.ty T τ e).soft b pt pr,h.mixed,h.eqDate,h.eqAbbr⟩
theorem Qr.soft {E:Env}{pv:Nat->Value}{S:Nat->Prop}{w:World}(h:Qr E pv S w)(b:Bool)(pt pr:List Nat):Qr (E.soft b pt pr) pv S w:=h
theorem Qr.unsoft {E:Env}{pv:Nat->Value}{S:Nat->Prop}{w:World}{b:Bool}{pt pr:List Nat}(h:Qr (E.soft b pt pr) pv S w):Qr E pv S w:=h
theorem GOk.soft {P:Program}{E:Env}{pv:Nat->Value}{G:Cal->List AV->AV->Prop}(h:GOk P E pv G)(b:Bool)(pt pr:List Nat):GOk P (E.soft b pt pr) pv G:=h
inductive CodeR (E:Env)(G:Cal->List AV->AV->Prop)(LG:Nat->St->Ex->St->Prop):Nat->Code->St->Ex->St->Prop
 |skip (b:Nat) (st:St):CodeR E G LG b .skip st .normal st
 |region (b rid:Nat) (ops:Array Oper) (dr:Bool) (st st':St) (hn:ops.size<=256) (hm:rid*1024+1024<=Q7) (hd:dr=true->XS (UO E dr ops (st.kill (rid*1024) (rid*1024+1024))) ops=true) (hso:dr=true->Gg (UO E dr ops (st.kill (rid*1024) (rid*1024+1024))) ops=true->Q6h (UO E dr ops (st.kill (rid*1024) (rid*1024+1024))) ops=true) (h:RunR (UO E dr ops (st.kill (rid*1024) (rid*1024+1024))) G dr ops rid ops.toList 0 (st.kill (rid*1024) (rid*1024+1024)) st'):CodeR E G LG b (.region rid ops dr) st .normal st'
 |frz (b:Nat) (c:Code) (st st':St) (e:Ex) (ids:List Nat) (h:CodeR E G LG b c (st.freeze ids) e st'):CodeR E G LG b c st e st'
 |cl (b:Nat) (c:Code) (st st':St) (e:Ex) (t:Nat) (h:CodeR E G LG b c (clSlot st t) e st'):CodeR E G LG b c st e st'
 |clb (b:Nat) (c:Code) (st st':St) (e:Ex) (t:Nat) (h:CodeR E G LG b c (clBox st t) e st'):CodeR E G LG b c st e st'
 |flt (b rid:Nat) (ops:Array Oper) (st st':St) (l:List Nat) (hn:ops.size<=256) (hm:rid*1024+1024<=Q7) (hok:Q2u ops ((rdSlots st l).kill (rid*1024) (rid*1024+1024))=true) (h:∃sq:Nat->St,sq 0=(rdSlots st l).kill (rid*1024) (rid*1024+1024)/\(∀i o,ops[i]? =some o->Q08 E G ops rid i o (sq i) (sq (i+1)))/\sq ops.size=st'):CodeR E G LG b (.region rid ops true) st .normal st'
 |seq (b:Nat) (x y:Code) (st st1 st':St) (e:Ex) (h1:CodeR E G LG b x st .normal st1) (h2:CodeR E G LG b y st1 e st'):CodeR E G LG b (.seq x y) st e st'
 |seqE (b:Nat) (x y:Code) (st st':St) (e:Ex) (h1:CodeR E G LG b x st e st') (he:e≠ .normal):CodeR E G LG b (.seq x y) st e st'
 |cond (b:Nat) (c:Operand) (x y:Code) (st st':St) (e:Ex) (v:Bool) (hc:ev E st c= .t .bool v) (h:CodeR E G LG b (if v then x else y) st e st'):CodeR E G LG b (.cond c x y) st e st'
 |block (b id:Nat) (c:Code) (st st':St) (e:Ex) (h:CodeR E G LG id c st e st') (he:e≠ .exit id):CodeR E G LG b (.block id c) st e st'
 |blockX (b id:Nat) (c:Code) (st st':St) (h:CodeR E G LG id c st (.exit id) st'):CodeR E G LG b (.block id c) st .normal st'
 |loop (b:Nat) (c:Code) (st st':St) (e:Ex) (h:LG b st e st'):CodeR E G LG b (.loop c) st e st'
 |exit (b id:Nat) (st:St):CodeR E G LG b (.exit id) st (.exit id) st
 |ret (b:Nat) (st:St):CodeR E G LG b .ret st .ret st
theorem CodeR.cls {E:Env}{G:Cal->List AV->AV->Prop}{LG:Nat->St->Ex->St->Prop}{b:Nat}{c:Code}{st':St}{e:Ex}:∀(l:List Nat) {st:St},CodeR E G LG b c (Q1F st l) e st'->CodeR E G LG b c st e st'
 |[],_,h=>h
 |t::l,_,h=>.cl _ _ _ _ _ t (.clb _ _ _ _ _ t (CodeR.cls l h))
section
variable {w0:World} {B:Old} {pv:Nat->Value} {S:Nat->Prop} {ρ:Nat->Option Loc} {st:St} {a:Act} {w:World}
theorem Sim.clSlot (h:Sim w0 B pv S ρ st a w)(t:Nat):∃S',Sim w0 B pv S' ρ (Gx.clSlot st t) a w/\Grew B S S'/\∀b,S b->S' b:=by
 unfold Gx.clSlot
 split
 ·rename_i i l b hi he hc
  have h1:=h.frzs (J3 6 (st.slot t))
  refine⟨_,⟨h1.size,h1.defers,λt'=>?_,h1.hs,h1.below,h1.hB⟩,JR h _,λ_ h=>.inl h⟩
  show VR _ w ρ _ pv (cond (Nat.beq t' t) b ((st.freeze (J3 6 (st.slot t))).slot t')) _
  cases hb:Nat.beq t' t with
  |false=>exact h1.slots t'
  |true=>
   obtain rfl:=Nat.eq_of_beq_eq_true hb
   obtain⟨cs,har,hv⟩:=Qw (h.slots t') (by intro e;rw[e]at hi;simp[J3]at hi)
   refine .inr ⟨cs,Jc h.hs (λ_ h=>.inl h) hc har (.inr ⟨he,λid hid r g c hr hf hl=>.inr ⟨id,hid,r,c,hr,hf,hl⟩⟩),?_⟩
   rw[hv]
   show valOf (st.slot t') cs=valOf b cs
   unfold valOf
   rw[Jy hc]
 ·exact⟨S,h,Grew.refl _ _,λ_ h=>h⟩
theorem Sim.clBox (h:Sim w0 B pv S ρ st a w)(t:Nat):∃S',Sim w0 B pv S' ρ (Gx.clBox st t) a w/\Grew B S S'/\∀b,S b->S' b:=by
 have stay:∃S',Sim w0 B pv S' ρ st a w/\Grew B S S'/\∀b,S b->S' b:=⟨S,h,Grew.refl _ _,λ_ h=>h⟩
 unfold Gx.clBox
 split
 ·rename_i j hs
  split
  ·rename_i τ b hr
   split
   ·rename_i i l σ x hi he hc
    split
    ·rename_i hσ _
     subst hσ
     have hv:=h.slots t
     rw[hs]at hv
     obtain⟨cs0,ha,_⟩:=Qw hv (by simp)
     cases ha with
     |epB _ τ' σ' a' g cap _ h4 hl hp=>
      rw[hr]at h4
      cases h4
      obtain⟨cur,T,hg,hf,har⟩:=h.hs.rows j _ _ hr hl
      have h1:=h.frzs (J3 6 b)
      have hrj:(st.freeze (J3 6 b)).row j=some (.box σ b):=by
       rw[JG,hr]
       by_cases e:j∈J3 6 b
       ·simp[e,JC]
       ·simp[e]
      have har':∀row',AR (Y4 S ρ st.row (J3 6 b)) w ρ row' pv (.t σ x) cur.toList:=λrow'=>
       Jc h.hs (λ_ h=>.inl h) hc har (.inr ⟨he,λid hid r g c hr hf hl=>.inr ⟨id,hid,r,c,hr,hf,hl⟩⟩)
      have hkk:∀id l r,True->ρ id=some l->(st.freeze (J3 6 b)).row id=some r->ρ id=some l/\∃r',((st.freeze (J3 6 b)).setRow j (.box σ (.t σ x))).row id=some r'/\Same r r':=λid l r _ h2 h3=>by
       refine⟨h2,?_⟩
       rw[Q1]
       by_cases e:id=j
       ·subst e
        rw[hrj]at h3
        cases h3
        exact⟨.box σ (.t σ x),by simp,.box _ _ _⟩
       ·exact⟨r,by simp[e,h3],.refl r⟩
      refine⟨_,⟨h1.size,h1.defers,λt'=>VR.ext (P:=λ_=>True) (λ_ h=>h) (λ_ _=>rfl) hkk (h1.slots t') (λ_ _=>trivial),?_,h1.below,h1.hB⟩,JR h _,λ_ h=>.inl h⟩
      have back:∀id r,((st.freeze (J3 6 b)).setRow j (.box σ (.t σ x))).row id=some r->(id=j/\r= .box σ (.t σ x))\/(id≠j/\(st.freeze (J3 6 b)).row id=some r):=λid r h2=>by
       rw[Q1]at h2
       by_cases e:id=j
       ·subst e
        simp at h2
        exact .inl ⟨rfl,h2.symm⟩
       ·simp[e]at h2
        exact .inr ⟨e,h2⟩
      have some0:∀id,((st.freeze (J3 6 b)).setRow j (.box σ (.t σ x))).row id≠none->(st.freeze (J3 6 b)).row id≠none:=λid h2=>by
       obtain⟨r,hr2⟩:=Option.ne_none_iff_exists'.1 h2
       rcases back id r hr2 with⟨rfl,_⟩|⟨_,h3⟩
       ·rw[hrj];simp
       ·rw[h3];simp
      refine⟨h1.hs.stab,λid r l h2 h3=>?_,λid id' l l' b h2 h3 h4 h5=>h1.hs.inj0 id id' l l' b h2 h3 (some0 id h4) (some0 id' h5),λid r l b h2 h3 hb=>?_,h1.hs.pin⟩
      ·rcases back id r h2 with⟨rfl,rfl⟩|⟨_,h4⟩
       ·rw[hl]at h3
        cases h3
        exact⟨cur,T,hg,.t _ _,har' _⟩
       ·exact(h1.hs.rows id r l h4 h3).ext (P:=λ_=>True) (λ_ h=>h) (λ_ _=>rfl) hkk (λ_ _=>rfl) (λ_ _ _ _ _=>trivial)
      ·rcases back id r h3 with⟨rfl,rfl⟩|⟨_,h4⟩
       ·have k:=h1.hs.apart0 id _ l _ h2 hrj hb
        exact k
       ·exact h1.hs.apart0 id r l b h2 h4 hb
    ·exact stay
   ·exact stay
  ·exact stay
 ·exact stay
end
def LIs (L:Kv)(LG:Nat->St->Ex->St->Prop):Prop:=∀(R:Type) b st (K:Ex->St->Option R) r,L b st K=some r->∃e st',LG b st e st'/\K e st'=some r
theorem Yp {E:Env}{C:Orc}{L:Kv}{G:Cal->List AV->AV->Prop}{LG:Nat->St->Ex->St->Prop}(hC:JE C G)(hL:LIs L LG){R:Type}{r:R}:∀(c:Code) (b:Nat) (st:St) {K:Ex->St->Option R},QJ E C L b c st K=some r->
  ∃e st',CodeR E G LG b c st e st'/\K e st'=some r
 |.skip,b,st,K,h=>⟨_,_,.skip b st,h⟩
 |.region rid ops dr,b,st,K,h=>by
  simp only[QJ]at h
  split at h
  ·rename_i hdr
   simp only[Bool.and_eq_true]at hdr
   obtain⟨rfl,_⟩:=hdr
   unfold Q9f at h
   split at h
   ·rename_i hg
    simp only[Bool.and_eq_true]at hg
    obtain⟨hn,hm,hok⟩:=hg
    obtain⟨sq,h1,h2,h3⟩:=Q1d hC _ _ _ h
    rw[Nat.zero_add,Array.length_toList]at h3
    exact⟨_,_,.frz _ _ _ _ _ _ (.flt b rid ops _ _ _ (Nat.le_of_ble_eq_true hn) (Nat.le_of_ble_eq_true hm) hok ⟨sq,h1,λi o ho=>by have:=h2 i o (by simpa using ho);rwa [Nat.zero_add]at this,rfl⟩),h3⟩
   ·cases h
  unfold Q9e at h
  split at h
  ·cases h
  ·rename_i hg
   simp only[Bool.or_eq_false_iff,Bool.not_eq_false']at hg
   obtain⟨hn,hm,hd⟩:=hg
   obtain⟨st',h1,h2⟩:=UB hC _ _ _ h
   refine⟨_,st',.frz _ _ _ _ _ _ (CodeR.cls _ (.region b rid ops dr _ st' (Nat.le_of_ble_eq_true hn) (Nat.le_of_ble_eq_true hm) (λe=>?_) (λe e2=>?_) h1)),h2⟩
   ·subst e
    simp only[Bool.true_and,Bool.or_eq_false_iff,Bool.not_eq_false']at hd
    exact hd.1
   ·subst e
    rw[e2]at hd
    simp only[Bool.true_and,Bool.or_eq_false_iff,Bool.not_eq_false']at hd
    exact hd.2
 |.seq x y,b,st,K,h=>by
  simp only[QJ]at h
  obtain⟨e,st1,h1,h2⟩:=Yp hC hL x b st h
  cases e with
  |normal=>
   obtain⟨e,st',h3,h4⟩:=Yp hC hL y b st1 h2
   exact⟨e,st',.seq b x y st st1 st' e h1 h3,h4⟩
  |exit id=>exact⟨_,st1,.seqE b x y st st1 _ h1 (by simp),h2⟩
  |ret=>exact⟨_,st1,.seqE b x y st st1 _ h1 (by simp),h2⟩
 |.cond c x y,b,st,K,h=>by
  simp only[QJ]at h
  split at h
  ·rename_i v hv
   cases v with
   |true=>
    obtain⟨e,st',h1,h2⟩:=Yp hC hL x b st h
    exact⟨e,st',.cond b c x y st st' e true hv (by simpa using h1),h2⟩
   |false=>
    obtain⟨e,st',h1,h2⟩:=Yp hC hL y b st h
    exact⟨e,st',.cond b c x y st st' e false hv (by simpa using h1),h2⟩
  ·cases h
 |.block id c,b,st,K,h=>by
  simp only[QJ]at h
  obtain⟨e,st1,h1,h2⟩:=Yp hC hL c id st h
  cases e with
  |normal=>exact⟨_,st1,.block b id c st st1 _ h1 (by simp),h2⟩
  |exit j=>
   simp only at h2
   split at h2
   ·rename_i hj
    have:=Nat.eq_of_beq_eq_true hj
    subst this
    exact⟨_,st1,.blockX b _ c st st1 h1,h2⟩
   ·rename_i hj
    refine⟨_,st1,.block b id c st st1 _ h1 (λe=>?_),h2⟩
    cases e
    simp at hj
  |ret=>exact⟨_,st1,.block b id c st st1 _ h1 (by simp),h2⟩
 |.loop c,b,st,K,h=>by
  simp only[QJ]at h
  obtain⟨e,st',h1,h2⟩:=hL _ _ _ _ _ h
  exact⟨e,st',.loop b c st st' e h1,h2⟩
 |.exit id,b,st,K,h=>⟨_,_,.exit b id st,h⟩
 |.ret,b,st,K,h=>⟨_,_,.ret b st,h⟩
 |.rangeFunc ..,b,st,K,h=>by simp[QJ]at h
 |.scope _,b,st,K,h=>by simp[QJ]at h
 |.label _,b,st,K,h=>by simp[QJ]at h
 |.goto _,b,st,K,h=>by simp[QJ]at h
 |.refuse _,b,st,K,h=>by simp[QJ]at h
def exw:Ex->Exit
 |.normal=>.normal
 |.exit id=>.exit id
 |.ret=>.ret
def Yi (P:Program)(E:Env)(w0:World)(B:Old)(pv:Nat->Value)(d:Code)(LGb:St->Ex->St->Prop):Prop:=
 ∀(st:St) (e:Ex) (st':St) (S:Nat->Prop) (ρ:Nat->Option Loc) (a:Act) (w:World) (Q:Exit->Act->World->Prop),LGb st e st'->Sim w0 B pv S ρ st a w->Qr E pv S w->
  (∀S' ρ' a' w',Sim w0 B pv S' ρ' st' a' w'->Qr E pv S' w'->Grew B S S'->Q (exw e) a' w')->(Code.loop d).wp P Q a w
theorem Q1Y {P:Program}{E:Env}{w0:World}{B:Old}{pv:Nat->Value}{G:Cal->List AV->AV->Prop}{LG:Nat->St->Ex->St->Prop}(hE:EnvOk P E)(hG:GOk P E pv G){b:Nat}{c:Code}{st:St}{e:Ex}{st':St}(h:CodeR E G LG b c st e st') :
  (∀p∈J0 b c,Yi P E w0 B pv p.2 (LG p.1))->∀{S:Nat->Prop} {ρ:Nat->Option Loc} {a:Act} {w:World} {Q:Exit->Act->World->Prop},Sim w0 B pv S ρ st a w->Qr E pv S w->
  (∀S' ρ' a' w',Sim w0 B pv S' ρ' st' a' w'->Qr E pv S' w'->Grew B S S'->Q (exw e) a' w')->c.wp P Q a w:=by
 induction h with
 |skip b st=>exact λ_ S ρ a w Q hs hgl hQ=>wp_skip (hQ S ρ a w hs hgl (Grew.refl _ _))
 |region b rid ops dr st st' hn hm hd hso h=>
  refine λ_ S ρ a w Q hs hgl hQ=>Q5M (E:=UO E dr ops (st.kill (rid*1024) (rid*1024+1024))) (hE.soft _ _ _) (hG.soft _ _ _) hn hm hd (λe e2=>hso e ?_) h hs (Qr.soft hgl _ _ _) λS' ρ' a' w' h1 h2 h3=>hQ S' ρ' a' w' h1 (Qr.unsoft h2) h3
  subst e
  have e3:=e2
  simp only[UO,Env.soft,Bool.true_and,Bool.and_eq_true]at e3
  simpa[UO,Env.soft,Gg,US]using e3.2
 |flt b rid ops st st' l hn hm hok h=>
  exact λ_ S ρ a w Q hs hgl hQ=>Q4a hE hG hn hm hok h (hs.rdSlots l) hgl λS' ρ' a' w' h1 h2 h3=>hQ S' ρ' a' w' h1 h2 h3
 |cl b c st st' e t h ih=>
  intro hl S ρ a w Q hs hgl hQ
  obtain⟨S1,h1,g1,m1⟩:=hs.clSlot t
  exact ih hl h1 (hgl.mono m1 (λ_ _=>rfl)) λS2 ρ2 a2 w2 h2 h3 h4=>hQ S2 ρ2 a2 w2 h2 h3 (g1.trans h4)
 |clb b c st st' e t h ih=>
  intro hl S ρ a w Q hs hgl hQ
  obtain⟨S1,h1,g1,m1⟩:=hs.clBox t
  exact ih hl h1 (hgl.mono m1 (λ_ _=>rfl)) λS2 ρ2 a2 w2 h2 h3 h4=>hQ S2 ρ2 a2 w2 h2 h3 (g1.trans h4)
 |frz b c st st' e ids h ih=>
  intro hl S ρ a w Q hs hgl hQ
  exact ih hl (hs.frzs ids) (hgl.mono (λ_ h=>.inl h) (λ_ _=>rfl)) λS1 ρ1 a1 w1 h1 h2 h3=>hQ S1 ρ1 a1 w1 h1 h2 ((JR hs _).trans h3)
 |seq b x y st st1 st' e h1 h2 ih1 ih2=>
  intro hl S ρ a w Q hs hgl hQ
  refine wp_seq (ih1 (λp hp=>hl p (List.mem_append_left _ hp)) hs hgl λS1 ρ1 a1 w1 hs1 hgl1 hS1=>?_)
  exact ih2 (λp hp=>hl p (List.mem_append_right _ hp)) hs1 hgl1 λS2 ρ2 a2 w2 hs2 hgl2 hS2=>hQ S2 ρ2 a2 w2 hs2 hgl2 (hS1.trans hS2)
 |seqE b x y st st' e h1 he ih=>
  intro hl S ρ a w Q hs hgl hQ
  refine wp_seq (ih (λp hp=>hl p (List.mem_append_left _ hp)) hs hgl λS1 ρ1 a1 w1 hs1 hgl1 hS1=>?_)
  have:=hQ S1 ρ1 a1 w1 hs1 hgl1 hS1
  cases e with
  |normal=>exact absurd rfl he
  |exit id=>exact this
  |ret=>exact this
 |cond b c x y st st' e v hc h ih=>
  intro hl S ρ a w Q hs hgl hQ
  have hv:=Qj hgl hs c
  rw[hc]at hv
  refine wp_cond (Yy hv) (ih (λp hp=>hl p ?_) hs hgl hQ)
  cases v with
  |true=>exact List.mem_append_left _ (by simpa using hp)
  |false=>exact List.mem_append_right _ (by simpa using hp)
 |block b id c st st' e h he ih=>
  intro hl S ρ a w Q hs hgl hQ
  refine wp_block (ih hl hs hgl λS1 ρ1 a1 w1 hs1 hgl1 hS1=>?_)
  have:=hQ S1 ρ1 a1 w1 hs1 hgl1 hS1
  cases e with
  |normal=>exact this
  |exit j=>
   have hj:j≠id:=λe=>he (by rw[e])
   simp only[Exit.inBlock,exw]at this ⊢
   rw[if_neg (by simpa using hj)]
   exact this
  |ret=>exact this
 |blockX b id c st st' h ih=>
  intro hl S ρ a w Q hs hgl hQ
  refine wp_block (ih hl hs hgl λS1 ρ1 a1 w1 hs1 hgl1 hS1=>?_)
  have:=hQ S1 ρ1 a1 w1 hs1 hgl1 hS1
  simp only[Exit.inBlock,exw]at this ⊢
  rw[if_pos (by simp)]
  exact this
 |loop b c st st' e h=>
  intro hl S ρ a w Q hs hgl hQ
  exact hl (b,c) List.mem_cons_self st e st' S ρ a w Q h hs hgl hQ
 |exit b id st=>exact λ_ S ρ a w Q hs hgl hQ=>wp_exit (hQ S ρ a w hs hgl (Grew.refl _ _))
 |ret b st=>exact λ_ S ρ a w Q hs hgl hQ=>wp_ret (hQ S ρ a w hs hgl (Grew.refl _ _))
end Go.Gx
end
section
/- Functions: what the interpreter finds is what the machine's call does. -/
namespace Go.Gx
open Go.RowKit
structure FunR (E:Env)(G:Cal->List AV->AV->Prop)(LG:Nat->St->Ex->St->Prop)(fn:Func)(c:Code)(args:List AV)(res:AV)(e:Ex)(st:St)(rs as:List AV):Prop where
 body:fn.body=some c
 run:CodeR E G LG 0 c (start fn.ntmps args) e st
 out:∀id,e≠ .exit id
 vals:YE E st fn.results.toList=some rs
 dis:Qy (QQ rs)=true
 eps:JL (JA 6) rs=false
 ret:Us st rs=some as
 ans:res=one as
theorem Q78 {E:Env}{C:Orc}{L:Kv}{G:Cal->List AV->AV->Prop}{LG:Nat->St->Ex->St->Prop}(hC:JE C G)(hL:LIs L LG){fn:Func}{args:List AV}{R:Type}{K:AV->Option R}{r:R}(h:QE E C L fn args K=some r) :
  ∃c res e st rs as,FunR E G LG fn c args res e st rs as/\K res=some r:=by
 unfold QE at h
 split at h
 ·rename_i c hc
  obtain⟨e,st,h1,h2⟩:=Yp hC hL c 0 _ h
  have go:(match YE E st fn.results.toList with
   |some rs=>match Qy (QQ rs)&& !JL (JA 6) rs with
    |true=>match Us st rs with
     |some as=>K (one as)
     |none=>none
    |false=>none
   |none=>none)=some r->(∀id,e≠ .exit id)->∃c res e st rs as,FunR E G LG fn c args res e st rs as/\K res=some r:=λh2 he=>by
   split at h2
   ·rename_i rs hrs
    split at h2
    ·rename_i hd
     simp only[Bool.and_eq_true,Bool.not_eq_true']at hd
     split at h2
     ·rename_i as has
      exact⟨c,_,e,st,rs,as,⟨hc,h1,he,hrs,hd.1,hd.2,has,rfl⟩,h2⟩
     ·cases h2
    ·cases h2
   ·cases h2
  cases e with
  |exit id=>cases h2
  |normal=>exact go h2 (λid h=>by cases h)
  |ret=>exact go h2 (λid h=>by cases h)
 ·cases h
theorem JW:∀{l:List Nat},Qy l=true->l.Nodup
 |[],_=>List.nodup_nil
 |a::l,h=>by
  simp only[Qy,Bool.and_eq_true,Bool.not_eq_true']at h
  exact List.nodup_cons.2 ⟨by simpa using h.1,JW h.2⟩
def Q09:AV->Bool
 |.fr _ _ _=>true
 |.agg _ _=>true
 |_=>false
theorem Q0a {row:Nat->Option Row}{n:Nat}{a b:AV}(h:Q2 row n a=some b):Q09 b=false:=by
 cases n with
 |zero=>cases h
 |succ n=>
  cases a with
  |agg τ' fs=>
   simp only[Q2]at h
   split at h
   ·obtain⟨x,rfl⟩:=XY h
    rfl
   ·cases h
  |ep id i p=>cases i<;>simp only[Q2]at h<;>(repeat' split at h)<;>first
   |(cases h;done)
   |(cases h;rfl)
  |clo f fs=>
   simp only[Q2]at h
   split at h
   ·cases h;rfl
   ·cases h
  |_=>simp only[Q2]at h<;>(repeat' split at h)<;>first
   |(cases h;done)
   |(cases h;rfl)
theorem Q37:∀{fs:List AV} {k i:Nat} {a:AV},Gz k fs=true->i≠k->fs[i]? =some a->Q0M a=true
 |[],_,_,_,_,_,h=>by simp at h
 |b::l,0,i,a,h,hi,ha=>by
  have go:∀{l:List AV} {i:Nat} {a:AV},Gh l=true->l[i]? =some a->Q0M a=true:=by
   intro l
   induction l with
   |nil=>intro i a _ h;simp at h
   |cons c l ih=>
    intro i a h ha
    simp only[Gh,Bool.and_eq_true]at h
    cases i with
    |zero=>cases ha;exact h.1
    |succ i=>exact ih h.2 (by simpa using ha)
  cases i with
  |zero=>exact absurd rfl hi
  |succ i=>exact go (l:=l) h (by simpa using ha)
 |b::l,k+1,i,a,h,hi,ha=>by
  simp only[Gz,Bool.and_eq_true]at h
  cases i with
  |zero=>cases ha;exact h.1
  |succ i=>exact Q37 (i:=i) (k:=k) h.2 (λe=>hi (by rw[e])) (by simpa using ha)
theorem Q8h {S S':Nat->Prop}{w w':World}{ρ ρ':Nat->Option Loc}{row row':Nat->Option Row}{pv:Nat->Value}{a:AV}{cs:List Value}(h:Q0M a=true)(ha:AR S w ρ row pv a cs):AR S' w' ρ' row' pv a cs:=by
 cases ha with
 |t τ x _ hx=>exact .t τ x _ (J5 (by simpa[Q0M]using h) hx)
 |_=>cases h
theorem Q1f {st:St}{a b:AV}(h:Q3H st a=some b):(∃id e τ,∃xs:List (den τ),a= .own id/\st.row id=some (.flat e τ xs false true)/\b= .fr e τ xs)\/
  (∃id e τ fs k σ,∃xs:List (den σ),a= .agg τ fs/\fs[k]? =some (.own id)/\Gz k fs=true/\st.row id=some (.flat e σ xs false true)/\b= .agg τ (fs.set k (.fr e σ xs)))\/
  (∃τ fs k,a= .agg τ fs/\fs[k]? =some .nil/\Gz k fs=true/\b= .agg τ fs)\/(Q2 st.row 6 a=some b/\Q09 b=false):=by
 unfold Q3H at h
 split at h
 ·rename_i id
  split at h
  ·rename_i e τ xs hr
   cases h
   exact .inl ⟨id,e,τ,xs,rfl,hr,rfl⟩
  ·rename_i e τ xs fz app _ hr
   cases h
   exact .inr (.inr (.inr ⟨by simp only[Q2,hr],rfl⟩))
  ·cases h
 ·rename_i τ fs
  split at h
  ·rename_i b' hb
   simp only[Option.some.injEq]at h
   subst h
   unfold Q9g at hb
   split at hb
   ·rename_i k hk
    split at hb
    ·rename_i id h1 h2
     split at hb
     ·rename_i e σ xs hr
      cases hb
      exact .inr (.inl ⟨id,e,τ,fs,k,σ,xs,rfl,h1,h2,hr,rfl⟩)
     ·cases hb
    ·rename_i h1 h2
     cases hb
     exact .inr (.inr (.inl ⟨τ,fs,k,rfl,h1,h2,rfl⟩))
    ·cases hb
   ·cases hb
  ·exact .inr (.inr (.inr ⟨h,Q0a h⟩))
 ·exact .inr (.inr (.inr ⟨h,Q0a h⟩))
theorem Q0b {st:St}:∀{rs as:List AV},Us st rs=some as->as.length=rs.length/\∀(i:Nat) b,as[i]? =some b->∃a,rs[i]? =some a/\Q3H st a=some b
 |[],as,h=>by cases h;exact⟨rfl,λi b h=>by simp at h⟩
 |a::l,as,h=>by
  simp only[Us]at h
  split at h
  ·rename_i b hb
   split at h
   ·rename_i m hm
    cases h
    obtain⟨h1,h2⟩:=Q0b hm
    refine⟨by simp[h1],λi c hc=>?_⟩
    cases i with
    |zero=>cases hc;exact⟨a,rfl,hb⟩
    |succ i=>simpa using h2 i c (by simpa using hc)
   ·cases h
  ·cases h
theorem Q0c {E:Env}{st:St}:∀{l:List ResultVar} {rs:List AV},YE E st l=some rs->rs.length=l.length/\∀(i:Nat) x,l[i]? =some x->∃b,rs[i]? =some b/\Q80 E st x=some b
 |[],rs,h=>by cases h;exact⟨rfl,λi b h=>by simp at h⟩
 |a::l,rs,h=>by
  simp only[YE]at h
  split at h
  ·rename_i b hb
   split at h
   ·rename_i m hm
    cases h
    obtain⟨h1,h2⟩:=Q0c hm
    refine⟨by simp[h1],λi c hc=>?_⟩
    cases i with
    |zero=>cases hc;exact⟨b,rfl,hb⟩
    |succ i=>simpa using h2 i c (by simpa using hc)
   ·cases h
  ·cases h
theorem Q38 {P:Program}{w:World}{α:Type}{f:α->Sem Value}:∀{l:List α} {vs:List Value},vs.length=l.length->(∀(i:Nat) x v,l[i]? =some x->vs[i]? =some v->(f x).run P w= .ok v w)->(l.mapM f).run P w= .ok vs w
 |[],[],_,_=>by simp
 |[],_::_,h,_=>by simp at h
 |_::_,[],h,_=>by simp at h
 |x::l,v::vs,h,hf=>by
  have h1:=hf 0 x v rfl rfl
  have h2:=Q38 (l:=l) (vs:=vs) (by simpa using h) λi x v hx hv=>hf (i+1) x v (by simpa using hx) (by simpa using hv)
  simp[List.mapM_cons,h1,h2]
theorem Kp {a:AV}:∀{l:List AV} {i:Nat} {id:Nat},l[i]? =some a->id∈J3 6 a->(QQ l).Nodup->∀j b,j≠i->l[j]? =some b->id ∉ J3 6 b
 |[],i,id,h,_,_,_,_,_,_=>by simp at h
 |c::l,i,id,h,hm,hn,j,b,hj,hb=>by
  obtain⟨h1,h2,h3⟩:=List.nodup_append.1 (show(J3 6 c++QQ l).Nodup from hn)
  cases i with
  |zero=>
   cases h
   cases j with
   |zero=>exact absurd rfl hj
   |succ j=>exact λhb'=>h3 id hm id (Y7 (List.mem_of_getElem? (by simpa using hb)) hb') rfl
  |succ i=>
   cases j with
   |zero=>
    cases hb
    exact λhb'=>h3 id hb' id (Y7 (List.mem_of_getElem? (by simpa using h)) hm) rfl
   |succ j=>exact Kp (l:=l) (i:=i) (by simpa using h) hm h2 j b (by omega) (by simpa using hb)
def QZ (st:St):List AV->List Nat
 |[]=>[]
 |a::l=>(match Q3H st a with
  |some b=>cond (Q09 b) [] (J3 6 a)
  |none=>J3 6 a)++QZ st l
theorem UE {st:St}{id:Nat}:∀{rs:List AV},id∈QZ st rs->∃(i:Nat) (a:AV),rs[i]? =some a/\id∈J3 6 a/\∀b,Q3H st a=some b->Q09 b=false
 |[],h=>by cases h
 |a::l,h=>by
  simp only[QZ]at h
  rcases List.mem_append.1 h with h|h
  ·split at h
   ·rename_i b hb
    cases ho:Q09 b with
    |true=>rw[ho]at h;cases h
    |false=>
     rw[ho]at h
     exact⟨0,a,rfl,h,λb' hb'=>by rw[hb]at hb';cases hb';exact ho⟩
   ·rename_i hn
    exact⟨0,a,rfl,h,λb' hb'=>by rw[hn]at hb';cases hb'⟩
  ·obtain⟨i,b,h1,h2,h3⟩:=UE h
   exact⟨i+1,b,by simpa using h1,h2,h3⟩
theorem KX {st:St}{id:Nat}:∀{rs:List AV} {a:AV},a∈rs->id∈J3 6 a->(∀b,Q3H st a=some b->Q09 b=false)->id∈QZ st rs
 |[],a,h,_,_=>by cases h
 |c::l,a,h,hi,hn=>by
  simp only[QZ]
  rcases List.mem_cons.1 h with rfl|h
  ·refine List.mem_append_left _ ?_
   split
   ·rename_i b hb
    rw[hn b hb]
    exact hi
   ·exact hi
  ·exact List.mem_append_right _ (KX h hi hn)
section
variable {P:Program} {E:Env} {pv:Nat->Value} {G:Cal->List AV->AV->Prop} {LG:Nat->St->Ex->St->Prop}
theorem Q1Z (hE:EnvOk P E){w0:World}{B:Old}{S1:Nat->Prop}{ρ:Nat->Option Loc}{st:St}{a:Act}{w1:World}{fn:Func}{rs:List AV}(hs:Sim w0 B pv S1 ρ st a w1)(hvals0:YE E st fn.results.toList=some rs) :
  ∃vs':List Value,vs'.length=rs.length/\(∀(i:Nat) b v,rs[i]? =some b->vs'[i]? =some v->VR S1 w1 ρ st.row pv b v)/\(results fn a.tmps).run P w1= .ok (if h:vs'.toArray.size=1 then vs'.toArray[0]else .tuple vs'.toArray) w1:=by
 obtain⟨hrl,hrg⟩:=Q0c hvals0
 have Yw:∀x b,Q80 E st x=some b->∃v,VR S1 w1 ρ st.row pv b v/\(match x with
   |ResultVar.tmp t=>(pure (a.tmps.getD t undef):Sem Value)
   |ResultVar.cell t T=>do loadVar T (<-asAddr (a.tmps.getD t undef))).run P w1= .ok v w1:=λx b hx=>by
  cases x with
  |tmp t=>cases hx;exact⟨_,hs.slots t,rfl⟩
  |cell t T=>
   simp only[Q80]at hx
   split at hx
   ·rename_i τ j hT hj
    split at hx
    ·rename_i σ b' hr
     split at hx
     ·rename_i e _
      subst e
      cases hx
      have hv:=hs.slots t
      rw[hj]at hv
      obtain⟨g,c,τ',h1,h2,h3⟩:=Q1Q hv hr
      obtain⟨cur,T',h4,h5,h6⟩:=hs.hs.rows j _ _ hr h2
      have hrun:=Dh (P:=P) (hE.ty _ _ hT) h5 h6 (KF h4)
      refine⟨_,.inr ⟨_,h6,rfl⟩,?_⟩
      show(do loadVar T (<-asAddr (a.tmps.getD t undef)):Sem Value).run P w1=_
      rw[h3]
      simpa[Instr.loadAt,Instr.sureAddr,asAddr,Qk]using hrun
     ·cases hx
    ·cases hx
   ·cases hx
 have hvals:∃vs':List Value,vs'.length=rs.length/\(∀(i:Nat) b v,rs[i]? =some b->vs'[i]? =some v->VR S1 w1 ρ st.row pv b v)/\(fn.results.toList.mapM fun
   |ResultVar.tmp t=>(pure (a.tmps.getD t undef):Sem Value)
   |ResultVar.cell t T=>do loadVar T (<-asAddr (a.tmps.getD t undef))).run P w1= .ok vs' w1:=by
  have key:∀i:Nat,∃v,∀x,fn.results.toList[i]? =some x->∃b,rs[i]? =some b/\VR S1 w1 ρ st.row pv b v/\(match x with
   |ResultVar.tmp t=>(pure (a.tmps.getD t undef):Sem Value)
   |ResultVar.cell t T=>do loadVar T (<-asAddr (a.tmps.getD t undef))).run P w1= .ok v w1:=λi=>by
   cases hx:fn.results.toList[i]? with
   |none=>exact⟨undef,λx h=>by cases h⟩
   |some x=>
    obtain⟨b,h1,h2⟩:=hrg i x hx
    obtain⟨v,h3,h4⟩:=Yw x b h2
    exact⟨v,λy hy=>by cases hy;exact⟨b,h1,h3,h4⟩⟩
  let vf:=λi=>Classical.choose (key i)
  have hvf:=λi=>Classical.choose_spec (key i)
  refine⟨(List.range rs.length).map vf,by simp,λi b v hb hv=>?_,Q38 (by simp[hrl]) λi x v hx hv=>?_⟩
  ·have hi:=(List.getElem?_eq_some_iff.1 hb).1
   have hx:fn.results.toList[i]? =some fn.results.toList[i]:=List.getElem?_eq_getElem (by omega)
   obtain⟨b',h1,h2,h3⟩:=hvf i _ hx
   rw[hb]at h1
   cases h1
   simp only[List.getElem?_map,List.getElem?_range hi,Option.map_some,Option.some.injEq]at hv
   subst hv
   exact h2
  ·have hi:=(List.getElem?_eq_some_iff.1 hx).1
   obtain⟨b',h1,h2,h3⟩:=hvf i _ hx
   simp only[List.getElem?_map,List.getElem?_range (show i<rs.length by omega),Option.map_some,Option.some.injEq]at hv
   subst hv
   exact h3
 obtain⟨vs',hvl',hvv,hrun⟩:=hvals
 have hres:(results fn a.tmps).run P w1= .ok (if h:vs'.toArray.size=1 then vs'.toArray[0]else .tuple vs'.toArray) w1:=by
  unfold results
  rw[Array.mapM_eq_mapM_toList]
  simp only[Sem.run_bind,Sem.run_map,Sem.run_pure]
  exact(congrArg (λr=>Result.andThen (Result.andThen r λ(l:List Value) w'=>.ok l.toArray w') λ(us:Array Value) w'=>.ok (if h:us.size=1 then us[0]else .tuple us) w') hrun).trans rfl
 exact⟨vs',hvl',hvv,hres⟩
theorem Q79 (hE:EnvOk P E){w0:World}{B:Old}{S1:Nat->Prop}{ρ:Nat->Option Loc}{st:St}{a:Act}{w1:World}{fn:Func}{rs as:List AV}{n0:Nat}(hs:Sim w0 B pv S1 ρ st a w1)(hvals0:YE E st fn.results.toList=some rs)(hdis:Qy (QQ rs)=true)(heps:JL (JA 6) rs=false)(hret:Us st rs=some as)
  (hnew:∀id r g c,id∈QQ rs->st.row id=some r->ρ id=some (.at g c)->n0<=g) :
  ∃v,(results fn a.tmps).run P w1= .ok v w1/\(∀b,Y4 S1 ρ st.row (QZ st rs) b->S1 b\/(n0<=b/\b<w1.heap.size))/\RR (Y4 S1 ρ st.row (QZ st rs)) w1 n0 pv (one as) v:=by
 obtain⟨hal,hag⟩:=Q0b hret
 obtain⟨vs',hvl',hvv,hres⟩:=Q1Z hE hs hvals0
 refine⟨_,hres,λb hb=>?_,?_⟩
 ·rcases hb with hb|⟨id,hid,r,c,hr,_,hl'⟩
  ·exact .inl hb
  ·obtain⟨j,b',k1,k2,_⟩:=UE hid
   exact .inr ⟨hnew id r b c (Y7 (List.mem_of_getElem? k1) k2) hr hl',(hs.hs.rows id r _ hr hl').lt⟩
 ·
  have comp:∀i:Nat,∃g:Option Nat,∀(b:AV) (v:Value),as[i]? =some b->vs'[i]? =some v->R1 (Y4 S1 ρ st.row (QZ st rs)) w1 n0 pv b v g/\(∀g0,g=some g0->∃id c ra,rs[i]? =some ra/\id∈J3 6 ra/\ρ id=some (.at g0 c)/\st.row id≠none):=λi=>by
   by_cases hi:i<as.length
   ·have hb:as[i]? =some as[i]:=List.getElem?_eq_getElem hi
    have hv:vs'[i]? =some vs'[i]:=List.getElem?_eq_getElem (by omega)
    obtain⟨ra,h1,h2⟩:=hag i _ hb
    have hvr:=hvv i ra _ h1 hv
    have apart:∀{id e' τ} {xs:List (den τ)} {g cap},st.row id=some (.flat e' τ xs false true)->ρ id=some (.at g cap)->id∈J3 6 ra->Q09 as[i]=true->n0<=g/\¬Y4 S1 ρ st.row (QZ st rs) g/\QG (Y4 S1 ρ st.row (QZ st rs)) w1 (λ_=>none) (λ_=>none) pv (.flat e' τ xs false true) (.at g cap):=λ{id e' τ xs g cap} hr hl' hid hown=>by
     have hap:=hs.hs.apart id _ g cap hl' hr
     refine⟨hnew id _ g cap (Y7 (List.mem_of_getElem? h1) hid) hr hl',?_,(hs.hs.rows id _ _ hr hl' |> λ⟨cur,f',k1,k2,k3,k4,k5,k6,k7,k8⟩=>⟨cur,f',k1,k2,k3,k4,k5,k6,k7,λi hi=>by
       obtain⟨cs,k9,k10⟩:=k8 i hi
       exact⟨cs,k9.mono (λb hb=>hb.mono .inl rfl) (λ_ _=>rfl),k10⟩⟩)⟩
     rintro(hS|⟨id',hid',r',c',hr',_,hl2⟩)
     ·exact hap.2.1 rfl hS
     ·have:=hs.hs.inj id id' g cap c' hl' hl2 (by rw[hr];simp) (by rw[hr'];simp)
      subst this
      obtain⟨j,b',k1,k2,k3⟩:=UE hid'
      by_cases hji:j=i
      ·subst hji
       rw[h1]at k1
       cases k1
       have:=k3 _ h2
       rw[hown]at this
       cases this
      ·exact Kp (i:=i) h1 hid (JW hdis) j b' hji k1 k2
    have flatUp:∀{S':Nat->Prop} {k:Nat} {τ:Ty} {fs:List AV} {css:List (List Value)},Gz k fs=true->(∀(i:Nat) a cs,fs[i]? =some a->css[i]? =some cs->AR S1 w1 ρ st.row pv a cs)->∀(i:Nat) a cs,i≠k->fs[i]? =some a->css[i]? =some cs->AR S' w1 (λ_=>none) (λ_=>none) pv a cs:=λhf hh i a cs hi ha hc=>Q8h (Q37 hf hi ha) (hh i a cs ha hc)
    rcases Q1f h2 with⟨id,e',τ,xs,rfl,hr,hbe⟩|⟨id,e',τ,fs,k,σ,xs,rfl,hk,hfx,hr,hbe⟩|⟨τ,fs,k,rfl,hk,hfx,hbe⟩|⟨hcl,hnf⟩
    ·rcases Yv hvr hr with⟨g,cap,hl',hv'⟩|⟨hl',rfl,hv'⟩
     ·refine⟨some g,λb v hb' hv''=>?_⟩
      rw[hb]at hb';rw[hv]at hv''
      cases hb';cases hv''
      obtain⟨m1,m2,m3⟩:=apart hr hl' (by simp[J3]) (by rw[hbe];rfl)
      refine⟨?_,λg0 e=>by cases e;exact⟨id,cap,_,h1,by simp[J3],hl',by rw[hr];simp⟩⟩
      rw[hbe,hv']
      exact .fr e' τ xs g cap m1 m2 m3
     ·refine⟨none,λb v hb' hv''=>?_⟩
      rw[hb]at hb';rw[hv]at hv''
      cases hb';cases hv''
      refine⟨?_,λg0 e=>by cases e⟩
      rw[hbe,hv']
      exact .frNil e' τ (hs.hs.rows id _ _ hr hl').2.2
    ·obtain⟨cs,k1,k2⟩:=Qw hvr (by simp)
     cases k1 with
     |agg _ _ css hl hh=>
      have hkl:k<fs.length:=(List.getElem?_eq_some_iff.1 hk).1
      have hck:css[k]? =some css[k]:=List.getElem?_eq_getElem (by omega)
      have hown:=hh k _ _ hk hck
      have hoth:∀(j:Nat) a cs,j≠k->(fs.set k (.fr e' σ xs))[j]? =some a->css[j]? =some cs->AR (Y4 S1 ρ st.row (QZ st rs)) w1 (λ_=>none) (λ_=>none) pv a cs:=λj a cs hj ha hc=>by
       rw[List.getElem?_set_ne (Ne.symm hj)]at ha
       exact flatUp (τ:=τ) hfx hh j a cs hj ha hc
      have hid:id∈J3 6 (.agg τ fs):=by
       simp only[J3]
       exact Ux (f:=J3 5) hk (by simp[J3])
      have hvv2:vs'[i]= .agg css.flatten.toArray:=by rw[k2];rfl
      have hgo:∀c,css[k]=c->AR S1 w1 ρ st.row pv (.own id) c->(∃g cap,ρ id=some (.at g cap)/\c=[.slice (some ⟨g,0,none⟩) xs.length cap])\/(ρ id=some .nilrow/\xs=[]/\c=[.slice none 0 0]):=λc _ hc=>by
       cases hc with
       |own _ e2 τ2 xs2 fz app g cap h3 h4=>rw[hr]at h3;cases h3;exact .inl ⟨g,cap,h4,rfl⟩
       |ownNil _ e2 τ2 fz app h3 h4=>rw[hr]at h3;cases h3;exact .inr ⟨h4,rfl,rfl⟩
      rcases hgo _ rfl hown with⟨g,cap,hl',hce⟩|⟨hl',hxs,hce⟩
      ·refine⟨some g,λb v hb' hv''=>?_⟩
       rw[hb]at hb';rw[hv]at hv''
       cases hb';cases hv''
       obtain⟨m1,m2,m3⟩:=apart hr hl' hid (by rw[hbe];rfl)
       refine⟨?_,λg0 e=>by cases e;exact⟨id,cap,_,h1,hid,hl',by rw[hr];simp⟩⟩
       rw[hbe,hvv2]
       exact .agf τ _ css k e' σ xs g cap (by simpa using hl) (List.getElem?_set_self hkl) (by rw[hck,hce]) hoth m1 m2 m3
      ·subst hxs
       refine⟨none,λb v hb' hv''=>?_⟩
       rw[hb]at hb';rw[hv]at hv''
       cases hb';cases hv''
       refine⟨?_,λg0 e=>by cases e⟩
       rw[hbe,hvv2]
       exact .agfNil τ _ css k e' σ (by simpa using hl) (List.getElem?_set_self hkl) (by rw[hck,hce]) hoth (hs.hs.rows id _ _ hr hl').2.2
    ·obtain⟨cs,k1,k2⟩:=Qw hvr (by simp)
     cases k1 with
     |agg _ _ css hl hh=>
      refine⟨none,λb v hb' hv''=>?_⟩
      rw[hb]at hb';rw[hv]at hv''
      cases hb';cases hv''
      refine⟨?_,λg0 e=>by cases e⟩
      rw[hbe,k2]
      refine .plain (.agg τ fs) _ (.agg τ fs css hl λj a cs ha hc=>?_)
      by_cases hj:j=k
      ·subst hj
       rw[hk]at ha
       cases ha
       have:=hh j _ _ hk hc
       cases this
       exact .nil
      ·exact flatUp (τ:=τ) hfx hh j a cs hj ha hc
    ·refine⟨none,λb v hb' hv''=>?_⟩
     rw[hb]at hb';rw[hv]at hv''
     cases hb';cases hv''
     refine⟨?_,λg0 e=>by cases e⟩
     obtain⟨cs,k1,k2⟩:=Qw hvr (by rintro rfl;simp[Q2]at hcl)
     have k3:=Jc (ρ0:=λ_=>none) (row0:=λ_=>none) (S1:=Y4 S1 ρ st.row (QZ st rs)) hs.hs (λ_ h=>.inl h) hcl k1 (.inr ⟨QS (f:=JA 6) heps h1,λid hid r g c hr hz hl'=>.inr ⟨id,KX (List.mem_of_getElem? h1) hid (λb' he=>by
      rw[h2]at he
      simp only[Option.some.injEq]at he
      rw[<-he];exact hnf),r,c,hr,hz,hl'⟩⟩)
     rw[k2,show valOf ra cs=valOf as[i] cs by rw[valOf,valOf,Jy hcl]]
     exact .plain _ cs k3
   ·exact⟨none,λb v hb' _=>by rw[List.getElem?_eq_none (by omega)]at hb';cases hb'⟩
  have notup:∀(i:Nat) (b:AV),as[i]? =some b->∀l,b≠AV.tup l:=λi b hb l e=>by
   obtain⟨ra,h1,h2⟩:=hag i _ hb
   subst e
   rcases Q1f h2 with⟨id,e',τ,xs,rfl,hr,hbe⟩|⟨id,e',τ,fs,k,σ,xs,rfl,hk,hfx,hr,hbe⟩|⟨τ,fs,k,rfl,hk,hfx,hbe⟩|⟨hcl,hnf⟩
   ·cases hbe
   ·cases hbe
   ·cases hbe
   ·have h3:=Jy hcl
    cases ra with
    |agg τ' fs=>cases h3
    |ep id i p=>cases i<;>simp only[Q2]at hcl<;>(repeat' split at hcl)<;>cases hcl
    |_=>simp only[Q2]at hcl<;>(repeat' split at hcl)<;>cases hcl
  obtain⟨gf,hgf⟩:∃gf:Nat->Option Nat,∀(i:Nat) (b:AV) (v:Value),as[i]? =some b->vs'[i]? =some v->R1 (Y4 S1 ρ st.row (QZ st rs)) w1 n0 pv b v (gf i)/\(∀g0,gf i=some g0->∃id c ra,rs[i]? =some ra/\id∈J3 6 ra/\ρ id=some (.at g0 c)/\st.row id≠none):=
   ⟨λi=>Classical.choose (comp i),λi=>Classical.choose_spec (comp i)⟩
  have many:as.length≠1->RR (Y4 S1 ρ st.row (QZ st rs)) w1 n0 pv (.tup as) (.tuple vs'.toArray):=λ_=>by
   refine⟨vs',(List.range as.length).map gf,rfl,by omega,by simp,λi r v g hr hv hg'=>?_,λi j g hij hgi hgj=>?_⟩
   ·have hi:=(List.getElem?_eq_some_iff.1 hr).1
    simp only[List.getElem?_map,List.getElem?_range hi,Option.map_some,Option.some.injEq]at hg'
    subst hg'
    exact(hgf i r v hr hv).1
   ·have hi:i<as.length:=by have:=(List.getElem?_eq_some_iff.1 hgi).1;simpa using this
    have hj:j<as.length:=by have:=(List.getElem?_eq_some_iff.1 hgj).1;simpa using this
    simp only[List.getElem?_map,List.getElem?_range hi,List.getElem?_range hj,Option.map_some,Option.some.injEq]at hgi hgj
    obtain⟨id,c,ra,k1,k4,k2,k3⟩:=(hgf i _ _ (List.getElem?_eq_getElem hi) (List.getElem?_eq_getElem (by omega))).2 g hgi
    obtain⟨id',c',ra',k1',k4',k2',k3'⟩:=(hgf j _ _ (List.getElem?_eq_getElem hj) (List.getElem?_eq_getElem (by omega))).2 g hgj
    have:=hs.hs.inj id id' g c c' k2 k2' k3 k3'
    subst this
    exact Kp (i:=i) (id:=id) k1 k4 (JW hdis) j _ (λe=>hij e.symm) k1' k4'
  have hlen:vs'.length=as.length:=by omega
  clear comp hres hvv
  match as,vs',many,hgf,notup,hlen with
  |[],vs',many,_,_,hlen=>
   have:vs'=[]:=List.eq_nil_of_length_eq_zero hlen
   subst this
   exact many (by simp)
  |[b],[v],many,hgf,notup,hlen=>
   have hb:=(hgf 0 b v rfl rfl).1
   have:RR (Y4 S1 ρ st.row (QZ st rs)) w1 n0 pv b v:=by
    cases b with
    |tup l=>exact absurd rfl (notup 0 _ rfl l)
    |_=>exact⟨_,hb⟩
   simpa[one]using this
  |[b],[],_,_,_,hlen=>simp at hlen
  |[b],_::_::_,_,_,_,hlen=>simp at hlen
  |b::b2::l,vs',many,_,_,hlen=>
   have hne:vs'.toArray.size≠1:=by
    simp only[List.size_toArray,hlen,List.length_cons]
    omega
   rw[dif_neg hne]
   exact many (by simp)
theorem Q4b (hE:EnvOk P E)(hG:GOk P E pv G){f:FuncId}{fn:Func}(hf:P.funcs[f]? =some fn)(hname:(fn.name== "runtime.NumGoroutine")=false){c:Code}{args:List AV}{res:AV}{e:Ex}{st:St}{rs as:List AV}
  (h:FunR E G LG fn c args res e st rs as) (hn:args.length<=fn.ntmps) (hl:∀w0 B,∀p∈J0 0 c,Yi P E w0 B pv p.2 (LG p.1)):Qa P E pv (.f f) args res:=by
 intro S w vs hst hgl hargs
 obtain⟨hvl,hva⟩:=hargs
 show QD P _ ((callFunc f vs.toArray).run P w)
 have hcall:(callFunc f vs.toArray).run P w= .ok (.enter f vs.toArray) w:=by
  have hn':fn.name≠ "runtime.NumGoroutine":=by simpa using hname
  simp[callFunc,hf,hn',h.body]
 rw[hcall]
 refine calls_of_wp hf h.body ?_
 have hs0:Sim w ⟨λb=>b<w.heap.size,none⟩ pv S (λ_=>none) (start fn.ntmps args) {tmps:=vs.toArray++Array.replicate (fn.ntmps-vs.toArray.size) undef,defers:=[]} w:=by
  refine⟨by simp[start];omega,rfl,λt=>?_,⟨hst,λid r l h1 _=>(by cases h1),λid id' l l' b h1=>(by cases h1),λid r l b h1=>(by cases h1),λl hl=>(by cases hl)⟩,Blw.refl _ _,λ_ h=>h⟩
  rw[Array.getD_eq_getD_getElem?]
  simp only[start]
  by_cases ht:t<args.length
  ·have ha:args[t]? =some args[t]:=List.getElem?_eq_getElem ht
   have hv:vs[t]? =some vs[t]:=List.getElem?_eq_getElem (by omega)
   obtain⟨cs,h1,h2⟩:=hva t _ _ ha hv
   rw[Array.getElem?_append_left (by simp;omega)]
   simp only[List.getElem?_toArray,ha,hv,Option.getD_some]
   exact .inr ⟨cs,h1,h2⟩
  ·have ha:args[t]? =none:=List.getElem?_eq_none (by omega)
   rw[ha,Array.getElem?_append_right (by simp;omega)]
   simp only
   have:(Array.replicate (fn.ntmps-vs.toArray.size) undef)[t-vs.toArray.size]?.getD undef=undef:=by
    cases hx:(Array.replicate (fn.ntmps-vs.toArray.size) undef)[t-vs.toArray.size]? with
    |none=>rfl
    |some u=>
     have:=Array.mem_of_getElem? hx
     rw[Array.mem_replicate]at this
     rw[this.2];rfl
   rw[this]
   exact Jm
 refine Q1Y hE hG h.run (hl w ⟨λb=>b<w.heap.size,none⟩) hs0 hgl λS1 ρ a w1 hs hgl1 hg=>?_
 suffices hfin:a.defers=[]/\∃v,(results fn a.tmps).run P w1= .ok v w1/\(∃v',Ending.returned v= .returned v'/\(Below w.heap.size w w1/\∃S':Nat->Prop,(∀b,S b->S' b)/\(∀b,S' b->S b\/(w.heap.size<=b/\b<w1.heap.size))/\RR S' w1 w.heap.size pv res v')) by
  cases e with
  |normal=>exact hfin
  |ret=>exact hfin
  |exit id=>exact absurd rfl (h.out id)
 refine⟨hs.defers,?_⟩
 obtain⟨v,hres,hS,hrr⟩:=Q79 hE (n0:=w.heap.size) hs h.vals h.dis h.eps h.ret λid r g c _ hr hl'=>Nat.le_of_not_lt (hs.hs.apart id r g c hl' hr).1
 refine⟨v,hres,v,rfl,hs.below.to,Y4 S1 ρ st.row (QZ st rs),λb hb=>.inl (hg.sub b hb (hst b hb)),λb hb=>?_,by rw[h.ans];exact hrr⟩
 rcases hS b hb with h1|h1
 ·exact(hg.new b h1).imp _root_.id λh=>⟨Nat.le_of_not_lt h,hs.hs.stab b h1⟩
 ·exact .inr h1
inductive EndM (st:St)(mb:Nat)(a0:AV)(rs:List AV):AV->Prop
 |kep (as:List AV) (o:AV) (hmb:mb=Q7) (hdis:Qy (QQ rs)=true) (heps:JL (JA 6) rs=false) (hn:Q7 ∉ QQ rs) (hret:Us st rs=some as) (ho:Q5e st Q7 a0 some=some o):EndM st mb a0 rs (.kep o (one as))
 |mov (e:Nat) (τ:Ty) (ys:List (den τ)) (hmb:mb≠Q7) (hrs:rs=[.own mb]) (hrow:st.row mb=some (.flat e τ ys false true)):EndM st mb a0 rs (.mov e τ ys)
 |eat (τ:Ty) (y:den τ) (hmb:mb≠Q7) (hsl:slT τ=false) (hrs:rs=[.t τ y]):EndM st mb a0 rs (.pc false τ y)
structure FunM (E:Env)(G:Cal->List AV->AV->Prop)(LG:Nat->St->Ex->St->Prop)(fn:Func)(c:Code)(mb:Nat)(a0:AV)(args:List AV)(res:AV)(e:Ex)(st:St)(rs:List AV):Prop where
 body:fn.body=some c
 run:CodeR E G LG 0 c (Yu fn.ntmps mb a0 args) e st
 out:∀id,e≠ .exit id
 vals:YE E st fn.results.toList=some rs
 ends:EndM st mb a0 rs res
theorem Q7a {st:St}{mb:Nat}{a0:AV}{R:Type}{K:AV->Option R}{r:R}(h:Q5e st mb a0 K=some r):∃o,Q5e st mb a0 some=some o/\K o=some r:=by
 unfold Q5e at h ⊢
 split at h
 ·split at h
  ·obtain⟨h1,h2⟩:=Q5 h
   rw[h1]
   exact⟨_,rfl,h2⟩
  ·cases h
 ·split at h
  ·exact⟨_,rfl,h⟩
  ·cases h
 ·cases h
theorem Q1g {st:St}{mb:Nat}{a0:AV}{rs:List AV}{R:Type}{K:AV->Option R}{r:R}(h:Q0N st mb a0 rs K=some r):∃res,EndM st mb a0 rs res/\K res=some r:=by
 unfold Q0N at h
 split at h
 ·rename_i hg
  simp only[Bool.and_eq_true,Bool.not_eq_true']at hg
  obtain⟨hmb,h1,h2,h3⟩:=hg
  have hmb:=Nat.eq_of_beq_eq_true hmb
  subst hmb
  split at h
  ·rename_i as has
   obtain⟨o,ho,h⟩:=Q7a h
   exact⟨_,.kep as o rfl h1 h2 (by simpa using h3) has ho,h⟩
  ·cases h
 ·unfold Q9h at h
  split at h
  ·rename_i hmb
   cases hsl:slT _<;>rw[hsl]at h
   ·exact⟨_,.eat _ _ (λe=>by rw[e,Nat.beq_refl]at hmb;cases hmb) hsl rfl,h⟩
   ·cases h
  ·cases h
theorem Q7b {LG:Nat->St->Ex->St->Prop}{C:Orc}{L:Kv}(hC:JE C G)(hL:LIs L LG){fn:Func}{mb:Nat}{a0:AV}{args:List AV}{R:Type}{K:AV->Option R}{r:R}(h:Kx E C L fn mb a0 args K=some r) :
  ∃c res e st rs,FunM E G LG fn c mb a0 args res e st rs/\K res=some r:=by
 unfold Kx at h
 split at h
 ·rename_i c hc
  obtain⟨e,st,h1,h2⟩:=Yp hC hL c 0 _ h
  have go:(match YE E st fn.results.toList with
   |some rs=>match rs with
    |[.own i]=>match Nat.beq i mb&& !Nat.beq mb Q7 with
     |true=>match st.row mb with
      |some (.flat e τ ys false true)=>K (.mov e τ ys)
      |_=>none
     |false=>Q0N st mb a0 [.own i] K
    |rs=>Q0N st mb a0 rs K
   |none=>none)=some r->(∀id,e≠ .exit id)->∃c res e st rs,FunM E G LG fn c mb a0 args res e st rs/\K res=some r:=λh2 he=>by
   split at h2
   ·rename_i rs hrs
    split at h2
    ·rename_i i
     split at h2
     ·rename_i hi
      simp only[Bool.and_eq_true,Bool.not_eq_true']at hi
      obtain⟨hi,hmb⟩:=hi
      have hi:=Nat.eq_of_beq_eq_true hi
      subst hi
      have hne:i≠Q7:=λe=>by rw[e,Nat.beq_refl]at hmb;cases hmb
      split at h2
      ·rename_i e' τ ys hr
       exact⟨c,_,e,st,_,⟨hc,h1,he,hrs,.mov e' τ ys hne rfl hr⟩,h2⟩
      ·cases h2
     ·obtain⟨res,h3,h4⟩:=Q1g h2
      exact⟨c,_,e,st,_,⟨hc,h1,he,hrs,h3⟩,h4⟩
    ·obtain⟨res,h3,h4⟩:=Q1g h2
     exact⟨c,_,e,st,_,⟨hc,h1,he,hrs,h3⟩,h4⟩
   ·cases h2
  cases e with
  |exit id=>cases h2
  |normal=>exact go h2 (λid h=>by cases h)
  |ret=>exact go h2 (λid h=>by cases h)
 ·cases h
def Q7c (mb:Nat)(l:Loc):Option Loc:=if mb=Q7 then some l else none
theorem Q4c (hE:EnvOk P E)(hG:GOk P E pv G){LG:Nat->St->Ex->St->Prop}{f:FuncId}{fn:Func}(hf:P.funcs[f]? =some fn)(hname:(fn.name== "runtime.NumGoroutine")=false){c:Code}{mb:Nat}{a0:AV}{args:List AV}{res:AV}{e:Ex}{st:St}{rs:List AV}
  (h:FunM E G LG fn c mb a0 args res e st rs) (hmb:mb=Q7\/mb=Kt) (hn:args.length+1<=fn.ntmps) (hl:∀w0 B,∀p∈J0 0 c,Yi P E w0 B pv p.2 (LG p.1)):J6 P E pv f a0 args res:=by
 intro S w v0 vs l r0 hst hgl hargs hr0 hrow hSl hv0
 obtain⟨hvl,hva⟩:=hargs
 show QD P _ ((callFunc f (v0::vs).toArray).run P w)
 have hcall:(callFunc f (v0::vs).toArray).run P w= .ok (.enter f (v0::vs).toArray) w:=by
  have hn':fn.name≠ "runtime.NumGoroutine":=by simpa using hname
  simp[callFunc,hf,hn',h.body]
 rw[hcall]
 refine calls_of_wp hf h.body ?_
 have hf0:frz r0=false:=by cases a0<;>cases hr0<;>rfl
 have hard:=KJ hr0 hrow
 have hlt:∀g c,l= .at g c->g<w.heap.size:=λg c e=>by subst e;exact hrow.lt
 have hrow1:(Yu fn.ntmps mb a0 args).row mb=some r0:=by simp[Yu,hr0]
 have hrow2:∀id r,(Yu fn.ntmps mb a0 args).row id=some r->id=mb/\r=r0:=λid r h1=>by
  simp only[Yu,Qn]at h1
  by_cases e1:id=mb
  ·rw[decide_eq_true e1]at h1
   simp only[cond_true,hr0,Option.some.injEq]at h1
   exact⟨e1,h1.symm⟩
  ·rw[decide_eq_false e1]at h1;cases h1
 have hs0:Sim w ⟨λb=>b<w.heap.size/\∀g c,l= .at g c->b≠g,Q7c mb l⟩ pv S (λid=>if id=mb then some l else none) (Yu fn.ntmps mb a0 args) {tmps:=(v0::vs).toArray++Array.replicate (fn.ntmps-(v0::vs).toArray.size) undef,defers:=[]} w:=by
  refine⟨by simp[Yu];omega,rfl,λt=>?_,⟨hst,λid r l1 h1 h2=>?_,λid id' l1 l2 b h1 h2 h3 h4 _ _=>?_,λid r l1 g h1 h2 hg=>?_,λl1 hl1=>?_⟩,Blw.refl _ _,λ_ h=>h.1⟩
  ·rw[Array.getD_eq_getD_getElem?]
   by_cases ht:t<args.length+1
   ·rw[Array.getElem?_append_left (by simp;omega)]
    simp only[List.getElem?_toArray]
    cases t with
    |zero=>
     simp only[List.getElem?_cons_zero,Option.getD_some]
     rw[hv0]
     cases a0<;>cases hr0
     ·cases l with
      |«at» g cap=>exact .inr ⟨_,.own mb _ _ _ _ _ g cap hrow1 (by simp),rfl⟩
      |soft T v=>exact absurd rfl (hard.1 T v)
      |tree cs T v=>exact absurd rfl (hard.2 cs T v)
      |nilrow=>
       obtain⟨rfl,_,_⟩:=hrow
       exact .inr ⟨_,.ownNil mb _ _ _ _ hrow1 (by simp),rfl⟩
     ·rename_i τ x
      cases l with
      |«at» g cap=>exact .inr ⟨_,.epB mb τ τ _ g cap [] hrow1 (by simp) rfl,rfl⟩
      |soft T v=>exact absurd rfl (hard.1 T v)
      |tree cs T v=>exact absurd rfl (hard.2 cs T v)
      |nilrow=>exact hrow.elim
    |succ t=>
     simp only[Yu,List.getElem?_cons_succ]
     have ha:args[t]? =some args[t]:=List.getElem?_eq_getElem (by omega)
     have hv:vs[t]? =some vs[t]:=List.getElem?_eq_getElem (by omega)
     obtain⟨cs,h1,h2⟩:=hva t _ _ ha hv
     rw[ha,hv]
     simp only[Option.getD_some]
     refine .inr ⟨cs,?_,h2⟩
     exact h1.ext (P:=λ_=>True) (λ_ h=>h) (λ_ _=>rfl) (λid l r _ h1=>by cases h1) (λ_ _=>trivial)
   ·rw[Array.getElem?_append_right (by simp;omega)]
    have:(Array.replicate (fn.ntmps-(v0::vs).toArray.size) undef)[t-(v0::vs).toArray.size]?.getD undef=undef:=by
     cases hx:(Array.replicate (fn.ntmps-(v0::vs).toArray.size) undef)[t-(v0::vs).toArray.size]? with
     |none=>rfl
     |some u=>
      have:=Array.mem_of_getElem? hx
      rw[Array.mem_replicate]at this
      rw[this.2];rfl
    rw[this]
    obtain⟨t',rfl⟩:∃t',t=t'+1:=⟨t-1,by omega⟩
    have ha:args[t']? =none:=List.getElem?_eq_none (by omega)
    simp only[Yu,ha]
    exact Jm
  ·obtain⟨rfl,rfl⟩:=hrow2 id r h1
   rw[if_pos rfl]at h2
   cases h2
   refine QG.ext (P:=λ_=>True) (λ_ h=>h) (λ_ _=>rfl) (λid l r _ h1=>by cases h1) hrow (λ_ _=>rfl) (λ_ _ _ _ _=>trivial)
  ·cases hx:(Yu fn.ntmps mb a0 args).row id with
   |none=>exact absurd hx h3
   |some r=>
    cases hy:(Yu fn.ntmps mb a0 args).row id' with
    |none=>exact absurd hy h4
    |some r'=>exact(hrow2 id r hx).1.trans (hrow2 id' r' hy).1.symm
  ·obtain⟨rfl,rfl⟩:=hrow2 id r h2
   rw[if_pos rfl]at h1
   have h1:=Option.some.inj h1
   subst h1
   obtain⟨c,h1⟩:=hard.at hg
   exact⟨λhb=>hb.2 g c h1 rfl,λ_=>hSl g c h1,λhz=>by rw[hf0]at hz;cases hz⟩
  ·simp only[Q7c]at hl1
   split at hl1
   ·rename_i e1
    rw[e1]
    simpa using hl1
   ·cases hl1
 refine Q1Y hE hG h.run (hl w _) hs0 hgl λS1 ρ a w1 hs hgl1 hg=>?_
 suffices hfin:a.defers=[]/\∃v,(results fn a.tmps).run P w1= .ok v w1/\(∃v',Ending.returned v= .returned v'/\(Blw ⟨λb=>b<w.heap.size/\∀g c,l= .at g c->b≠g,none⟩ w w1/\∃S':Nat->Prop,(∀b,S b->S' b)/\(∀b,S' b->S b\/(∃c,l= .at b c)\/(w.heap.size<=b/\b<w1.heap.size))/\Q9k S' w1 w.heap.size pv a0 l res v')) by
  cases e with
  |normal=>exact hfin
  |ret=>exact hfin
  |exit id=>exact absurd rfl (h.out id)
 refine⟨hs.defers,?_⟩
 have hblw:Blw ⟨λb=>b<w.heap.size/\∀g c,l= .at g c->b≠g,none⟩ w w1:=⟨hs.below.os,hs.below.tape,hs.below.output,hs.below.size,hs.below.block⟩
 have notK:∀g,¬(g<w.heap.size/\∀g' c,l= .at g' c->g≠g')->(∃c,l= .at g c)\/w.heap.size<=g:=λg hK=>by
  by_cases hg0:g<w.heap.size
  ·left
   apply Classical.byContradiction
   intro hne
   exact hK ⟨hg0,λg' c e1 e2=>hne ⟨c,e2▸e1⟩⟩
  ·exact .inr (Nat.le_of_not_lt hg0)
 cases h.ends with
 |kep as o hmb' hdis heps hnm hret ho=>
  subst hmb'
  have hpin:ρ Q7=some l:=hs.hs.pin l (by simp[Q7c])
  have hout:∃ro,st.row Q7=some ro/\(∃ro',rowOf o=some ro'/\(∀S2,(∀b,S1 b->S2 b)->QG S1 w1 ρ st.row pv ro l->GT S2 w1 pv ro' l)/\Same r0 ro')/\frz ro=false:=by
   unfold Q5e at ho
   split at ho
   ·rename_i e1 τ xs e' σ ys hr
    split at ho
    ·rename_i hk
     obtain⟨h1,h2⟩:=Q5 ho
     cases h2
     have hlen:=Nat.eq_of_beq_eq_true h1
     unfold Gv at hk
     dsimp only at hk
     split at hk
     ·rename_i eστ _
      subst eστ
      have he:=Nat.eq_of_beq_eq_true hk
      subst he
      cases hr0
      refine⟨_,hr,⟨_,rfl,λS2 hS2 hro=>?_,.flat _ _ _ _ _ _ _ _ _ hlen.symm⟩,rfl⟩
      cases l with
      |nilrow=>exact hro
      |soft T v=>exact absurd rfl (hard.1 T v)
      |tree cs T v=>exact absurd rfl (hard.2 cs T v)
      |«at» g cap=>
       obtain⟨cur,f,k1,k2,k3,k4,k5,k6,k7,k8⟩:=hro
       exact⟨cur,f,k1,k2,k3,k4,k5,k6,k7,λi hi=>by
        obtain⟨cs,k9,k10⟩:=k8 i hi
        exact⟨cs,k9.mono (λb hb=>hb.mono (hS2 b) rfl) (λ_ _=>rfl),k10⟩⟩
     ·cases hk
    ·cases ho
   ·rename_i τ x σ b hr
    split at ho
    ·rename_i eστ y _ hy
     subst eστ
     cases ho
     cases hr0
     refine⟨_,hr,⟨_,rfl,λS2 hS2 hro=>?_,.box _ _ _⟩,rfl⟩
     cases l with
     |nilrow=>exact hro
     |soft T v=>exact absurd rfl (hard.1 T v)
     |tree cs T v=>exact absurd rfl (hard.2 cs T v)
     |«at» g cap=>
      obtain⟨cur,T,k1,k2,k3⟩:=hro
      exact⟨cur,T,k1,.t _ _,.t _ _ _ ((Qq hy k3).mono hS2 (λ_ _=>rfl))⟩
    ·cases ho
   ·cases ho
  obtain⟨ro,hr1,⟨ro',hro',hro2,hsame⟩,hfz⟩:=hout
  have hrok:=hs.hs.rows Q7 ro l hr1 hpin
  obtain⟨v,hres,hS,hrr⟩:=Q79 hE (n0:=w.heap.size) hs h.vals hdis heps hret λid r g c hid hr hl'=>by
   rcases notK g (hs.hs.apart id r g c hl' hr).1 with⟨c0,e0⟩|h1
   ·have:=hs.hs.inj id Q7 g c c0 hl' (e0▸hpin) (by rw[hr];simp) (by rw[hr1];simp)
    subst this
    exact absurd hid hnm
   ·exact h1
  refine⟨v,hres,v,rfl,hblw,Y4 S1 ρ st.row (QZ st rs),λb hb=>.inl (hg.sub b hb ⟨hst b hb,λg c e e2=>hSl g c e (e2▸hb)⟩),λb hb=>?_,hrr,r0,ro',hr0,hro',hro2 _ (λ_ h=>.inl h) hrok,hsame,λg c e1 hb=>?_⟩
  ·rcases hS b hb with h1|h1
   ·rcases hg.new b h1 with h2|h2
    ·exact .inl h2
    ·rcases notK b h2 with h3|h3
     ·exact .inr (.inl h3)
     ·exact .inr (.inr ⟨h3,hs.hs.stab b h1⟩)
   ·exact .inr (.inr h1)
  ·rcases hS g hb with h1|h1
   ·exact(hs.hs.apart Q7 ro g c (e1▸hpin) hr1).2.1 hfz h1
   ·have:=hlt g c e1;omega
 |mov e' τ ys hmb' hrs hr1=>
  subst hrs
  obtain⟨vs',hvl',hvv,hres⟩:=Q1Z hE hs h.vals
  match vs',hvl' with
  |[v],_=>
   have hv:=hvv 0 _ v rfl rfl
   refine⟨v,by simpa using hres,v,rfl,hblw,S1,λb hb=>hg.sub b hb ⟨hst b hb,λg c e e2=>hSl g c e (e2▸hb)⟩,λb hb=>?_,?_⟩
   ·rcases hg.new b hb with h2|h2
    ·exact .inl h2
    ·rcases notK b h2 with h3|h3
     ·exact .inr (.inl h3)
     ·exact .inr (.inr ⟨h3,hs.hs.stab b hb⟩)
   ·rcases Yv hv hr1 with⟨g,cap,hl',hv'⟩|⟨hl',rfl,hv'⟩
    ·have hap:=hs.hs.apart mb _ g cap hl' hr1
     refine⟨.at g cap,?_,hv',λg' c' e1=>?_⟩
     ·obtain⟨cur,f,k1,k2,k3,k4,k5,k6,k7,k8⟩:=hs.hs.rows mb _ _ hr1 hl'
      exact⟨cur,f,k1,k2,k3,k4,k5,k6,k7,k8⟩
     ·cases e1
      exact⟨hap.2.1 rfl,notK g hap.1⟩
    ·exact⟨.nilrow,hs.hs.rows mb _ _ hr1 hl',hv',λg' c' e1=>by cases e1⟩
 |eat τ y hmb' hsl hrs=>
  subst hrs
  obtain⟨vs',hvl',hvv,hres⟩:=Q1Z hE hs h.vals
  match vs',hvl' with
  |[v],_=>
   have hv:=hvv 0 _ v rfl rfl
   refine⟨v,by simpa using hres,v,rfl,hblw,S1,λb hb=>hg.sub b hb ⟨hst b hb,λg c e e2=>hSl g c e (e2▸hb)⟩,λb hb=>?_,hsl,?_⟩
   ·rcases hg.new b hb with h2|h2
    ·exact .inl h2
    ·rcases notK b h2 with h3|h3
     ·exact .inr (.inl h3)
     ·exact .inr (.inr ⟨h3,hs.hs.stab b hb⟩)
   ·obtain⟨cs,h1,h2⟩:=Qw hv (by simp)
    exact⟨cs,h2,KE h1⟩
end
end Go.Gx
end
section
/- A state seen as one of a shape. -/
namespace Go.Gx
open Go.RowKit
inductive Rv (st:St)(id:Nat):Row->Prop
 |same (r:Row) (h:st.row id=some r):Rv st id r
 |nil (e:Nat) (τ:Ty) (h:st.row id=none) (hpos:0<nc τ) (hne:id≠Q7):Rv st id (.flat e τ [] false true)
 |boxT (τ:Ty) (a:AV) (x:den τ) (h:st.row id=some (.box τ a)) (hx:asT τ a=some x):Rv st id (.box τ (.t τ x))
 |ds (σ:Ty) (b:Bool) (h:st.row id=some (.box σ (.t .bool b))):Rv st id (.box σ (.t .bool false))
 |boxF (τ:Ty) (a:AV) (as:List AV) (fs:List Fp) (x:FX fs) (h:st.row id=some (.box τ a)) (ha:(∃σ,a= .agg σ as)\/(∃y,a= .t τ y/\as=Q4 τ y)) (hx:Ye st.row fs as=some x):Rv st id (.box τ (.agg τ (U8 fs x)))
theorem Con.fits_eq {c:Con}{a:AV}(h:c.fits a=true):a=c.val:=by
 cases c<;>cases a<;>simp only[Con.fits]at h<;>first
  |cases h
  |skip
 ·rename_i f g l
  cases l with
  |nil=>rw[Nat.eq_of_beq_eq_true h];rfl
  |cons=>cases h
 ·rw[Nat.eq_of_beq_eq_true h];rfl
 ·rename_i id j i p
  cases i with
  |some=>cases h
  |none=>
   cases p with
   |nil=>rw[Nat.eq_of_beq_eq_true h];rfl
   |cons=>cases h
 ·rw[Nat.eq_of_beq_eq_true h];rfl
 ·rename_i vs
  cases vs with
  |nil=>rfl
  |cons=>cases h
 ·rfl
theorem Q1h {b:Bool}{x:Unit}(h:cond b (some ()) none=some x):b=true:=by cases b<;>first|rfl|cases h
theorem YB {row:Nat->Option Row}{id e:Nat}{τ:Ty}{fz app:Bool}{a:AV}{xs:List (den τ)}(h:Xn row id e τ fz app a=some xs) :
  (a= .own id/\row id=some (.flat e τ xs fz app))\/(a= .nil/\row id=none/\fz=false/\app=true/\0<nc τ/\xs=[]/\id≠Q7):=by
 unfold Xn at h
 split at h
 ·rename_i j
  split at h
  ·rename_i e' σ ys fz' app' hj hr
   split at h
   ·rename_i hσ _ he hf ha
    subst hσ
    cases h
    rw[Nat.eq_of_beq_eq_true hj]at*
    have he:=Nat.eq_of_beq_eq_true he
    have hf:fz'=fz:=by simpa using hf
    have ha:app'=app:=by simpa using ha
    subst he;subst hf;subst ha
    exact .inl ⟨rfl,hr⟩
   ·cases h
  ·cases h
 ·split at h
  ·rename_i hr hb hm
   cases h
   exact .inr ⟨rfl,hr,rfl,rfl,Nat.le_of_ble_eq_true hb,rfl,λe=>by rw[e,Nat.beq_refl]at hm;cases hm⟩
  ·cases h
 ·cases h
theorem Q39 {row:Nat->Option Row}{id e:Nat}{τ:Ty}{ap:Bool}{x:den τ}(h:Q3I row id e τ ap=some x):row id=some (QP e ap τ x):=by
 unfold Q3I at h
 split at h
 ·rename_i σ e' ap' θ y hr
  split at h
  ·rename_i h1 h2 _ _ he ha
   subst h1;subst h2
   cases h
   have ha:ap'=ap:=by simpa using ha
   have he:e'=(e:Int):=by simpa using he
   subst ha;subst he
   exact hr
  ·cases h
 ·cases h
theorem Jq {row:Nat->Option Row}{id e:Nat}{τ:Ty}{ap:Bool}{a:AV}{x:den τ}(h:GA row id e τ ap a=some x):a= .tv id τ/\row id=some (QP e ap τ x):=by
 unfold GA at h
 split at h
 ·split at h
  ·rename_i h1 hj _
   subst h1
   obtain rfl:=Nat.eq_of_beq_eq_true hj
   exact⟨rfl,Q39 h⟩
  ·cases h
 ·cases h
theorem Xh {st:St}:∀{fs:List Fp} {as:List AV} {x:FX fs} {j:Nat} {r0:Option Row} {r:Row},Ye st.row fs as=some x->UT fs x j r0=some r->Rv st j r\/r0=some r
 |[],as,x,j,r0,r,_,h=>.inr h
 |f::fs,[],x,j,r0,r,h,_=>by simp[Ye]at h
 |f::fs,a::as,x,j,r0,r,h,hr=>by
  simp only[Ye]at h
  split at h
  ·rename_i x0 hx0
   split at h
   ·rename_i y hy
    cases h
    cases f with
    |own id e τ fz app=>
     simp only[UT,Fp.rowAt,Qn]at hr
     by_cases e':j=id
     ·subst e'
      simp only[decide_true,cond_true,Option.some.injEq]at hr
      subst hr
      simp only[Fp.view]at hx0
      rcases YB hx0 with⟨_,h2⟩|⟨_,h2,h3,h4,h5,h6,h7⟩
      ·exact .inl (.same _ h2)
      ·subst h3;subst h4
       rw[h6]
       exact .inl (.nil e τ h2 h5 h7)
     ·rw[decide_eq_false e']at hr
      exact Xh hy hr
    |t τ=>exact Xh hy hr
    |con c=>exact Xh hy hr
    |tv id e τ ap=>
     simp only[UT,Fp.rowAt,Qn]at hr
     by_cases e':j=id
     ·subst e'
      simp only[decide_true,cond_true,Option.some.injEq]at hr
      subst hr
      simp only[Fp.view]at hx0
      exact .inl (.same _ (Jq hx0).2)
     ·rw[decide_eq_false e']at hr
      exact Xh hy hr
   ·cases h
  ·cases h
theorem JX {st:St}:∀{l:List Sp} {x:SX l} {j:Nat} {r:Row},view st l=some x->rowsOf l x j=some r->Rv st j r
 |[],x,j,r,_,h=>by cases h
 |s::l,x,j,r,h,hr=>by
  simp only[view]at h
  split at h
  ·rename_i x0 hx0
   split at h
   ·rename_i y hy
    cases h
    cases s with
    |t s τ=>exact JX hy hr
    |con s c=>exact JX hy hr
    |cl s g cs=>exact JX hy hr
    |rd s τ=>exact JX hy hr
    |rp s τ=>exact JX hy hr
    |tv s id e τ ap=>
     simp only[rowsOf,Sp.rowAt,Qn]at hr
     by_cases e':j=id
     ·subst e'
      simp only[decide_true,cond_true,Option.some.injEq]at hr
      subst hr
      simp only[Sp.view]at hx0
      exact .same _ (Jq hx0).2
     ·rw[decide_eq_false e']at hr
      exact JX hy hr
    |bv s b id e τ ap=>
     simp only[Sp.view]at hx0
     split at hx0
     ·rename_i k σ a hs hrow
      split at hx0
      ·rename_i h1 _ _
       subst h1
       obtain⟨h2,h3⟩:=Jq hx0
       subst h2
       simp only[rowsOf,Sp.rowAt,Qn]at hr
       by_cases e':j=b
       ·subst e'
        simp only[decide_true,cond_true,Option.some.injEq]at hr
        subst hr
        exact .same _ hrow
       ·rw[decide_eq_false e']at hr
        by_cases e2:j=id
        ·subst e2
         simp only[decide_true,cond_true,cond_false,Option.some.injEq]at hr
         subst hr
         exact .same _ h3
        ·rw[decide_eq_false e2]at hr
         exact JX hy hr
      ·cases hx0
     ·cases hx0
    |own s id e τ fz app=>
     simp only[rowsOf,Sp.rowAt,Qn]at hr
     by_cases e':j=id
     ·subst e'
      simp only[decide_true,cond_true,Option.some.injEq]at hr
      subst hr
      simp only[Sp.view]at hx0
      rcases YB hx0 with⟨_,h2⟩|⟨_,h2,h3,h4,h5,h6,h7⟩
      ·exact .same _ h2
      ·subst h3;subst h4
       rw[h6]
       exact .nil e τ h2 h5 h7
     ·rw[decide_eq_false e']at hr
      exact JX hy hr
    |boxT s id τ=>
     simp only[rowsOf,Sp.rowAt,Qn]at hr
     by_cases e':j=id
     ·subst e'
      simp only[decide_true,cond_true,Option.some.injEq]at hr
      subst hr
      simp only[Sp.view]at hx0
      split at hx0
      ·rename_i k σ a hs hrow
       split at hx0
       ·rename_i e _ _
        subst e
        exact .boxT _ a _ hrow hx0
       ·cases hx0
      ·cases hx0
     ·rw[decide_eq_false e']at hr
      exact JX hy hr
    |ds s id σ τ=>
     simp only[rowsOf,Sp.rowAt,Qn]at hr
     by_cases e':j=id
     ·subst e'
      simp only[decide_true,cond_true,Option.some.injEq]at hr
      subst hr
      simp only[Sp.view]at hx0
      split at hx0
      ·rename_i k τ' x' σ' b hs hrow
       split at hx0
       ·rename_i e e2 _ _ _
        subst e
        exact .ds _ b hrow
       ·cases hx0
      ·cases hx0
     ·rw[decide_eq_false e']at hr
      exact JX hy hr
    |boxF s id τ fs=>
     simp only[rowsOf,Sp.rowAt,Qn]at hr
     have hfv:∃a as,st.row id=some (.box τ a)/\((∃σ,a= .agg σ as)\/(∃y,a= .t τ y/\as=Q4 τ y))/\Ye st.row fs as=some x0:=by
      simp only[Sp.view]at hx0
      split at hx0
      ·rename_i k σ σ' as hs hrow
       split at hx0
       ·rename_i e _ _
        subst e
        exact⟨_,as,hrow,.inl ⟨_,rfl⟩,hx0⟩
       ·cases hx0
      ·rename_i k σ σ' y hs hrow
       split at hx0
       ·rename_i e e' _ _ _
        subst e;subst e'
        exact⟨_,_,hrow,.inr ⟨y,rfl,rfl⟩,hx0⟩
       ·cases hx0
      ·cases hx0
     obtain⟨a,as,h1,h2,h3⟩:=hfv
     by_cases e':j=id
     ·subst e'
      simp only[decide_true,cond_true,Option.some.injEq]at hr
      subst hr
      exact .boxF τ a as fs _ h1 h2 h3
     ·rw[decide_eq_false e']at hr
      rcases Xh h3 hr with h4|h4
      ·exact h4
      ·exact JX hy h4
   ·cases h
  ·cases h
theorem Ul {j:Nat}:∀{fs:List Fp} {x:FX fs} {r0:Option Row},(j∈G7 fs\/r0≠none)->UT fs x j r0≠none
 |[],x,r0,h=>by
  rcases h with h|h
  ·cases h
  ·exact h
 |f::fs,x,r0,h=>by
  cases f with
  |own id e τ fz app=>
   simp only[UT,Fp.rowAt,Qn]
   by_cases e':j=id
   ·simp[e']
   ·rw[decide_eq_false e']
    refine Ul ?_
    rcases h with h|h
    ·simp only[G7,Fp.ids]at h
     rcases List.mem_append.1 h with h|h
     ·exact absurd (List.mem_singleton.1 h) e'
     ·exact .inl h
    ·exact .inr h
  |tv id e τ ap=>
   simp only[UT,Fp.rowAt,Qn]
   by_cases e':j=id
   ·simp[e']
   ·rw[decide_eq_false e']
    refine Ul ?_
    rcases h with h|h
    ·simp only[G7,Fp.ids]at h
     rcases List.mem_append.1 h with h|h
     ·exact absurd (List.mem_singleton.1 h) e'
     ·exact .inl h
    ·exact .inr h
  |t τ=>exact Ul (fs:=fs) (by simpa[G7,Fp.ids]using h)
  |con c=>exact Ul (fs:=fs) (by simpa[G7,Fp.ids]using h)
theorem Jw {j:Nat}:∀{l:List Sp} {x:SX l},j∈JF l->rowsOf l x j≠none
 |[],x,h=>by cases h
 |s::l,x,h=>by
  simp only[JF]at h
  cases s with
  |t s τ=>exact Jw (l:=l) (by simpa[Sp.ids]using h)
  |con s c=>exact Jw (l:=l) (by simpa[Sp.ids]using h)
  |cl s g cs=>exact Jw (l:=l) (by simpa[Sp.ids]using h)
  |rd s τ=>exact Jw (l:=l) (by simpa[Sp.ids]using h)
  |rp s τ=>exact Jw (l:=l) (by simpa[Sp.ids]using h)
  |tv s id e τ ap=>
   simp only[rowsOf,Sp.rowAt,Qn]
   by_cases e':j=id
   ·simp[e']
   ·rw[decide_eq_false e']
    refine Jw (l:=l) ?_
    rcases List.mem_append.1 h with h|h
    ·exact absurd (List.mem_singleton.1 h) e'
    ·exact h
  |bv s b id e τ ap=>
   simp only[rowsOf,Sp.rowAt,Qn]
   by_cases e1:j=b
   ·simp[e1]
   ·rw[decide_eq_false e1]
    by_cases e':j=id
    ·simp[e']
    ·rw[decide_eq_false e']
     refine Jw (l:=l) ?_
     rcases List.mem_append.1 h with h|h
     ·rcases List.mem_cons.1 h with h|h
      ·exact absurd h e1
      ·exact absurd (List.mem_singleton.1 h) e'
     ·exact h
  |own s id e τ fz app=>
   simp only[rowsOf,Sp.rowAt,Qn]
   by_cases e':j=id
   ·simp[e']
   ·rw[decide_eq_false e']
    refine Jw (l:=l) ?_
    rcases List.mem_append.1 h with h|h
    ·exact absurd (List.mem_singleton.1 h) e'
    ·exact h
  |boxT s id τ=>
   simp only[rowsOf,Sp.rowAt,Qn]
   by_cases e':j=id
   ·simp[e']
   ·rw[decide_eq_false e']
    refine Jw (l:=l) ?_
    rcases List.mem_append.1 h with h|h
    ·exact absurd (List.mem_singleton.1 h) e'
    ·exact h
  |ds s id σ τ=>
   simp only[rowsOf,Sp.rowAt,Qn]
   by_cases e':j=id
   ·simp[e']
   ·rw[decide_eq_false e']
    refine Jw (l:=l) ?_
    rcases List.mem_append.1 h with h|h
    ·exact absurd (List.mem_singleton.1 h) e'
    ·exact h
  |boxF s id τ fs=>
   simp only[rowsOf,Sp.rowAt,Qn]
   by_cases e':j=id
   ·simp[e']
   ·rw[decide_eq_false e']
    refine Ul ?_
    rcases List.mem_append.1 h with h|h
    ·rcases List.mem_cons.1 h with h|h
     ·exact absurd h e'
     ·exact .inl h
    ·exact .inr (Jw (l:=l) h)
section
variable {S:Nat->Prop} {w:World} {ρ ρ':Nat->Option Loc} {st:St} {row':Nat->Option Row} {pv:Nat->Value} {ids:List Nat}
variable (hrv:∀id r,row' id=some r->Rv st id r) (hρ:∀id,st.row id≠none->ρ' id=ρ id) (hρn:∀id,st.row id=none->row' id≠none->ρ' id=some .nilrow) (hids:∀id,id∈ids->row' id≠none)
include hrv hρ hρn
theorem Q3a {id e:Nat}{τ:Ty}{fz app:Bool}{a:AV}{xs:List (den τ)}{cs:List Value}(h:Xn st.row id e τ fz app a=some xs)(hrow:row' id≠none)(ha:AR S w ρ st.row pv a cs):AR S w ρ' row' pv (.own id) cs/\isAg a=false:=by
 obtain⟨r,hr⟩:=Option.ne_none_iff_exists'.1 hrow
 rcases YB h with⟨rfl,h2⟩|⟨rfl,h2,_⟩
 ·have h3:row' id=some (.flat e τ xs fz app):=by
   cases hrv id r hr with
   |same _ h=>rw[hr,<-h,h2]
   |nil _ _ h _ _=>rw[h2]at h;cases h
   |boxT _ _ _ h=>rw[h2]at h;cases h
   |ds _ _ h=>rw[h2]at h;cases h
   |boxF _ _ _ _ _ h=>rw[h2]at h;cases h
  refine⟨?_,rfl⟩
  cases ha with
  |own _ e' τ' xs' fz' app' g cap h4 hl=>
   rw[h2]at h4
   cases h4
   exact .own id e τ xs fz app g cap h3 (by rw[hρ id (by rw[h2];simp)];exact hl)
  |ownNil _ e' τ' fz' app' h4 hl=>
   rw[h2]at h4
   cases h4
   exact .ownNil id e τ fz app h3 (by rw[hρ id (by rw[h2];simp)];exact hl)
 ·cases ha
  refine⟨?_,rfl⟩
  have hn:=hρn id h2 hrow
  cases hrv id r hr with
  |same _ h=>rw[h2]at h;cases h
  |nil e' τ' _ hpos _=>exact .ownNil id e' τ' false true hr hn
  |boxT _ _ _ h=>rw[h2]at h;cases h
  |ds _ _ h=>rw[h2]at h;cases h
  |boxF _ _ _ _ _ h=>rw[h2]at h;cases h
theorem Q20 {id:Nat}{τ:Ty}{cs:List Value}(hrow:row' id≠none)(ha:AR S w ρ st.row pv (.tv id τ) cs):AR S w ρ' row' pv (.tv id τ) cs:=by
 have _:=hρn
 obtain⟨r,hr⟩:=Option.ne_none_iff_exists'.1 hrow
 cases ha with
 |tv _ _ b _ T v h hl hc h1=>
  have h5:ρ' id=some (.tree cs T v):=by rw[hρ id (by rw[h];simp)];exact hl
  cases hrv id r hr with
  |same _ h2=>rw[h]at h2;cases h2;exact .tv id τ _ cs T v hr h5 hc h1
  |nil _ _ h2 _ _=>rw[h]at h2;cases h2
  |boxT τ' a' x h2=>rw[h]at h2;cases h2;exact .tv id τ _ cs T v hr h5 hc h1
  |ds σ' b h2=>rw[h]at h2;cases h2;exact .tv id τ _ cs T v hr h5 hc h1
  |boxF τ' a' as fs x h2=>rw[h]at h2;cases h2;exact .tv id τ _ cs T v hr h5 hc h1
include hids in
theorem Q0d {c:Con}{cs:List Value}(hc:Q0O ids c=true)(ha:AR S w ρ st.row pv c.val cs):AR S w ρ' row' pv c.val cs:=by
 have _:=hρn
 cases c with
 |clo f=>cases ha with|clo _ _ css hl hh=>exact .clo f [] css hl λi a cs hi=>by simp at hi
 |par i=>cases ha with|par _ h=>exact .par i h
 |nil=>cases ha;exact .nil
 |undef=>cases ha with|tup _ css hl hh=>exact .tup [] css hl λi a cs hi=>by simp at hi
 |own id=>
  have hrow:=hids id (by simpa[Q0O]using hc)
  obtain⟨r,hr⟩:=Option.ne_none_iff_exists'.1 hrow
  cases ha with
  |own _ e τ xs fz app g cap h4 hl=>
   have h3:row' id=some (.flat e τ xs fz app):=by
    cases hrv id r hr with
    |same _ h=>rw[hr,<-h,h4]
    |nil _ _ h _ _=>rw[h4]at h;cases h
    |boxT _ _ _ h=>rw[h4]at h;cases h
    |ds _ _ h=>rw[h4]at h;cases h
    |boxF _ _ _ _ _ h=>rw[h4]at h;cases h
   exact .own id e τ xs fz app g cap h3 (by rw[hρ id (by rw[h4];simp)];exact hl)
  |ownNil _ e τ fz app h4 hl=>
   have h3:row' id=some (.flat e τ [] fz app):=by
    cases hrv id r hr with
    |same _ h=>rw[hr,<-h,h4]
    |nil _ _ h _ _=>rw[h4]at h;cases h
    |boxT _ _ _ h=>rw[h4]at h;cases h
    |ds _ _ h=>rw[h4]at h;cases h
    |boxF _ _ _ _ _ h=>rw[h4]at h;cases h
   exact .ownNil id e τ fz app h3 (by rw[hρ id (by rw[h4];simp)];exact hl)
 |ep id=>
  have hrow:=hids id (by simpa[Q0O]using hc)
  obtain⟨r,hr⟩:=Option.ne_none_iff_exists'.1 hrow
  cases ha with
  |epB _ τ σ a g cap _ h4 hl hp=>
   have h5:ρ' id=some (.at g cap):=by rw[hρ id (by rw[h4];simp)];exact hl
   cases hrv id r hr with
   |same _ h=>rw[h4]at h;cases h;exact .epB id τ σ a g cap [] hr h5 hp
   |nil _ _ h _ _=>rw[h4]at h;cases h
   |boxT τ' a' x h=>rw[h4]at h;cases h;exact .epB id τ σ _ g cap [] hr h5 hp
   |ds σ' b h=>rw[h4]at h;cases h;exact .epB id τ σ _ g cap [] hr h5 hp
   |boxF τ' a' as fs x h=>rw[h4]at h;cases h;exact .epB id τ σ _ g cap [] hr h5 hp
theorem Q21 {id:Nat}{τ:Ty}{a:AV}{cs:List Value}(h:st.row id=some (.box τ a))(hrow:row' id≠none)(ha:AR S w ρ st.row pv (.ep id none []) cs):AR S w ρ' row' pv (.ep id none []) cs:=
 Q0d (ids:=[id]) hrv hρ hρn (λj hj=>by simp at hj;subst hj;exact hrow) (c:=.ep id) (by simp[Q0O]) ha
omit hrv hρ hρn in
theorem Du {τ:Ty}{a:AV}{x:den τ}(h:asT τ a=some x):isAg (.t τ x)=isAg a:=by
 rcases U9 h with rfl|rfl
 ·rfl
 ·cases τ<;>simp[asT]at h<;>rfl
include hids in
theorem Q3b:∀{σs:List Ty} {fs:List Fp} {as:List AV} {x:FX fs} {css:List (List Value)},Ye st.row fs as=some x->Q0P ids σs fs=true->(∀i,i∈G7 fs->row' i≠none)->as.length=css.length->as.length=σs.length->
  (∀(i:Nat) (a:AV) (c:List Value),as[i]? =some a->css[i]? =some c->AR S w ρ st.row pv a c)->(∀(i:Nat) (σ:Ty) (a:AV),σs[i]? =some σ->as[i]? =some a->Fit σ a)->
  (U8 fs x).length=as.length/\(∀(i:Nat) (a:AV) (c:List Value),(U8 fs x)[i]? =some a->css[i]? =some c->AR S w ρ' row' pv a c)/\(∀(i:Nat) (σ:Ty) (a:AV),σs[i]? =some σ->(U8 fs x)[i]? =some a->Fit σ a)
 |σs,[],[],x,css,_,_,_,_,_,_,_=>⟨rfl,λi a c h=>by simp[U8]at h,λi σ a _ h=>by simp[U8]at h⟩
 |_,[],_::_,x,css,h,_,_,_,_,_,_=>by simp[Ye]at h
 |_,f::fs,[],x,css,h,_,_,_,_,_,_=>by simp[Ye]at h
 |[],f::fs,a::as,x,css,h,_,_,_,hl,_,_=>by simp at hl
 |σ::σs,f::fs,a::as,x,[],h,_,_,hl,_,_,_=>by simp at hl
 |σ::σs,f::fs,a::as,x,c::css,h,hok,hhas,hl,hl2,har,hfit=>by
  simp only[Ye]at h
  split at h
  ·rename_i x0 hx0
   split at h
   ·rename_i y hy
    cases h
    simp only[Q0P,Bool.and_eq_true]at hok
    obtain⟨h1,h2,h3⟩:=Q3b (σs:=σs) (css:=css) hy hok.2 (λi hi=>hhas i (by simp only[G7];exact List.mem_append_right _ hi)) (by simpa using hl) (by simpa using hl2) (λi a c ha hc=>har (i+1) a c (by simpa using ha) (by simpa using hc)) (λi σ a hσ ha=>hfit (i+1) σ a (by simpa using hσ) (by simpa using ha))
    have ha0:=har 0 a c rfl rfl
    have hf0:=hfit 0 σ a rfl rfl
    have hhead:AR S w ρ' row' pv (f.val x0) c/\Fit σ (f.val x0):=by
     cases f with
     |t τ=>
      simp only[Fp.view]at hx0
      have hτ:τ=σ:=by
       have:=hok.1
       simp only[Fp.ok]at this
       split at this
       ·rename_i e _;exact e
       ·cases this
      subst hτ
      exact⟨.t τ x0 c (Qq hx0 ha0),.t τ x0⟩
     |own id e τ fz app=>
      simp only[Fp.view]at hx0
      refine⟨(Q3a hrv hρ hρn hx0 (hhas id (by simp[G7,Fp.ids])) ha0).1,?_⟩
      rcases YB hx0 with⟨rfl,_⟩|⟨rfl,_⟩
      ·exact hf0
      ·cases hf0;exact .own _ id
     |tv id e τ ap=>
      simp only[Fp.view]at hx0
      obtain⟨h4,_⟩:=Jq hx0
      subst h4
      exact⟨Q20 hrv hρ hρn (hhas id (by simp[G7,Fp.ids])) ha0,hf0⟩
     |con c'=>
      simp only[Fp.view]at hx0
      have:=Con.fits_eq (Q1h hx0)
      subst this
      exact⟨Q0d hrv hρ hρn hids hok.1 ha0,hf0⟩
    refine⟨by simp[U8,h1],λi b d hb hd=>?_,λi τ b hτ hb=>?_⟩
    ·cases i with
     |zero=>cases hb;cases hd;exact hhead.1
     |succ i=>exact h2 i b d (by simpa[U8]using hb) (by simpa using hd)
    ·cases i with
     |zero=>cases hb;cases hτ;exact hhead.2
     |succ i=>exact h3 i τ b (by simpa using hτ) (by simpa[U8]using hb)
   ·cases h
  ·cases h
end
section
variable {S:Nat->Prop} {w:World} {ρ ρ':Nat->Option Loc} {row row':Nat->Option Row} {pv:Nat->Value}
theorem Q8E {τ:Ty}{b:AV}{x:den τ}{cs:List Value}(hx:asT τ b=some x)(h:AR S w ρ row pv (.tp b) cs):AR S w ρ' row' pv (.tp (.t τ x)) cs:=by
 cases h with
 |tp σ y cs g o hc hS hcell=>
  unfold asT at hx
  dsimp only at hx
  split at hx
  ·rename_i e
   subst e
   cases hx
   exact .tp _ _ _ _ _ hc hS hcell
  ·cases hx
theorem CK.ok {k:CK}{a:AV}{x:k.X}{cs:List Value}(hx:k.view a=some x)(h:AR S w ρ row pv a cs):AR S w ρ' row' pv (k.val x) cs/\isAg a=isAg (k.val x):=by
 cases k with
 |t τ=>exact⟨.t _ _ _ (Qq hx h),(Du hx).symm⟩
 |tp τ=>
  simp only[CK.view]at hx
  split at hx
  ·exact⟨Q8E hx h,rfl⟩
  ·cases hx
theorem Q1i:∀{ks:List CK} {av:List AV} {x:CX ks},DT ks av=some x->av.length=(Ky ks x).length/\∀(i:Nat) a b,av[i]? =some a->(Ky ks x)[i]? =some b->∃k:CK,∃y:k.X,b=k.val y/\k.view a=some y
 |[],[],x,_=>⟨rfl,λi a b h=>by simp at h⟩
 |[],_::_,x,h=>by simp[DT]at h
 |k::l,[],x,h=>by simp[DT]at h
 |k::l,a::al,x,h=>by
  simp only[DT]at h
  split at h
  ·rename_i x0 hx
   split at h
   ·rename_i y hy
    cases h
    obtain⟨h1,h2⟩:=Q1i hy
    refine⟨by simp[Ky,h1],λi b c hb hc=>?_⟩
    cases i with
    |zero=>cases hb;cases hc;exact⟨k,x0,rfl,hx⟩
    |succ i=>exact h2 i b c (by simpa using hb) (by simpa[Ky]using hc)
   ·cases h
  ·cases h
theorem G4:∀{al bl:List AV} {css:List (List Value)},al.length=bl.length->(∀(i:Nat) a b,al[i]? =some a->bl[i]? =some b->isAg a=isAg b)->valsOf al css=valsOf bl css
 |[],[],_,_,_=>rfl
 |[],_::_,_,h,_=>by cases h
 |_::_,[],_,h,_=>by cases h
 |a::al,b::bl,[],_,_=>rfl
 |a::al,b::bl,cs::css,h,hg=>by
  have h0:=hg 0 a b rfl rfl
  have:=G4 (al:=al) (bl:=bl) (css:=css) (by simpa using h) λi a b h1 h2=>hg (i+1) a b (by simpa using h1) (by simpa using h2)
  simp only[valsOf,this,valOf,h0]
theorem Q3c {g:Nat}{ks:List CK}{caps:List AV}{x:CX ks}{cs:List Value}(hx:DT ks caps=some x)(h:AR S w ρ row pv (.clo g caps) cs):AR S w ρ' row' pv (.clo g (Ky ks x)) cs:=by
 obtain⟨h1,h2⟩:=Q1i hx
 cases h with
 |clo _ _ css hl hcs=>
  have he:valsOf caps css=valsOf (Ky ks x) css:=G4 h1 λi a b ha hb=>by
   obtain⟨k,y,rfl,hy⟩:=h2 i a b ha hb
   have hi:i<css.length:=by have:=(List.getElem?_eq_some_iff.1 ha).1;omega
   exact(CK.ok (ρ':=ρ) (row':=row) hy (hcs i a _ ha (List.getElem?_eq_getElem hi))).2
  rw[he]
  refine .clo _ _ css (by omega) λi b c hb hc=>?_
  have hi:i<caps.length:=by have:=(List.getElem?_eq_some_iff.1 hb).1;omega
  obtain⟨k,y,rfl,hy⟩:=h2 i _ b (List.getElem?_eq_getElem hi) hb
  exact(CK.ok hy (hcs i _ c (List.getElem?_eq_getElem hi) hc)).1
end
end Go.Gx
end
section
/- Loops: what is found of a loop,round by round,is what the machine does. -/
namespace Go.Gx
open Go.RowKit
section
variable {w0:World} {B:Old} {pv:Nat->Value} {S:Nat->Prop} {ρ:Nat->Option Loc} {st:St} {a:Act} {w:World}
def UF (st:St)(ρ:Nat->Option Loc)(row':Nat->Option Row):Nat->Option Loc:=λid=>match Nat.beq id Q7 with
 |true=>ρ id
 |false=>match st.row id with
  |some _=>ρ id
  |none=>match row' id with
   |some _=>some .nilrow
   |none=>none
theorem Q0e {row':Nat->Option Row}{ρ':Nat->Option Loc}{ids:List Nat}(hrv:∀id r,row' id=some r->Rv st id r)(hρ:∀id,st.row id≠none->ρ' id=ρ id)(hρn:∀id,st.row id=none->row' id≠none->ρ' id=some .nilrow)(hids:∀id,id∈ids->row' id≠none)
  (hhs:HS S w ρ st.row pv B) (hsl:∀t,VR S w ρ st.row pv (st.slot t) (a.tmps.getD t undef)):∀{l:List Sp} {x:SX l},view st l=some x->Q0Q ids l=true->(∀i,i∈JF l->row' i≠none)->∀t,VR S w ρ' row' pv (slotsOf l x t) (a.tmps.getD t undef)
 |[],x,_,_,_,t=>.inl rfl
 |s::l,x,h,hok,hhas,t=>by
  simp only[view]at h
  split at h
  ·rename_i x0 hx0
   split at h
   ·rename_i y hy
    cases h
    simp only[Q0Q,Bool.and_eq_true]at hok
    have ih:=Q0e hrv hρ hρn hids hhs hsl hy hok.2 (λi hi=>hhas i (by simp only[JF];exact List.mem_append_right _ hi)) t
    have hst:=hsl t
    cases s with
    |t s τ=>
     simp only[slotsOf,Sp.slotAt,Qn]
     by_cases e:t=s
     ·subst e
      simp only[decide_true,cond_true]
      simp only[Sp.view]at hx0
      obtain⟨cs,h1,h2⟩:=Qw hst (by intro e;rw[e]at hx0;simp[asT]at hx0)
      exact .inr ⟨cs,.t τ x0 cs (Qq hx0 h1),by rw[h2,valOf,valOf,<-Du hx0]⟩
     ·rw[decide_eq_false e];exact ih
    |con s c=>
     simp only[slotsOf,Sp.slotAt,Qn]
     by_cases e:t=s
     ·subst e
      simp only[decide_true,cond_true]
      simp only[Sp.view]at hx0
      have:=Con.fits_eq (Q1h hx0)
      rw[this]at hst
      obtain⟨cs,h1,h2⟩:=Qw hst (by cases c<;>simp[Con.val,QV])
      exact .inr ⟨cs,Q0d hrv hρ hρn hids hok.1 h1,h2⟩
     ·rw[decide_eq_false e];exact ih
    |cl s g cs=>
     simp only[slotsOf,Sp.slotAt,Qn]
     by_cases e:t=s
     ·subst e
      simp only[decide_true,cond_true]
      simp only[Sp.view]at hx0
      split at hx0
      ·rename_i f caps hs
       split at hx0
       ·rename_i hf
        obtain rfl:=Nat.eq_of_beq_eq_true hf
        rw[hs]at hst
        obtain⟨cs',h1,h2⟩:=Qw hst (by simp)
        exact .inr ⟨cs',Q3c hx0 h1,h2⟩
       ·cases hx0
      ·cases hx0
     ·rw[decide_eq_false e];exact ih
    |rd s τ=>
     simp only[slotsOf,Sp.slotAt,Qn]
     by_cases e:t=s
     ·subst e
      simp only[decide_true,cond_true]
      simp only[Sp.view]at hx0
      split at hx0
      ·rename_i j hs
       split at hx0
       ·rename_i e' σ xs app' hrow
        split at hx0
        ·rename_i hσ _
         subst hσ
         cases hx0
         rw[hs]at hst
         obtain⟨cs',h1,h2⟩:=Qw hst (by simp)
         refine .inr ⟨cs',.t _ _ _ ?_,h2⟩
         cases h1 with
         |own _ _ _ _ _ _ g cap h4 hl=>
          rw[hrow]at h4
          cases h4
          exact XV hhs (λ_ hb=>hb) hrow hl ((hhs.apart j _ g cap hl hrow).2.2 rfl)
         |ownNil _ _ _ _ _ h4 hl=>
          rw[hrow]at h4
          cases h4
          exact Jr S w σ
        ·cases hx0
       ·cases hx0
      ·obtain⟨cs,h1,h2⟩:=Qw hst (by intro e;rw[e]at hx0;simp[asT]at hx0)
       exact .inr ⟨cs,AR.t (.sl τ) x0 cs (Qq (τ:=.sl τ) (x:=x0) hx0 h1),by rw[h2,valOf,valOf,<-Du (τ:=.sl τ) (x:=x0) hx0]⟩
     ·rw[decide_eq_false e];exact ih
    |rp s τ=>
     simp only[slotsOf,Sp.slotAt,Qn]
     by_cases e:t=s
     ·subst e
      simp only[decide_true,cond_true]
      simp only[Sp.view]at hx0
      split at hx0
      ·rename_i σ x' hs
       split at hx0
       ·rename_i hσ _
        subst hσ
        cases hx0
        rw[hs]at hst
        obtain⟨cs',h1,h2⟩:=Qw hst (by simp)
        refine .inr ⟨cs',?_,h2⟩
        cases h1 with
        |tp _ _ cs g o h hS hc=>exact .tp _ _ cs g o h hS hc
       ·cases hx0
      ·cases hx0
     ·rw[decide_eq_false e];exact ih
    |ds s id σ τ=>
     simp only[slotsOf,Sp.slotAt,Qn]
     by_cases e':t=s
     ·subst e'
      simp only[decide_true,cond_true]
      simp only[Sp.view]at hx0
      split at hx0
      ·rename_i k τ' x' σ' b hs hrow
       split at hx0
       ·rename_i e e2 hk _ _
        subst e;subst e2
        have hk:=Nat.eq_of_beq_eq_true hk
        subst hk
        cases hx0
        rw[hs]at hst
        obtain⟨cs,h1,h2⟩:=Qw hst (by simp)
        cases h1 with
        |ds _ _ _ _ r T v hr hl hc=>
         obtain⟨r',hr'⟩:=Option.ne_none_iff_exists'.1 (hhas k (by simp[JF,Sp.ids]))
         exact .inr ⟨cs,.ds k _ _ cs r' T v hr' (by rw[hρ k (by rw[hr];simp)];exact hl) hc,h2⟩
       ·cases hx0
      ·cases hx0
     ·rw[decide_eq_false e'];exact ih
    |tv s id e τ ap=>
     simp only[slotsOf,Sp.slotAt,Qn]
     by_cases e':t=s
     ·subst e'
      simp only[decide_true,cond_true]
      simp only[Sp.view]at hx0
      rw[(Jq hx0).1]at hst
      obtain⟨cs,h1,h2⟩:=Qw hst (by simp)
      exact .inr ⟨cs,Q20 hrv hρ hρn (hhas id (by simp[JF,Sp.ids])) h1,h2⟩
     ·rw[decide_eq_false e'];exact ih
    |bv s b id e τ ap=>
     simp only[slotsOf,Sp.slotAt,Qn]
     by_cases e':t=s
     ·subst e'
      simp only[decide_true,cond_true]
      simp only[Sp.view]at hx0
      split at hx0
      ·rename_i k σ a hs hrow
       split at hx0
       ·rename_i e hk _
        subst e
        have hk:=Nat.eq_of_beq_eq_true hk
        subst hk
        rw[hs]at hst
        obtain⟨cs,h1,h2⟩:=Qw hst (by simp)
        exact .inr ⟨cs,Q21 hrv hρ hρn hrow (hhas _ (by simp[JF,Sp.ids])) h1,h2⟩
       ·cases hx0
      ·cases hx0
     ·rw[decide_eq_false e'];exact ih
    |own s id e τ fz app=>
     simp only[slotsOf,Sp.slotAt,Qn]
     by_cases e':t=s
     ·subst e'
      simp only[decide_true,cond_true]
      simp only[Sp.view]at hx0
      obtain⟨cs,h1,h2⟩:=Qw hst (by intro e;rw[e]at hx0;simp[Xn]at hx0)
      obtain⟨h3,h4⟩:=Q3a hrv hρ hρn hx0 (hhas id (by simp[JF,Sp.ids])) h1
      exact .inr ⟨cs,h3,by rw[h2,valOf,valOf,h4];rfl⟩
     ·rw[decide_eq_false e'];exact ih
    |boxT s id τ=>
     simp only[slotsOf,Sp.slotAt,Qn]
     by_cases e':t=s
     ·subst e'
      simp only[decide_true,cond_true]
      simp only[Sp.view]at hx0
      split at hx0
      ·rename_i k σ b hs hrow
       split at hx0
       ·rename_i e hk _
        subst e
        have hk:=Nat.eq_of_beq_eq_true hk
        subst hk
        rw[hs]at hst
        obtain⟨cs,h1,h2⟩:=Qw hst (by simp)
        exact .inr ⟨cs,Q21 hrv hρ hρn hrow (hhas _ (by simp[JF,Sp.ids])) h1,h2⟩
       ·cases hx0
      ·cases hx0
     ·rw[decide_eq_false e'];exact ih
    |boxF s id τ fs=>
     simp only[slotsOf,Sp.slotAt,Qn]
     by_cases e':t=s
     ·subst e'
      simp only[decide_true,cond_true]
      have hfv:∃b,st.slot t= .ep id none []/\st.row id=some (.box τ b):=by
       simp only[Sp.view]at hx0
       split at hx0
       ·rename_i k σ σ' as hs hrow
        split at hx0
        ·rename_i e hk _
         subst e
         have hk:=Nat.eq_of_beq_eq_true hk
         subst hk
         exact⟨_,hs,hrow⟩
        ·cases hx0
       ·rename_i k σ σ' y hs hrow
        split at hx0
        ·rename_i e e' hk _ _
         subst e
         have hk:=Nat.eq_of_beq_eq_true hk
         subst hk
         exact⟨_,hs,hrow⟩
        ·cases hx0
       ·cases hx0
      obtain⟨b,hs,hrow⟩:=hfv
      rw[hs]at hst
      obtain⟨cs,h1,h2⟩:=Qw hst (by simp)
      exact .inr ⟨cs,Q21 hrv hρ hρn hrow (hhas _ (by simp[JF,Sp.ids])) h1,h2⟩
     ·rw[decide_eq_false e'];exact ih
   ·cases h
  ·cases h
theorem Q7d {l:List Sp}{s id:Nat}{τ:Ty}{fs:List Fp}(h:Sp.boxF s id τ fs∈l):∀i,i∈G7 fs->i∈JF l:=by
 induction l with
 |nil=>cases h
 |cons p l ih=>
  intro i hi
  rcases List.mem_cons.1 h with e|h
  ·subst e
   exact List.mem_append_left _ (List.mem_cons_of_mem _ hi)
  ·exact List.mem_append_right _ (ih h i hi)
theorem Q1j {ids:List Nat}:∀{l:List Sp} {x:SX l} {j:Nat} {τ:Ty} {b:AV},view st l=some x->Q0Q ids l=true->rowsOf l x j=some (.box τ b)->
  (∃vs,st.row j=some (.box τ (.tup vs))/\b= .tup vs)\/
  (∃id,st.row j=some (.box τ (.tv id τ))/\b= .tv id τ/\id∈JF l)\/
  (∃s τ',∃z:den τ',∃b0,st.slot s= .ds j τ' z/\st.row j=some (.box τ (.t .bool b0))/\b= .t .bool false)\/
  (∃s a,Sp.boxT s j τ∈l/\st.row j=some (.box τ a)/\∃y,b= .t τ y/\asT τ a=some y)\/
  (∃s fs a as,∃y:FX fs,Sp.boxF s j τ fs∈l/\st.row j=some (.box τ a)/\((∃σ,a= .agg σ as)\/(∃y,a= .t τ y/\as=Q4 τ y))/\Ye st.row fs as=some y/\b= .agg τ (U8 fs y)/\agT τ=true/\Q0P ids (fty τ) fs=true)
 |[],x,j,τ,b,_,_,h=>by cases h
 |s::l,x,j,τ,b,h,hok,hr=>by
  simp only[view]at h
  split at h
  ·rename_i x0 hx0
   split at h
   ·rename_i y hy
    cases h
    simp only[Q0Q,Bool.and_eq_true]at hok
    have next:rowsOf l y j=some (.box τ b)->(∃vs,st.row j=some (.box τ (.tup vs))/\b= .tup vs)\/
  (∃id,st.row j=some (.box τ (.tv id τ))/\b= .tv id τ/\id∈JF (s::l))\/(∃s' τ',∃z:den τ',∃b0,st.slot s'= .ds j τ' z/\st.row j=some (.box τ (.t .bool b0))/\b= .t .bool false)\/(∃s' a,Sp.boxT s' j τ∈s::l/\st.row j=some (.box τ a)/\∃y,b= .t τ y/\asT τ a=some y)\/
  (∃s' fs a as,∃y:FX fs,Sp.boxF s' j τ fs∈s::l/\st.row j=some (.box τ a)/\((∃σ,a= .agg σ as)\/(∃y,a= .t τ y/\as=Q4 τ y))/\Ye st.row fs as=some y/\b= .agg τ (U8 fs y)/\agT τ=true/\Q0P ids (fty τ) fs=true):=λhr=>(Q1j hy hok.2 hr).imp _root_.id (Or.imp (λ⟨k,h1,h2,h3⟩=>⟨k,h1,h2,List.mem_append_right _ h3⟩) <| Or.imp _root_.id (Or.imp (λ⟨s',a,h1,h2⟩=>⟨s',a,List.mem_cons_of_mem s h1,h2⟩) λ⟨s',fs,a,as,z,h1,h2⟩=>⟨s',fs,a,as,z,List.mem_cons_of_mem s h1,h2⟩))
    cases s with
    |t s τ'=>exact next hr
    |con s c=>exact next hr
    |cl s g cs=>exact next hr
    |rd s τ'=>exact next hr
    |rp s τ'=>exact next hr
    |own s id e τ' fz app=>
     simp only[rowsOf,Sp.rowAt,Qn]at hr
     by_cases e':j=id
     ·subst e';simp at hr
     ·rw[decide_eq_false e']at hr;exact next hr
    |tv s id e τ' ap=>
     simp only[rowsOf,Sp.rowAt,Qn]at hr
     by_cases e':j=id
     ·subst e'
      simp only[decide_true,cond_true,Option.some.injEq,QP,Row.box.injEq]at hr
      obtain⟨rfl,rfl⟩:=hr
      simp only[Sp.view]at hx0
      exact .inl ⟨_,(Jq hx0).2,rfl⟩
     ·rw[decide_eq_false e']at hr;exact next hr
    |bv s b' id e τ' ap=>
     simp only[Sp.view]at hx0
     split at hx0
     ·rename_i k σ a hs hrow
      split at hx0
      ·rename_i h1 _ _
       subst h1
       obtain⟨h2,h3⟩:=Jq hx0
       subst h2
       simp only[rowsOf,Sp.rowAt,Qn]at hr
       by_cases e':j=b'
       ·subst e'
        simp only[decide_true,cond_true,Option.some.injEq,Row.box.injEq]at hr
        obtain⟨rfl,rfl⟩:=hr
        exact .inr (.inl ⟨id,hrow,rfl,by simp[JF,Sp.ids]⟩)
       ·rw[decide_eq_false e']at hr
        by_cases e2:j=id
        ·subst e2
         simp only[decide_true,cond_true,cond_false,Option.some.injEq,QP,Row.box.injEq]at hr
         obtain⟨rfl,rfl⟩:=hr
         exact .inl ⟨_,h3,rfl⟩
        ·rw[decide_eq_false e2]at hr
         exact next hr
      ·cases hx0
     ·cases hx0
    |ds s id σ τ'=>
     simp only[rowsOf,Sp.rowAt,Qn]at hr
     by_cases e':j=id
     ·subst e'
      simp only[decide_true,cond_true,Option.some.injEq,Row.box.injEq]at hr
      obtain⟨rfl,rfl⟩:=hr
      simp only[Sp.view]at hx0
      split at hx0
      ·rename_i k τ2 x2 σ2 b2 hs hrow
       split at hx0
       ·rename_i e e2 hk _ _
        subst e
        have hk:=Nat.eq_of_beq_eq_true hk
        subst hk
        exact .inr (.inr (.inl ⟨s,τ2,x2,b2,hs,hrow,rfl⟩))
       ·cases hx0
      ·cases hx0
     ·rw[decide_eq_false e']at hr;exact next hr
    |boxT s id τ'=>
     simp only[rowsOf,Sp.rowAt,Qn]at hr
     by_cases e':j=id
     ·subst e'
      simp only[decide_true,cond_true,Option.some.injEq,Row.box.injEq]at hr
      obtain⟨rfl,rfl⟩:=hr
      simp only[Sp.view]at hx0
      split at hx0
      ·rename_i k σ a hs hrow
       split at hx0
       ·rename_i e _ _
        subst e
        exact .inr (.inr (.inr (.inl ⟨s,a,List.mem_cons_self,hrow,_,rfl,hx0⟩)))
       ·cases hx0
      ·cases hx0
     ·rw[decide_eq_false e']at hr;exact next hr
    |boxF s id τ' fs=>
     simp only[rowsOf,Sp.rowAt,Qn]at hr
     have nofr:∀{fs:List Fp} {as:List AV} {z:FX fs} {r0:Option Row},Ye st.row fs as=some z->UT fs z j r0=some (.box τ b)->r0=some (.box τ b)\/∃vs,st.row j=some (.box τ (.tup vs))/\b= .tup vs:=by
      intro fs
      induction fs with
      |nil=>exact λ_ h=>.inl h
      |cons f fs ih=>
       intro as z r0 hv h
       cases as with
       |nil=>simp[Ye]at hv
       |cons a as=>
       simp only[Ye]at hv
       split at hv<;>first
        |(cases hv;done)
        |skip
       rename_i z0 hz0
       split at hv<;>first
        |(cases hv;done)
        |skip
       rename_i z1 hz1
       cases hv
       cases f with
       |tv id e τ' ap=>
        simp only[UT,Fp.rowAt,Qn]at h
        by_cases e':j=id
        ·subst e'
         simp only[decide_true,cond_true,Option.some.injEq,QP,Row.box.injEq]at h
         obtain⟨rfl,rfl⟩:=h
         simp only[Fp.view]at hz0
         exact .inr ⟨_,(Jq hz0).2,rfl⟩
        ·rw[decide_eq_false e']at h;exact ih hz1 h
       |own id e τ fz app=>
        simp only[UT,Fp.rowAt,Qn]at h
        by_cases e':j=id
        ·subst e';simp at h
        ·rw[decide_eq_false e']at h;exact ih hz1 h
       |t τ=>exact ih hz1 h
       |con c=>exact ih hz1 h
     by_cases e':j=id
     ·subst e'
      simp only[decide_true,cond_true,Option.some.injEq,Row.box.injEq]at hr
      obtain⟨rfl,rfl⟩:=hr
      simp only[Sp.ok,Bool.and_eq_true]at hok
      simp only[Sp.view]at hx0
      split at hx0
      ·rename_i k σ σ' as hs hrow
       split at hx0
       ·rename_i e _ _
        subst e
        exact .inr (.inr <| .inr <| .inr ⟨s,fs,_,as,x0,List.mem_cons_self,hrow,.inl ⟨_,rfl⟩,hx0,rfl,hok.1.1,hok.1.2⟩)
       ·cases hx0
      ·rename_i k σ σ' y' hs hrow
       split at hx0
       ·rename_i e e' _ _ _
        subst e;subst e'
        exact .inr (.inr <| .inr <| .inr ⟨s,fs,_,_,x0,List.mem_cons_self,hrow,.inr ⟨y',rfl,rfl⟩,hx0,rfl,hok.1.1,hok.1.2⟩)
       ·cases hx0
      ·cases hx0
     ·rw[decide_eq_false e']at hr
      have hfv:∃as,Ye st.row fs as=some x0:=by
       simp only[Sp.view]at hx0
       split at hx0
       ·split at hx0
        ·exact⟨_,hx0⟩
        ·cases hx0
       ·split at hx0
        ·exact⟨_,hx0⟩
        ·cases hx0
       ·cases hx0
      obtain⟨as,hfv⟩:=hfv
      rcases nofr hfv hr with h|h
      ·exact next h
      ·exact .inl h
   ·cases h
  ·cases h
theorem Sim.view {l:List Sp}{x:SX l}(hv:view st l=some x)(hok:Q2w l=true)(h:Sim w0 B pv S ρ st a w):∃ρ',Sim w0 B pv S ρ' (J1 st.nt l x) a w:=by
 have hrv:∀id r,rowsOf l x id=some r->Rv st id r:=λid r hr=>JX hv hr
 have hmb:rowsOf l x Q7≠none->st.row Q7≠none:=λh1 h2=>by
  cases hr:rowsOf l x Q7 with
  |none=>exact h1 hr
  |some r=>
   cases hrv Q7 r hr with
   |same _ h3=>rw[h2]at h3;cases h3
   |nil _ _ _ _ hne=>exact hne rfl
   |boxT _ _ _ h3=>rw[h2]at h3;cases h3
   |ds _ _ h3=>rw[h2]at h3;cases h3
   |boxF _ _ _ _ _ h3=>rw[h2]at h3;cases h3
 have hρ:∀id,st.row id≠none->UF st ρ (rowsOf l x) id=ρ id:=λid hid=>by
  unfold UF
  split
  ·rfl
  ·cases hr:st.row id with
   |none=>exact absurd hr hid
   |some r=>rfl
 have hρn:∀id,st.row id=none->rowsOf l x id≠none->UF st ρ (rowsOf l x) id=some .nilrow:=λid h1 h2=>by
  unfold UF
  split
  ·rename_i hb
   have:=Nat.eq_of_beq_eq_true hb
   subst this
   exact absurd h1 (hmb h2)
  ·rw[h1]
   cases hr:rowsOf l x id with
   |none=>exact absurd hr h2
   |some r=>rfl
 have hat:∀id l0 b,rowsOf l x id≠none->UF st ρ (rowsOf l x) id=some l0->l0.has b->st.row id≠none/\ρ id=some l0:=λid l0 b h0 hl hb=>by
  cases hr:st.row id with
  |none=>rw[hρn id hr h0]at hl;cases hl;exact hb.elim
  |some r=>rw[hρ id (by rw[hr];simp)]at hl;exact⟨by simp,hl⟩
 have hids:∀id,id∈JF l->rowsOf l x id≠none:=λid hid=>Jw hid
 refine⟨UF st ρ (rowsOf l x),h.size,h.defers,Q0e hrv hρ hρn hids h.hs h.slots hv hok hids,⟨h.hs.stab,λid r lc h1 h2=>?_,λid id' l1 l2 b h1 h2 h3 h4 hb1 hb2=>?_,λid r l1 b h1 h2 hb=>?_,λl0 hl0=>(by
  have:=h.hs.pin l0 hl0
  unfold UF
  rw[Nat.beq_refl]
  exact this)⟩,h.below,h.hB⟩
 ·have h1':rowsOf l x id=some r:=h1
  cases r with
  |flat e τ xs fz app=>
   cases hrv id _ h1' with
   |same _ h3=>
    rw[hρ id (by rw[h3];simp)]at h2
    have:=h.hs.rows id _ lc h3 h2
    cases lc<;>exact this
   |nil _ _ h3 hpos _=>
    rw[hρn id h3 (by rw[h1'];simp)]at h2
    cases h2
    exact⟨rfl,rfl,hpos⟩
  |box τ b=>
   have hne:∀a,st.row id=some (.box τ a)->ρ id=some lc:=λa h3=>by rw[hρ id (by rw[h3];simp)]at h2;exact h2
   rcases Q1j hv hok h1' with⟨vs,h3,rfl⟩|⟨k,h3,rfl,hk⟩|⟨s,τ',z,b0,h3,h4,rfl⟩|⟨s,a',_,h3,y,rfl,h5⟩|⟨s,fs,a',as,y,hmem,h3,h4,h5,rfl,hag,hfp⟩
   ·have h6:=h.hs.rows id _ lc h3 (hne _ h3)
    cases lc with
    |nilrow=>exact h6.elim
    |soft T v=>
     obtain⟨_,⟨b1,e1,_⟩,_⟩:=h6
     cases e1
    |tree cs T v=>exact h6
    |«at» g c=>
     obtain⟨cur,T,h7,h8,h9⟩:=h6
     cases h8
   ·have h6:=h.hs.rows id _ lc h3 (hne _ h3)
    cases lc with
    |nilrow=>exact h6.elim
    |soft T v=>
     obtain⟨_,⟨b1,e1,_⟩,_⟩:=h6
     cases e1
    |tree cs T v=>
     obtain⟨_,_,e,ap,x,e1,_⟩:=h6
     cases e1
    |«at» g c=>
     obtain⟨cur,T,h7,h8,h9⟩:=h6
     exact⟨cur,T,h7,h8,Q20 hrv hρ hρn (hids k hk) h9⟩
   ·have h6:=h.hs.rows id _ lc h4 (hne _ h4)
    have h7:=h.slots s
    rw[h3]at h7
    obtain⟨cs,h8,_⟩:=Qw h7 (by simp)
    cases h8 with
    |ds _ _ _ _ r T v hr hl hc=>
     rw[hne _ h4]at hl
     cases hl
     obtain⟨h0,⟨b1,e1,_⟩,h9⟩:=h6
     exact⟨h0,⟨false,rfl,λh=>by cases h⟩,h9⟩
   ·have h6:=h.hs.rows id _ lc h3 (hne _ h3)
    cases lc with
    |nilrow=>exact h6.elim
    |soft T v=>
     obtain⟨h0,⟨b1,rfl,_⟩,_⟩:=h6
     unfold asT at h5
     dsimp only at h5
     split at h5
     ·rename_i e
      subst e
      cases h0
     ·cases h5
    |tree cs T v=>
     obtain⟨_,_,e,ap,x,rfl,_⟩:=h6
     unfold asT at h5
     cases h5
    |«at» g c=>
     obtain⟨cur,T,h7,h8,h9⟩:=h6
     exact⟨cur,T,h7,.t τ y,.t τ y _ (Qq h5 h9)⟩
   ·have h6:=h.hs.rows id _ lc h3 (hne _ h3)
    cases lc with
    |nilrow=>exact h6.elim
    |soft T v=>
     obtain⟨h0,⟨b1,e1,_⟩,_⟩:=h6
     rcases h4 with⟨σ,e4⟩|⟨z,e4,_⟩
     ·rw[e1]at e4;cases e4
     ·rw[e1]at e4;cases e4;cases h0
    |tree cs T v=>
     obtain⟨_,_,e,ap,x,e1,_⟩:=h6
     rcases h4 with⟨σ,e4⟩|⟨z,e4,_⟩<;>(rw[e1]at e4;cases e4)
    |«at» g c=>
     obtain⟨cur,T,h7,h8,h9⟩:=h6
     have hagg:AR S w ρ st.row pv (.agg τ as) cur.toList/\Fit τ (.agg τ as):=by
      rcases h4 with⟨σ,rfl⟩|⟨z,rfl,rfl⟩
      ·cases h8 with
       |agg _ _ k1 k2 k3=>exact⟨h9,.agg _ _ k1 k2 k3⟩
      ·exact YH hag (KE h9)
     obtain⟨css,k1,k2,k3⟩:=hagg.1.agg_parts
     obtain⟨_,k4,k5⟩:=hagg.2.agg_len
     obtain⟨k6,k7,k8⟩:=Q3b hrv hρ hρn hids h5 hfp (λi hi=>hids i (Q7d hmem i hi)) k2 k4 k3 k5
     refine⟨cur,T,h7,.agg τ _ hag (by omega) k8,?_⟩
     rw[k1]
     exact .agg τ _ css (by omega) k7
 ·obtain⟨h5,h6⟩:=hat id l1 b h3 h1 hb1
  obtain⟨h7,h8⟩:=hat id' l2 b h4 h2 hb2
  exact h.hs.inj0 id id' l1 l2 b h6 h8 h5 h7 hb1 hb2
 ·have h2':rowsOf l x id=some r:=h2
  obtain⟨h5,h6⟩:=hat id l1 b (by rw[h2'];simp) h1 hb
  cases hrv id r h2' with
  |same _ h3=>exact h.hs.apart0 id r l1 b h6 h3 hb
  |nil _ _ h3 _ _=>exact absurd h3 h5
  |boxT τ a' x' h3=>exact h.hs.apart0 id (.box τ a') l1 b h6 h3 hb
  |ds σ b' h3=>exact h.hs.apart0 id (.box σ (.t .bool b')) l1 b h6 h3 hb
  |boxF τ a' as fs x' h3=>exact h.hs.apart0 id (.box τ a') l1 b h6 h3 hb
end
end Go.Gx
end
section
/- Rows renamed: two numbers change places. -/
namespace Go.Gx
open Go.RowKit
theorem Gn (i j k:Nat):swn i j (swn i j k)=k:=by
 unfold swn
 simp only[Qn]
 by_cases h1:k=i
 ·subst h1
  simp only[decide_true]
  by_cases h2:j=k
  ·subst h2;simp
  ·simp[h2]
 ·rw[decide_eq_false h1]
  by_cases h2:k=j
  ·subst h2;simp
  ·rw[decide_eq_false h2]
   simp[h1,h2]
theorem Q5P {i j:Nat}(hi:i≠Q7)(hj:j≠Q7):swn i j Q7=Q7:=by
 unfold swn
 rw[Qn,Qn,decide_eq_false (Ne.symm hi),decide_eq_false (Ne.symm hj)]
theorem Q4V (i j:Nat)(a:AV):isAg (a.sw i j)=isAg a:=by cases a<;>simp[AV.sw,isAg]
theorem KY (i j:Nat):∀l:List AV,(swL i j l).length=l.length
 |[]=>by simp[swL]
 |a::l=>by simp[swL,KY i j l]
theorem KZ (i j:Nat):∀(l:List AV) (n:Nat),(swL i j l)[n]? =(l[n]?).map (AV.sw i j)
 |[],n=>by simp[swL]
 |a::l,0=>by simp[swL]
 |a::l,n+1=>by simp[swL,KZ i j l n]
theorem Dv (i j:Nat):∀(l:List AV) (css:List (List Value)),valsOf (swL i j l) css=valsOf l css
 |[],css=>by simp[swL,valsOf]
 |a::l,[]=>by simp[swL,valsOf]
 |a::l,cs::css=>by simp[swL,valsOf,Dv i j l css,valOf,Q4V]
section
variable {S:Nat->Prop} {w:World} {ρ:Nat->Option Loc} {row:Nat->Option Row} {pv:Nat->Value}
def swρ (i j:Nat)(ρ:Nat->Option Loc):Nat->Option Loc:=λk=>ρ (swn i j k)
theorem U2 (i j:Nat)(k:Nat):swρ i j ρ (swn i j k)=ρ k:=by unfold swρ;rw[Gn]
theorem U3 (i j:Nat)(k:Nat):swR i j row (swn i j k)=(row k).map (Row.sw i j):=by
 unfold swR;rw[Gn];cases row k<;>rfl
theorem AR.sw (i j:Nat){a:AV}{cs:List Value}(h:AR S w ρ row pv a cs):AR S w (swρ i j ρ) (swR i j row) pv (a.sw i j) cs:=by
 induction h with
 |t τ x cs h=>simp only[AV.sw];exact .t τ x cs h
 |nil=>simp only[AV.sw];exact .nil
 |own id e τ xs fz app g cap h hl=>
  simp only[AV.sw]
  exact .own _ e τ xs fz app g cap (by rw[U3,h];rfl) (by rw[U2,hl])
 |ownNil id e τ fz app h hl=>
  simp only[AV.sw]
  exact .ownNil _ e τ fz app (by rw[U3,h];rfl) (by rw[U2,hl])
 |epB id τ σ a g cap p h hl hp=>
  simp only[AV.sw]
  exact .epB _ τ σ (a.sw i j) g cap p (by rw[U3,h];rfl) (by rw[U2,hl]) hp
 |epF id e τ σ xs fz app g cap q p h hl hi hp=>
  simp only[AV.sw]
  exact .epF _ e τ σ xs fz app g cap q p (by rw[U3,h];rfl) (by rw[U2,hl]) hi hp
 |tl id e τ xs fz app l q h hl hi hm=>
  simp only[AV.sw]
  exact .tl _ e τ xs fz app l q (by rw[U3,h];rfl) (by rw[U2,hl]) hi hm
 |tp τ x cs g o h hS hc=>simp only[AV.sw];exact .tp τ x cs g o h hS hc
 |agg τ fs css hl _ ih=>
  simp only[AV.sw]
  refine .agg τ _ css ((KY i j fs).trans hl) λn a cs ha hcs=>?_
  rw[KZ,Option.map_eq_some_iff]at ha
  obtain⟨b,hb,rfl⟩:=ha
  exact ih n b cs hb hcs
 |hole τ cs hl h1=>simp only[AV.sw];exact .hole τ cs hl h1
 |tup vs css hl _ ih=>
  simp only[AV.sw]
  rw[<-Dv i j vs css]
  refine .tup _ css ((KY i j vs).trans hl) λn a cs ha hcs=>?_
  rw[KZ,Option.map_eq_some_iff]at ha
  obtain⟨b,hb,rfl⟩:=ha
  exact ih n b cs hb hcs
 |clo f caps css hl _ ih=>
  simp only[AV.sw]
  rw[<-Dv i j caps css]
  refine .clo f _ css ((KY i j caps).trans hl) λn a cs ha hcs=>?_
  rw[KZ,Option.map_eq_some_iff]at ha
  obtain⟨b,hb,rfl⟩:=ha
  exact ih n b cs hb hcs
 |par i h1=>simp only[AV.sw];exact .par i h1
 |pc c τ x cs h=>simp only[AV.sw];exact .pc c τ x cs h
 |ds id τ x cs r T v h hl hc=>simp only[AV.sw];exact .ds _ τ x cs (r.sw i j) T v (by rw[U3,h];rfl) (by rw[U2,hl]) hc
 |dq id τ x cs r T v g o h hl hT hc hv=>simp only[AV.sw];exact .dq _ τ x cs (r.sw i j) T v g o (by rw[U3,h];rfl) (by rw[U2,hl]) hT hc hv
 |tv id τ b cs T v h hl hc h1=>simp only[AV.sw];exact .tv _ τ (b.sw i j) cs T v (by rw[U3,h];rfl) (by rw[U2,hl]) hc h1
 |tq id q p e σ b T v g n c h hl hi hp hq=>simp only[AV.sw];exact .tq _ q p e σ (b.sw i j) T v g n c (by rw[U3,h];rfl) (by rw[U2,hl]) hi hp hq
 |vw id q p τ σ b cs T v u h hl hv h1=>simp only[AV.sw];exact .vw _ q p τ σ (b.sw i j) cs T v u (by rw[U3,h];rfl) (by rw[U2,hl]) hv h1
theorem Fit.sw (i j:Nat){τ:Ty}{a:AV}(h:Fit τ a):Fit τ (a.sw i j):=by
 induction h with
 |t τ x=>simp only[AV.sw];exact .t τ x
 |nil e=>simp only[AV.sw];exact .nil e
 |own e id=>simp only[AV.sw];exact .own e _
 |ep τ id i p h0 h1=>simp only[AV.sw];exact .ep τ _ _ _ h0 h1
 |tp τ a h0 h1=>simp only[AV.sw];exact .tp τ a h0 h1
 |clo τ f l h0 h1=>simp only[AV.sw];exact .clo τ f _ h0 h1
 |par τ i h0 h1=>simp only[AV.sw];exact .par τ _ h0 h1
 |agg τ fs hg hl _ ih=>
  simp only[AV.sw]
  refine .agg τ _ hg ((KY i j fs).trans hl) λn σ a hσ ha=>?_
  rw[KZ,Option.map_eq_some_iff]at ha
  obtain⟨b,hb,rfl⟩:=ha
  exact ih n σ b hσ hb
 |hole τ=>simp only[AV.sw];exact .hole τ
 |pc c τ x=>simp only[AV.sw];exact .pc c τ x
 |ds id τ x=>simp only[AV.sw];exact .ds _ τ x
 |tv id τ=>simp only[AV.sw];exact .tv _ τ
 |vw id q p τ=>simp only[AV.sw];exact .vw _ q p τ
 |tq τ id q p h0 h1=>simp only[AV.sw];exact .tq τ _ q p h0 h1
theorem Q8V (i j:Nat)(r:Row):frz (r.sw i j)=frz r:=by cases r<;>rfl
theorem Q3d {i j k:Nat}{r:Row}(h:swR i j row k=some r):∃r0,row (swn i j k)=some r0/\r=r0.sw i j:=by
 unfold swR at h
 cases hr:row (swn i j k)with
 |none=>rw[hr]at h;cases h
 |some r0=>rw[hr]at h;cases h;exact⟨r0,rfl,rfl⟩
theorem QG.sw (i j:Nat){r:Row}{l:Loc}(h:QG S w ρ row pv r l):QG S w (swρ i j ρ) (swR i j row) pv (r.sw i j) l:=by
 cases r with
 |flat e τ xs fz app=>cases l<;>exact h
 |box τ a=>
  cases l with
  |nilrow=>exact h
  |soft T v=>
   obtain⟨h0,⟨b,rfl,h1⟩,h2⟩:=h
   exact⟨h0,⟨b,by simp only[AV.sw],h1⟩,h2⟩
  |tree cs T v=>
   obtain⟨h0,h1,e,ap,x,rfl,h2⟩:=h
   exact⟨h0,h1,e,ap,x,by simp only[AV.sw,swL],h2⟩
  |«at» g c=>
   obtain⟨cur,T,h1,h2,h3⟩:=h
   exact⟨cur,T,h1,h2.sw i j,h3.sw i j⟩
theorem HS.sw {B:Old}(i j:Nat)(hi:i≠Q7)(hj:j≠Q7)(h:HS S w ρ row pv B):HS S w (swρ i j ρ) (swR i j row) pv B:=by
 refine⟨h.stab,λk r l h1 h2=>?_,λk k' l l' b h1 h2 h3 h4 h5 h6=>?_,λk r l b h1 h2 hb=>?_,λl hl=>?_⟩
 ·obtain⟨r0,h3,rfl⟩:=Q3d h1
  exact(h.rows _ r0 l h3 h2).sw i j
 ·have f:∀k,swR i j row k≠none->row (swn i j k)≠none:=λk hk e=>hk (by unfold swR;rw[e])
  have:=h.inj0 (swn i j k) (swn i j k') l l' b h1 h2 (f k h3) (f k' h4) h5 h6
  rw[<-Gn i j k,this,Gn]
 ·obtain⟨r0,h3,rfl⟩:=Q3d h2
  rw[Q8V]
  exact h.apart0 (swn i j k) r0 l b h1 h3 hb
 ·show ρ (swn i j Q7)=some l
  rw[Q5P hi hj]
  exact h.pin l hl
end
section
variable {w0:World} {B:Old} {pv:Nat->Value} {S:Nat->Prop} {ρ:Nat->Option Loc} {st:St} {a:Act} {w:World}
theorem Sim.sw (i j:Nat)(hi:i≠Q7)(hj:j≠Q7)(h:Sim w0 B pv S ρ st a w):Sim w0 B pv S (swρ i j ρ) (st.sw i j) a w:=by
 refine⟨h.size,h.defers,λt=>?_,h.hs.sw i j hi hj,h.below,h.hB⟩
 rcases h.slots t with e|⟨cs,h1,h2⟩
 ·left
  show(st.slot t).sw i j= .any
  rw[e];rfl
 ·exact .inr ⟨cs,h1.sw i j,by rw[h2];show valOf _ _=valOf ((st.slot t).sw i j) cs;unfold valOf;rw[Q4V]⟩
theorem Xz:∀(fs:List Fp) (as:List AV) (st:St),(renF st fs as).nt=st.nt
 |[],_,st=>rfl
 |_::_,[],st=>rfl
 |f::fs,a::as,st=>by
  unfold renF
  split
  ·split
   ·exact Xz fs as st
   ·rw[Xz fs];rfl
  ·split
   ·exact Xz fs as st
   ·rw[Xz fs];rfl
  ·exact Xz fs as st
theorem QM:∀(l:List Sp) (st:St),(renam st l).nt=st.nt
 |[],st=>rfl
 |s::l,st=>by
  unfold renam
  split
  ·rename_i h;cases h
  ·rename_i h
   cases h
   split
   ·split
    ·exact QM l st
    ·rw[QM l];rfl
   ·exact QM l st
  ·rename_i h
   cases h
   split
   ·split
    ·exact QM l st
    ·rw[QM l];rfl
   ·exact QM l st
  ·rename_i h
   cases h
   split
   ·split
    ·split
     ·exact QM l st
     ·rw[QM l];rfl
    ·exact QM l st
   ·exact QM l st
  ·rename_i h
   cases h
   split
   ·split
    ·exact QM l st
    ·rw[QM l];rfl
   ·exact QM l st
  ·rename_i h
   cases h
   split
   ·split
    ·rw[QM l,Xz]
    ·exact QM l st
   ·exact QM l st
  ·rename_i h;cases h;exact QM l st
theorem Sim.renF:∀(fs:List Fp) (as:List AV) {st:St} {ρ:Nat->Option Loc},Sim w0 B pv S ρ st a w->∃ρ',Sim w0 B pv S ρ' (renF st fs as) a w
 |[],_,st,ρ,h=>⟨ρ,h⟩
 |_::_,[],st,ρ,h=>⟨ρ,h⟩
 |f::fs,b::as,st,ρ,h=>by
  unfold Go.Gx.renF
  split
  ·split
   ·exact Sim.renF fs as h
   ·rename_i hb
    simp only[Bool.or_eq_false_iff,Qn,decide_eq_false_iff_not]at hb
    exact Sim.renF fs _ (h.sw _ _ hb.1.2 hb.2)
  ·split
   ·exact Sim.renF fs as h
   ·rename_i hb
    simp only[Bool.or_eq_false_iff,Qn,decide_eq_false_iff_not]at hb
    exact Sim.renF fs _ (h.sw _ _ hb.1.2 hb.2)
  ·exact Sim.renF fs as h
theorem Sim.renam:∀(l:List Sp) {st:St} {ρ:Nat->Option Loc},Sim w0 B pv S ρ st a w->∃ρ',Sim w0 B pv S ρ' (renam st l) a w
 |[],st,ρ,h=>⟨ρ,h⟩
 |s::l,st,ρ,h=>by
  unfold Go.Gx.renam
  split
  ·rename_i e;cases e
  ·rename_i e
   cases e
   split
   ·rename_i id _ _ _ _ _ k _
    split
    ·exact Sim.renam l h
    ·rename_i hb
     simp only[Bool.or_eq_false_iff,Qn,decide_eq_false_iff_not]at hb
     exact Sim.renam l (h.sw k id hb.1.2 hb.2)
   ·exact Sim.renam l h
  ·rename_i e
   cases e
   split
   ·rename_i id _ _ _ _ k _ _
    split
    ·exact Sim.renam l h
    ·rename_i hb
     simp only[Bool.or_eq_false_iff,Qn,decide_eq_false_iff_not]at hb
     exact Sim.renam l (h.sw k id hb.1.2 hb.2)
   ·exact Sim.renam l h
  ·rename_i e
   cases e
   split
   ·split
    ·split
     ·exact Sim.renam l h
     ·rename_i hb
      simp only[Bool.or_eq_false_iff,Qn,decide_eq_false_iff_not]at hb
      exact Sim.renam l (h.sw _ _ hb.1.2 hb.2)
    ·exact Sim.renam l h
   ·exact Sim.renam l h
  ·rename_i e
   cases e
   split
   ·split
    ·exact Sim.renam l h
    ·rename_i hb
     simp only[Bool.or_eq_false_iff,Qn,decide_eq_false_iff_not]at hb
     exact Sim.renam l (h.sw _ _ hb.1.2 hb.2)
   ·exact Sim.renam l h
  ·rename_i e
   cases e
   split
   ·split
    ·obtain⟨ρ',h'⟩:=Sim.renF _ _ h
     exact Sim.renam l h'
    ·exact Sim.renam l h
   ·exact Sim.renam l h
  ·rename_i e;cases e;exact Sim.renam l h
end
end Go.Gx
end
section
/- What is printed of a function,tied to the machine. -/
namespace Go.Gx
open Go.RowKit
def CG (C:Orc):Cal->List AV->AV->Prop:=λcal av res=>C cal av some=some res
def LG (L:Kv):Nat->St->Ex->St->Prop:=λb st e st'=>L b st (λe s=>some (e,s))=some (e,st')
theorem Q0f {b:Nat}{d:Code}:∀{l:List (Nat×Code)},(b,d)∈l->b∈keysOf l
 |[],h=>by cases h
 |p::l,h=>by
  rcases List.mem_cons.1 h with e|h
  ·subst e;exact List.mem_cons_self
  ·exact List.mem_cons_of_mem _ (Q0f h)
theorem Q1k:∀{l:List (Nat×Code)} {b:Nat} {d:Code},(keysOf l).Nodup->(b,d)∈l->Q4x b l=d
 |[],b,d,_,h=>by cases h
 |p::l,b,d,hn,h=>by
  obtain⟨h1,h2⟩:=List.nodup_cons.1 (show(p.1::keysOf l).Nodup from hn)
  unfold Q4x
  rcases List.mem_cons.1 h with e|h
  ·subst e;simp
  ·have hne:p.1≠b:=by rintro rfl;exact h1 (Q0f h)
   rw[Qn,decide_eq_false hne]
   exact Q1k h2 h
theorem JJ:∀{c:Code} {b:Nat} {p q:Nat×Code},p∈J0 b c->q∈J0 p.1 p.2->q∈J0 b c
 |.seq x y,b,p,q,hp,hq=>by
  rcases List.mem_append.1 hp with hp|hp
  ·exact List.mem_append_left _ (JJ hp hq)
  ·exact List.mem_append_right _ (JJ hp hq)
 |.cond _ x y,b,p,q,hp,hq=>by
  rcases List.mem_append.1 hp with hp|hp
  ·exact List.mem_append_left _ (JJ hp hq)
  ·exact List.mem_append_right _ (JJ hp hq)
 |.block id c,b,p,q,hp,hq=>JJ (c:=c) (b:=id) hp hq
 |.loop c,b,p,q,hp,hq=>by
  rcases List.mem_cons.1 hp with e|hp
  ·subst e;exact List.mem_cons_of_mem _ hq
  ·exact List.mem_cons_of_mem _ (JJ hp hq)
 |.skip,_,_,_,hp,_=>by cases hp
 |.region ..,_,_,_,hp,_=>by cases hp
 |.exit _,_,_,_,hp,_=>by cases hp
 |.ret,_,_,_,hp,_=>by cases hp
 |.rangeFunc ..,_,_,_,hp,_=>by cases hp
 |.scope _,_,_,_,hp,_=>by cases hp
 |.label _,_,_,_,hp,_=>by cases hp
 |.goto _,_,_,_,hp,_=>by cases hp
 |.refuse _,_,_,_,hp,_=>by cases hp
theorem Q5Q {f:Func}{c:Code}(hb:f.body=some c)(h:KA f=true){p:Nat×Code}(hp:p∈J0 0 c):Qo f p.1=p.2:=by
 unfold KA at h
 unfold Qo
 rw[hb]at h ⊢
 exact Q1k (JW h) hp
theorem Q0g {nt:Nat}{st:St}{l:List Sp}{x:SX l}(h:UU nt st l=some x):st.nt=nt/\view ((renam (unbox st l) l).freeze (Kz (renam (unbox st l) l) l)) l=some x:=by
 unfold UU at h
 split at h
 ·rename_i e;exact⟨Nat.eq_of_beq_eq_true e,h⟩
 ·cases h
section
variable {w0:World} {B:Old} {pv:Nat->Value} {a:Act} {w:World}
theorem Sim.unbox1 {S:Nat->Prop}{ρ:Nat->Option Loc}{st:St}(h:Sim w0 B pv S ρ st a w)(s:Nat):∃S' ρ',Sim w0 B pv S' ρ' (unbox1 st s) a w/\Grew B S S'/\(∀b,S b->S' b)/\(unbox1 st s).nt=st.nt:=by
 have stay:∃S' ρ',Sim w0 B pv S' ρ' st a w/\Grew B S S'/\(∀b,S b->S' b)/\st.nt=st.nt:=⟨S,ρ,h,⟨λ_ hb _=>hb,λb hb=>.inl hb⟩,λ_ h=>h,rfl⟩
 unfold Gx.unbox1
 split
 ·rename_i j hs
  split
  ·rename_i τ σ y hr
   split
   ·rename_i e _ hm
    subst e
    have hjm:j≠Q7:=λe=>by rw[e,Nat.beq_refl]at hm;cases hm
    have hv:=h.slots s
    rw[hs]at hv
    obtain⟨cs0,ha,he⟩:=Qw hv (by simp)
    cases ha with
    |epB _ τ' σ' a' g cap _ h4 hl hp=>
     rw[hr]at h4
     cases h4
     obtain⟨cur,T,hg,hf,har⟩:=h.hs.rows j _ _ hr hl
     have hcr:CR S w τ y cur.toList:=by
      cases har with
      |t _ _ _ h=>exact h
     have hap:=h.hs.apart j _ g cap hl hr
     have hgl:g<w.heap.size:=(Array.getElem?_eq_some_iff.1 hg).1
     have h1:=h.kill j (j+1) (Ut hjm)
     have hkk:∀id l r,True->killL j (j+1) ρ id=some l->(st.kill j (j+1)).row id=some r->killL j (j+1) ρ id=some l/\∃r',(st.kill j (j+1)).row id=some r'/\Same r r':=λid l r _ h1 h2=>⟨h1,r,h2,.refl r⟩
     refine⟨λb=>S b\/b=g,killL j (j+1) ρ,⟨h1.size,h1.defers,λt=>?_,?_,h1.below,h1.hB⟩,⟨λ_ hb _=>.inl hb,λb hb=>hb.elim .inl λ(e:b=g)=>.inr (by rw[e];exact hap.1)⟩,λb hb=>.inl hb,rfl⟩
     ·show VR _ w _ _ pv (cond (Nat.beq t s) (.tp (.t τ y)) (Ku j (j+1) (st.slot t))) _
      cases hb:Nat.beq t s with
      |false=>exact VR.ext (P:=λ_=>True) (λ_ h=>.inl h) (λ_ _=>rfl) hkk (h1.slots t) (λ_ _=>trivial)
      |true=>
       obtain rfl:=Nat.eq_of_beq_eq_true hb
       rw[he]
       refine .inr ⟨_,.tp τ y cur.toList g 0 (hcr.mono (λ_ h=>.inl h) λ_ _=>rfl) (.inr rfl) (λi v hi=>?_),rfl⟩
       simp only[World.cell?,hg,Nat.zero_add]
       simpa using hi
     ·refine⟨λb hb=>hb.elim (h1.hs.stab b) λe=>e▸hgl,λid r l h2 h3=>(h1.hs.rows id r l h2 h3).ext (P:=λ_=>True) (λ_ h=>.inl h) (λ_ _=>rfl) hkk (λ_ _=>rfl) (λ_ _ _ _ _=>trivial),h1.hs.inj0,λid r l b h2 h3 hb=>?_,h1.hs.pin⟩
      obtain⟨f0,f1,f2⟩:=h1.hs.apart0 id r l b h2 h3 hb
      refine⟨f0,λhz hS=>?_,λhz=>.inl (f2 hz)⟩
      rcases hS with hS|rfl
      ·exact f1 hz hS
      ·obtain⟨k1,k2⟩:=JZ h2
       have k3:st.row id≠none:=λe=>by
        have h3':Jj j (j+1) id (st.row id)=some r:=h3
        rw[e]at h3'
        unfold Jj at h3'
        cases hc:(Nat.ble j id&&Nat.blt id (j+1))<;>rw[hc]at h3'<;>cases h3'
       have:=h.hs.inj0 id j l (.at b cap) b k2 hl k3 (by rw[hr];simp) hb rfl
       exact k1 this
   ·exact stay
  ·exact stay
 ·exact stay
theorem Sim.unbox:∀(l:List Sp) {S:Nat->Prop} {ρ:Nat->Option Loc} {st:St},Sim w0 B pv S ρ st a w->∃S' ρ',Sim w0 B pv S' ρ' (unbox st l) a w/\Grew B S S'/\(∀b,S b->S' b)/\(unbox st l).nt=st.nt
 |[],S,ρ,st,h=>⟨S,ρ,h,⟨λ_ hb _=>hb,λb hb=>.inl hb⟩,λ_ h=>h,rfl⟩
 |s::l,S,ρ,st,h=>by
  cases s with
  |rp s τ=>
   obtain⟨S1,ρ1,h1,g1,m1,n1⟩:=h.unbox1 s
   obtain⟨S2,ρ2,h2,g2,m2,n2⟩:=Sim.unbox l h1
   exact⟨S2,ρ2,h2,g1.trans g2,λb hb=>m2 b (m1 b hb),n2.trans n1⟩
  |_=>exact Sim.unbox l h
end
def Q7e (E:Env)(C:Orc)(L:Kv)(nt:Nat)(d:Code)(b:Nat)(e:Ex)(st st':St):Prop:=
 ∃sp:List Sp,∃x:SX sp,Q2w sp=true/\UU nt st sp=some x/\∃Y:Type,∃y:Y,∃cont:Ex->St->Option Y,QJ E C L b d (J1 nt sp x) cont=some y/\
  ∀e1 st1,cont e1 st1=some y->(e1= .normal/\LG L b st1 e st')\/(e1=e/\e≠ .normal/\∃sp':List Sp,∃x':SX sp',Q2w sp'=true/\UU nt st1 sp'=some x'/\st'=J1 nt sp' x')
theorem Dw {P:Program}{E:Env}{pv:Nat->Value}(hE:EnvOk P E){C:Nat->Orc}{L:Nat->Kv}(hC:∀k,JE (C k) (CG (C k)))(hL:∀k,LIs (L k) (LG (L k))){fn:Func}{c:Code}(hb:fn.body=some c)(hok:KA fn=true)
  {n:Nat} (hG:∀k,k<n->GOk P E pv (CG (C k))) (h0:∀b st e st',¬LG (L 0) b st e st') (hS:∀k b e st st',b∈keysOf (J0 0 c)->LG (L (k+1)) b st e st'->Q7e E (C k) (L k) fn.ntmps (Qo fn b) b e st st') :
  ∀(k:Nat),k<=n->∀(w0:World) (B:Old),∀p∈J0 0 c,∀(st:St) (e:Ex) (st':St) (S:Nat->Prop) (ρ:Nat->Option Loc) (a:Act) (w:World) (Q:Exit->Act->World->Prop),LG (L k) p.1 st e st'->Sim w0 B pv S ρ st a w->Qr E pv S w->
   (∀S' ρ' a' w',Sim w0 B pv S' ρ' st' a' w'->Qr E pv S' w'->Grew B S S'->Q (exw e) a' w')->Code.rounds P p.2 Q k a w
 |0,_,_,_,_,_,_,_,_,_,_,_,_,_,h,_,_,_=>absurd h (h0 _ _ _ _)
 |k+1,hkn,w0,B,p,hp,st,e,st',S,ρ,a,w,Q,h,hs,hgl,hQ=>by
  have ih:=Dw hE hC hL hb hok hG h0 hS k (by omega) w0 B
  obtain⟨sp,x,hsp,hv,Y,y,cont,hrun,hcont⟩:=hS k p.1 e st st' (Q0f hp) h
  rw[Q5Q hb hok hp]at hrun
  obtain⟨hnt,hv⟩:=Q0g hv
  obtain⟨Su,ρu,hsu,hgu,hsub,hun⟩:=Sim.unbox sp hs
  obtain⟨ρ0,hs0⟩:=hsu.renam sp
  have hgf:=hgu.trans (JR hs0 (Kz (renam (unbox st sp) sp) sp))
  obtain⟨ρ1,hs1⟩:=(hs0.frzs (Kz (renam (unbox st sp) sp) sp)).view hv hsp
  rw[(QL _ (renam (unbox st sp) sp)).2,QM,hun,hnt]at hs1
  obtain⟨e1,st1,hcr,hc1⟩:=Yp (hC k) (hL k) _ _ _ hrun
  rw[rounds_succ]
  have hloops:∀q∈J0 p.1 p.2,Yi P E w0 B pv q.2 (LG (L k) q.1):=λq hq st e st' S ρ a w Q h hs hgl hQ=>
   wp_loop_rounds k (ih q (JJ hp hq) st e st' S ρ a w Q h hs hgl hQ)
  refine Q1Y hE (hG k (by omega)) hcr hloops hs1 (hgl.mono (λ_ h=>.inl (hsub _ h)) (λ_ _=>rfl)) λS1 ρ2 a1 w1 hs2 hgl2 hg=>?_
  have hg:=hgf.trans hg
  rcases hcont e1 st1 hc1 with⟨rfl,hl⟩|⟨rfl,hne,sp',x',hsp',hv',rfl⟩
  ·exact ih p hp st1 e st' S1 ρ2 a1 w1 Q hl hs2 hgl2 λS2 ρ3 a2 w2 hs3 hgl3 hg3=>hQ S2 ρ3 a2 w2 hs3 hgl3 (hg.trans hg3)
  ·obtain⟨hnt',hv'⟩:=Q0g hv'
   obtain⟨Su',ρu',hsu',hgu',hsub',hun'⟩:=Sim.unbox sp' hs2
   obtain⟨ρ0',hs0'⟩:=hsu'.renam sp'
   have hgf':=hgu'.trans (JR hs0' (Kz (renam (unbox st1 sp') sp') sp'))
   obtain⟨ρ3,hs3⟩:=(hs0'.frzs (Kz (renam (unbox st1 sp') sp') sp')).view hv' hsp'
   rw[(QL _ (renam (unbox st1 sp') sp')).2,QM,hun',hnt']at hs3
   have:=hQ _ ρ3 a1 w1 hs3 (hgl2.mono (λ_ h=>.inl (hsub' _ h)) (λ_ _=>rfl)) (hg.trans hgf')
   cases e1 with
   |normal=>exact absurd rfl hne
   |exit id=>exact this
   |ret=>exact this
theorem Q0h {e:Nat}{τ:Ty}{a:AV}{xs:List (den τ)}(h:frL e τ a=some xs):a= .fr e τ xs\/(a= .nil/\xs=[]/\0<nc τ):=by
 unfold frL at h
 split at h
 ·split at h
  ·rename_i e1 _ e2
   subst e1
   cases h
   rw[Nat.eq_of_beq_eq_true e2]
   exact .inl rfl
  ·cases h
 ·split at h
  ·rename_i hp
   cases h
   exact .inr ⟨rfl,rfl,Nat.le_of_ble_eq_true hp⟩
  ·cases h
 ·cases h
theorem D1 {a:AV}{x:ByteArray}(h:asT .str a=some x):a= .t .str x:=by
 rcases U9 h with rfl|rfl
 ·rfl
 ·simp[asT]at h
theorem Q8i {a:AV}{k:IntKind}{x:Int}(h:asT (.int k) a=some x):a= .t (.int k) x:=by
 rcases U9 h with rfl|rfl
 ·rfl
 ·simp[asT]at h
theorem Q9n {τ:Ty}{e:Nat}{a:AV}{x:den τ}(h:Q1G e τ a=some x):Wk1 a (sfV e τ x):=by
 unfold Q1G at h
 split at h
 ·split at h
  ·split at h
   ·rename_i hf hb hc hd
    cases h
    cases D1 hb;cases D1 hc;cases D1 hd
    rcases Q0h hf with rfl|⟨rfl,rfl,hp⟩
    ·exact .refl _
    ·refine .agN .name _ 0 e .str rfl hp λi e' τ' xs h=>?_
     match i,h with
     |0,h|1,h|2,h|3,h=>cases h
     |i+4,h=>simp at h
   ·cases h
  ·cases h
 ·split at h
  ·split at h
   ·rename_i hf
    cases h
    rcases Q0h hf with rfl|⟨rfl,rfl,hp⟩
    ·exact .refl _
    ·refine .agN .lib _ 0 e .entry rfl hp λi e' τ' xs h=>?_
     match i,h with
     |0,h=>cases h
     |i+1,h=>simp at h
   ·cases h
  ·cases h
 ·split at h
  ·split at h
   ·rename_i hb hc hd hf
    cases h
    cases Q8i hb;cases D1 hc;cases D1 hd
    rcases Q0h hf with rfl|⟨rfl,rfl,hp⟩
    ·exact .refl _
    ·refine .agN .query _ 3 e .query rfl hp λi e' τ' xs h=>?_
     match i,h with
     |0,h|1,h|2,h|3,h=>cases h
     |i+4,h=>simp at h
   ·cases h
  ·cases h
 ·cases h
theorem Q7f {k:RK}{a:AV}{x:k.X}(h:k.view a=some x):Wk1 a (k.val x):=by
 cases k with
 |t τ=>
  simp only[RK.view]at h
  split at h
  ·rename_i e σ xs
   split at h
   ·rename_i ρ
    split at h
    ·rename_i e' _
     subst e'
     cases h
     exact .frT e _ xs
    ·cases h
   ·cases h
  ·rename_i σ fs
   split at h
   ·rename_i b hb
    obtain⟨y,rfl⟩:=XY hb
    have:AV.t σ y= .t τ x:=by
     simp only[asT]at h
     split at h
     ·rename_i e
      subst e
      cases h
      rfl
     ·cases h
    show Wk1 _ (.t τ x)
    rw[<-this]
    exact .agT σ fs _ hb
   ·cases h
  ·rename_i hn
   rcases U9 h with rfl|rfl
   ·exact .refl _
   ·cases τ<;>simp[asT]at h
    subst h
    exact .nilT _
 |fr e τ=>
  simp only[RK.view]at h
  split at h
  ·rename_i e' σ xs
   split at h
   ·rename_i e'' _ he
    subst e''
    cases h
    have:=Nat.eq_of_beq_eq_true he
    subst this
    exact .refl _
   ·cases h
  ·split at h
   ·rename_i hp
    cases h
    exact .nilFr e τ (Nat.le_of_ble_eq_true hp)
   ·cases h
  ·cases h
 |pc τ=>
  simp only[RK.view]at h
  split at h
  ·split at h
   ·rename_i e _
    subst e
    cases h
    exact .refl _
   ·cases h
  ·cases h
 |sf τ e=>exact Q9n h
theorem Dx:∀{tys:List Ty} {av:List AV} {x:TX tys},Y6 tys av=some x->av.length=(Qb tys x).length/\∀(i:Nat) a b,av[i]? =some a->(Qb tys x)[i]? =some b->∃τ,∃y:den τ,b= .t τ y/\asT τ a=some y
 |[],[],x,_=>⟨rfl,λi a b h=>by simp at h⟩
 |[],_::_,x,h=>by simp[Y6]at h
 |τ::l,[],x,h=>by simp[Y6]at h
 |τ::l,a::as,x,h=>by
  simp only[Y6]at h
  split at h
  ·rename_i x0 hx
   split at h
   ·rename_i y hy
    cases h
    obtain⟨h1,h2⟩:=Dx hy
    refine⟨by simp[Qb,h1],λi b c hb hc=>?_⟩
    cases i with
    |zero=>cases hb;cases hc;exact⟨τ,x0,rfl,hx⟩
    |succ i=>exact h2 i b c (by simpa using hb) (by simpa[Qb]using hc)
   ·cases h
  ·cases h
theorem Q4d {P:Program}{E:Env}{pv:Nat->Value}{cal:Cal}{tys:List Ty}{av:List AV}{x:TX tys}{r:AV}(hx:Y6 tys av=some x)(h:Qa P E pv cal (Qb tys x) r):Qa P E pv cal av r:=by
 obtain⟨h1,h2⟩:=Dx hx
 refine Goes.mono h ?_ λS w vs ⟨h3,h4⟩=>⟨h3.trans h1,λi b v hb hv=>?_⟩
 ·cases r with
  |tup rs=>exact .inr ⟨rs,rs,rfl,rfl,rfl,λi a a' e1 e2=>by rw[e1]at e2;cases e2;exact .refl a⟩
  |_=>exact .inl ⟨λl h=>(by cases h),λl h=>(by cases h),.refl _⟩
 ·have hi:=(List.getElem?_eq_some_iff.1 hb).1
  have ha:av[i]? =some av[i]:=List.getElem?_eq_getElem (by omega)
  obtain⟨τ,y,rfl,hy⟩:=h2 i _ b ha hb
  obtain⟨cs,h5,h6⟩:=h4 i _ v ha hv
  exact⟨cs,.t τ y cs (Qq hy h5),by rw[h6,valOf,valOf,Du hy]⟩
theorem Q3e {P:Program}{E:Env}{pv:Nat->Value}{L:Kv}(h:∀b st e st',¬LG L b st e st')(l:List (Nat×Code)):∀w0 B,∀p∈l,Yi P E w0 B pv p.2 (LG L p.1):=
 λw0 B p _ st e st' S ρ a w Q hl=>absurd hl (h _ _ _ _)
theorem Q3 {k:RK}{r:AV}{y:k.X}(h:Qe k r=some y):Wk r (k.val y):=by
 refine .inl ⟨λl e=>?_,λl e=>?_,Q7f h⟩
 ·subst e
  cases k with
  |sf τ e=>cases τ<;>simp[Qe,RK.view,Q1G]at h
  |_=>simp[Qe,RK.view,asT]at h
 ·cases k with
  |sf τ e'=>cases τ<;>cases e
  |_=>cases e
theorem Ya {k l:RK}{r:AV}{y:k.X×l.X}(h:YF k l r=some y):Wk r (.tup [k.val y.1,l.val y.2]):=by
 unfold YF at h
 split at h
 ·rename_i a b
  split at h
  ·rename_i x z hx hz
   cases h
   refine .inr ⟨_,_,rfl,rfl,rfl,λi c d hc hd=>?_⟩
   match i,hc,hd with
   |0,hc,hd=>cases hc;cases hd;exact Q7f hx
   |1,hc,hd=>cases hc;cases hd;exact Q7f hz
   |i+2,hc,_=>simp at hc
  ·cases h
 ·cases h
theorem Q3f {P:Program}{E:Env}{pv:Nat->Value}(hE:EnvOk P E){C:Orc}{L:Kv}(hC:JE C (CG C))(hL:LIs L (LG L))(hG:GOk P E pv (CG C)){f:FuncId}{fn:Func}{c:Code}(hf:P.funcs[f]? =some fn)(hb:fn.body=some c)(hname:(fn.name== "runtime.NumGoroutine")=false)
  (hl:∀w0 B,∀p∈J0 0 c,Yi P E w0 B pv p.2 (LG L p.1)) {args:List AV} (hn:args.length<=fn.ntmps) {R:Type} {K:AV->Option R} {y:R} (hrun:QE E C L fn args K=some y) {r':AV} (hw:∀r,K r=some y->Wk r r'):Qa P E pv (.f f) args r':=by
 obtain⟨c',res,e,st,rs,as,hfr,hk⟩:=Q78 hC hL hrun
 have hcc:c'=c:=by have:=hfr.body;rw[hb]at this;cases this;rfl
 subst hcc
 exact Goes.mono (Q4b hE hG hf hname hfr hn hl) (hw res hk) λ_ _ _ h=>h
end Go.Gx
end
section
/- Functions about data in blocks of its own,deep down: those that make it,those that mark it. -/
namespace Go.Gx
open Go.RowKit
section
variable {S D:Nat->Prop} {w:World} {ρ ρ0:Nat->Option Loc} {row row0:Nat->Option Row} {pv:Nat->Value} {B:Old}
end
section
variable {P:Program} {E:Env} {pv:Nat->Value} {G:Cal->List AV->AV->Prop} {LG:Nat->St->Ex->St->Prop}
end
end Go.Gx
end
