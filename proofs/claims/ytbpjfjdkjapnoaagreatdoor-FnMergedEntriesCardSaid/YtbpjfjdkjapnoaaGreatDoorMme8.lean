/- The law FnMergedEntries returns true for every input,the listed package variables being as the program's text lays it: the card. -/
import Derived.Test.YtbpjfjdkjapnoaaGreatDoorMme7
import Derived.Test.YtbpjfjdkjapnoaaGreatDoorCards
import Derived.Test.YtbpjfjdkjapnoaaGreatDoorTie
import Derived.Test.YtbpjfjdkjapnoaaGreatDoorMme4
import Derived.Shelf.Vars
import Derived.WalkKit
import Derived.ProofKit
import Derived.OpenShut
import Derived.Deep.DeepHandedRow
import Derived.Lib.LaidTab
set_option linter.unusedVariables false
set_option linter.unusedSimpArgs false
set_option maxRecDepth 100000
section
namespace Go.Proofs.YtbpjfjdkjapnoaaGreatDoor
open Go.Gx
set_option linter.unusedSectionVars false
theorem QbH {m:Nat}{e:Entry}(h:Qk m e)(hv:QF e=true):Qk 50 e:=by
 have:=Q1A (DZ hv)
 exact⟨h.1,by omega,h.2.2⟩
theorem QbI {n:Int}{c:Cur}(h:cu n c)(hn:n<=100000):EvP (λk=>Z104.F k c) λr=>cu (n+20000) r.1/\Yd 12 r.2.entries:=by
 unfold Z104.F
 refine EvP.bind (QaM h (by omega)) λr hr=>?_
 obtain⟨h1,hl⟩:=hr
 have hup:Yd 12 r.2.entries:=⟨Nat.le_trans hl.1 (by omega),hl.2⟩
 by_cases c0:(r.2.entries.length:Int)=0
 ·simp(disch:=exact c0) only[ceq]
  exact EvP.pure _ ⟨h1.mono (by omega),hup⟩
 simp(disch:=exact c0) only[cne]
 by_cases c6:(r.2.entries.length:Int) > 6
 ·simp(disch:=omega) only[Qi]
  exact EvP.pure _ ⟨h1.mono (by omega),hup⟩
 simp(disch:=omega) only[Qy]
 have hs:YW r.2:=XN hl (by omega)
 refine EvP.of (Q1s r.2 hs) ?_
 refine EvP.cond (λ_=>EvP.pure _ ⟨h1.mono (by omega),hup⟩) (λ_=>?_)
 refine Jl h1 (by omega) (by omega) (by omega) λc2 x hc2 x0 x1=>?_
 dsimp only
 simp(disch:=omega) only[Qi]
 refine EvP.bind (Q68 hc2 (by omega) (by omega) (Nat.le_refl 50) (Q1x hl.2 (by omega) _)) λq hq=>?_
 refine Y7 hq.1 (by omega) (by decide) (by decide) (by decide) λc5 x5 hc5 hx5=>?_
 dsimp only
 obtain⟨g1,g2,g3,g4,g5,g6,g7,g8⟩:=hq.2
 have he:Qk 70 ⟨x5,q.2.kind,q.2.authors,q.2.editors,q.2.title,q.2.container,q.2.publisher,q.2.date,q.2.volume,q.2.pages,q.2.cross⟩:=⟨UU hx5,g2,g3,g4,g5,g6,g7,g8⟩
 refine EvP.of (JH _ (QS (by omega) he)) ?_
 refine EvP.cond (λhv=>?_) (λ_=>EvP.pure _ ⟨hc5.mono (by omega),hup⟩)
 refine EvP.bind (Q6P hl (by omega) (QbH he hv)) λy hy=>?_
 exact EvP.pure _ ⟨hc5.mono (by omega),Nat.le_trans hy.1 (by omega),hy.2⟩
theorem QaN {code:List Int}(h:byt code):EvP (λk=>Z93.F k code) λr=>Qk 70 r.1/\Qk 70 r.2:=by
 unfold Z93.F
 refine EvP.bind (Xl (cu.start h) (by omega)) λr hr=>?_
 refine EvP.bind (Q68 hr.1 (by omega) (by omega) (Nat.le_refl 50) hr.2) λq hq=>?_
 obtain⟨a1,a2,a3,a4,a5,a6,a7,a8⟩:=hr.2
 obtain⟨b1,b2,b3,b4,b5,b6,b7,b8⟩:=hq.2
 have ok1:Qk 70 r.2:=⟨a1,by omega,a3,a4,a5,a6,a7,a8⟩
 have ok2:Qk 70 (⟨r.2.key,r.2.kind,([]:List Name),r.2.editors,r.2.title,r.2.container,r.2.publisher,r.2.date,0,r.2.pages,r.2.cross⟩:Entry):=⟨a1,by show r.2.title.size<=70;omega,a3,a4,a5,a6,Q3G 8,a8⟩
 have ok3:Qk 70 (⟨(⟨#[111,116,104,101,114]⟩:ByteArray),q.2.kind,q.2.authors,q.2.editors,q.2.title,q.2.container,q.2.publisher,q.2.date,q.2.volume,q.2.pages,r.2.key⟩:Entry):=⟨by show(⟨#[111,116,104,101,114]⟩:ByteArray).size<=200;decide,b2,b3,b4,b5,a1,b7,b8⟩
 refine Y2 hq.1 (by omega) (by decide) (by decide) λc3 x3 hc3=>?_
 dsimp only
 refine EvP.cond (λ_=>?_) (λ_=>?_)
 ·refine Y2 hc3 (by omega) (by decide) (by decide) λc4 x4 hc4=>?_
  exact EvP.cond (λ_=>EvP.pure _ ⟨ok2,ok3⟩) (λ_=>EvP.pure _ ⟨ok1,ok3⟩)
 ·refine Y2 hc3 (by omega) (by decide) (by decide) λc4 x4 hc4=>?_
  exact EvP.cond (λ_=>EvP.pure _ ⟨ok2,hq.2⟩) (λ_=>EvP.pure _ ⟨ok1,hq.2⟩)
theorem QaO {code:List Int}(h:byt code):EvP (λk=>Z76.F k code) λr=>Jv r.1/\Jv r.2:=by
 unfold Z76.F
 refine EvP.bind (Xl (cu.start h) (by omega)) λr hr=>?_
 refine EvP.bind (Q68 hr.1 (by omega) (by omega) (Nat.le_refl 50) hr.2) λq hq=>?_
 exact EvP.pure _ ⟨QS (by omega) hr.2,QS (by omega) hq.2⟩
theorem QaP {n:Int}{c:Cur}(h:cu n c)(hn:n<=400000){l:Library}(hl:Yd 12 l.entries):EvP (λ_=>Z89.F c l) λr=>cu (n+5) r.1:=by
 unfold Z89.F
 have hlen:=hl.1
 by_cases c0:(l.entries.length:Int)=0
 ·simp(disch:=exact c0) only[ceq]
  refine Y7 h (by omega) (by decide) (by decide) (by decide) λc5 x5 hc5 hx5=>?_
  exact EvP.pure _ (hc5.mono (by omega))
 ·simp(disch:=exact c0) only[cne]
  refine Y2 h (by omega) (by decide) (by decide) λc6 b6 hc6=>?_
  refine EvP.cond (λ_=>?_) (λ_=>?_)
  ·refine Y7 hc6 (by omega) (by decide) (by decide) (by decide) λc5 x5 hc5 hx5=>?_
   exact EvP.pure _ (hc5.mono (by omega))
  ·refine Jl hc6 (by omega) (by omega) (by omega) λc2 x2 hc2 y0 y1=>?_
   dsimp only
   simp(disch:=omega) only[Qi]
   exact EvP.pure _ (hc2.mono (by omega))
theorem QaQ {code:List Int}(h:byt code):EvP (λk=>Z77.F k code) λr=>Yd 12 r.1.entries:=by
 unfold Z77.F
 refine EvP.bind (QbI (cu.start h) (by omega)) λr hr=>?_
 refine EvP.bind (QaP hr.1 (by omega) hr.2) λy hy=>?_
 refine EvP.bind (QaP hy (by omega) hr.2) λz hz=>?_
 exact EvP.pure _ hr.2
theorem Q4W:Qk 50 (⟨(⟨#[]⟩:ByteArray),0,[],[],(⟨#[]⟩:ByteArray),(⟨#[]⟩:ByteArray),(⟨#[]⟩:ByteArray),(Q2 .date),0,(⟨#[]⟩:ByteArray),(⟨#[]⟩:ByteArray)⟩:Entry):=
 ⟨Ur,by decide,Ur,Ur,Ur,Ur,Q3G 8,Q3G 8⟩
theorem Qc1 {a b:Entry}(oa:Qk 70 a)(ob:Qk 70 b):∃e v,Ev (λk=>Z99.F k a b) (e,v)/\Ev (λk=>Z73.F k a b) (e,v)/\Qk 50 e/\(v=true->Yq a/\Yq b/\e=YM a b):=by
 have sa:=QS (by omega) oa
 have sb:=QS (by omega) ob
 have a1:=JH a sa
 have a2:=Jw a sa
 have b1:=JH b sb
 have b2:=Jw b sb
 unfold Z99.F Z73.F
 cases va:QF a with
 |false=>
  rw[va]at a1 a2
  exact⟨_,false,Ev.bind a1 (Ev.pure _),Ev.bind a2 (Ev.pure _),Q4W,λh=>by cases h⟩
 |true=>
  rw[va]at a1 a2
  cases vb:QF b with
  |false=>
   rw[vb]at b1 b2
   exact⟨_,false,Ev.bind a1 (Ev.bind b1 (Ev.pure _)),Ev.bind a2 (Ev.bind b2 (Ev.pure _)),Q4W,λh=>by cases h⟩
  |true=>
   rw[vb]at b1 b2
   have ga:=KA (by omega) oa va
   have gb:=KA (by omega) ob vb
   exact⟨_,true,Ev.bind a1 (Ev.bind b1 (Ev.bind (G1 a b va ga.2.2 gb.2.2) (Ev.pure _))),Ev.bind a2 (Ev.bind b2 (Ev.bind (Xm a b ga.2.2 gb.2.2) (Ev.pure _))),Q2L ga.2.1 gb.2.1,λ_=>⟨ga,gb,rfl⟩⟩
def Q87 (e:Entry)(c:ByteArray):Entry:=⟨e.key,e.kind,e.authors,e.editors,e.title,e.container,e.publisher,e.date,e.volume,e.pages,c⟩
def YB (keep drop:ByteArray)(e:Entry):Entry:=bif Q3 e.cross drop then Q87 e (bif Q3 e.key keep then⟨#[]⟩else keep)else e
theorem Q2O (xs:List Entry)(hl:xs.length<=20)(hx:∀e∈xs,okF e)(z:List Entry):∀n i:Nat,i+n=xs.length->Ev (λk=>Z32.l0 k z (xs.take i) xs xs.length i) (z,xs)
 |0,i,h=>by
  refine Ev.step (λk=>by rw[Z32.l0]) ?_
  simp(disch:=omega) only[Qy]
  rw[List.take_of_length_le (by omega)]
  exact Ev.pure _
 |n+1,i,h=>by
  have hi:i<xs.length:=by omega
  have hr:room ((xs.take i).length+([xs[i]]:List Entry).length) .entry=true:=Q1y (by simp;omega)
  refine Ev.step (λk=>by rw[Z32.l0]) ?_
  simp(disch:=omega) only[Qi,Int.toNat_natCast,getD_at hi]
  refine Ev.bind (Q00 _ (hx _ (List.getElem_mem hi))) ?_
  simp(disch:=omega) only[hr,cond_true,wrap_in]
  rw[show xs.take i++([xs[i]]:List Entry)=xs.take (i+1)from(List.take_succ_eq_append_getElem hi).symm]
  exact Q2O xs hl hx z n (i+1) (by omega)
theorem Q2P (l:Library)(hl:l.entries.length<=20)(hx:∀e∈l.entries,okF e):Ev (λk=>Z32.F k l) l:=by
 unfold Z32.F
 exact Ev.bind (Q2O l.entries hl hx [] l.entries.length 0 (by omega)) (Ev.pure _)
theorem Qc2 (xs:List Entry)(hl:xs.length<=20)(e:Entry)(z:List Entry)(i:Nat)(hi:i<xs.length)(hk:ltS xs[i].key e.key=false)(hlt:∀j (h:j<xs.length),j<i->ltS xs[j].key e.key=true):∀n j:Nat,j+n=i->Ev (λk=>Z43.l0 k e z xs j) (e,z,xs,(i:Int))
 |0,j,h=>by
  obtain rfl:j=i:=by omega
  refine Ev.step (λk=>by rw[Z43.l0]) ?_
  simp(disch:=omega) only[Qi,Int.toNat_natCast,getD_at hi,hk,cond_false]
  exact Ev.pure _
 |n+1,j,h=>by
  have hj:j<xs.length:=by omega
  have hb:=hlt j hj (by omega)
  refine Ev.step (λk=>by rw[Z43.l0]) ?_
  simp(disch:=omega) only[Qi,Int.toNat_natCast,getD_at hj,hb,cond_true,wrap_in]
  exact Qc2 xs hl e z i hi hk hlt n (j+1) (by omega)
theorem QbJ (l:Library)(hB:Xq l=true)(hl:l.entries.length<=20)(hx:∀e∈l.entries,okF e)(i:Nat)(hi:i<l.entries.length)(e:Entry)(he:okF e)(hk:e.key=l.entries[i].key):Ev (λk=>Z43.F k l e) ⟨l.entries.set i e⟩:=by
 unfold Z43.F
 refine Ev.bind (Q2P l hl hx) ?_
 have h1:=Qc2 l.entries hl e [] i hi (by rw[hk];unfold ltS;exact Q3y _) (λj hj hji=>by
  have h:=Q0k hB (i-j-1) j (by omega)
  rw[show j+(i-j-1)+1=i by omega,getD_at hj,getD_at hi]at h
  rw[hk];exact h) i 0 (by omega)
 refine Ev.bind h1 ?_
 have hb:Q3 l.entries[i].key e.key=true:=by rw[hk];exact QM _
 simp(disch:=omega) only[Qi,Int.toNat_natCast,getD_at hi,hb,cond_true]
 exact Ev.bind (Q00 e he) (Ev.pure _)
theorem QaR (l:Library)(hl:l.entries.length<=20)(hx:∀e∈l.entries,okF e)(j:Nat)(hj:j<l.entries.length):Ev (λk=>Z105.F k l j) ⟨l.entries.take j++l.entries.drop (j+1)⟩:=by
 unfold Z105.F
 refine Ev.bind (Q2P l hl hx) ?_
 have e:Z113.F l.entries j (IntKind.wrap .i64 ((j:Int)+1))=some (l.entries.take j++l.entries.drop (j+1)):=by
  unfold Z113.F Qbu
  rw[wrap_in (by omega) (by omega),decide_eq_true (show 0<=(j:Int) by omega),decide_eq_true (show(j:Int)<(l.entries.length:Int) by omega),decide_eq_true (show((j:Int)+1)=(j:Int)+1 from rfl),decide_eq_true (show l.entries.length<=140737488355328 by omega)]
  rfl
 exact Ev.bind0 e (Ev.pure _)
theorem Qc3 (keep drop:ByteArray)(ys:List Entry)(hl:ys.length<=20)(z:List Entry):∀n i:Nat,i+n=ys.length->Ev (λk=>Z14.l0 k keep drop z ((ys.take i).map (YB keep drop)++ys.drop i) ys.length i) (z,ys.map (YB keep drop))
 |0,i,h=>by
  refine Ev.step (λk=>by rw[Z14.l0]) ?_
  simp(disch:=omega) only[Qy]
  rw[List.drop_eq_nil_of_le (by omega),List.take_of_length_le (by omega),List.append_nil]
  exact Ev.pure _
 |n+1,i,h=>by
  have hi:i<ys.length:=by omega
  have hlen:((ys.take i).map (YB keep drop)++ys.drop i).length=ys.length:=by simp;omega
  have hi2:i<((ys.take i).map (YB keep drop)++ys.drop i).length:=by omega
  have hml:((ys.take i).map (YB keep drop)).length=i:=by simp;omega
  have hat:((ys.take i).map (YB keep drop)++ys.drop i).getD i (Q2 .entry)=ys[i]:=by
   have e1:((ys.take i).map (YB keep drop)++ys.drop i)[i]? =some ys[i]:=by
    rw[List.getElem?_append_right (by omega),hml,Nat.sub_self,List.getElem?_drop,Nat.add_zero,List.getElem?_eq_getElem hi]
   simp only[List.getD,e1,Option.getD_some]
  have hset:∀e:Entry,((ys.take i).map (YB keep drop)++ys.drop i).set i e=(ys.take i).map (YB keep drop)++e::ys.drop (i+1):=λe=>by
   rw[List.set_append_right _ _ (by omega),hml,Nat.sub_self,List.drop_eq_getElem_cons hi,List.set_cons_zero]
  have ih:=Qc3 keep drop ys hl z n (i+1) (by omega)
  rw[List.take_succ_eq_append_getElem hi,List.map_append,List.append_assoc]at ih
  have next:∀e:Entry,YB keep drop ys[i]=e->Ev (λk=>Z14.l0 k keep drop z ((ys.take i).map (YB keep drop)++e::ys.drop (i+1)) ys.length (IntKind.wrap .i64 ((i:Int)+1))) (z,ys.map (YB keep drop)):=λe he=>by
   rw[wrap_in (by omega) (by omega)]
   rw[<-he]
   exact ih
  refine Ev.step (λk=>by rw[Z14.l0]) ?_
  simp(disch:=omega) only[Qi,Int.toNat_natCast,hat,hset]
  cases hc:Q3 ys[i].cross drop with
  |false=>
   simp only[Bool.not_false,cond_true]
   rw[List.drop_eq_getElem_cons hi]
   exact next _ (by unfold YB;rw[hc];rfl)
  |true=>
   simp only[Bool.not_true,cond_false]
   cases hkk:Q3 ys[i].key keep with
   |true=>
    simp only[cond_true]
    exact next _ (by unfold YB Q87;rw[hc,hkk];rfl)
   |false=>
    simp only[cond_false]
    exact next _ (by unfold YB Q87;rw[hc,hkk];rfl)
def qI (k p:Nat):Nat:=if p<k then p else p+1
def pI (k j:Nat):Nat:=if j<=k then j else j-1
theorem Q1C (keep drop:ByteArray)(e:Entry):(YB keep drop e).key=e.key:=by
 unfold YB Q87
 cases Q3 e.cross drop<;>rfl
section
variable {l:Library} (ho:Yd 12 l.entries) (hB:Xq l=true) (i k:Nat) (hi:i<l.entries.length) (hk:k<l.entries.length) (hik:i≠k)
def mE (l:Library)(i k:Nat):Entry:=YM (l.entries.getD i (Q2 .entry)) (l.entries.getD k (Q2 .entry))
def G2 (l:Library)(i k:Nat):List Entry:=l.entries.set i (mE l i k)
def Q1D (l:Library)(i k:Nat):List Entry:=(G2 l i k).take k++(G2 l i k).drop (k+1)
def Uj (l:Library)(i k:Nat):List Entry:=(Q1D l i k).map (YB (l.entries.getD i (Q2 .entry)).key (l.entries.getD k (Q2 .entry)).key)
include ho hB hi hk
theorem Xn {j:Nat}(hj:j<l.entries.length):Yq l.entries[j]:=KA (m:=50) (by omega) (ho.2 _ (List.getElem_mem hj)) (QbF hB hj)
theorem QaS:Yq (mE l i k):=by
 unfold mE
 rw[getD_at hi,getD_at hk]
 exact(Xn ho hB i k hi hk hi).merge (Xn ho hB i k hi hk hk)
theorem QaT:(mE l i k).key=(l.entries.getD i (Q2 .entry)).key:=rfl
theorem Q1E:(G2 l i k).length=l.entries.length:=by unfold G2;rw[List.length_set]
theorem Q6S {j:Nat}(hj:j<l.entries.length):(G2 l i k)[j]? =some (if i=j then mE l i k else l.entries[j]):=by
 unfold G2
 rw[List.getElem?_set]
 by_cases h:i=j
 ·rw[if_pos h,if_pos h,if_pos (h▸hj)]
 ·rw[if_neg h,if_neg h,List.getElem?_eq_getElem hj]
theorem Q4X {j:Nat}(hj:j<l.entries.length):∃e,(G2 l i k)[j]? =some e/\e.key=(l.entries.getD j (Q2 .entry)).key/\Yq e:=by
 refine⟨_,Q6S ho hB i k hi hk hj,?_,?_⟩
 ·by_cases h:i=j
  ·rw[if_pos h,<-h];rfl
  ·rw[if_neg h,getD_at hj]
 ·by_cases h:i=j
  ·rw[if_pos h];exact QaS ho hB i k hi hk
  ·rw[if_neg h];exact Xn ho hB i k hi hk hj
theorem Q2Q:(Q1D l i k).length+1=l.entries.length:=by
 have:=Q1E ho hB i k hi hk
 unfold Q1D
 rw[List.length_append,List.length_take,List.length_drop]
 omega
theorem XP:(Uj l i k).length+1=l.entries.length:=by
 unfold Uj
 rw[List.length_map]
 exact Q2Q ho hB i k hi hk
theorem QaU (p:Nat):(Q1D l i k)[p]? =(G2 l i k)[qI k p]?:=by
 have:=Q1E ho hB i k hi hk
 unfold Q1D qI
 by_cases h:p<k
 ·rw[if_pos h,List.getElem?_append_left (by rw[List.length_take];omega),List.getElem?_take,if_pos h]
 ·rw[if_neg h,List.getElem?_append_right (by rw[List.length_take];omega),List.length_take,List.getElem?_drop]
  congr 1
  omega
theorem Q6T (p:Nat):(Uj l i k)[p]? =((G2 l i k)[qI k p]?).map (YB (l.entries.getD i (Q2 .entry)).key (l.entries.getD k (Q2 .entry)).key):=by
 unfold Uj
 rw[List.getElem?_map,QaU ho hB i k hi hk]
theorem Q3J {p:Nat}(hp:p<(Uj l i k).length):∃e,(Uj l i k)[p]? =some (YB (l.entries.getD i (Q2 .entry)).key (l.entries.getD k (Q2 .entry)).key e)/\e.key=(l.entries.getD (qI k p) (Q2 .entry)).key/\Yq e/\qI k p<l.entries.length:=by
 have hl:=XP ho hB i k hi hk
 have hq:qI k p<l.entries.length:=by unfold qI;split<;>omega
 obtain⟨e,e1,e2,e3⟩:=Q4X ho hB i k hi hk hq
 exact⟨e,by rw[Q6T ho hB i k hi hk,e1];rfl,e2,e3,hq⟩
include hik
theorem QaV:(l.entries.getD i (Q2 .entry)).key≠(l.entries.getD k (Q2 .entry)).key:=λh=>hik (Q0l hB hi hk h)
theorem QaW {e:Entry}(he:Yq e):Yq (YB (l.entries.getD i (Q2 .entry)).key (l.entries.getD k (Q2 .entry)).key e):=by
 have gi:=Xn ho hB i k hi hk hi
 rw[<-getD_at hi (Q2 .entry)]at gi
 unfold YB
 cases hc:Q3 e.cross (l.entries.getD k (Q2 .entry)).key with
 |false=>exact he
 |true=>
  simp only[cond_true]
  obtain⟨a1,a2,a3,a4,a5,a6,a7,a8⟩:=he.2.1
  have hv:=he.1
  cases hkk:Q3 e.key (l.entries.getD i (Q2 .entry)).key with
  |true=>
   refine KA (m:=50) (by omega) ⟨a1,a2,a3,a4,a5,Ur,a7,a8⟩ ?_
   unfold QF at hv ⊢
   simp only[Bool.and_eq_true]at hv ⊢
   obtain⟨b1,b2,b3,b4,b5,b6,b7,b8,b9,b10,b11⟩:=hv
   exact⟨b1,b2,b3,b4,b5,b6,b7,b8,b9,b10,rfl⟩
  |false=>
   refine KA (m:=50) (by omega) ⟨a1,a2,a3,a4,a5,gi.2.1.1,a7,a8⟩ ?_
   have gv:=gi.1
   unfold QF at hv gv ⊢
   simp only[Bool.and_eq_true]at hv gv ⊢
   obtain⟨b1,b2,b3,b4,b5,b6,b7,b8,b9,b10,b11⟩:=hv
   refine⟨b1,b2,b3,b4,b5,b6,b7,b8,b9,b10,?_⟩
   unfold D1
   have hne:Q3 (l.entries.getD i (Q2 .entry)).key e.key=false:=by
    rw[<-Bool.not_eq_true]
    intro h
    rw[<-JB.1 h,QM]at hkk
    cases hkk
   show(decide ((l.entries.getD i (Q2 .entry)).key.size=0)||(Q1o (l.entries.getD i (Q2 .entry)).key&& !Q3 (l.entries.getD i (Q2 .entry)).key e.key))=true
   rw[gv.1,hne]
   simp
theorem Q88 {e:Entry}(he:Yq e):(YB (l.entries.getD i (Q2 .entry)).key (l.entries.getD k (Q2 .entry)).key e).cross≠(l.entries.getD k (Q2 .entry)).key:=by
 have gk:=Xn ho hB i k hi hk hk
 rw[<-getD_at hk (Q2 .entry)]at gk
 have hz:=Q6Q gk.1
 have hd:=QaV ho hB i k hi hk hik
 unfold YB
 cases hc:Q3 e.cross (l.entries.getD k (Q2 .entry)).key with
 |false=>
  intro h
  rw[cond_false]at h
  rw[h,QM]at hc
  cases hc
 |true=>
  simp only[cond_true]
  cases hkk:Q3 e.key (l.entries.getD i (Q2 .entry)).key with
  |true=>
   intro h
   have h:(⟨#[]⟩:ByteArray)=(l.entries.getD k (Q2 .entry)).key:=h
   rw[<-h,QM]at hz
   cases hz
  |false=>exact λh=>hd h
theorem Q89:Yd 20 (Uj l i k)/\Xq ⟨Uj l i k⟩=true/\∀e∈Uj l i k,Q3 e.key (l.entries.getD k (Q2 .entry)).key=false/\Q3 e.cross (l.entries.getD k (Q2 .entry)).key=false:=by
 have hl:=XP ho hB i k hi hk
 have h8:=DN hB
 have hmem:∀e∈Uj l i k,Yq e/\Q3 e.key (l.entries.getD k (Q2 .entry)).key=false/\Q3 e.cross (l.entries.getD k (Q2 .entry)).key=false:=λe he=>by
  obtain⟨p,hp,rfl⟩:=List.getElem_of_mem he
  obtain⟨x,x1,x2,x3,x4⟩:=Q3J ho hB i k hi hk hp
  rw[List.getElem?_eq_getElem hp]at x1
  rw[Option.some.inj x1]
  refine⟨QaW ho hB i k hi hk hik x3,?_,?_⟩
  ·rw[<-Bool.not_eq_true]
   intro h
   have h:=JB.1 h
   rw[Q1C,x2]at h
   have:=Q0l hB x4 hk h
   unfold qI at this
   split at this<;>omega
  ·rw[<-Bool.not_eq_true]
   intro h
   exact Q88 ho hB i k hi hk hik x3 (JB.1 h)
 refine⟨⟨by omega,λe he=>(hmem e he).1.2.1⟩,?_,λe he=>(hmem e he).2⟩
 unfold Xq
 simp only[Bool.and_eq_true,List.all_eq_true,decide_eq_true_eq]
 refine⟨λp hp=>?_,by show(Uj l i k).length<=8;omega⟩
 have hp:p<(Uj l i k).length:=by rw[List.mem_range'_1]at hp;show p<_;have h:=hp.2;simp at h;exact h
 unfold okL
 show(QF ((Uj l i k).getD p (Q2 .entry))&&(decide (p=0)||ltS ((Uj l i k).getD (p-1) (Q2 .entry)).key ((Uj l i k).getD p (Q2 .entry)).key))=true
 rw[getD_at hp,(hmem _ (List.getElem_mem hp)).1.1]
 simp only[Bool.true_and,Bool.or_eq_true,decide_eq_true_eq]
 by_cases h0:p=0
 ·exact .inl h0
 ·right
  have hp1:p-1<(Uj l i k).length:=by omega
  obtain⟨x,x1,x2,x3,x4⟩:=Q3J ho hB i k hi hk hp
  obtain⟨y,y1,y2,y3,y4⟩:=Q3J ho hB i k hi hk hp1
  rw[List.getElem?_eq_getElem hp]at x1
  rw[List.getElem?_eq_getElem hp1]at y1
  rw[getD_at hp1,Option.some.inj x1,Option.some.inj y1,Q1C,Q1C,x2,y2]
  have hq:qI k (p-1)<qI k p:=by unfold qI;split<;>split<;>omega
  have:=Q0k hB (qI k p-qI k (p-1)-1) (qI k (p-1)) (by omega)
  rwa [show qI k (p-1)+(qI k p-qI k (p-1)-1)+1=qI k p by omega]at this
def both (l:Library)(i k:Nat):Entry:=bif Q3 (mE l i k).cross (l.entries.getD k (Q2 .entry)).key then Q87 (mE l i k) ⟨#[]⟩else mE l i k
theorem QaX:YB (l.entries.getD i (Q2 .entry)).key (l.entries.getD k (Q2 .entry)).key (mE l i k)=both l i k:=by
 unfold YB both
 rw[QaT ho hB i k hi hk,QM]
 rfl
theorem QaY (z:List Entry):∀n j:Nat,j+n=l.entries.length->Ev (λf=>Z11.l0 f (l.entries.getD i (Q2 .entry)).key (l.entries.getD k (Q2 .entry)).key l z (both l i k) ((Uj l i k).take (pI k j)) j) (z,Uj l i k)
 |0,j,h=>by
  have hl:=XP ho hB i k hi hk
  have h8:=DN hB
  refine Ev.step (λf=>by rw[Z11.l0]) ?_
  simp(disch:=omega) only[Qy]
  rw[List.take_of_length_le (by unfold pI;split<;>omega)]
  exact Ev.pure _
 |n+1,j,h=>by
  have hl:=XP ho hB i k hi hk
  have h8:=DN hB
  have hj:j<l.entries.length:=by omega
  have gj:=Xn ho hB i k hi hk hj
  have ih:=QaY z n (j+1) (by omega)
  refine Ev.step (λf=>by rw[Z11.l0]) ?_
  simp(disch:=omega) only[Qi,Int.toNat_natCast]
  rw[<-getD_at hj (Q2 .entry)]at gj
  refine Ev.bind (Q6L _ gj.2.2) ?_
  by_cases hjk:j=k
  ·subst hjk
   simp(disch:=omega) only[QM,cond_true,wrap_in]
   have e:pI j (j+1)=pI j j:=by unfold pI;simp
   rw[e]at ih
   exact ih
  ·have hd:Q3 (l.entries.getD j (Q2 .entry)).key (l.entries.getD k (Q2 .entry)).key=false:=by
    rw[<-Bool.not_eq_true]
    exact λh=>hjk (Q0l hB hj hk (JB.1 h))
   have hp:pI k j<(Uj l i k).length:=by unfold pI;split<;>omega
   have hq:qI k (pI k j)=j:=by unfold qI pI;split<;>split<;>omega
   have hps:pI k (j+1)=pI k j+1:=by unfold pI;split<;>split<;>omega
   have hat:=Q6T ho hB i k hi hk (pI k j)
   rw[hq,Q6S ho hB i k hi hk hj]at hat
   rw[hps,List.take_succ_eq_append_getElem hp]at ih
   have hR:(Uj l i k)[pI k j]=YB (l.entries.getD i (Q2 .entry)).key (l.entries.getD k (Q2 .entry)).key (if i=j then mE l i k else l.entries[j]):=by
    rw[List.getElem?_eq_getElem hp]at hat
    exact Option.some.inj hat
   rw[hR]at ih
   have hr:∀e:Entry,room (((Uj l i k).take (pI k j)).length+([e]:List Entry).length) .entry=true:=λe=>Q1y (by simp;omega)
   simp only[hd,cond_false]
   by_cases hij:i=j
   ·subst hij
    rw[if_pos rfl,QaX ho hB i k hi hk hik]at ih
    simp(disch:=omega) only[QM,cond_true,hr,wrap_in]
    exact ih
   ·have hn:Q3 (l.entries.getD j (Q2 .entry)).key (l.entries.getD i (Q2 .entry)).key=false:=by
     rw[<-Bool.not_eq_true]
     exact λh=>hij (Q0l hB hj hi (JB.1 h)).symm
    rw[if_neg hij,<-getD_at hj (Q2 .entry)]at ih
    simp only[hn,cond_false]
    unfold YB at ih
    rw[hn]at ih
    cases hc:Q3 (l.entries.getD j (Q2 .entry)).cross (l.entries.getD k (Q2 .entry)).key with
    |true=>
     rw[hc]at ih
     simp(disch:=omega) only[cond_true,hr,wrap_in]
     exact ih
    |false=>
     rw[hc]at ih
     simp(disch:=omega) only[cond_false,hr,cond_true,wrap_in]
     exact ih
end
theorem QcD (l:Library)(ho:Yd 12 l.entries)(keep drop:ByteArray):∃r v,Ev (λk=>Z11.F k l keep drop) (r,v)/\Ev (λk=>Z14.F k l keep drop) (r,v)/\Yd 20 r.entries/\
  (v=true->Xq r=true/\r.entries.length+1=l.entries.length/\∀e∈r.entries,Q3 e.key drop=false/\Q3 e.cross drop=false):=by
 have hs:YW l:=XN ho (by omega)
 have v1:=Q1s l hs
 have v2:=Q4I l hs
 obtain⟨i,i1,i2,i3,i4,i5,i6⟩:=Q4K l keep (Xk hs)
 obtain⟨k,k1,k2,k3,k4,k5,k6⟩:=Q4K l drop (Xk hs)
 have l0:Yd 20 ([]:List Entry):=⟨by simp,λ_ h=>by cases h⟩
 cases hB:Xq l with
 |false=>
  rw[hB]at v1 v2
  refine⟨⟨[]⟩,false,?_,?_,l0,λh=>by cases h⟩
  ·unfold Z11.F
   exact Ev.bind v1 (Ev.pure _)
  ·unfold Z14.F
   exact Ev.bind i2 (Ev.bind k2 (Ev.bind v2 (Ev.pure _)))
 |true=>
  rw[hB]at v1 v2
  by_cases ci:i<0
  ·refine⟨⟨[]⟩,false,?_,?_,l0,λh=>by cases h⟩
   ·unfold Z11.F
    refine Ev.bind v1 (Ev.bind i1 ?_)
    simp(disch:=omega) only[Qi]
    exact Ev.pure _
   ·unfold Z14.F
    refine Ev.bind i2 (Ev.bind k2 (Ev.bind v2 ?_))
    simp(disch:=omega) only[Bool.not_true,cond_false,Qi]
    exact Ev.pure _
  by_cases ck:k<0
  ·refine⟨⟨[]⟩,false,?_,?_,l0,λh=>by cases h⟩
   ·unfold Z11.F
    refine Ev.bind v1 (Ev.bind i1 ?_)
    simp(disch:=omega) only[Qy]
    refine Ev.bind k1 ?_
    simp(disch:=omega) only[Qi]
    exact Ev.pure _
   ·unfold Z14.F
    refine Ev.bind i2 (Ev.bind k2 (Ev.bind v2 ?_))
    simp(disch:=omega) only[Bool.not_true,cond_false,Qy,Qi]
    exact Ev.pure _
  by_cases ce:keep=drop
  ·subst ce
   have e:i=k:=Ev.uniq i1 k1
   subst e
   refine⟨⟨[]⟩,false,?_,?_,l0,λh=>by cases h⟩
   ·unfold Z11.F
    refine Ev.bind v1 (Ev.bind i1 ?_)
    simp(disch:=omega) only[Qy]
    refine Ev.bind k1 ?_
    simp(disch:=omega) only[Qy,QM,cond_true]
    exact Ev.pure _
   ·unfold Z14.F
    refine Ev.bind i2 (Ev.bind k2 (Ev.bind v2 ?_))
    simp(disch:=omega) only[Bool.not_true,cond_false,Qy,beq_self_eq_true,cond_true]
    exact Ev.pure _
  have e1:=i5 (by omega)
  have e2:=k5 (by omega)
  obtain⟨i,rfl⟩:∃m:Nat,i=m:=⟨i.toNat,by omega⟩
  obtain⟨k,rfl⟩:∃m:Nat,k=m:=⟨k.toNat,by omega⟩
  unfold kAt at e1 e2
  rw[Int.toNat_natCast]at e1 e2
  subst e1
  subst e2
  have hi:i<l.entries.length:=by omega
  have hk:k<l.entries.length:=by omega
  have hik:i≠k:=λh=>ce (by rw[h])
  have hne:Q3 (l.entries.getD i (Q2 .entry)).key (l.entries.getD k (Q2 .entry)).key=false:=by
   rw[<-Bool.not_eq_true]
   exact λh=>ce (JB.1 h)
  have hz:((i:Int)==(k:Int))=false:=by rw[beq_eq_false_iff_ne];omega
  have h8:=DN hB
  obtain⟨f1,f2,f3⟩:=Q89 ho hB i k hi hk hik
  have gi:=Xn ho hB i k hi hk hi
  have gk:=Xn ho hB i k hi hk hk
  rw[<-getD_at hi (Q2 .entry)]at gi
  rw[<-getD_at hk (Q2 .entry)]at gk
  have hl:=XP ho hB i k hi hk
  refine⟨⟨Uj l i k⟩,true,?_,?_,f1,λ_=>⟨f2,hl,f3⟩⟩
  ·unfold Z11.F
   refine Ev.bind v1 (Ev.bind i1 ?_)
   simp(disch:=omega) only[Qy]
   refine Ev.bind k1 ?_
   simp(disch:=omega) only[Qy,hne,cond_false]
   refine Ev.bind i1 ?_
   simp(disch:=omega) only[Qi]
   refine Ev.bind k1 ?_
   simp(disch:=omega) only[Qi,Int.toNat_natCast]
   refine Ev.bind (G1 _ _ gi.1 gi.2.2 gk.2.2) ?_
   have hb:both l i k=bif Q3 (mE l i k).cross (l.entries.getD k (Q2 .entry)).key then Q87 (mE l i k) ⟨#[]⟩else mE l i k:=rfl
   have hsp:=QaY ho hB i k hi hk hik [] l.entries.length 0 (by omega)
   rw[show pI k 0=0 by unfold pI;simp,List.take_zero]at hsp
   refine Ev.cond (λhc=>?_) (λhc=>?_)
   ·have hc:Q3 (mE l i k).cross (l.entries.getD k (Q2 .entry)).key=true:=hc
    rw[hc,cond_true]at hb
    rw[hb]at hsp
    exact Ev.bind hsp (Ev.pure _)
   ·have hc:Q3 (mE l i k).cross (l.entries.getD k (Q2 .entry)).key=false:=hc
    rw[hc,cond_false]at hb
    rw[hb]at hsp
    exact Ev.bind hsp (Ev.pure _)
  ·unfold Z14.F
   refine Ev.bind i2 (Ev.bind k2 (Ev.bind v2 ?_))
   simp(disch:=omega) only[Bool.not_true,cond_false,Qy,hz,Qi,Int.toNat_natCast]
   refine Ev.bind (Xm _ _ gi.2.2 gk.2.2) ?_
   have gm:=QaS ho hB i k hi hk
   have hx:∀e∈l.entries,okF e:=λe he=>by
    obtain⟨j,hj,rfl⟩:=List.getElem_of_mem he
    exact(Xn ho hB i k hi hk hj).2.2
   have hlen:=ho.1
   have pe:=QbJ l hB (by omega) hx i hi (mE l i k) gm.2.2 (by rw[QaT ho hB i k hi hk,getD_at hi])
   refine Ev.bind pe ?_
   have hsl:=Q1E ho hB i k hi hk
   have de:=QaR ⟨G2 l i k⟩ (by show(G2 l i k).length<=20;omega) (λe he=>by
    obtain⟨j,hj,rfl⟩:=List.getElem_of_mem he
    have hj:j<(G2 l i k).length:=hj
    obtain⟨x,x1,_,x3⟩:=Q4X ho hB i k hi hk (j:=j) (by omega)
    rw[List.getElem?_eq_getElem hj]at x1
    show okF (G2 l i k)[j]
    rw[Option.some.inj x1]
    exact x3.2.2) k (by show k<(G2 l i k).length;omega)
   refine Ev.bind de ?_
   have hdl:=Q2Q ho hB i k hi hk
   have hf:=Qc3 (l.entries.getD i (Q2 .entry)).key (l.entries.getD k (Q2 .entry)).key (Q1D l i k) (by omega) [] (Q1D l i k).length 0 (by omega)
   rw[List.take_zero,List.map_nil,List.nil_append,List.drop_zero]at hf
   exact Ev.bind hf (Ev.pure _)
theorem QaZ (l:Library)(drop:ByteArray)(ys:List Entry)(hl:ys.length<=20)(hy:∀e∈ys,Q3 e.key drop=false/\Q3 e.cross drop=false):∀n i:Nat,i+n=ys.length->Ev (λk=>Z33.l0 k l drop ys i) (.inr (l,ys))
 |0,i,h=>by
  refine Ev.step (λk=>by rw[Z33.l0]) ?_
  simp(disch:=omega) only[Qy]
  exact Ev.pure _
 |n+1,i,h=>by
  have hi:i<ys.length:=by omega
  obtain⟨h1,h2⟩:=hy _ (List.getElem_mem hi)
  refine Ev.step (λk=>by rw[Z33.l0]) ?_
  simp(disch:=omega) only[Qi,Int.toNat_natCast,getD_at hi,h1,h2,cond_false,wrap_in]
  exact QaZ l drop ys hl hy n (i+1) (by omega)
theorem Q6c (code:List Int)(hw:WF (.sl (.int .u8)) code):∃k,Z33.F k code=some true:=by
 refine Ev.get (?_:Ev (λk=>Z33.F k code) true)
 unfold Z33.F Z106.F
 by_cases c0:(code.length:Int) > 65536
 ·simp(disch:=omega) only[Qi,Option.bind_some]
  exact Ev.pure _
 simp(disch:=omega) only[Qy,Option.bind_some]
 have hc:byt code:=Qcv hw (by omega)
 obtain⟨d,d1,da,db⟩:=QaN hc
 obtain⟨m,b,m1,m2,m3,m4⟩:=Qc1 da db
 obtain⟨s,s1,s2,s3,s4⟩:=Qc1 da da
 obtain⟨p,p1,p2,p3⟩:=QaO hc
 obtain⟨u,g,u1,u2,u3⟩:=Q3D p.1 p.2 p2 p3
 have ru:=Qc0 u (by omega)
 obtain⟨q,q1,q2⟩:=QaQ hc
 obtain⟨r,v,r1,r2,r3,r4⟩:=QcD q.1 q2 q.2.1 q.2.2
 have rr:Ev (λk=>Z4.F k (⟨r.entries⟩:Library) (⟨r.entries⟩:Library)) true:=QbG r r3
 refine Ev.bind d1 (Ev.bind m2 (Ev.bind m1 ?_))
 simp only[beq_self_eq_true,Bool.not_true,cond_false]
 refine Ev.bind (XO m m3) ?_
 simp only[Bool.not_true,cond_false]
 have rest:Ev (λk=>((Z76.F k code).bind λr10=>(Z8.F k r10.1 r10.2).bind λr11=>(Z26.F k r10.1 r10.2).bind λr12=>bif (!(r11.2==r12.2))then(some false)else((Z17.F k r11.1 r12.1).bind λr13=>bif (!r13)then(some false)else((Z77.F k code).bind λr14=>(Z14.F k r14.1 r14.2.1 r14.2.2).bind λr15=>(Z11.F k r14.1 r14.2.1 r14.2.2).bind λr16=>bif (!(r15.2==r16.2))then(bif (r15.2==r16.2)then((Z4.F k (⟨r15.1.entries⟩:Library) (⟨r16.1.entries⟩:Library)).bind λr17=>some r17)else(some false))else((Z4.F k (⟨r15.1.entries⟩:Library) (⟨r16.1.entries⟩:Library)).bind λr18=>bif (!r18)then(bif (r15.2==r16.2)then((Z4.F k (⟨r15.1.entries⟩:Library) (⟨r16.1.entries⟩:Library)).bind λr19=>some r19)else(some false))else(bif (!r15.2)then(bif (r15.2==r16.2)then((Z4.F k (⟨r15.1.entries⟩:Library) (⟨r16.1.entries⟩:Library)).bind λr20=>some r20)else(some false))else((Z33.l0 k r14.1 r14.2.2 r15.1.entries 0).bind λy21=>match y21 with|.inl z22=>some z22|.inr z22=>(Z9.F k (⟨z22.2⟩:Library)).bind λr23=>bif r23 then(some ((z22.2.length:Int)==(IntKind.wrap .i64 ((z22.1.entries.length:Int)-1))))else(some false)))))))) true:=by
  refine Ev.bind p1 (Ev.bind u2 (Ev.bind u1 ?_))
  simp only[beq_self_eq_true,Bool.not_true,cond_false]
  refine Ev.bind ru ?_
  simp only[Bool.not_true,cond_false]
  refine Ev.bind q1 (Ev.bind r2 (Ev.bind r1 ?_))
  simp only[beq_self_eq_true,Bool.not_true,cond_false,cond_true]
  refine Ev.bind rr ?_
  simp only[Bool.not_true,cond_false]
  cases v with
  |false=>
   simp only[Bool.not_false,cond_true]
   exact Ev.bind rr (Ev.pure _)
  |true=>
   simp only[Bool.not_true,cond_false]
   obtain⟨x1,x2,x3⟩:=r4 rfl
   have hr3:=r3.1
   refine Ev.bind (QaZ q.1 q.2.2 r.entries hr3 x3 r.entries.length 0 (by omega)) ?_
   have hv:Ev (λk=>Z9.F k (⟨r.entries⟩:Library)) (Xq r):=Q4I r (XN r3 (by omega))
   rw[x1]at hv
   refine Ev.bind hv ?_
   have hq:=q2.1
   simp(disch:=omega) only[cond_true,wrap_in]
   exact(Ev.pure _).eq (by rw[beq_iff_eq];omega)
 cases b with
 |false=>
  simp only[cond_false]
  exact rest
 |true=>
  obtain⟨g1,g2,g3⟩:=m4 rfl
  subst g3
  simp only[cond_true]
  have self:Ev (λk=>Z73.F k d.1 d.1) (d.1,true):=by
   have a2:=Jw d.1 (QS (by omega) da)
   rw[g1.1]at a2
   unfold Z73.F
   have hm:=Xm d.1 d.1 g1.2.2 g1.2.2
   rw[Q6b g1.1]at hm
   exact Ev.bind a2 (Ev.bind a2 (Ev.bind hm (Ev.pure _)))
  have gm:=g1.merge g2
  refine Ev.bind self (Ev.bind (Q86 (Q4U d.1 d.2) g1 gm) ?_)
  simp only[Bool.not_true,cond_false]
  refine Ev.bind (XO d.1 g1.2.1) ?_
  have e0:((([]:List ByteArray).length:Int) != 0)=false:=rfl
  simp only[Bool.not_true,cond_false,e0]
  have hv:=Jw (YM d.1 d.2) (QS (by omega) gm.2.1)
  rw[gm.1]at hv
  refine Ev.bind hv ?_
  simp only[Bool.not_true,cond_false]
  exact rest
end Go.Proofs.YtbpjfjdkjapnoaaGreatDoor
end
section
/- The law FnMergedEntries returns true for every input,the listed package variables being as the program's text lays it: the card. -/
namespace Go.Proofs.YtbpjfjdkjapnoaaGreatDoor
open Go.Gx Go.RowKit Go.ChangeShapes Go.WideShapes Go.ChangeAt
def fnMergedEntries_ss4:List (List UInt8):=[[97,117,116,104,111,114,115],[101,100,105,116,111,114,115],[116,105,116,108,101],[99,111,110,116,97,105,110,101,114],[112,117,98,108,105,115,104,101,114],[100,97,116,101],[118,111,108,117,109,101],[112,97,103,101,115]]
theorem fnMergedEntries_own:ownKnob Tryz.prog.godebug=none:=by kernel_rfl
set_option maxRecDepth 100000 in
theorem fnMergedEntries_contract (H:Type)(enc:TypeId×Value->H)(W:World)(base:Nat)(args:Array Value)(ds gs:List (DataW H))(before:List MemPlace)
  (YF:∀(j:Nat) t v,Tryz.f3.params[j]? =some t->args[j]? =some v->Value.okWide Tryz.prog W .any base t v)
  (hW:DataW.Whole enc Tryz.prog Tryz.f3.params.toList Rows.fnMergedEntriesSpec.vars false W args.toList ds gs before) (hL:laidMetH Tryz.prog Rows.fnMergedEntriesRow.laid W) (hsh:W.ShapedOpen Tryz.prog) :
  Calls Tryz.prog 3 args W λe W'=>∃v,e= .returned v/\Rows.fnMergedEntriesSpec.post enc Tryz.prog Tryz.f3 false true false false W args v W':=by
 have hgs:∃g1,gs=[g1]:=by
  obtain⟨p,q,_,hV,_⟩:=hW
  match gs,hV with
  |[g1],_=>exact⟨g1,rfl⟩
  |[],hV=>exact hV.elim
  |_::_::_,⟨_,_,_,_,_,_,_,_,_,_,hV,_⟩=>exact hV.elim
 obtain⟨g1,rfl⟩:=hgs
 have hds:∃d1,ds=[d1]:=by
  obtain⟨p,q,hA,_⟩:=hW
  obtain⟨_,_,d1,e0,_,_,_,rfl,_,_,h0⟩:=trodAll_cons hA
  obtain⟨_,rfl,_⟩:=trodAll_nil h0
  exact⟨d1,rfl⟩
 obtain⟨d1,rfl⟩:=hds
 have hgl:Qu Q0 (λ_=>undef) (Lt W) W:=by
  refine Qu.mk0 (λg b h=>?_) (λg hg=>?_)
  ·have h':glT g=some b:=h
   unfold glT at h'
   split at h'
   ·cases h';exact Q7E (ss:=fnMergedEntries_ss4) (name:= "loop.example/g00896/impl.fieldWords") (g:=0) (t:=57) (e:=9) (n:=8) 4 (by kernel_rfl) (by kernel_rfl) (by kernel_rfl) (by kernel_rfl) (by kernel_rfl) (by kernel_rfl) (by kernel_rfl) hL (by kernel_rfl)
   ·cases h';exact Q7F (zs:=Lib.pow10Tab) (name:= "internal/strconv.uint64pow10") (g:=1) (t:=144) (e:=49) (n:=20) 2 (by kernel_rfl) (by kernel_rfl) (by kernel_rfl) (by kernel_rfl) (by kernel_rfl) (by kernel_rfl) (by kernel_rfl) hL (by kernel_rfl)
   ·cases h'
  ·have hg':giT g=true:=hg
   unfold giT at hg'
   split at hg'
   ·obtain⟨m,hm⟩:=cell_of_shapedOpen_int (P:=Tryz.prog) (g:=2) (t:=3) (zero:=#[.int .i64 0]) hsh (of_decide_eq_true (by kernel_rfl)) (by kernel_rfl) rfl (by kernel_rfl) (by kernel_rfl) (by kernel_rfl)
    exact⟨World.block_lt_of_cell? _ _ hm,m,hm⟩
   ·cases hg'
 refine Q3n (τs:=[(.sl (.int .u8))]) (r:=.t .bool true) QbT (by kernel_rfl) rfl (by kernel_rfl) (by kernel_rfl) rfl (by kernel_rfl) (by kernel_rfl) (λt ht=>?_) rfl (λx hx=>by
   obtain⟨k,hk⟩:=Q6c x.1 hx.1
   exact Z33.good QbT _ k _ hk) rfl YF hW hgl (λq hq W' hb=>Q2w (by kernel_rfl) hb (λnm hn g t h1 h2=>?_) hq)
 ·have:t∈[22]:=ht
  simp only[List.mem_cons,List.not_mem_nil,or_false]at this
  rcases this with rfl<;>exact⟨by kernel_rfl,Nat.le_of_ble_eq_true (by kernel_rfl)⟩
 ·have hnm:nm= "loop.example/g00896/impl.fieldWords":=by
   have:nm∈["loop.example/g00896/impl.fieldWords"]:=hn
   simpa using this
  subst hnm
  obtain rfl:g=0:=Option.some.inj (h1.symm.trans (by kernel_rfl:Tryz.prog.globalNamed "loop.example/g00896/impl.fieldWords" =some 0))
  obtain rfl:t=57:=Option.some.inj (h2.symm.trans (by kernel_rfl:(Tryz.prog.globals[0]?).map (·.type)=some 57))
  exact⟨by kernel_rfl,Nat.le_of_ble_eq_true (by kernel_rfl)⟩
set_option maxRecDepth 100000 in
noncomputable def fnMergedEntries_world (os:Os):World:=
 {World.holding Tryz.prog os ⟨#[],#[],[]⟩with heap:=(((((((World.holding Tryz.prog os ⟨#[],#[],[]⟩).heap.modify 5 fun
   |.cells _ t frozen=>.cells #[.int .u8 0,.int .u8 1,.int .u8 28,.int .u8 2,.int .u8 29,.int .u8 14,.int .u8 24,.int .u8 3,.int .u8 30,.int .u8 22,.int .u8 20,.int .u8 15,.int .u8 25,.int .u8 17,.int .u8 4,.int .u8 8,.int .u8 31,.int .u8 27,.int .u8 13,.int .u8 23,.int .u8 21,.int .u8 19,.int .u8 16,.int .u8 7,.int .u8 26,.int .u8 12,.int .u8 18,.int .u8 6,.int .u8 11,.int .u8 5,.int .u8 10,.int .u8 9] t frozen
   |o=>o).modify 6 fun
   |.cells _ t frozen=>.cells #[.int .u8 0,.int .u8 1,.int .u8 56,.int .u8 2,.int .u8 57,.int .u8 49,.int .u8 28,.int .u8 3,.int .u8 61,.int .u8 58,.int .u8 42,.int .u8 50,.int .u8 38,.int .u8 29,.int .u8 17,.int .u8 4,.int .u8 62,.int .u8 47,.int .u8 59,.int .u8 36,.int .u8 45,.int .u8 43,.int .u8 51,.int .u8 22,.int .u8 53,.int .u8 39,.int .u8 33,.int .u8 30,.int .u8 24,.int .u8 18,.int .u8 12,.int .u8 5,.int .u8 63,.int .u8 55,.int .u8 48,.int .u8 27,.int .u8 60,.int .u8 41,.int .u8 37,.int .u8 16,.int .u8 46,.int .u8 35,.int .u8 44,.int .u8 21,.int .u8 52,.int .u8 32,.int .u8 23,.int .u8 11,.int .u8 54,.int .u8 26,.int .u8 40,.int .u8 15,.int .u8 34,.int .u8 20,.int .u8 31,.int .u8 10,.int .u8 25,.int .u8 14,.int .u8 19,.int .u8 9,.int .u8 13,.int .u8 8,.int .u8 7,.int .u8 6] t frozen
   |o=>o).modify 1 fun
   |.cells _ t frozen=>.cells #[.int .u64 1,.int .u64 10,.int .u64 100,.int .u64 1000,.int .u64 10000,.int .u64 100000,.int .u64 1000000,.int .u64 10000000,.int .u64 100000000,.int .u64 1000000000,.int .u64 10000000000,.int .u64 100000000000,.int .u64 1000000000000,.int .u64 10000000000000,.int .u64 100000000000000,.int .u64 1000000000000000,.int .u64 10000000000000000,.int .u64 100000000000000000,.int .u64 1000000000000000000,.int .u64 10000000000000000000] t frozen
   |o=>o).modify 4 fun
   |.cells _ t frozen=>.cells #[.int .u8 128,.int .u8 191,.int .u8 160,.int .u8 191,.int .u8 128,.int .u8 159,.int .u8 144,.int .u8 191,.int .u8 128,.int .u8 143,.int .u8 0,.int .u8 0,.int .u8 0,.int .u8 0,.int .u8 0,.int .u8 0,.int .u8 0,.int .u8 0,.int .u8 0,.int .u8 0,.int .u8 0,.int .u8 0,.int .u8 0,.int .u8 0,.int .u8 0,.int .u8 0,.int .u8 0,.int .u8 0,.int .u8 0,.int .u8 0,.int .u8 0,.int .u8 0] t frozen
   |o=>o).modify 0 fun
   |.cells _ t frozen=>.cells #[.string ⟨#[97,117,116,104,111,114,115]⟩,.string ⟨#[101,100,105,116,111,114,115]⟩,.string ⟨#[116,105,116,108,101]⟩,.string ⟨#[99,111,110,116,97,105,110,101,114]⟩,.string ⟨#[112,117,98,108,105,115,104,101,114]⟩,.string ⟨#[100,97,116,101]⟩,.string ⟨#[118,111,108,117,109,101]⟩,.string ⟨#[112,97,103,101,115]⟩] t frozen
   |o=>o).modify 3 fun
   |.cells _ t frozen=>.cells (Pinned.utf8FirstZ.map λ(n:Nat)=>Value.int .u8 (n:Int)).toArray t frozen
   |o=>o)}
theorem fnMergedEntries_met (os:Os):laidMet Tryz.prog Rows.fnMergedEntriesRow.laid ((fnMergedEntries_world os).forCall (λ_ _=>0) ⟨#[],#[.slice none 0 0],[]⟩).memory:=
 laidMet_of_run' 8 (by kernel_rfl) (by kernel_rfl)
theorem fnMergedEntries_reads (os:Os){H:Type}(enc:TypeId×Value->H):∃places,DataW.whole enc Tryz.prog ((fnMergedEntries_world os).forCall (λ_ _=>0) ⟨#[],#[.slice none 0 0],[]⟩).memory Tryz.f3.params.toList Rows.fnMergedEntriesSpec.vars false #[.slice none 0 0].toList 8=some ([.nil],[Q0i fnMergedEntries_ss4],places):=
 ⟨[.cell 0 0,.cell 0 1,.cell 0 2,.cell 0 3,.cell 0 4,.cell 0 5,.cell 0 6,.cell 0 7],by kernel_rfl⟩
set_option maxRecDepth 100000 in
theorem fnMergedEntries_lifted (os:Os)(started:os.Started)(H:Type)(enc:TypeId×Value->H)(F:Stop.Interp) :
  ReturnsInHanded {} Tryz.checked os 3 .any ((OpenSpec.ofChange Rows.fnMergedEntriesSpec).preRow enc Tryz.prog Tryz.f3 Rows.fnMergedEntriesRow.domain false Rows.fnMergedEntriesRow.laid) (((OpenSpec.ofChange Rows.fnMergedEntriesSpec).at F).post enc Tryz.prog Tryz.f3 false true false false):=by
 obtain⟨places,hx⟩:=fnMergedEntries_reads os enc
 refine returnsInHanded_of_row (C:=Tryz.checked) (s:=OpenSpec.ofChange Rows.fnMergedEntriesSpec) fnMergedEntries_own started (by kernel_rfl) (by kernel_rfl)
  (witness_row_at (enc:=enc) (C:=Tryz.checked) false (fnMergedEntries_world os) #[.slice none 0 0] rfl (by kernel_rfl) (by kernel_rfl) (by kernel_rfl)
   (OpenSpec.preRow_of_cond 8 hx (by kernel_rfl) (λk hk=>by cases hk) (by kernel_rfl) (fnMergedEntries_met os))) ?_
 intro W base args ds gs before YF hW _ _ _ hL hsh _
 exact fnMergedEntries_contract H enc W base args ds gs before YF hW hL hsh
theorem fnMergedEntries_said:Rows.FnMergedEntriesSaid:=
 OpenClaim.holds_of_cond 3 Tryz.f3 rfl rfl rfl rfl rfl rfl rfl ⟨rfl,rfl,rfl,rfl,rfl⟩ rfl rfl rfl rfl rfl (by kernel_rfl) (by kernel_rfl) (by kernel_rfl)
  (of_decide_eq_true (by kernel_rfl)) (by unfold Func.isWrapper;first|(rw[if_pos (by decide+kernel)];kernel_rfl)|(rw[if_neg (by decide+kernel)];exact⟨rfl,rfl⟩))
  (λos started H enc _ F=>by rw[OpenClaim.pre_eq_preRow];exact fnMergedEntries_lifted os started H enc F)
theorem fnMergedEntries_plain (f:FuncId)(fn:Func)(hf:Tryz.pinned.checked.prog.funcNamed "loop.example/g00896/laws.FnMergedEntries" =some f)(hfn:Tryz.pinned.checked.prog.funcs[f]? =some fn) :
  false=Tryz.pinned.checked.prog.looks []/\∀(j:Nat) t,fn.params[j]? =some t->Tryz.pinned.checked.prog.wantsStandIn t=false:=by
 obtain rfl:f=3:=(Option.some.inj ((show Tryz.prog.funcNamed "loop.example/g00896/laws.FnMergedEntries" =some 3 by kernel_rfl).symm.trans hf)).symm
 obtain rfl:fn=Tryz.f3:=(Option.some.inj ((show Tryz.prog.funcs[3]? =some Tryz.f3 by kernel_rfl).symm.trans hfn)).symm
 refine⟨by kernel_rfl,λj t ht=>?_⟩
 have ht':t∈[22]:=by simpa using Array.mem_of_getElem? (show(#[22]:Array Nat)[j]? =some t from ht)
 simp only[List.mem_cons,List.not_mem_nil,or_false]at ht'
 rcases ht' with rfl
 ·exact(show Tryz.prog.wantsStandIn 22=false by kernel_rfl)
theorem FnMergedEntries_holds:Rows.FnMergedEntriesCardSaid:=
 Claim7.holds_tied_plain_at .later [] _ _ _ _ fnMergedEntries_said (λ_ h=>by cases h) (by kernel_rfl) (λ_ h=>by cases h) fnMergedEntries_row_tie rfl ⟨rfl,rfl⟩ (by kernel_rfl) rfl fnMergedEntries_plain (by kernel_rfl)
#print axioms FnMergedEntries_holds
end Go.Proofs.YtbpjfjdkjapnoaaGreatDoor
end
