/- The law FnDuplicates returns true for every input,the listed package variables being as the program's text lays it: the card. -/
import Derived.Test.YtoojiikgbopeiaaGreatDoorMdu7
import Derived.Lib.ItoaNum
import Derived.Test.YtoojiikgbopeiaaGreatDoorCards
import Derived.Test.YtoojiikgbopeiaaGreatDoorTie
import Derived.Test.YtoojiikgbopeiaaGreatDoorMdu4
import Derived.Shelf.Vars
import Derived.WalkKit
import Derived.ProofKit
import Derived.OpenShut
import Derived.Deep.DeepHandedRow
import Derived.Lib.LaidTab
set_option linter.unusedVariables false
set_option linter.unusedSimpArgs false
set_option maxRecDepth 100000
section
namespace Go.Proofs.YtoojiikgbopeiaaGreatDoor
open Go.Gx
def agB (a b:Date):Bool:=a.y==0||(b.y==0||((a.y==b.y)&&(a.m==0||(b.m==0||((a.m==b.m)&&(a.d==b.d||(a.d==0||b.d==0)))))))
theorem Qc8 (a b:Date):Z101.F a b=some (agB a b)/\Z104.F a b=some (agB a b):=by
 unfold Z101.F Z104.F Z100.F agB
 unfold bne
 cases (a.y==0)<;>cases (b.y==0)<;>cases (a.y==b.y)<;>cases (a.m==b.m)<;>cases (a.m==0)<;>cases (b.m==0)<;>cases (a.d==b.d)<;>cases (a.d==0)<;>exact⟨rfl,rfl⟩
theorem Yy (x y:Int):(x==y)=(y==x):=by
 rw[Bool.eq_iff_iff,beq_iff_eq,beq_iff_eq];exact eq_comm
theorem Qab (a b:Date):agB a b=agB b a:=by
 unfold agB
 rw[Yy b.y a.y,Yy b.m a.m,Yy b.d a.d]
 cases (a.y==0)<;>cases (b.y==0)<;>cases (a.y==b.y)<;>cases (a.m==b.m)<;>cases (a.m==0)<;>cases (b.m==0)<;>cases (a.d==b.d)<;>cases (a.d==0)<;>cases (b.d==0)<;>rfl
theorem Xy (s t:ByteArray):Qr s t=Qr t s:=by
 rw[Bool.eq_iff_iff,YT,YT];exact eq_comm
theorem Q89 (a b:ByteArray):Q67 a b=Q67 b a:=by
 unfold Q67
 rw[Xy b a,Yy (bt b 0) (bt a 0)]
 cases Qr a b<;>cases decide (a.size=1)<;>cases decide (b.size=1)<;>cases (bt a 0==bt b 0)<;>rfl
theorem Q8a (a b:Name):Q4P a b=Q4P b a:=by
 unfold Q4P
 rw[Xy b.particle,Xy b.family,Xy b.suffix,Nat.min_comm b.given.length]
 congr 2
 funext i
 unfold Q0d
 exact Q89 _ _
theorem Q3z (a b:List Name):U8 a b=U8 b a:=by
 unfold U8
 rw[Nat.min_comm b.length,show decide (b.length=a.length)=decide (a.length=b.length)from decide_eq_decide.2 eq_comm]
 congr 2
 funext i
 unfold peG
 exact Q8a _ _
noncomputable def alB (a b:Entry)(lim:Int):Bool:=(a.kind==b.kind)&&(U8 a.authors b.authors&&(agB a.date b.date&&decide (((dV a.title b.title:Nat):Int)<=lim)))
theorem Qac (a b:Entry)(lim:Int):alB a b lim=alB b a lim:=by
 unfold alB
 rw[Yy,Q3z,Qab,Qb6]
theorem Qc9 (a b:Entry)(lim:Int)(ha:JE a=true)(hb:JE b=true):Ev (λk=>Z87.F k a b lim) (alB a b lim)/\Ev (λk=>Z70.F k a b lim) (alB a b lim):=by
 obtain⟨a1,a2⟩:=J8 ha
 obtain⟨b1,b2⟩:=J8 hb
 have p1:=Q1X _ _ a1 b1
 have p2:=Q1Y _ _ a1 b1
 obtain⟨r1,r2⟩:=Qc8 a.date b.date
 obtain⟨d1,d2⟩:=Q4O _ _ (Un a2) (Un b2)
 unfold Z87.F Z70.F alB
 cases (a.kind==b.kind)with
 |false=>exact⟨Ev.pure _,Ev.pure _⟩
 |true=>
  simp only[cond_true,Bool.true_and]
  cases hp:U8 a.authors b.authors with
  |false=>rw[hp]at p1 p2;exact⟨Ev.bind p1 (Ev.pure _),Ev.bind p2 (Ev.pure _)⟩
  |true=>
   rw[hp]at p1 p2
   cases hr:agB a.date b.date with
   |false=>rw[hr]at r1 r2;exact⟨Ev.bind p1 (Ev.bind0 r1 (Ev.pure _)),Ev.bind p2 (Ev.bind0 r2 (Ev.pure _))⟩
   |true=>rw[hr]at r1 r2;exact⟨Ev.bind p1 (Ev.bind0 r1 (Ev.bind d1 (Ev.pure _))),Ev.bind p2 (Ev.bind0 r2 (Ev.bind d2 (Ev.pure _)))⟩
noncomputable def alR (l:Library)(lim:Int)(i k:Nat):Bool:=alB (l.entries.getD i (Q4 .entry)) (l.entries.getD k (Q4 .entry)) lim
theorem Q1B (l:Library)(lim:Int)(i k:Nat):alR l lim i k=alR l lim k i:=Qac _ _ _
theorem Qad (a b:Int):Z67.F a b=some (if a<b then a else b):=by
 unfold Z67.F
 by_cases h:a<b
 ·rw[if_pos h,decide_eq_true h];rfl
 ·rw[if_neg h,decide_eq_false h];rfl
theorem Qae (xs:List Int)(v:Int)(hl:xs.length<=1048576):∀n i:Nat,i+n=xs.length->
  ∃r:Sum Int Unit,Ev (λk=>Z39.l0 k xs v xs.length i) r/\(v∈xs.drop i->∃z:Int,r= .inl z/\0<=z)/\(v ∉ xs.drop i->r= .inr ())
 |0,i,h=>by
  have hd:xs.drop i=[]:=List.drop_eq_nil_of_le (by omega)
  rw[hd]
  refine⟨.inr (),Ev.step (λk=>by rw[Z39.l0]) ?_,(λh=>by cases h),λ_=>rfl⟩
  simp(disch:=omega) only[Qk];exact Ev.pure _
 |n+1,i,h=>by
  have hi:i<xs.length:=by omega
  have hd:xs.drop i=xs[i]::xs.drop (i+1):=List.drop_eq_getElem_cons hi
  obtain⟨r,h2,h3,h4⟩:=Qae xs v hl n (i+1) (by omega)
  by_cases hv:xs[i]=v
  ·have hm:v∈xs.drop i:=by rw[hd,hv];exact List.mem_cons_self
   refine⟨.inl i,Ev.step (λk=>by rw[Z39.l0]) ?_,λ_=>⟨i,rfl,by omega⟩,λhn=>absurd hm hn⟩
   simp(disch:=omega) only[Qa,Int.toNat_natCast,getD_at hi,ceq]
   exact Ev.pure _
  ·have hm:v∈xs.drop i ↔ v∈xs.drop (i+1):=by
    rw[hd,List.mem_cons]
    exact⟨λh=>h.resolve_left λe=>hv e.symm,.inr⟩
   refine⟨r,Ev.step (λk=>by rw[Z39.l0]) ?_,λh=>h3 (hm.1 h),λh=>h4 λh'=>h (hm.2 h')⟩
   simp(disch:=omega) only[Qa,Int.toNat_natCast,getD_at hi,cne,wrap_in]
   exact h2
theorem Qbb (xs:List Int)(v:Int)(hl:xs.length<=1048576):Ev (λk=>Z84.F k xs v) (decide (v∈xs)):=by
 obtain⟨r,h2,h3,h4⟩:=Qae xs v hl xs.length 0 (by omega)
 rw[List.drop_zero]at h3 h4
 unfold Z84.F Z39.F
 by_cases hv:v∈xs
 ·obtain⟨z,rfl,hz⟩:=h3 hv
  rw[decide_eq_true hv]
  refine Ev.bind (a:=z) (Ev.bind h2 (Ev.pure _)) ((Ev.pure _).eq ?_)
  rw[decide_eq_true (by omega)]
 ·obtain rfl:=h4 hv
  rw[decide_eq_false hv]
  exact Ev.bind (a:=-1) (Ev.bind h2 (Ev.pure _)) (Ev.pure _)
section
variable {l:Library} (hl:l.entries.length<=8) (hB:U5 l=true) (lim:Int)
set_option linter.unusedSectionVars false
include hl hB
theorem Q6a {i k:Nat}(hi:i<l.entries.length)(hk:k<l.entries.length):Ev (λkk=>Z87.F kk l.entries[i] l.entries[k] lim) (alR l lim i k)/\Ev (λkk=>Z70.F kk l.entries[i] l.entries[k] lim) (alR l lim i k):=by
 unfold alR
 rw[getD_at hi,getD_at hk]
 exact Qc9 _ _ _ (U6 hB hi) (U6 hB hk)
theorem Qaf (x6:List (List ByteArray)):∀m i:Nat,i+m=l.entries.length->Ev (λk=>Z0.l0 k lim l x6 l.entries.length (nums 0 i) i) (lim,l,x6,(l.entries.length:Int),nums 0 l.entries.length)
 |0,i,h=>by
  refine Ev.step (λk=>by rw[Z0.l0]) ?_
  simp(disch:=omega) only[Qk]
  rw[show i=l.entries.length by omega];exact Ev.pure _
 |m+1,i,h=>by
  have hs:∀i s:Nat,nums s i++[((s+i:Nat):Int)]=nums s (i+1):=by
   intro i
   induction i with
   |zero=>intro s;simp[nums]
   |succ i ih=>intro s;rw[nums,List.cons_append,show s+(i+1)=s+1+i by omega,ih (s+1)];simp[nums]
  have hn:∀i s:Nat,(nums s i).length=i:=by
   intro i
   induction i with
   |zero=>intro s;rfl
   |succ i ih=>intro s;simp[nums,ih]
  have h2:=hs i 0
  rw[Nat.zero_add]at h2
  have hr:room ((nums 0 i).length+([(i:Int)]:List Int).length) (.int .i64)=true:=Q6Z (by rw[hn];simp;omega)
  refine Ev.step (λk=>by rw[Z0.l0]) ?_
  simp(disch:=omega) only[Qa,hr,cond_true,wrap_in,h2]
  exact Qaf x6 m (i+1) (by omega)
theorem Q3A (x6:List (List ByteArray))(i:Nat)(hi:i<l.entries.length):∀m k:Nat,k+m=i->∀(lab:List Int) (b:Bool),Lab l.entries.length (alR l lim) lab->(b=false->∀j,j<k->alR l lim j i=true->lab.getD i 0=lab.getD j 0)->
  ∃lab' b',Ev (λkk=>Z0.l6 kk lim l x6 l.entries.length lab b i k) (lim,l,x6,(l.entries.length:Int),lab',b',(i:Int))/\Lab l.entries.length (alR l lim) lab'/\lab'.sum<=lab.sum/\(b'=true->b=true\/lab'.sum<lab.sum)/\(b'=false->b=false/\lab'=lab/\∀j,j<i->alR l lim j i=true->lab.getD i 0=lab.getD j 0)
 |0,k,h,lab,b,hL,hb=>by
  refine⟨lab,b,Ev.step (λk=>by rw[Z0.l6]) ?_,hL,Int.le_refl _,λe=>.inl e,λe=>⟨e,rfl,λj hj=>hb e j (by omega)⟩⟩
  simp(disch:=omega) only[Qk]
  exact Ev.pure _
 |m+1,k,h,lab,b,hL,hb=>by
  have hlen:=hL.len
  have hk:k<l.entries.length:=by omega
  by_cases hne:lab.getD i 0=lab.getD k 0
  ·obtain⟨lab',b',e1,e2,e3,e4,e5⟩:=Q3A x6 i hi m (k+1) (by omega) lab b hL (λe j hj hr=>by
    by_cases ej:j=k
    ·rw[ej];exact hne
    ·exact hb e j (by omega) hr)
   refine⟨lab',b',Ev.step (λk=>by rw[Z0.l6]) ?_,e2,e3,e4,e5⟩
   simp(disch:=omega) only[Qa,Int.toNat_natCast,Gm,wrap_in]
   exact e1
  ·obtain⟨r1,_⟩:=Q6a hl hB lim hk hi
   cases hr:alR l lim k i with
   |false=>
    rw[hr]at r1
    obtain⟨lab',b',e1,e2,e3,e4,e5⟩:=Q3A x6 i hi m (k+1) (by omega) lab b hL (λe j hj hr'=>by
     by_cases ej:j=k
     ·rw[ej,hr]at hr';cases hr'
     ·exact hb e j (by omega) hr')
    refine⟨lab',b',Ev.step (λk=>by rw[Z0.l6]) ?_,e2,e3,e4,e5⟩
    simp(disch:=omega) only[Qa,Int.toNat_natCast,Q1g,getD_at hk,getD_at hi]
    refine Ev.bind r1 ?_
    simp(disch:=omega) only[cond_false,wrap_in]
    exact e1
   |true=>
    rw[hr]at r1
    obtain⟨j1,j2⟩:=hL.join (Q1B l lim) hi (by omega:k<i) hr hne rfl
    obtain⟨lab',b',e1,e2,e3,e4,e5⟩:=Q3A x6 i hi m (k+1) (by omega) _ true j1 (λe=>by cases e)
    refine⟨lab',b',Ev.step (λk=>by rw[Z0.l6]) ?_,e2,by omega,λ_=>.inr (by omega),λe=>by have:=(e5 e).1;cases this⟩
    simp(disch:=omega) only[Qa,Int.toNat_natCast,Q1g,getD_at hk,getD_at hi]
    refine Ev.bind r1 ?_
    simp(disch:=omega) only[Qa,cond_true]
    refine Ev.bind0 (Qad _ _) ?_
    simp(disch:=(try simp only[List.length_set]);omega) only[Qa,wrap_in]
    exact e1
theorem Qag (x6:List (List ByteArray)):∀m i:Nat,i+m=l.entries.length->∀(lab:List Int) (b:Bool),Lab l.entries.length (alR l lim) lab->(b=false->∀i' j,i'<i->j<i'->alR l lim j i'=true->lab.getD i' 0=lab.getD j 0)->
  ∃lab' b',Ev (λkk=>Z0.l4 kk lim l x6 l.entries.length lab b i) (lim,l,x6,(l.entries.length:Int),lab',b')/\Lab l.entries.length (alR l lim) lab'/\lab'.sum<=lab.sum/\(b'=true->b=true\/lab'.sum<lab.sum)/\(b'=false->Rest l.entries.length (alR l lim) lab')
 |0,i,h,lab,b,hL,hb=>by
  refine⟨lab,b,Ev.step (λk=>by rw[Z0.l4]) ?_,hL,Int.le_refl _,λe=>.inl e,λe=>⟨hL,λi' k hi' hk hr=>hb e i' k (by omega) hk hr⟩⟩
  simp(disch:=omega) only[Qk]
  exact Ev.pure _
 |m+1,i,h,lab,b,hL,hb=>by
  obtain⟨lab1,b1,e1,e2,e3,e4,e5⟩:=Q3A hl hB lim x6 i (by omega) i 0 (by omega) lab b hL (λ_ j hj=>absurd hj (by omega))
  obtain⟨lab',b',f1,f2,f3,f4,f5⟩:=Qag x6 m (i+1) (by omega) lab1 b1 e2 (λe i' j hi' hj hr=>by
   obtain⟨g1,g2,g3⟩:=e5 e
   rw[g2]
   by_cases ei:i'=i
   ·subst ei;exact g3 j hj hr
   ·exact hb g1 i' j (by omega) hj hr)
  refine⟨lab',b',Ev.step (λk=>by rw[Z0.l4]) ?_,f2,by omega,λe=>?_,f5⟩
  ·simp(disch:=omega) only[Qa]
   refine Ev.bind e1 ?_
   simp(disch:=omega) only[wrap_in]
   exact f1
  ·rcases f4 e with f4|f4
   ·rcases e4 f4 with e4|e4
    ·exact .inl e4
    ·exact .inr (by omega)
   ·exact .inr (by omega)
theorem Qah (x6:List (List ByteArray)):∀(s:Nat) (lab:List Int),lab.sum<=s->Lab l.entries.length (alR l lim) lab->
  ∃lab',Ev (λkk=>Z0.l2 kk lim l x6 l.entries.length lab true) (l,x6,(l.entries.length:Int),lab')/\Rest l.entries.length (alR l lim) lab'
 |s,lab,hs,hL=>by
  obtain⟨lab1,b1,e1,e2,e3,e4,e5⟩:=Qag hl hB lim x6 l.entries.length 0 (by omega) lab false hL (λ_ i' j hi'=>absurd hi' (by omega))
  cases b1 with
  |false=>
   refine⟨lab1,Ev.step (λk=>by rw[Z0.l2]) ?_,e5 rfl⟩
   simp only[cond_true]
   refine Ev.bind e1 (Ev.step (λk=>by rw[Z0.l2]) ?_)
   exact Ev.pure _
  |true=>
   have h1:lab1.sum<lab.sum:=by
    rcases e4 rfl with h|h
    ·cases h
    ·exact h
   have h2:=e2.sum
   obtain⟨t,rfl⟩:∃t,s=t+1:=⟨s-1,by omega⟩
   obtain⟨lab',f1,f2⟩:=Qah x6 t lab1 (by omega) e2
   refine⟨lab',Ev.step (λk=>by rw[Z0.l2]) ?_,f2⟩
   simp only[cond_true]
   exact Ev.bind e1 f1
def mem1 (lab:List Int)(i:Nat)(k m:Nat):List Int:=(nums k m).filter λx=>lab.getD x.toNat 0==(i:Int)
theorem Q8b (lab:List Int)(i k m:Nat):mem1 lab i k (m+1)=(bif lab.getD k 0==(i:Int)then[(k:Int)]else[])++mem1 lab i (k+1) m:=by
 unfold mem1
 rw[nums,List.filter_cons,Int.toNat_natCast]
 cases (lab.getD k 0==(i:Int))<;>rfl
theorem Q3B (x6:List (List ByteArray))(lab:List Int)(hlab:lab.length=l.entries.length)(i:Nat):∀m k:Nat,k+m=l.entries.length->∀acc:List ByteArray,acc.length<=k->
  Ev (λkk=>Z0.l10 kk l x6 l.entries.length lab i acc k) (l,x6,(l.entries.length:Int),lab,(i:Int),acc++(mem1 lab i k m).map (kAt l))
 |0,k,h,acc,ha=>by
  refine Ev.step (λk=>by rw[Z0.l10]) ?_
  simp(disch:=omega) only[Qk]
  exact(Ev.pure _).eq (by simp[mem1,nums])
 |m+1,k,h,acc,ha=>by
  have hk:k<l.entries.length:=by omega
  rw[Q8b hl hB]
  refine Ev.step (λk=>by rw[Z0.l10]) ?_
  simp(disch:=omega) only[Qa,Int.toNat_natCast,getD_at hk]
  cases hd:(lab.getD k 0==(i:Int))with
  |false=>
   simp(disch:=omega) only[cond_false,List.nil_append,wrap_in]
   exact Q3B x6 lab hlab i m (k+1) (by omega) acc (by omega)
  |true=>
   have hr:∀z:ByteArray,room (acc.length+([z]:List ByteArray).length) .str=true:=λz=>Q9L (by simp;omega)
   simp(disch:=omega) only[cond_true,hr,wrap_in]
   refine(Q3B x6 lab hlab i m (k+1) (by omega) (acc++[l.entries[k].key]) (by simp;omega)).eq ?_
   have e:kAt l k=l.entries[k].key:=by unfold kAt;rw[Int.toNat_natCast,getD_at hk]
   simp only[List.map_append,List.map_cons,List.map_nil,e,List.append_assoc]
theorem Q3C (x6:List (List ByteArray))(i n:Int)(w:Int)(g0:List Int)(at_:Nat)(hat:at_<g0.length)(i0:Nat)(hi0:i0<l.entries.length):∀m k:Nat,k+m=l.entries.length->∀t:List Int,(g0++t).Nodup->(∀x∈g0++t,0<=x/\x<l.entries.length/\Cn l.entries.length (alR l lim) i0 x.toNat)->(∀j:Nat,j<k->alR l lim (g0.getD at_ 0).toNat j=true->(j:Int)∈g0++t)->
  ∃t',Ev (λkk=>Z1.l4 kk lim l x6 i (g0++t) at_ n w l.entries l.entries.length k) (lim,l,x6,i,g0++t',(at_:Int),n,w)/\(g0++t').Nodup/\(∀x∈g0++t',0<=x/\x<l.entries.length/\Cn l.entries.length (alR l lim) i0 x.toNat)/\(∀j:Nat,j<l.entries.length->alR l lim (g0.getD at_ 0).toNat j=true->(j:Int)∈g0++t')
 |0,k,h,t,hn,hm,hd=>by
  refine⟨t,Ev.step (λk=>by rw[Z1.l4]) ?_,hn,hm,λj hj=>hd j (by omega)⟩
  simp(disch:=omega) only[Qk]
  exact Ev.pure _
 |m+1,k,h,t,hn,hm,hd=>by
  have hk:k<l.entries.length:=by omega
  have hlen:=Gw _ _ hn λx hx=>⟨(hm x hx).1,(hm x hx).2.1⟩
  have hga:(g0++t).getD at_ 0=g0.getD at_ 0:=by rw[List.getD_eq_getElem?_getD,List.getElem?_append_left hat,<-List.getD_eq_getElem?_getD]
  have hgm:=hm (g0.getD at_ 0) (List.mem_append.2 (.inl (by rw[getD_at hat];exact List.getElem_mem hat)))
  have hat2:at_<(g0++t).length:=by rw[List.length_append];omega
  have c2:=Qbb (g0++t) k (by omega)
  by_cases hin:(k:Int)∈g0++t
  ·rw[decide_eq_true hin]at c2
   obtain⟨t',e1,e2,e3,e4⟩:=Q3C x6 i n w g0 at_ hat i0 hi0 m (k+1) (by omega) t hn hm (λj hj hr=>by
    by_cases ej:j=k
    ·rw[ej];exact hin
    ·exact hd j (by omega) hr)
   refine⟨t',Ev.step (λk=>by rw[Z1.l4]) ?_,e2,e3,e4⟩
   simp(disch:=omega) only[Qa]
   refine Ev.bind c2 ?_
   simp(disch:=omega) only[Bool.not_true,cond_false,wrap_in]
   exact e1
  ·rw[decide_eq_false hin]at c2
   have hgn:(g0.getD at_ 0).toNat<l.entries.length:=by omega
   obtain⟨_,r2⟩:=Q6a hl hB lim hgn hk
   cases hr:alR l lim (g0.getD at_ 0).toNat k with
   |false=>
    rw[hr]at r2
    obtain⟨t',e1,e2,e3,e4⟩:=Q3C x6 i n w g0 at_ hat i0 hi0 m (k+1) (by omega) t hn hm (λj hj hr'=>by
     by_cases ej:j=k
     ·rw[ej,hr]at hr';cases hr'
     ·exact hd j (by omega) hr')
    refine⟨t',Ev.step (λk=>by rw[Z1.l4]) ?_,e2,e3,e4⟩
    simp(disch:=omega) only[Qa]
    refine Ev.bind c2 ?_
    simp(disch:=omega) only[Bool.not_false,cond_true,Qa,Int.toNat_natCast,hga,getD_at hk,getD_at hgn]
    refine Ev.bind r2 ?_
    simp(disch:=omega) only[cond_false,wrap_in]
    exact e1
   |true=>
    rw[hr]at r2
    have hn':(g0++(t++[(k:Int)])).Nodup:=by
     rw[<-List.append_assoc]
     exact List.nodup_append.2 ⟨hn,by simp,λa ha b hb=>by simp at hb;subst hb;exact λe=>hin (e▸ha)⟩
    obtain⟨t',e1,e2,e3,e4⟩:=Q3C x6 i n w g0 at_ hat i0 hi0 m (k+1) (by omega) (t++[(k:Int)]) hn' (λx hx=>by
     rw[<-List.append_assoc]at hx
     rcases List.mem_append.1 hx with hx|hx
     ·exact hm x hx
     ·rw[List.mem_singleton.1 hx]
      refine⟨by omega,by omega,?_⟩
      rw[Int.toNat_natCast]
      exact .step hgm.2.2 hk hr) (λj hj hr'=>by
     rw[<-List.append_assoc]
     by_cases ej:j=k
     ·rw[ej];simp
     ·exact List.mem_append.2 (.inl (hd j (by omega) hr')))
    have hro:room ((g0++t).length+([(k:Int)]:List Int).length) (.int .i64)=true:=Q6Z (by simp at hlen ⊢;omega)
    refine⟨t',Ev.step (λk=>by rw[Z1.l4]) ?_,e2,e3,e4⟩
    simp(disch:=omega) only[Qa]
    refine Ev.bind c2 ?_
    simp(disch:=omega) only[Bool.not_false,cond_true,Qa,Int.toNat_natCast,hga,getD_at hk,getD_at hgn]
    refine Ev.bind r2 ?_
    simp(disch:=omega) only[cond_true,hro,wrap_in]
    rw[List.append_assoc]
    exact e1
theorem Qai (x6:List (List ByteArray))(i n:Int)(w:Int)(i0:Nat)(hi0:i0<l.entries.length):∀(m:Nat) (g:List Int) (at_:Nat),at_+m=l.entries.length+1->at_<=g.length->g.Nodup->(∀x∈g,0<=x/\x<l.entries.length/\Cn l.entries.length (alR l lim) i0 x.toNat)->(∀q,q<at_->∀j:Nat,j<l.entries.length->alR l lim (g.getD q 0).toNat j=true->(j:Int)∈g)->
  ∃t,Ev (λkk=>Z1.l2 kk lim l x6 i g at_ n w) (lim,l,x6,i,g++t,n,w)/\(g++t).Nodup/\(∀x∈g++t,0<=x/\x<l.entries.length/\Cn l.entries.length (alR l lim) i0 x.toNat)/\(∀q,q<(g++t).length->∀j:Nat,j<l.entries.length->alR l lim ((g++t).getD q 0).toNat j=true->(j:Int)∈g++t)
 |0,g,at_,h,ha,hn,hm,hd=>by
  have hlen:=Gw _ _ hn λx hx=>⟨(hm x hx).1,(hm x hx).2.1⟩
  omega
 |m+1,g,at_,h,ha,hn,hm,hd=>by
  have hlen:=Gw _ _ hn λx hx=>⟨(hm x hx).1,(hm x hx).2.1⟩
  by_cases c:at_<g.length
  ·obtain⟨t,e1,e2,e3,e4⟩:=Q3C hl hB lim x6 i n w g at_ c i0 hi0 l.entries.length 0 (by omega) [] (by simpa using hn) (by simpa using hm) (λj hj=>absurd hj (by omega))
   rw[List.append_nil]at e1
   obtain⟨u,f1,f2,f3,f4⟩:=Qai x6 i n w i0 hi0 m (g++t) (at_+1) (by omega) (by rw[List.length_append];omega) e2 e3 (λq hq j hj hr=>by
    have hqa:(g++t).getD q 0=g.getD q 0:=by rw[List.getD_eq_getElem?_getD,List.getElem?_append_left (by omega),<-List.getD_eq_getElem?_getD]
    rw[hqa]at hr
    by_cases eq:q=at_
    ·subst eq;exact e4 j hj hr
    ·exact List.mem_append.2 (.inl (hd q (by omega) j hj hr)))
   rw[List.append_assoc]at f1 f2 f3 f4
   refine⟨t++u,Ev.step (λk=>by rw[Z1.l2]) ?_,f2,f3,f4⟩
   simp(disch:=omega) only[Qa]
   refine Ev.bind e1 ?_
   simp(disch:=omega) only[wrap_in]
   exact f1
  ·refine⟨[],Ev.step (λk=>by rw[Z1.l2]) ?_,by simpa using hn,by simpa using hm,λq hq j hj hr=>?_⟩
   ·simp(disch:=omega) only[Qk]
    exact(Ev.pure _).eq (by simp)
   ·rw[List.append_nil]at hq hr ⊢
    exact hd q (by omega) j hj hr
theorem Qbc {g:List Int}{i0:Nat}(h0:(i0:Int)∈g)(hm:∀x∈g,0<=x/\x<l.entries.length/\Cn l.entries.length (alR l lim) i0 x.toNat)(hd:∀q,q<g.length->∀j:Nat,j<l.entries.length->alR l lim (g.getD q 0).toNat j=true->(j:Int)∈g)(j:Nat):(j:Int)∈g ↔ Cn l.entries.length (alR l lim) i0 j:=by
 constructor
 ·intro hj
  have:=(hm _ hj).2.2
  rwa [Int.toNat_natCast]at this
 ·intro c
  induction c with
  |refl _=>exact h0
  | @step a b c hk hr ih=>
   obtain⟨q,hq,e⟩:=List.getElem_of_mem ih
   refine hd q hq _ hk ?_
   rw[getD_at hq,e,Int.toNat_natCast]
   exact hr
theorem Qaj (x6:List (List ByteArray))(n w:Int)(s:List Int)(hs:∀x∈s,0<=x/\x<l.entries.length)(hsl:s.length<=8):∀m j:Nat,j+m=s.length->∀acc:List ByteArray,acc.length<=j->
  Ev (λkk=>Z1.l6 kk lim l x6 acc n w s s.length j) (lim,l,x6,acc++(s.drop j).map (kAt l),n,w)
 |0,j,h,acc,ha=>by
  refine Ev.step (λk=>by rw[Z1.l6]) ?_
  simp(disch:=omega) only[Qk]
  exact(Ev.pure _).eq (by rw[List.drop_eq_nil_of_le (by omega)];simp)
 |m+1,j,h,acc,ha=>by
  have hj:j<s.length:=by omega
  have hx:=hs _ (List.getElem_mem hj)
  have hr:∀z:ByteArray,room (acc.length+([z]:List ByteArray).length) .str=true:=λz=>Q9L (by simp;omega)
  refine Ev.step (λk=>by rw[Z1.l6]) ?_
  simp(disch:=omega) only[Qa,Int.toNat_natCast,getD_at hj,hr,cond_true,wrap_in]
  refine(Qaj x6 n w s hs hsl m (j+1) (by omega) _ (by simp;omega)).eq ?_
  rw[List.drop_eq_getElem_cons hj]
  simp only[List.map_cons,List.append_assoc,List.singleton_append]
  rfl
end
theorem Qak (x y:Int):Z106.F x y=some (decide (x<y)):=by
 unfold Z106.F Z105.F
 simp
theorem QbA (x:Int)(out rest:List Int)(b i:Int)(hl:out.length+rest.length<=100) :
  ∀j:Nat,j<=out.length->Ev (λk=>Z10.l2 k (atI x out rest j) 0 b i j) (atI x out rest (UI x out j),0,b,i)
 |0,hj=>by
  refine Ev.step (λk=>by rw[Z10.l2]) ?_
  simp(disch:=omega) only[Qk]
  exact Ev.pure _
 |j+1,hj=>by
  have ih:=QbA x out rest b i hl j (by omega)
  have hlen:=Qb9 x out rest (j+1) (by omega)
  obtain⟨g1,g2⟩:=Qba x out rest j (by omega)
  have hj1:IntKind.wrap .i64 (((j+1:Nat):Int)-1)=(j:Int):=by rw[wrap_in (by omega) (by omega)];omega
  refine Ev.step (λk=>by rw[Z10.l2]) ?_
  rw[hj1]
  simp(disch:=omega) only[Qa,Int.toNat_natCast,g1,g2]
  refine Ev.bind0 (Qak _ _) ?_
  unfold UI
  rw[getD_at (show j<out.length by omega)]
  cases decide (x<out[j])with
  |false=>exact Ev.pure _
  |true=>
   simp(disch:=omega) only[cond_true,Qa,List.length_set,Qaa x out rest j (by omega)]
   exact ih
theorem QbB (keys:List Int)(hk:keys.length<=100) :
  ∀n i:Nat,i+n=keys.length->∀out:List Int,out.length=i->Ev (λk=>Z10.l0 k (out++keys.drop i) 0 keys.length i) ((keys.drop i).foldl Uo out)
 |0,i,h,out,ho=>by
  refine Ev.step (λk=>by rw[Z10.l0]) ?_
  simp(disch:=omega) only[Qk]
  rw[List.drop_eq_nil_of_le (by omega),List.append_nil]
  exact Ev.pure _
 |n+1,i,h,out,ho=>by
  have hi:i<keys.length:=by omega
  have hd:keys.drop i=keys[i]::keys.drop (i+1):=List.drop_eq_getElem_cons hi
  have h2:=QbA keys[i] out (keys.drop (i+1)) keys.length i (by rw[List.length_drop];omega) out.length (Nat.le_refl _)
  have e1:atI keys[i] out (keys.drop (i+1)) out.length=out++keys.drop i:=by unfold atI;rw[List.take_length,List.drop_length,hd];rfl
  have e2:atI keys[i] out (keys.drop (i+1)) (UI keys[i] out out.length)=Uo out keys[i]++keys.drop (i+1):=by unfold atI Uo;rw[List.append_assoc];rfl
  rw[e1,e2,ho]at h2
  have ih:=QbB keys hk n (i+1) (by omega) (Uo out keys[i]) (by rw[Q4V,ho])
  refine Ev.step (λk=>by rw[Z10.l0]) ?_
  simp(disch:=omega) only[Qa]
  refine Ev.bind h2 ?_
  simp(disch:=omega) only[wrap_in,ho]
  have e3:(keys.drop i).foldl Uo out=(keys.drop (i+1)).foldl Uo (Uo out keys[i]):=by rw[hd,List.foldl_cons]
  rw[e3]
  exact ih
theorem Q8c:∀n:Fin 13,(Z93.F (IntKind.wrap .u64 (n.val:Int))).isSome=true:=by decide+kernel
theorem Qal {n:Nat}(h:n<=12):∃r,Z93.F (IntKind.wrap .u64 (n:Int))=some r:=by
 have:=Q8c ⟨n,by omega⟩
 exact Option.isSome_iff_exists.1 this
theorem Qam (x:Int)(g:List Int)(hg:g.length<=7)(hn:(x::g).Nodup):∃s,Ev (λk=>Z85.F k (x::g)) s/\Asc s/\s.length=g.length+1/\∀y,y∈s ↔ y∈x::g:=by
 have h:=QbB (x::g) (by simp;omega) g.length 1 (by simp;omega) [x] rfl
 simp only[List.drop_succ_cons,List.drop_zero,List.singleton_append]at h
 obtain⟨f1,f2,f3⟩:=Qbz g [x] (List.pairwise_singleton _ _) (by simpa using hn)
 have f2:(g.foldl Uo [x]).length=(x::g).length:=by rw[f2];simp;omega
 refine⟨_,?_,f1,by rw[f2];simp,λy=>by rw[f3];simp⟩
 have hlen:∃r,Z93.F (IntKind.wrap .u64 ((x::g).length:Int))=some r:=Qal (by simp;omega)
 obtain⟨r,hr⟩:=hlen
 unfold Z85.F
 refine Ev.bind0 hr (Ev.bind (a:=g.foldl Uo [x]) ?_ ?_)
 ·unfold Z55.F
  refine Ev.bind (a:=g.foldl Uo [x]) (Ev.step (λk=>by rw[Z55.l0]) ?_) ?_
  ·have hle:IntKind.wrap .i64 (((x::g).length:Int)-0)<=12:=by rw[wrap_in (by simp;omega) (by simp;omega)];simp;omega
   simp(disch:=first|exact hle|omega) only[Qa]
   refine Ev.bind (a:=g.foldl Uo [x]) ?_ (Ev.pure _)
   unfold Z10.F
   refine Ev.bind (f:=λk=>Z10.l0 k (x::g) 0 ((x::g).length:Int) (IntKind.wrap .i64 (0+1))) (a:=g.foldl Uo [x]) h ?_
   rw[f2,Nat.beq_refl]
   exact Ev.pure _
  ·rw[f2,Nat.beq_refl]
   exact Ev.pure _
 ·rw[f2,Nat.beq_refl]
  exact Ev.pure _
theorem Q1C {α β:Type}{f:α->β}{s:List α}:(s.map f).length=s.length:=List.length_map ..
def Qan (n:Nat)(lab g:List Int):Prop:=∃j:Nat,j<n/\∀x:Int,x∈g ↔ 0<=x/\x<n/\lab.getD x.toNat 0=j
theorem Q1D {l:Library}(hl:l.entries.length<=8)(hB:U5 l=true)(lim:Int)(lab:List Int)(hR:Rest l.entries.length (alR l lim) lab):∀m i:Nat,i+m=l.entries.length->∀acc:List (List ByteArray),acc.length<=i->
  ∃gs:List (List Int),Ev (λk=>Z0.l8 k l acc l.entries.length lab i) (acc++gs.map (List.map (kAt l)))/\Ev (λk=>Z1.l0 k lim l acc l.entries.length i) (acc++gs.map (List.map (kAt l)))/\gs.length<=m/\(∀g∈gs,g.length<=8/\Qan l.entries.length lab g)/\(∀j x:Nat,i<=j->j<l.entries.length->lab.getD j 0=j->x<l.entries.length->x≠j->lab.getD x 0=j->∃g∈gs,(j:Int)∈g)
 |0,i,h,acc,ha=>by
  refine⟨[],Ev.step (λk=>by rw[Z0.l8]) ?_,Ev.step (λk=>by rw[Z1.l0]) ?_,by simp,(λ_ h=>by cases h),λj x h1 h2=>by omega⟩<;>
   (simp(disch:=omega) only[Qk];exact(Ev.pure _).eq (by simp))
 |m+1,i,h,acc,ha=>by
  have hi:i<l.entries.length:=by omega
  have sy:=Q1B l lim
  have d1:=Q3B hl hB acc lab hR.len i (m+1) i (by omega) [] (by simp)
  rw[List.nil_append]at d1
  obtain⟨t,g1,g2,g3,g4⟩:=Qai hl hB lim acc i l.entries.length i i hi (l.entries.length+1) [(i:Int)] 0 (by omega) (by simp) (by simp) (λx hx=>by
   rw[List.mem_singleton.1 hx,Int.toNat_natCast]
   exact⟨by omega,by omega,.refl hi⟩) (λq hq=>absurd hq (by omega))
  have gm:=λj=>Qbc hl hB lim (i0:=i) (by simp) g3 g4 j
  have glen:=Gw _ _ g2 λx hx=>⟨(g3 x hx).1,(g3 x hx).2.1⟩
  rw[List.singleton_append]at g1 g2 g3 g4 gm glen
  obtain⟨s,s1,s2,s3,s4⟩:=Qam i t (by simp at glen;omega) g2
  have smem:∀x:Int,x∈s ↔ 0<=x/\x<l.entries.length/\lab.getD x.toNat 0=lab.getD i 0:=λx=>by
   rw[s4]
   constructor
   ·intro hx
    have h1:=g3 x hx
    exact⟨h1.1,h1.2.1,(hR.cn_iff sy hi (by omega)).1 h1.2.2⟩
   ·rintro⟨h1,h2,h3⟩
    have:=(gm x.toNat).2 ((hR.cn_iff sy hi (by omega)).2 h3)
    rwa [show((x.toNat:Nat):Int)=x by omega]at this
  have li:=hR.lo i hi
  have hmem1:∀x:Int,x∈mem1 lab i i (m+1) ↔ (i:Int)<=x/\x<l.entries.length/\lab.getD x.toNat 0=i:=λx=>by
   unfold mem1
   rw[List.mem_filter,Q1z,beq_iff_eq]
   constructor
   ·rintro⟨⟨h1,h2⟩,h3⟩;exact⟨h1,by omega,h3⟩
   ·rintro⟨h1,h2,h3⟩;exact⟨⟨h1,by omega⟩,h3⟩
  have hasc1:Asc (mem1 lab i i (m+1)):=(Q4U (m+1) i).filter _
  have i0s:(i:Int)∈s:=(smem i).2 ⟨by omega,by omega,by rw[Int.toNat_natCast]⟩
  obtain⟨y,s',rfl⟩:∃y s',s=y::s':=by
   cases s with
   |nil=>cases i0s
   |cons y s'=>exact⟨y,s',rfl⟩
  have hspec:Ev (λk=>Z0.l10 k l acc l.entries.length lab i [] i) (l,acc,(l.entries.length:Int),lab,(i:Int),(mem1 lab i i (m+1)).map (kAt l)):=d1
  obtain⟨out0,o1,o2,o3,o4,o5⟩:=Q1D hl hB lim lab hR m (i+1) (by omega) acc (by omega)
  by_cases hli:lab.getD i 0=i
  ·have heq:mem1 lab i i (m+1)=y::s':=Qa9 hasc1 s2 λx=>by
    rw[hmem1,smem,hli]
    constructor
    ·rintro⟨h1,h2,h3⟩;exact⟨by omega,h2,h3⟩
    ·rintro⟨h1,h2,h3⟩
     have:=hR.lo x.toNat (by omega)
     exact⟨by omega,h2,h3⟩
   have hy:y=i:=by
    have h1:=Q4T s2 i0s
    have h2:=(smem y).1 List.mem_cons_self
    have:=hR.lo y.toNat (by omega)
    omega
   rw[heq]at hspec
   by_cases hlen:(y::s').length<2
   ·refine⟨out0,Ev.step (λk=>by rw[Z0.l8]) ?_,Ev.step (λk=>by rw[Z1.l0]) ?_,by omega,o4,λj x h1 h2 h3 h4 h5 h6=>?_⟩
    ·simp(disch:=omega) only[Qa]
     refine Ev.bind hspec ?_
     simp(disch:=(try simp only[Q1C]);omega) only[Qk,wrap_in]
     exact o1
    ·simp(disch:=omega) only[Qa]
     refine Ev.bind g1 (Ev.bind s1 ?_)
     simp(disch:=omega) only[Qa,wrap_in]
     exact o2
    ·by_cases ej:j=i
     ·subst ej
      exfalso
      have hx1:(x:Int)∈y::s':=(smem x).2 ⟨by omega,by omega,by rw[Int.toNat_natCast,h6,h3]⟩
      have hs0:s'=[]:=List.eq_nil_of_length_eq_zero (by simp at hlen;omega)
      rw[hs0,List.mem_singleton]at hx1
      omega
     ·exact o5 j x (by omega) h2 h3 h4 h5 h6
   ·have hk6:=Qaj hl hB lim acc l.entries.length i (y::s') (λx hx=>⟨((smem x).1 hx).1,((smem x).1 hx).2.1⟩) (by rw[s3];simp at glen;omega) (y::s').length 0 (by omega) [] (by simp)
    rw[List.drop_zero,List.nil_append]at hk6
    have hk8:((y::s').map (kAt l)).length<=8:=by rw[List.length_map,s3];simp at glen;omega
    obtain⟨out,o1,o2,o3,o4,o5⟩:=Q1D hl hB lim lab hR m (i+1) (by omega) (acc++[(y::s').map (kAt l)]) (by simp;omega)
    have hr:room (acc.length+([(y::s').map (kAt l)]:List (List ByteArray)).length) (.sl .str)=true:=Qb8 (by simp;omega)
    refine⟨(y::s')::out,Ev.step (λk=>by rw[Z0.l8]) ?_,Ev.step (λk=>by rw[Z1.l0]) ?_,by simp;omega,λg hg=>?_,λj x h1 h2 h3 h4 h5 h6=>?_⟩
    ·simp(disch:=omega) only[Qa]
     refine Ev.bind hspec ?_
     simp(disch:=(try simp only[Q1C]);omega) only[Qa,hr,cond_true,wrap_in]
     exact o1.eq (by simp)
    ·have hy0:((y::s').getD 0 0:Int)=i:=hy
     have h0:((0:Int).toNat)=0:=rfl
     simp(disch:=omega) only[Qa]
     refine Ev.bind g1 (Ev.bind s1 ?_)
     simp(disch:=omega) only[Qk,Qa,h0,hy0,Gm]
     refine Ev.bind hk6 ?_
     simp(disch:=omega) only[hr,cond_true,wrap_in]
     exact o2.eq (by simp)
    ·rcases List.mem_cons.1 hg with rfl|hg
     ·exact⟨by simpa using hk8,i,hi,λx=>by rw[smem,hli]⟩
     ·exact o4 g hg
    ·by_cases ej:j=i
     ·subst ej;exact⟨_,List.mem_cons_self,i0s⟩
     ·obtain⟨g,hg,hj⟩:=o5 j x (by omega) h2 h3 h4 h5 h6
      exact⟨g,List.mem_cons_of_mem _ hg,hj⟩
  ·have hnil:mem1 lab i i (m+1)=[]:=by
    cases hm:mem1 lab i i (m+1)with
    |nil=>rfl
    |cons x r=>
     have h1:=(hmem1 x).1 (by rw[hm];exact List.mem_cons_self)
     have h2:=hR.low sy (i:=x.toNat) (by omega)
     rw[h1.2.2,Int.toNat_natCast]at h2
     exact absurd h2 hli
   rw[hnil]at hspec
   refine⟨out0,Ev.step (λk=>by rw[Z0.l8]) ?_,Ev.step (λk=>by rw[Z1.l0]) ?_,by omega,o4,λj x h1 h2 h3 h4 h5 h6=>?_⟩
   ·simp(disch:=omega) only[Qa]
    refine Ev.bind hspec ?_
    simp(disch:=first|omega|simp) only[Qk,wrap_in]
    exact o1
   ·have hy:((y::s').getD 0 0:Int)≠i:=by
     show y≠i
     have h1:lab.getD i 0∈y::s':=(smem _).2 ⟨li.1,by omega,hR.low sy hi⟩
     have h2:=Q4T s2 h1
     omega
    have h0:((0:Int).toNat)=0:=rfl
    simp(disch:=omega) only[Qa]
    refine Ev.bind g1 (Ev.bind s1 ?_)
    by_cases hlen:(y::s').length<2
    ·simp(disch:=omega) only[Qa,wrap_in]
     exact o2
    ·simp(disch:=omega) only[Qk,Qa,h0,Q1g,wrap_in]
     exact o2
   ·by_cases ej:j=i
    ·subst ej;exact absurd h3 hli
    ·exact o5 j x (by omega) h2 h3 h4 h5 h6
theorem Q1E:∀(m s i:Nat),i<m->(nums s m).getD i 0=((s+i:Nat):Int)
 |0,s,i,h=>by omega
 |m+1,s,0,h=>by simp[nums]
 |m+1,s,i+1,h=>by
  rw[nums,List.getD_cons_succ,Q1E m (s+1) i (by omega)]
  congr 1;omega
theorem Q4Y:∀(m s:Nat),(nums s m).length=m
 |0,s=>rfl
 |m+1,s=>by simp[nums,Q4Y m]
theorem QcF (n:Nat)(R:Nat->Nat->Bool):Lab n R (nums 0 n):=by
 refine⟨Q4Y n 0,λi hi=>?_,λi hi=>?_⟩
 ·rw[Q1E n 0 i hi];omega
 ·rw[Q1E n 0 i hi]
  rw[show(((0+i:Nat):Int)).toNat=i by omega]
  exact .refl hi
theorem Db (l:Library)(lim:Int)(hs:JZ l):∃r b,Ev (λk=>Z0.F k l lim) (r,b)/\Ev (λk=>Z1.F k l lim) (r,b)/\r.length<=8/\(∀x∈r,x.length<=8)/\
  (b=true->U5 l=true/\(decide (lim ≥ 0)&&decide (lim<=40))=true/\∃(lab:List Int) (gs:List (List Int)),Rest l.entries.length (alR l lim) lab/\r=gs.map (List.map (kAt l))/\(∀g∈gs,Qan l.entries.length lab g)/\(∀j x:Nat,j<l.entries.length->lab.getD j 0=j->x<l.entries.length->x≠j->lab.getD x 0=j->∃g∈gs,(j:Int)∈g)):=by
 have a1:=YJ l hs
 have a2:=Q1t l hs
 unfold Z0.F Z1.F
 cases hB:U5 l with
 |false=>
  rw[hB]at a1 a2
  exact⟨[],false,Ev.bind a1 (Ev.pure _),Ev.bind a2 (Ev.pure _),by simp,(λ_ h=>by cases h),λh=>by cases h⟩
 |true=>
  rw[hB]at a1 a2
  have hl:=Um hB
  have l1:=DL lim 0 40
  have l2:=Jx lim 0 40
  cases hc:(decide (lim ≥ 0)&&decide (lim<=40))with
  |false=>
   rw[hc]at l1 l2
   exact⟨[],false,Ev.bind a1 (Ev.bind0 l1 (Ev.pure _)),Ev.bind a2 (Ev.bind0 l2 (Ev.pure _)),by simp,(λ_ h=>by cases h),λh=>by cases h⟩
  |true=>
   rw[hc]at l1 l2
   have d0:=Qaf hl hB lim [] l.entries.length 0 (by omega)
   obtain⟨lab,d1,d2⟩:=Qah hl hB lim [] (nums 0 l.entries.length).sum.toNat (nums 0 l.entries.length) (by omega) (QcF _ _)
   obtain⟨gs,o1,o2,o3,o4,o5⟩:=Q1D hl hB lim lab d2 l.entries.length 0 (by omega) [] (by simp)
   rw[List.nil_append]at o1 o2
   refine⟨_,true,Ev.bind a1 (Ev.bind0 l1 (Ev.bind d0 (Ev.bind d1 (Ev.bind o1 (Ev.pure _))))),Ev.bind a2 (Ev.bind0 l2 (Ev.bind o2 (Ev.pure _))),by rw[List.length_map];omega,λx hx=>?_,λ_=>⟨rfl,rfl,lab,gs,d2,rfl,λg hg=>(o4 g hg).2,λj x h1 h2 h3 h4 h5=>o5 j x (by omega) h1 h2 h3 h4 h5⟩⟩
   obtain⟨g,hg,rfl⟩:=List.mem_map.1 hx
   rw[List.length_map]
   exact(o4 g hg).1
end Go.Proofs.YtoojiikgbopeiaaGreatDoor
end
section
/- Plain laws: an entry found by its key,with its key. -/
namespace Go.Proofs.YtoojiikgbopeiaaGreatDoor
open Go.Gx
theorem QbC (l:Library)(key:ByteArray)(hl:l.entries.length<=1048576):∀n i:Nat,i+n=l.entries.length->
  ∃r:Sum Int Unit,Ev (λk=>Z13.l0 k key l i) r/\Ev (λk=>Z44.l0 k l.entries key l.entries.length i) r/\∀z,r= .inl z->0<=z/\z<l.entries.length/\Qr (l.entries.getD z.toNat (Q4 .entry)).key key=true
 |0,i,h=>by
  refine⟨.inr (),Ev.step (λk=>by rw[Z13.l0]) ?_,Ev.step (λk=>by rw[Z44.l0]) ?_,λz hz=>by cases hz⟩
  ·simp(disch:=omega) only[Qk];exact Ev.pure _
  ·simp(disch:=omega) only[Qk];exact Ev.pure _
 |n+1,i,h=>by
  have hi:i<l.entries.length:=by omega
  have e1:Z121.F l.entries[i] key=some (Qr l.entries[i].key key):=rfl
  cases hb:Qr l.entries[i].key key with
  |true=>
   refine⟨.inl i,Ev.step (λk=>by rw[Z13.l0]) ?_,Ev.step (λk=>by rw[Z44.l0]) ?_,λz hz=>by cases hz;exact⟨by omega,by omega,by rw[Int.toNat_natCast,getD_at hi];exact hb⟩⟩
   ·simp(disch:=omega) only[Qa,Int.toNat_natCast,getD_at hi,hb,cond_true]
    exact Ev.pure _
   ·simp(disch:=omega) only[Qa,Int.toNat_natCast,getD_at hi]
    refine Ev.bind0 e1 ?_
    rw[hb]
    exact Ev.pure _
  |false=>
   obtain⟨r,r1,r2,r3⟩:=QbC l key hl n (i+1) (by omega)
   refine⟨r,Ev.step (λk=>by rw[Z13.l0]) ?_,Ev.step (λk=>by rw[Z44.l0]) ?_,r3⟩
   ·simp(disch:=omega) only[Qa,Int.toNat_natCast,getD_at hi,hb,cond_false,wrap_in]
    exact r1
   ·simp(disch:=omega) only[Qa,Int.toNat_natCast,getD_at hi]
    refine Ev.bind0 e1 ?_
    rw[hb]
    simp(disch:=omega) only[cond_false,wrap_in]
    exact r2
theorem Q6b (l:Library)(key:ByteArray)(hl:l.entries.length<=1048576):∃r:Int,Ev (λk=>Z13.F k l key) r/\Ev (λk=>Z112.F k l key) r/\ -1<=r/\r<l.entries.length/\(0<=r->Qr (l.entries.getD r.toNat (Q4 .entry)).key key=true):=by
 obtain⟨r,r1,r2,r3⟩:=QbC l key hl l.entries.length 0 (by omega)
 unfold Z13.F Z112.F Z44.F
 cases r with
 |inl z=>exact⟨z,Ev.bind r1 (Ev.pure _),Ev.bind (Ev.bind r2 (Ev.pure _)) (Ev.pure _),by have:=r3 z rfl;omega,(r3 z rfl).2.1,λ_=>(r3 z rfl).2.2⟩
 |inr u=>exact⟨-1,Ev.bind r1 (Ev.pure _),Ev.bind (Ev.bind r2 (Ev.pure _)) (Ev.pure _),by omega,by omega,λh=>by omega⟩
end Go.Proofs.YtoojiikgbopeiaaGreatDoor
end
section
/- Plain laws: lower case,the other way. -/
namespace Go.Proofs.YtoojiikgbopeiaaGreatDoor
open Go.Gx
theorem DR (s:ByteArray)(hs:s.size<=1048576):∀n i:Nat,i+n=s.size->Ev (λk=>Z36.l0 k s (((Q2 s).take i).map Jy) i) ((Q2 s).map Jy)
 |0,i,h=>by
  refine Ev.step (λk=>by rw[Z36.l0]) ?_
  simp(disch:=omega) only[Qk]
  rw[List.take_of_length_le (by rw[Qq];omega)]
  exact Ev.pure _
 |n+1,i,h=>by
  have hl:=Qq s
  have hi:i<(Q2 s).length:=by omega
  refine Ev.step (λk=>by rw[Z36.l0]) ?_
  simp(disch:=omega) only[Qa,Int.toNat_natCast,YU s i hi]
  refine Ev.bind0 (Xe _) ?_
  have hr:room ((((Q2 s).take i).map Jy).length+([Jy (Q2 s)[i]]:List Int).length) (.int .u8)=true:=by
   unfold room
   rw[Nat.ble_eq]
   have:nb (.int .u8)=1:=rfl
   rw[this]
   simp;omega
  simp(disch:=omega) only[hr,cond_true,wrap_in]
  have e:((Q2 s).take i).map Jy++[Jy (Q2 s)[i]]=((Q2 s).take (i+1)).map Jy:=by
   rw[List.take_add_one,List.getElem?_eq_getElem hi]
   simp only[Option.toList_some,List.map_append,List.map_cons,List.map_nil]
  rw[e]
  exact DR s hs n (i+1) (by omega)
theorem Xz (s:ByteArray)(hs:s.size<=1048576):Ev (λk=>Z36.F k s) (KN s):=by
 unfold Z36.F
 exact Ev.bind (DR s hs s.size 0 (by omega)) (Ev.pure _)
end Go.Proofs.YtoojiikgbopeiaaGreatDoor
end
section
/- The plain law of SuggestKey. -/
namespace Go.Proofs.YtoojiikgbopeiaaGreatDoor
open Go.Gx
def Up:Nat->List Int->List Int
 |_,[]=>[]
 |n,b::l=>if n=0 then[]else if KL b=true then b::Up (n-1) l else Up n l
theorem Q2P (l:List Int):Up 0 l=[]:=by cases l<;>rfl
theorem Qao (b:Int):KL (Jy b)=KL b:=by
 rw[Bool.eq_iff_iff]
 unfold KL Jy
 cases h:decide (65<=b)&&decide (b<=90)with
 |true=>
  simp only[Bool.and_eq_true,decide_eq_true_eq]at h
  simp only[cond_true,Bool.true_or,Bool.or_eq_true,Bool.and_eq_true,decide_eq_true_eq,true_or,iff_true]
  omega
 |false=>simp only[cond_false,h]
theorem Q1F:∀(l:List Int) (n:Nat),Up n (l.map Jy)=(Up n l).map Jy
 |[],n=>rfl
 |b::l,n=>by
  rw[List.map_cons]
  unfold Up
  by_cases h:n=0
  ·rw[if_pos h,if_pos h];rfl
  ·rw[if_neg h,if_neg h,Qao]
   by_cases h2:KL b=true
   ·rw[if_pos h2,if_pos h2,Q1F l];rfl
   ·rw[if_neg h2,if_neg h2,Q1F l]
theorem Q1G:∀(l:List Int) (n:Nat),∀b∈Up n l,b∈l
 |[],n,b,h=>h
 |c::l,n,b,h=>by
  unfold Up at h
  by_cases h1:n=0
  ·rw[if_pos h1]at h;cases h
  ·rw[if_neg h1]at h
   by_cases h2:KL c=true
   ·rw[if_pos h2]at h
    rcases List.mem_cons.1 h with rfl|h
    ·exact List.mem_cons_self
    ·exact List.mem_cons_of_mem _ (Q1G l _ b h)
   ·rw[if_neg h2]at h
    exact List.mem_cons_of_mem _ (Q1G l _ b h)
theorem DT:∀(l:List Int) (n:Nat),(Up n l).length<=n
 |[],n=>Nat.zero_le _
 |c::l,n=>by
  unfold Up
  by_cases h1:n=0
  ·rw[if_pos h1];exact Nat.zero_le _
  ·rw[if_neg h1]
   by_cases h2:KL c=true
   ·rw[if_pos h2,List.length_cons]
    have:=DT l (n-1)
    omega
   ·rw[if_neg h2];exact DT l n
theorem Qap (a b:List Int):QY (a++b)=QY a++QY b:=by
 apply YS
 rw[QR,YK,YK,YK,List.map_append]
theorem Qbd (s:ByteArray)(i:Nat)(h:i<(Q2 s).length):s.extract i (i+1)=QY [(Q2 s)[i]]:=by
 apply YS
 have hL:i<(L s).length:=by rw[Qq]at h;exact h
 have e:(L s)[i]? =some (L s)[i]:=List.getElem?_eq_getElem hL
 rw[QW,YK,List.take_add_one,e,List.drop_append_of_le_length (by rw[List.length_take,Jh];rw[Qq]at h;omega)]
 have e0:((L s).take i).drop i=[]:=List.drop_eq_nil_of_le (by simp;omega)
 rw[e0]
 simp[YH]
theorem Q1H (ys:List Int)(h:∀y∈ys,0<=y/\y<=255):Q2 (QY ys)=ys:=by
 rw[YH,YK,List.map_map]
 conv=>rhs;rw[<-List.map_id ys]
 refine List.map_congr_left λy hy=>?_
 have:=h y hy
 simp only[Function.comp,id]
 rw[UInt8.toNat_ofNat_of_lt' (show y.toNat<UInt8.size by have:UInt8.size=256:=rfl;omega)]
 omega
theorem Qaq {b:Int}(h:0<=b/\b<=255):0<=Jy b/\Jy b<=255:=by
 unfold Jy
 cases h2:decide (65<=b)&&decide (b<=90)with
 |true=>
  simp only[Bool.and_eq_true,decide_eq_true_eq]at h2
  simp only[cond_true];omega
 |false=>simp only[cond_false];exact h
theorem Q1I {s:ByteArray}{b:Int}(h:b∈Q2 s):0<=b/\b<=255:=by
 obtain⟨i,hi,rfl⟩:=List.getElem_of_mem h
 exact XW s i hi
theorem Qar (b:Int):ltr b=KL b:=by unfold ltr upc Gs KL;rfl
theorem Q6c (l:Library)(e:Entry)(nm:ByteArray)(hn:nm.size<=1048576):∀n i:Nat,i+n=nm.size->∀acc:ByteArray,acc.size<=6->Ev (λk=>Z6.l0 k l e acc nm i) (l,e,acc++QY (Up (6-acc.size) ((Q2 nm).drop i)))
 |0,i,h,acc,ha=>by
  have hl:=Qq nm
  refine Ev.step (λk=>by rw[Z6.l0]) ?_
  simp(disch:=omega) only[Qk]
  rw[List.drop_eq_nil_of_le (by omega)]
  have:acc++QY (Up (6-acc.size) [])=acc:=YS (by rw[QR];simp[Up,YK])
  rw[this]
  exact Ev.pure _
 |n+1,i,h,acc,ha=>by
  have hl:=Qq nm
  have hi:i<(Q2 nm).length:=by omega
  refine Ev.step (λk=>by rw[Z6.l0]) ?_
  by_cases c:acc.size<6
  ·simp(disch:=omega) only[Qa,Int.toNat_natCast,YU nm i hi]
   refine Ev.bind0 (KU _) ?_
   rw[List.drop_eq_getElem_cons hi]
   conv=>rhs;rw[Up]
   rw[if_neg (by omega)]
   cases hb:KL (Q2 nm)[i]with
   |true=>
    have e1:((i:Int)+1).toNat=i+1:=by omega
    have e2:(QY [(Q2 nm)[i]]).size=1:=JO _
    rw[if_pos rfl]
    simp(disch:=first|omega|(rw[e2];omega)) only[cond_true,Qa,wrap_in,e1,Qbd nm i hi,Xa]
    have:=Q6c l e nm hn n (i+1) (by omega) (acc++QY [(Q2 nm)[i]]) (by rw[Jo,e2];omega)
    rw[Jo,e2,show 6-(acc.size+1)=6-acc.size-1 by omega]at this
    refine this.eq ?_
    rw[show(Q2 nm)[i]::Up (6-acc.size-1) ((Q2 nm).drop (i+1))=[(Q2 nm)[i]]++Up (6-acc.size-1) ((Q2 nm).drop (i+1))from rfl,Qap]
    congr 2
    exact YS (by rw[QR,QR,QR,QR,List.append_assoc])
   |false=>
    rw[if_neg (by decide)]
    simp(disch:=omega) only[cond_false,wrap_in]
    exact Q6c l e nm hn n (i+1) (by omega) acc ha
  ·simp(disch:=omega) only[Qa,Qk]
   rw[show 6-acc.size=0 by omega,Q2P]
   have:acc++QY []=acc:=YS (by rw[QR];simp[YK])
   rw[this]
   exact Ev.pure _
theorem Dc (s:ByteArray)(hs:s.size<=1048576):∀n i:Nat,i+n=s.size->∀acc:List Int,acc.length<=6->Ev (λk=>Z47.l0 k s 6 acc i) (acc++Up (6-acc.length) ((Q2 s).drop i))
 |0,i,h,acc,ha=>by
  have hl:=Qq s
  refine Ev.step (λk=>by rw[Z47.l0]) ?_
  simp(disch:=omega) only[Qk]
  rw[List.drop_eq_nil_of_le (by omega)]
  simp only[Up,List.append_nil]
  exact Ev.pure _
 |n+1,i,h,acc,ha=>by
  have hl:=Qq s
  have hi:i<(Q2 s).length:=by omega
  refine Ev.step (λk=>by rw[Z47.l0]) ?_
  by_cases c:acc.length<6
  ·simp(disch:=omega) only[Qa,Int.toNat_natCast,YU s i hi]
   refine Ev.bind0 (KF _) ?_
   rw[Qar,List.drop_eq_getElem_cons hi]
   conv=>rhs;rw[Up]
   rw[if_neg (by omega)]
   cases hb:KL (Q2 s)[i]with
   |true=>
    have hr:room (acc.length+([(Q2 s)[i]]:List Int).length) (.int .u8)=true:=by
     unfold room
     rw[Nat.ble_eq]
     have:nb (.int .u8)=1:=rfl
     rw[this];simp;omega
    rw[if_pos rfl]
    simp(disch:=omega) only[cond_true,hr,wrap_in]
    have:=Dc s hs n (i+1) (by omega) (acc++[(Q2 s)[i]]) (by simp;omega)
    rw[List.append_assoc,List.length_append,List.length_singleton,show 6-(acc.length+1)=6-acc.length-1 by omega]at this
    exact this
   |false=>
    rw[if_neg (by decide)]
    simp(disch:=omega) only[cond_false,wrap_in]
    exact Dc s hs n (i+1) (by omega) acc ha
  ·simp(disch:=omega) only[Qa,Qk]
   rw[show 6-acc.length=0 by omega,Q2P,List.append_nil]
   exact Ev.pure _
def Q1J (s:ByteArray):ByteArray:=QY ((Up 6 (Q2 s)).map Jy)
theorem Q6d (s:ByteArray):(Q1J s).size<=6:=by
 unfold Q1J
 rw[JO,List.length_map]
 exact DT _ 6
theorem Q4Z (l:Library)(e:Entry)(s:ByteArray)(hs:s.size<=1048576):Ev (λk=>Z6.l0 k l e ⟨#[]⟩ (KN s) 0) (l,e,Q1J s):=by
 have h1:=Gv s
 have:=Q6c l e (KN s) (by omega) (KN s).size 0 (by omega) ⟨#[]⟩ (Nat.zero_le _)
 refine this.eq ?_
 have eb:Q2 (KN s)=(Q2 s).map Jy:=by
  unfold KN
  exact Q1H _ λy hy=>by
   obtain⟨b,hb,rfl⟩:=List.mem_map.1 hy
   exact Qaq (Q1I hb)
 rw[List.drop_zero,eb]
 congr 2
 show(⟨#[]⟩:ByteArray)++QY (Up 6 _)=_
 rw[Q1F]
 exact YS (by rw[QR];rfl)
theorem Q50 (s:ByteArray)(hs:s.size<=1048576):∃t,Ev (λk=>Z47.F k s 6) t/\Ev (λk=>Z30.F k t) (Q1J s):=by
 have:=Dc s hs s.size 0 (by omega) [] (Nat.zero_le _)
 rw[List.drop_zero,List.nil_append]at this
 refine⟨QY (Up 6 (Q2 s)),?_,?_⟩
 ·unfold Z47.F
  exact Ev.bind this (Ev.pure _)
 ·have hl:=DT (Q2 s) 6
  have:=Q4K (QY (Up 6 (Q2 s))) (by rw[JO];omega)
  refine this.eq ?_
  unfold KN Q1J
  rw[Q1H]
  intro y hy
  exact Q1I (Q1G _ _ y hy)
def dgt (n:Nat):ByteArray:=QY [((48+n:Nat):Int)]
theorem Xf (n:Nat):(dgt n).size=1:=JO _
theorem Q51 (n:Nat)(h:n<10):Ev (λk=>Z54.F k (n:Int)) (dgt n):=by
 refine Ev.step (λk=>by rw[Z54.F]) ?_
 have hs:((⟨#[48,49,50,51,52,53,54,55,56,57]⟩:ByteArray).size:Int)=10:=rfl
 have e1:((n:Int)+1).toNat=n+1:=by omega
 simp(disch:=first|omega|(rw[hs];omega)) only[Qa,Qk,wrap_in,Int.toNat_natCast,e1,hs]
 refine(Ev.pure _).eq ?_
 rcases n with _|_|_|_|_|_|_|_|_|_|n
 all_goals first
  |rfl
  |omega
def two (n:Nat):ByteArray:=dgt (n / 10)++dgt (n % 10)
theorem Q8d (n:Nat)(h:n<100):Ev (λk=>Z43.F k (n:Int) 2) (two n):=by
 unfold Z43.F
 have hi:Z127.F (n:Int)=some ⟨(Lib.decDigits n).toArray⟩:=by
  unfold Z127.F Q6P
  rw[decide_eq_true (by omega),decide_eq_true (by omega),Int.toNat_natCast];rfl
 have sz:∀l:List UInt8,(⟨l.toArray⟩:ByteArray).size=l.length:=λl=>size_mk l
 have d0:∀m:Nat,m<10->(⟨[UInt8.ofNat (48+m)].toArray⟩:ByteArray)=dgt m:=λm _=>by
  apply YS
  unfold dgt
  rw[Q5W,YK,List.map_cons,List.map_nil]
  congr 2
 refine Ev.bind0 hi (Ev.bind (a:=two n) ?_ (Ev.pure _))
 have e48:(⟨#[48]⟩:ByteArray).size=1:=rfl
 by_cases c:n<10
 ·rw[Lib.decDigits_one c]
  refine Ev.step (λk=>by rw[Z43.l0]) ?_
  have s1:(⟨[UInt8.ofNat (48+n)].toArray⟩:ByteArray).size=1:=sz _
  simp(disch:=first|(rw[s1];omega)|(rw[s1,e48];omega)|omega) only[Qa,Xa]
  refine Ev.step (λk=>by rw[Z43.l0]) ?_
  have s2:((⟨#[48]⟩:ByteArray)++⟨[UInt8.ofNat (48+n)].toArray⟩).size=2:=by rw[Jo,s1,e48]
  simp(disch:=first|(rw[s2];omega)|omega) only[Qk]
  refine(Ev.pure _).eq ?_
  unfold two
  rw[d0 n c,show n / 10=0 by omega,show n % 10=n by omega]
  rfl
 ·rw[Lib.decDigits_two c h]
  refine Ev.step (λk=>by rw[Z43.l0]) ?_
  have s2:(⟨[UInt8.ofNat (48+n / 10),UInt8.ofNat (48+n % 10)].toArray⟩:ByteArray).size=2:=sz _
  simp(disch:=first|(rw[s2];omega)|omega) only[Qk]
  refine(Ev.pure _).eq ?_
  unfold two
  rw[<-d0 (n / 10) (by omega),<-d0 (n % 10) (by omega)]
  apply YS
  rw[QR,Q5W,Q5W,Q5W];rfl
theorem Q1K (n:Nat):(two n).size=2:=by unfold two;rw[Jo,Xf,Xf]
theorem pig (g:Nat->ByteArray)(hg:∀i j,i<100->j<100->g i=g j->i=j):∀(n:Nat),n<100->∀(K:List ByteArray),K.length<=n->∃i,i<=n/\g i ∉ K
 |0,_,K,h=>⟨0,Nat.le_refl _,by rw[List.eq_nil_of_length_eq_zero (by omega:K.length=0)];exact List.not_mem_nil⟩
 |n+1,hn,K,h=>by
  by_cases c:g (n+1)∈K
  ·have hlt:(K.filter λx=> !Qr x (g (n+1))).length<K.length:=List.length_filter_lt_length_iff_exists.2 ⟨_,c,by rw[Xb];decide⟩
   obtain⟨i,hi,hm⟩:=pig g hg n (by omega) (K.filter λx=> !Qr x (g (n+1))) (by omega)
   refine⟨i,by omega,λhk=>hm (List.mem_filter.2 ⟨hk,?_⟩)⟩
   cases e:Qr (g i) (g (n+1))with
   |false=>rfl
   |true=>have:=hg i (n+1) (by omega) (by omega) (YT.1 e);omega
  ·exact⟨n+1,Nat.le_refl _,c⟩
def Q1Z (t:ByteArray)(j:Nat):ByteArray:=t++QY [((97+j:Nat):Int)]
theorem Qas (t:ByteArray)(i j:Nat)(hi:i<100)(hj:j<100)(h:Q1Z t i=Q1Z t j):i=j:=by
 have:=congrArg L h
 unfold Q1Z at this
 rw[QR,QR]at this
 have:=List.append_cancel_left this
 rw[YK,YK]at this
 simp only[List.map_cons,List.map_nil,List.cons.injEq,and_true]at this
 have:=congrArg UInt8.toNat this
 rw[UInt8.toNat_ofNat_of_lt' (show((97+i:Nat):Int).toNat<UInt8.size by have:UInt8.size=256:=rfl;omega),UInt8.toNat_ofNat_of_lt' (show((97+j:Nat):Int).toNat<UInt8.size by have:UInt8.size=256:=rfl;omega)]at this
 omega
def Qat (l:Library):List ByteArray:=l.entries.map (·.key)
def Fr (l:Library)(n:Nat)(r:ByteArray):Prop:=r.size<=n/\∃z:Int,z<0/\Ev (λk=>Z13.F k l r) z
theorem Qca (l:Library)(hl:l.entries.length<=8)(b y:ByteArray)(hb:b.size<=1000)(hy:y.size<=1000):∀m j:Nat,j+m<=50->(∃i,j<=i/\i<=j+m/\Q1Z (b++y) i ∉ Qat l)->
  ∃r,Ev (λk=>Z6.l2 k l (b++y) ((97+j:Nat):Int)) (r,true)/\Ev (λk=>Z19.l0 k l b y (Q1Z (b++y) j) ((97+(j+1):Nat):Int)) r/\Fr l (b.size+y.size+1) r:=λm=>by
 induction m with
 |zero=>
  rintro j hj ⟨i,h1,h2,h3⟩
  obtain rfl:i=j:=by omega
  obtain⟨z,z1,z2,z3,z4,z5⟩:=Q6b l (Q1Z (b++y) i) (by omega)
  have hz:z<0:=by
   by_cases h:z<0
   ·exact h
   ·exfalso
    apply h3
    have:=YT.1 (z5 (by omega))
    rw[<-this]
    have hz':z.toNat<l.entries.length:=by omega
    rw[getD_at hz']
    exact List.mem_map.2 ⟨_,List.getElem_mem hz',rfl⟩
  have s1:(QY [((97+i:Nat):Int)]).size=1:=JO _
  have sb:=Jo b y
  refine⟨Q1Z (b++y) i,Ev.step (λk=>by rw[Z6.l2]) ?_,Ev.step (λk=>by rw[Z19.l0]) ?_,⟨by show((b++y)++QY [((97+i:Nat):Int)]).size<=_;rw[Jo,s1,sb];omega,z,hz,z1⟩⟩
  ·simp(disch:=first|(rw[s1,sb];omega)|omega) only[Xa]
   refine Ev.bind z1 ?_
   simp(disch:=omega) only[Qa]
   exact Ev.pure _
  ·refine Ev.bind z2 ?_
   simp(disch:=omega) only[Qk]
   exact Ev.pure _
 |succ m ih=>
  rintro j hj ⟨i,h1,h2,h3⟩
  obtain⟨z,z1,z2,z3,z4,z5⟩:=Q6b l (Q1Z (b++y) j) (by omega)
  have s1:(QY [((97+j:Nat):Int)]).size=1:=JO _
  have s2:(QY [((97+(j+1):Nat):Int)]).size=1:=JO _
  have sb:=Jo b y
  by_cases hz:z<0
  ·refine⟨Q1Z (b++y) j,Ev.step (λk=>by rw[Z6.l2]) ?_,Ev.step (λk=>by rw[Z19.l0]) ?_,⟨by show((b++y)++QY [((97+j:Nat):Int)]).size<=_;rw[Jo,s1,sb];omega,z,hz,z1⟩⟩
   ·simp(disch:=first|(rw[s1,sb];omega)|omega) only[Xa]
    refine Ev.bind z1 ?_
    simp(disch:=omega) only[Qa]
    exact Ev.pure _
   ·refine Ev.bind z2 ?_
    simp(disch:=omega) only[Qk]
    exact Ev.pure _
  ·have hij:i≠j:=by
    rintro rfl
    apply h3
    have:=YT.1 (z5 (by omega))
    rw[<-this]
    have hz':z.toNat<l.entries.length:=by omega
    rw[getD_at hz']
    exact List.mem_map.2 ⟨_,List.getElem_mem hz',rfl⟩
   obtain⟨r,r1,r2,r3⟩:=ih (j+1) (by omega) ⟨i,by omega,by omega,h3⟩
   have w1:IntKind.wrap .u8 (((97+j:Nat):Int)+1)=((97+(j+1):Nat):Int):=by rw[IntKind.wrap_u8];omega
   have w2:IntKind.wrap .u8 (((97+(j+1):Nat):Int)+1)=((97+(j+1+1):Nat):Int):=by rw[IntKind.wrap_u8];omega
   refine⟨r,Ev.step (λk=>by rw[Z6.l2]) ?_,Ev.step (λk=>by rw[Z19.l0]) ?_,r3⟩
   ·simp(disch:=first|(rw[s1,sb];omega)|omega) only[Xa]
    refine Ev.bind z1 ?_
    simp(disch:=omega) only[Qk,w1]
    exact r1
   ·refine Ev.bind z2 ?_
    simp(disch:=first|(rw[s2,sb];omega)|omega) only[Qa,Xa,w2]
    exact r2
theorem Q73 (l:Library)(hl:l.entries.length<=8)(b y:ByteArray)(hb:b.size<=1000)(hy:y.size<=1000):∃r z,Ev (λk=>Z13.F k l (b++y)) z/\Ev (λk=>Z19.l0 k l b y (b++y) 97) r/\
  ((z<0/\r=b++y)\/(¬z<0/\Ev (λk=>Z6.l2 k l (b++y) 97) (r,true)))/\Fr l (b.size+y.size+1) r:=by
 obtain⟨z,z1,z2,z3,z4,z5⟩:=Q6b l (b++y) (by omega)
 have sb:=Jo b y
 by_cases hz:z<0
 ·refine⟨b++y,z,z1,Ev.step (λk=>by rw[Z19.l0]) ?_,.inl ⟨hz,rfl⟩,⟨by rw[sb];omega,z,hz,z1⟩⟩
  refine Ev.bind z2 ?_
  simp(disch:=omega) only[Qk]
  exact Ev.pure _
 ·obtain⟨i,hi,hm⟩:=pig (Q1Z (b++y)) (λi j h1 h2 h=>Qas _ i j h1 h2 h) 8 (by omega) (Qat l) (by unfold Qat;rw[List.length_map];exact hl)
  obtain⟨r,r1,r2,r3⟩:=Qca l hl b y hb hy 8 0 (by omega) ⟨i,by omega,by omega,hm⟩
  have s1:(QY [(97:Int)]).size=1:=JO _
  refine⟨r,z,z1,Ev.step (λk=>by rw[Z19.l0]) ?_,.inr ⟨hz,r1⟩,r3⟩
  refine Ev.bind z2 ?_
  have w1:IntKind.wrap .u8 ((97:Int)+1)=98:=by rw[IntKind.wrap_u8];omega
  simp(disch:=first|(rw[s1,sb];omega)|omega) only[Qa,Xa,w1]
  exact r2
theorem Q2Q {d:Date}(h:Q2L d=true):d.y=0\/(1<=d.y/\d.y<=2999):=by
 have hd:=Q03 d
 rw[h]at hd
 unfold Z82.F at hd
 cases c:(d.y==0&&(d.m==0&&(d.d==0&&d.c==false)))with
 |true=>
  rw[Bool.and_eq_true,beq_iff_eq]at c
  exact .inl c.1
 |false=>
  rw[c,DL]at hd
  simp only[Option.bind_some,cond_false]at hd
  cases c1:(decide (d.y ≥ 1)&&decide (d.y<=2999))with
  |true=>
   simp only[Bool.and_eq_true,decide_eq_true_eq]at c1
   exact .inr ⟨c1.1,c1.2⟩
  |false=>
   rw[c1]at hd
   cases hd
theorem Q52 {e:Entry}(h:JE e=true):Q2L e.date=true/\∀n∈e.authors,n.family.size<=12:=by
 unfold JE at h
 simp only[Bool.and_eq_true]at h
 refine⟨h.2.2.2.2.2.2.2.2.1,λn hn=>?_⟩
 have h1:=h.2.2.1
 unfold Y8 at h1
 rw[Bool.and_eq_true,List.all_eq_true]at h1
 have h2:=h1.1 n hn
 unfold nameB at h2
 simp only[Bool.and_eq_true]at h2
 have h3:=h2.2.2.2.1
 unfold gw at h3
 rw[Bool.and_eq_true]at h3
 have h4:=h3.1
 unfold Ul at h4
 rw[Bool.and_eq_true]at h4
 have:=XX h4.1
 omega
theorem Q74 (l:Library)(hl:l.entries.length<=8)(b:ByteArray)(hb:b.size<=6):∃r,Ev (λk=>bif Nat.ble (b.size+(⟨#[110,100]⟩:ByteArray).size) 9223372036854775807 then((Z13.F k l (b++(⟨#[110,100]⟩:ByteArray))).bind λr6=>bif (decide (r6<0))then(some ((b++(⟨#[110,100]⟩:ByteArray)),true))else((Z6.l2 k l (b++(⟨#[110,100]⟩:ByteArray)) 97).bind λy8=>some (y8.1,y8.2)))else none) (r,true)/\
  Ev (λk=>bif Nat.ble (b.size+(⟨#[110,100]⟩:ByteArray).size) 9223372036854775807 then((Z19.l0 k l b (⟨#[110,100]⟩:ByteArray) (b++(⟨#[110,100]⟩:ByteArray)) 97).bind λy9=>some (y9,true))else none) (r,true)/\Fr l 9 r:=by
 have s2:(⟨#[110,100]⟩:ByteArray).size=2:=rfl
 obtain⟨r,z,z1,z2,z3,z4⟩:=Q73 l hl b ⟨#[110,100]⟩ (by omega) (by rw[s2];omega)
 refine⟨r,?_,?_,⟨by have:=z4.1;omega,z4.2⟩⟩
 ·simp(disch:=(rw[s2];omega)) only[Xa]
  refine Ev.bind z1 ?_
  rcases z3 with⟨h1,rfl⟩|⟨h1,h2⟩
  ·simp(disch:=omega) only[Qa];exact Ev.pure _
  ·simp(disch:=omega) only[Qk];exact Ev.bind h2 (Ev.pure _)
 ·simp(disch:=(rw[s2];omega)) only[Xa]
  exact Ev.bind z2 (Ev.pure _)
theorem Q75 (l:Library)(hl:l.entries.length<=8)(b:ByteArray)(hb:b.size<=6)(y:Int)(h0:1<=y)(h1:y<=2999):∃r,Ev (λk=>(Z54.F k (Int.tmod (IntKind.wrap .i64 (Int.tdiv y 10)) 10)).bind λr9=>bif Nat.ble (b.size+r9.size) 9223372036854775807 then(bif (10==0)then(none)else((Z54.F k (Int.tmod y 10)).bind λr10=>bif Nat.ble ((b++r9).size+r10.size) 9223372036854775807 then((Z13.F k l ((b++r9)++r10)).bind λr11=>bif (decide (r11<0))then(some (((b++r9)++r10),true))else((Z6.l2 k l ((b++r9)++r10) 97).bind λy13=>some (y13.1,y13.2)))else none))else none) (r,true)/\
  Ev (λk=>(Z43.F k (Int.tmod y 100) 2).bind λr5=>bif Nat.ble (b.size+r5.size) 9223372036854775807 then((Z19.l0 k l b r5 (b++r5) 97).bind λy7=>some (y7,true))else none) (r,true)/\Fr l 9 r:=by
 obtain⟨n,rfl⟩:∃n:Nat,y=n:=⟨y.toNat,by omega⟩
 have e1:Int.tdiv (n:Int) 10=((n / 10:Nat):Int):=by rw[Int.tdiv_eq_ediv_of_nonneg (by omega)];omega
 have e2:Int.tmod (((n / 10:Nat):Int)) 10=((n / 10 % 10:Nat):Int):=by rw[Int.tmod_eq_emod_of_nonneg (by omega)];omega
 have e3:Int.tmod (n:Int) 10=((n % 10:Nat):Int):=by rw[Int.tmod_eq_emod_of_nonneg (by omega)];omega
 have e4:Int.tmod (n:Int) 100=((n % 100:Nat):Int):=by rw[Int.tmod_eq_emod_of_nonneg (by omega)];omega
 have w:IntKind.wrap .i64 ((n / 10:Nat):Int)=((n / 10:Nat):Int):=wrap_in (by omega) (by omega)
 rw[e1,w,e2,e3,e4]
 have ht:two (n % 100)=dgt (n / 10 % 10)++dgt (n % 10):=by
  unfold two
  rw[show n % 100 / 10=n / 10 % 10 by omega,show n % 100 % 10=n % 10 by omega]
 obtain⟨r,z,z1,z2,z3,z4⟩:=Q73 l hl b (two (n % 100)) (by omega) (by rw[Q1K];omega)
 have ha:(b++dgt (n / 10 % 10))++dgt (n % 10)=b++two (n % 100):=by
  rw[ht]
  exact YS (by rw[QR,QR,QR,QR,List.append_assoc])
 refine⟨r,?_,?_,⟨by have:=z4.1;rw[Q1K]at this;omega,z4.2⟩⟩
 ·refine Ev.bind (Q51 _ (by omega)) ?_
  have q:((10:Nat)==0)=false:=rfl
  simp(disch:=first|(rw[Xf];omega)|(rw[Jo,Xf];omega)|omega) only[Xa,q,cond_false]
  refine Ev.bind (Q51 _ (by omega)) ?_
  simp(disch:=first|(rw[Jo,Xf,Xf];omega)|omega) only[Xa,ha]
  refine Ev.bind z1 ?_
  rcases z3 with⟨h1,rfl⟩|⟨h1,h2⟩
  ·simp(disch:=omega) only[Qa];exact Ev.pure _
  ·simp(disch:=omega) only[Qk];exact Ev.bind h2 (Ev.pure _)
 ·refine Ev.bind (Q8d _ (by omega)) ?_
  simp(disch:=(rw[Q1K];omega)) only[Xa]
  exact Ev.bind z2 (Ev.pure _)
theorem Q1L (l:Library)(e:Entry)(sl:JZ l)(se:Y7 e):∃r,Ev (λk=>Z6.F k l e) r/\Ev (λk=>Z19.F k l e) r/\(r.2=true->Fr l 9 r.1/\U5 l=true):=by
 have a1:=YJ l sl
 have a2:=Q1t l sl
 have b1:=Yx e se
 have b2:=YI e se
 unfold Z6.F Z19.F
 cases ha:U5 l with
 |false=>
  rw[ha]at a1 a2
  exact⟨_,Ev.bind a1 (Ev.pure _),Ev.bind a2 (Ev.pure _),λh=>by cases h⟩
 |true=>
  rw[ha]at a1 a2
  cases hb:JE e with
  |false=>
   rw[hb]at b1 b2
   exact⟨_,Ev.bind a1 (Ev.bind b1 (Ev.pure _)),Ev.bind a2 (Ev.bind b2 (Ev.pure _)),λh=>by cases h⟩
  |true=>
   rw[hb]at b1 b2
   have hl:=Um ha
   obtain⟨hd,hf⟩:=Q52 hb
   have q:((10:Nat)==0)=false:=rfl
   have q2:((100:Nat)==0)=false:=rfl
   by_cases c:(e.authors.length:Int) > 0
   ·have h0:0<e.authors.length:=by omega
    have hfam:=hf _ (List.getElem_mem h0)
    obtain⟨t,t1,t2⟩:=Q50 e.authors[0].family (by omega)
    have s1:=Q4Z l e e.authors[0].family (by omega)
    have hbs:=Q6d e.authors[0].family
    rcases Q2Q hd with hy|⟨hy1,hy2⟩
    ·obtain⟨r,r1,r2,r3⟩:=Q74 l hl (Q1J e.authors[0].family) hbs
     refine⟨(r,true),Ev.bind a1 (Ev.bind b1 ?_),Ev.bind a2 (Ev.bind b2 ?_),λ_=>⟨r3,rfl⟩⟩
     ·simp(disch:=omega) only[Bool.not_true,cond_false,Qa,show(0:Int).toNat=0 from rfl,getD_at h0]
      refine Ev.bind (Xz _ (by omega)) (Ev.bind s1 ?_)
      simp(disch:=omega) only[ceq]
      exact r1
     ·simp(disch:=omega) only[Bool.not_true,cond_false,Qa,show(0:Int).toNat=0 from rfl,getD_at h0]
      refine Ev.bind t1 (Ev.bind t2 ?_)
      simp(disch:=omega) only[Qk]
      exact r2
    ·obtain⟨r,r1,r2,r3⟩:=Q75 l hl (Q1J e.authors[0].family) hbs e.date.y hy1 hy2
     refine⟨(r,true),Ev.bind a1 (Ev.bind b1 ?_),Ev.bind a2 (Ev.bind b2 ?_),λ_=>⟨r3,rfl⟩⟩
     ·simp(disch:=omega) only[Bool.not_true,cond_false,Qa,show(0:Int).toNat=0 from rfl,getD_at h0]
      refine Ev.bind (Xz _ (by omega)) (Ev.bind s1 ?_)
      simp(disch:=omega) only[cne,q,cond_false]
      exact r1
     ·simp(disch:=omega) only[Bool.not_true,cond_false,Qa,show(0:Int).toNat=0 from rfl,getD_at h0]
      refine Ev.bind t1 (Ev.bind t2 ?_)
      simp(disch:=omega) only[Qa,q2,cond_false]
      exact r2
   ·have hbs:(⟨#[97,110,111,110]⟩:ByteArray).size<=6:=by decide
    rcases Q2Q hd with hy|⟨hy1,hy2⟩
    ·obtain⟨r,r1,r2,r3⟩:=Q74 l hl ⟨#[97,110,111,110]⟩ hbs
     refine⟨(r,true),Ev.bind a1 (Ev.bind b1 ?_),Ev.bind a2 (Ev.bind b2 ?_),λ_=>⟨r3,rfl⟩⟩
     ·simp(disch:=omega) only[Bool.not_true,cond_false,Qk,ceq]
      exact r1
     ·simp(disch:=omega) only[Bool.not_true,cond_false,Qk]
      exact r2
    ·obtain⟨r,r1,r2,r3⟩:=Q75 l hl ⟨#[97,110,111,110]⟩ hbs e.date.y hy1 hy2
     refine⟨(r,true),Ev.bind a1 (Ev.bind b1 ?_),Ev.bind a2 (Ev.bind b2 ?_),λ_=>⟨r3,rfl⟩⟩
     ·simp(disch:=omega) only[Bool.not_true,cond_false,Qk,cne,q]
      exact r1
     ·simp(disch:=omega) only[Bool.not_true,cond_false,Qk,Qa,q2]
      exact r2
end Go.Proofs.YtoojiikgbopeiaaGreatDoor
end
section
/- The plain law of BestMatch. -/
namespace Go.Proofs.YtoojiikgbopeiaaGreatDoor
open Go.Gx
theorem Q6e (l:Library)(e:Entry)(hv:U5 l=true)(he:Y5 e.title=true):∀n i:Nat,i+n=l.entries.length->1<=i->∀j:Nat,j<l.entries.length->(∀t,t<i->dW (l.entries.getD j (Q4 .entry)).title e.title<=dW (l.entries.getD t (Q4 .entry)).title e.title)->
  ∃q:Nat,q<l.entries.length/\(∀t,t<l.entries.length->dW (l.entries.getD q (Q4 .entry)).title e.title<=dW (l.entries.getD t (Q4 .entry)).title e.title)/\Ev (λk=>Z34.l0 k l e j i) (l,e,(q:Int))/\
   Ev (λk=>Z26.l0 k e (l.entries.getD j (Q4 .entry)).key (dW (l.entries.getD j (Q4 .entry)).title e.title) l.entries l.entries.length i) ((l.entries.getD q (Q4 .entry)).key,dW (l.entries.getD q (Q4 .entry)).title e.title)
 |0,i,h,h1,j,hj,hm=>by
  refine⟨j,hj,λt ht=>hm t (by omega),Ev.step (λk=>by rw[Z34.l0]) ?_,Ev.step (λk=>by rw[Z26.l0]) ?_⟩
  ·simp(disch:=omega) only[Qk];exact Ev.pure _
  ·simp(disch:=omega) only[Qk];exact Ev.pure _
 |n+1,i,h,h1,j,hj,hm=>by
  have hl:=Um hv
  have hi:i<l.entries.length:=by omega
  have ti:Y5 (l.entries.getD i (Q4 .entry)).title=true:=by rw[getD_at hi];exact(J8 (U6 hv hi)).2
  have tj:Y5 (l.entries.getD j (Q4 .entry)).title=true:=by rw[getD_at hj];exact(J8 (U6 hv hj)).2
  obtain⟨i1,i2,i3⟩:=Q4R _ _ ti he
  obtain⟨j1,j2,j3⟩:=Q4R _ _ tj he
  by_cases c:dW (l.entries.getD i (Q4 .entry)).title e.title<dW (l.entries.getD j (Q4 .entry)).title e.title
  ·obtain⟨q,q1,q0,q2,q3⟩:=Q6e l e hv he n (i+1) (by omega) (by omega) i hi (λt ht=>by
    by_cases et:t=i
    ·rw[et];exact Int.le_refl _
    ·have:=hm t (by omega);omega)
   refine⟨q,q1,q0,Ev.step (λk=>by rw[Z34.l0]) ?_,Ev.step (λk=>by rw[Z26.l0]) ?_⟩
   ·simp(disch:=omega) only[Qa,Int.toNat_natCast]
    refine Ev.bind i1 (Ev.bind j1 ?_)
    simp(disch:=omega) only[Qa,wrap_in]
    exact q2
   ·simp(disch:=omega) only[Qa,Int.toNat_natCast]
    refine Ev.bind i2 ?_
    simp(disch:=omega) only[Qa,Qk,wrap_in]
    exact q3
  ·obtain⟨q,q1,q0,q2,q3⟩:=Q6e l e hv he n (i+1) (by omega) (by omega) j hj (λt ht=>by
    by_cases et:t=i
    ·rw[et];omega
    ·exact hm t (by omega))
   refine⟨q,q1,q0,Ev.step (λk=>by rw[Z34.l0]) ?_,Ev.step (λk=>by rw[Z26.l0]) ?_⟩
   ·simp(disch:=omega) only[Qa,Int.toNat_natCast]
    refine Ev.bind i1 (Ev.bind j1 ?_)
    simp(disch:=omega) only[Qk,wrap_in]
    exact q2
   ·simp(disch:=omega) only[Qa,Int.toNat_natCast]
    refine Ev.bind i2 ?_
    simp(disch:=omega) only[Qk,wrap_in]
    exact q3
theorem Q3D (l:Library)(e:Entry)(sl:JZ l)(se:Y7 e):∃r,Ev (λk=>Z34.F k l e) r/\Ev (λk=>Z26.F k l e) r/\(r.2.2=true->U5 l=true/\JE e=true/\∀t,t<l.entries.length->r.2.1<=dW (l.entries.getD t (Q4 .entry)).title e.title):=by
 have a1:=YJ l sl
 have a2:=Q1t l sl
 have b1:=Yx e se
 have b2:=YI e se
 unfold Z34.F Z26.F
 cases ha:U5 l with
 |false=>
  rw[ha]at a1 a2
  exact⟨_,Ev.bind a1 (Ev.pure _),Ev.bind a2 (Ev.pure _),λh=>by cases h⟩
 |true=>
  rw[ha]at a1 a2
  cases hb:JE e with
  |false=>
   rw[hb]at b1 b2
   exact⟨_,Ev.bind a1 (Ev.bind b1 (Ev.pure _)),Ev.bind a2 (Ev.bind b2 (Ev.pure _)),λh=>by cases h⟩
  |true=>
   rw[hb]at b1 b2
   have hl:=Um ha
   have he:=(J8 hb).2
   by_cases c:(l.entries.length:Int)=0
   ·refine⟨(⟨#[]⟩,0,false),Ev.bind a1 (Ev.bind b1 ?_),Ev.bind a2 (Ev.bind b2 ?_),λh=>by cases h⟩
    ·simp(disch:=omega) only[Bool.not_true,cond_false,ceq];exact Ev.pure _
    ·simp(disch:=omega) only[Bool.not_true,cond_false,ceq];exact Ev.pure _
   ·have h0:0<l.entries.length:=by omega
    have t0:Y5 (l.entries.getD 0 (Q4 .entry)).title=true:=by rw[getD_at h0];exact(J8 (U6 ha h0)).2
    obtain⟨z1,z2,z3⟩:=Q4R _ _ t0 he
    obtain⟨q,q1,q0,q2,q3⟩:=Q6e l e ha he (l.entries.length-1) 1 (by omega) (Nat.le_refl _) 0 h0 (λt ht=>by rw[show t=0 by omega];exact Int.le_refl _)
    have tq:Y5 (l.entries.getD q (Q4 .entry)).title=true:=by rw[getD_at q1];exact(J8 (U6 ha q1)).2
    obtain⟨w1,w2,w3⟩:=Q4R _ _ tq he
    refine⟨((l.entries.getD q (Q4 .entry)).key,dW (l.entries.getD q (Q4 .entry)).title e.title,true),Ev.bind a1 (Ev.bind b1 ?_),Ev.bind a2 (Ev.bind b2 ?_),λ_=>⟨rfl,rfl,q0⟩⟩
    ·simp(disch:=omega) only[Bool.not_true,cond_false,cne]
     refine Ev.bind q2 ?_
     simp(disch:=omega) only[Qa,Int.toNat_natCast]
     exact Ev.bind w1 (Ev.pure _)
    ·simp(disch:=omega) only[Bool.not_true,cond_false,cne]
     refine Ev.bind (a:=((l.entries.getD q (Q4 .entry)).key,dW (l.entries.getD q (Q4 .entry)).title e.title)) ?_ (Ev.pure _)
     refine Ev.step (λk=>by rw[Z26.l0]) ?_
     simp(disch:=omega) only[Qa,show(0:Int).toNat=0 from rfl]
     refine Ev.bind z2 ?_
     simp(disch:=omega) only[Qa,wrap_in]
     exact q3
end Go.Proofs.YtoojiikgbopeiaaGreatDoor
end
section
/- What the laws draw: cursors,texts,names,dates,entries. -/
namespace Go.Proofs.YtoojiikgbopeiaaGreatDoor
open Go.Gx
theorem EvP.cond {α:Type}{b:Bool}{f g:Nat->Option α}{Q:α->Prop}(h1:b=true->EvP f Q)(h2:b=false->EvP g Q):EvP (λk=>cond b (f k) (g k)) Q:=by
 cases b with
 |true=>exact h1 rfl
 |false=>exact h2 rfl
theorem Qcb (z:Int):0<=IntKind.wrap .i64 (IntKind.wrap .u64 ((BitVec.ofInt (IntKind.bits .u64) z&&& BitVec.ofInt (IntKind.bits .u64) 255).toNat:Int))/\IntKind.wrap .i64 (IntKind.wrap .u64 ((BitVec.ofInt (IntKind.bits .u64) z&&& BitVec.ofInt (IntKind.bits .u64) 255).toNat:Int))<=255:=by
 have h1:(BitVec.ofInt (IntKind.bits .u64) z&&& BitVec.ofInt (IntKind.bits .u64) 255).toNat<=255:=by
  rw[BitVec.toNat_and]
  exact Nat.le_trans Nat.and_le_right (Nat.le_of_eq rfl)
 generalize (BitVec.ofInt (IntKind.bits .u64) z&&& BitVec.ofInt (IntKind.bits .u64) 255).toNat=m at h1
 have h2:IntKind.wrap .u64 (m:Int)=m:=by rw[IntKind.wrap_u64];omega
 rw[h2,wrap_in (by omega) (by omega)]
 omega
def byt (l:List Int):Prop:=(∀b∈l,0<=b/\b<=255)/\l.length<=65536
theorem Qcc {code:List Int}(hw:WF (.sl (.int .u8)) code)(hl:(code.length:Int)<=65536):byt code:=by
 refine⟨λb hb=>?_,by omega⟩
 obtain⟨i,hi,rfl⟩:=List.getElem_of_mem hb
 cases hw with
 |sl _ _ _ h=>
  have:=h i hi
  cases this with
  |int _ _ h=>
   have h1:IntKind.u8.min=0:=rfl
   have h2:IntKind.u8.max=255:=rfl
   simp only[Lit.wf,Bool.and_eq_true,decide_eq_true_eq]at h
   omega
theorem Qbe (c:Cur)(hc:byt c.code)(h0:0<=c.at_)(h1:c.at_<=1000000):∃c' x,Z94.F c=some (c',x)/\c'.code=c.code/\c'.at_=c.at_+1/\0<=x/\x<=255:=by
 unfold Z94.F
 have hl:=hc.2
 have z40:(decide ((0:Nat)<=40))=true:=rfl
 by_cases c1:c.at_<(c.code.length:Int)
 ·have hi:c.at_.toNat<c.code.length:=by omega
  have hb:0<=c.code.getD c.at_.toNat 0/\c.code.getD c.at_.toNat 0<=255:=by
   have:c.code.getD c.at_.toNat 0=c.code[c.at_.toNat]:=by simp[List.getD,hi]
   rw[this];exact hc.1 _ (List.getElem_mem hi)
  by_cases c2:c.at_+1<=(c.code.length:Int)
  ·refine⟨⟨c.code,c.at_+1,_⟩,_,by simp(disch:=omega) only[Qa,wrap_in];rfl,rfl,rfl,hb⟩
  ·omega
 ·have c2:¬c.at_+1<=(c.code.length:Int):=by omega
  refine⟨⟨c.code,c.at_+1,_⟩,_,by simp(disch:=omega) only[Qk,wrap_in,z40,cond_true];rfl,rfl,rfl,Qcb _⟩
theorem DU (c:Cur)(hc:byt c.code)(h0:0<=c.at_)(h1:c.at_<=1000000)(n:Int)(hn:1<=n)(hn2:n<=200):∃c' x,Z5.F c n=some (c',x)/\c'.code=c.code/\0<=c'.at_/\c'.at_<=c.at_+1/\0<=x/\x<n:=by
 unfold Z5.F
 by_cases c1:n<=1
 ·refine⟨c,0,by simp(disch:=omega) only[Qa],rfl,h0,by omega,by omega,by omega⟩
 ·obtain⟨c',x,e1,e2,e3,e4,e5⟩:=Qbe c hc h0 h1
  refine⟨c',Int.tmod x n,?_,e2,by omega,by omega,Int.tmod_nonneg _ e4,Int.tmod_lt_of_pos _ (by omega)⟩
  have hz:(n==0)=false:=by rw[beq_eq_false_iff_ne];omega
  simp(disch:=omega) only[Qk,e1,Option.bind_some,hz,cond_false]
def cu (n:Int)(c:Cur):Prop:=byt c.code/\0<=c.at_/\c.at_<=n
theorem cu.mono {n m:Int}{c:Cur}(h:cu n c)(hn:n<=m):cu m c:=⟨h.1,h.2.1,Int.le_trans h.2.2 hn⟩
theorem cu.start {code:List Int}(h:byt code):cu 0 ⟨code,0,0⟩:=⟨h,Int.le_refl 0,Int.le_refl 0⟩
section
variable {β:Type} {Q:β->Prop} {n:Int} {c:Cur}
theorem Jd {m:Int}{g:Nat->Cur×Int->Option β}(h:cu n c)(hn:n<=900000)(h1:1<=m)(h2:m<=200)(hg:∀c' x,cu (n+1) c'->0<=x->x<m->EvP (λk=>g k (c',x)) Q):EvP (λk=>(Z5.F c m).bind (g k)) Q:=by
 obtain⟨h3,h4,h5⟩:=h
 obtain⟨c',x,e1,e2,e3,e4,e5,e6⟩:=DU c h3 h4 (by omega) m h1 h2
 exact EvP.of0 e1 (hg c' x ⟨by rw[e2];exact h3,e3,by omega⟩ e5 e6)
theorem Yb {m:Int}{g:Nat->Cur×Bool->Option β}(h:cu n c)(hn:n<=900000)(h1:1<=m)(h2:m<=200)(hg:∀c' x,cu (n+1) c'->EvP (λk=>g k (c',x)) Q):EvP (λk=>(Z40.F c m).bind (g k)) Q:=by
 obtain⟨h3,h4,h5⟩:=h
 obtain⟨c',x,e1,e2,e3,e4,e5,e6⟩:=DU c h3 h4 (by omega) m h1 h2
 refine EvP.of0 (a:=(c',x==0)) ?_ (hg c' (x==0) ⟨by rw[e2];exact h3,e3,by omega⟩)
 unfold Z40.F
 rw[e1];rfl
theorem Yi {l:List ByteArray}{g:Nat->Cur×ByteArray->Option β}(h:cu n c)(hn:n<=900000)(h1:1<=l.length)(h2:l.length<=200)(hs:∀y∈l,y.size<=50)(hg:∀c' x,cu (n+1) c'->x.size<=50->EvP (λk=>g k (c',x)) Q):EvP (λk=>(Z11.F c l).bind (g k)) Q:=by
 obtain⟨h3,h4,h5⟩:=h
 obtain⟨c',x,e1,e2,e3,e4,e5,e6⟩:=DU c h3 h4 (by omega) (l.length:Int) (by omega) (by omega)
 have hi:x.toNat<l.length:=by omega
 refine EvP.of0 (a:=(c',l.getD x.toNat ⟨#[]⟩)) ?_ (hg c' _ ⟨by rw[e2];exact h3,e3,by omega⟩ (by rw[getD_at hi];exact hs _ (List.getElem_mem hi)))
 unfold Z11.F
 simp(disch:=omega) only[e1,Option.bind_some,Qa]
theorem KI {l:List Int}{g:Nat->Cur×Int->Option β}(h:cu n c)(hn:n<=900000)(h1:1<=l.length)(h2:l.length<=200)(hg:∀c' x,cu (n+1) c'->EvP (λk=>g k (c',x)) Q):EvP (λk=>(Z57.F c l).bind (g k)) Q:=by
 obtain⟨h3,h4,h5⟩:=h
 obtain⟨c',x,e1,e2,e3,e4,e5,e6⟩:=DU c h3 h4 (by omega) (l.length:Int) (by omega) (by omega)
 have hi:x.toNat<l.length:=by omega
 refine EvP.of0 (a:=(c',l.getD x.toNat 0)) ?_ (hg c' _ ⟨by rw[e2];exact h3,e3,by omega⟩)
 unfold Z57.F
 simp(disch:=omega) only[e1,Option.bind_some,Qa]
end
theorem YL (s t:ByteArray):(s++t).size=s.size+t.size:=by rw[<-Jh,QR,List.length_append];rfl
theorem size_ext (s:ByteArray)(a b:Nat):(s.extract a b).size<=s.size:=by
 rw[<-Jh,QW,List.length_drop,List.length_take,Jh]
 omega
theorem Qcd {n:Int}{c:Cur}(h:cu n c)(hn:n<=800000):EvP (λ_=>Z69.F c) λr=>cu (n+5) r.1:=by
 unfold Z69.F
 refine KI h (by omega) (by decide) (by decide) λc1 x hc1=>?_
 refine Jd hc1 (by omega) (by omega) (by omega) λc2 y hc2 y0 y1=>?_
 dsimp only
 repeat' refine EvP.cond (λ_=>?_) (λ_=>?_)
 all_goals first
  |exact EvP.pure _ (hc2.mono (by omega))
  |exact Jd hc2 (by omega) (by omega) (by omega) λc3 z hc3 z0 z1=>EvP.pure _ (hc3.mono (by omega))
  |exact Jd hc2 (by omega) (by omega) (by omega) λc3 z hc3 z0 z1=>Jd hc3 (by omega) (by omega) (by omega) λc4 u hc4 u0 u1=>EvP.pure _ (hc4.mono (by omega))
theorem Q3E {n:Int}{c:Cur}(h:cu n c)(hn:n<=800000):∃r,Z69.F c=some r/\cu (n+5) r.1:=by
 obtain⟨r,⟨K,hK⟩,hr⟩:=Qcd h hn
 exact⟨r,hK K (Nat.le_refl _),hr⟩
theorem Q8e {n:Int}{c:Cur}(h:cu n c)(hn:n<=800000):EvP (λ_=>Z95.F c) λr=>cu (n+10) r.1:=by
 unfold Z95.F
 obtain⟨r,e1,h1⟩:=Q3E h hn
 refine EvP.of0 e1 ?_
 refine Jd h1 (by omega) (by omega) (by omega) λc2 y hc2 y0 y1=>?_
 dsimp only
 repeat' refine EvP.cond (λ_=>?_) (λ_=>?_)
 all_goals first
  |exact EvP.pure _ (hc2.mono (by omega))
  |exact KI hc2 (by omega) (by decide) (by decide) λc3 z hc3=>EvP.pure _ (hc3.mono (by omega))
theorem Q6f {n:Int}{c:Cur}(h:cu n c)(hn:n<=800000):∃r,Z95.F c=some r/\cu (n+10) r.1:=by
 obtain⟨r,⟨K,hK⟩,hr⟩:=Q8e h hn
 exact⟨r,hK K (Nat.le_refl _),hr⟩
theorem Q8f {n:Int}{c:Cur}(h:cu n c)(hn:n<=800000){t w:ByteArray}(ht:t.size<=100)(hw1:1<=w.size)(hw:w.size<=20):EvP (λ_=>Z108.F c t w) λr=>cu (n+3) r.1/\r.2.size<=t.size+20:=by
 unfold Z108.F
 have z1:(1:Int).toNat=1:=rfl
 have hx:=size_ext w
 refine EvP.cond (λhb=>?_) (λhb=>?_)
 ·simp(disch:=omega) only[Qa,z1]
  exact EvP.pure _ ⟨h.mono (by omega),by have:=hx 0 1;show(w.extract 0 1).size<=_;omega⟩
 ·have h0:1<=t.size:=by
   apply Classical.byContradiction
   intro hc
   have:t=⟨#[]⟩:=YS (List.eq_nil_of_length_eq_zero (by rw[Jh];omega))
   subst this
   rw[Xb]at hb
   cases hb
  refine Jd h (by omega) (by omega) (by omega) λc1 x hc1 x0 x1=>?_
  refine Jd hc1 (by omega) (by omega) (by omega) λc2 y hc2 y0 y1=>?_
  obtain⟨x,rfl⟩:∃m:Nat,x=m:=⟨x.toNat,by omega⟩
  obtain⟨y,rfl⟩:∃m:Nat,y=m:=⟨y.toNat,by omega⟩
  dsimp only
  have hy:(w.extract y w.size).size=w.size-y:=by
   rw[<-Jh,QW,List.length_drop,List.length_take,Jh]
   omega
  simp(disch:=(try simp only[hy,Int.toNat_natCast]);omega) only[Qa,Int.toNat_natCast]
  refine Jd hc2 (by omega) (by omega) (by omega) λc3 u hc3 u0 u1=>?_
  dsimp only
  have e1:∀a b,(t.extract a b).size<=t.size:=size_ext t
  have e2:∀v:ByteArray,((w.extract y w.size).extract 0 v.size).size<=w.size:=λv=>Nat.le_trans (size_ext _ _ _) (hx _ _)
  have e3:((w.extract y w.size).extract 0 1).size<=w.size:=Nat.le_trans (size_ext _ _ _) (hx _ _)
  have f1:=e1 0 x
  have f2:=e1 x t.size
  have f3:=e1 (x+1) t.size
  have q1:(t.extract 0 x).size<=x:=by rw[<-Jh,QW,List.length_drop,List.length_take];omega
  have q2:(t.extract x t.size).size<=t.size-x:=by rw[<-Jh,QW,List.length_drop,List.length_take,Jh];omega
  have q3:(t.extract (x+1) t.size).size<=t.size-x:=by rw[<-Jh,QW,List.length_drop,List.length_take,Jh];omega
  have w1:IntKind.wrap .i64 ((x:Int)+1)=((x+1:Nat):Int):=by rw[wrap_in (by omega) (by omega)];omega
  refine EvP.cond (λ_=>?_) (λ_=>EvP.cond (λ_=>?_) (λ_=>?_))
  ·simp(disch:=(try simp only[YL]);omega) only[Qa,Xa,z1,Int.toNat_natCast]
   exact EvP.pure _ ⟨hc3.mono (by omega),by simp only[YL];omega⟩
  ·simp(disch:=(try simp only[YL]);omega) only[Qa,Xa,z1,Int.toNat_natCast,w1]
   exact EvP.pure _ ⟨hc3.mono (by omega),by simp only[YL];omega⟩
  ·simp(disch:=(try simp only[YL]);omega) only[Qa,Xa,z1,Int.toNat_natCast,w1]
   exact EvP.pure _ ⟨hc3.mono (by omega),by simp only[YL];omega⟩
def Gz (n:Name):Prop:=n.given.length<=8/\(∀w∈n.given,w.size<=50)/\n.particle.size<=50/\n.family.size<=50/\n.suffix.size<=50
def Js (m:Nat)(l:List Name):Prop:=l.length<=m/\∀n∈l,Gz n
theorem Q05 {n:Nat}{τ:Ty}(hn:n<=1000)(ht:nb τ<=1000):room n τ=true:=by
 unfold room
 have:n*nb τ<=1000*1000:=Nat.mul_le_mul hn ht
 exact Nat.ble_eq_true_of_le (by omega)
theorem Q76:∀m:Nat,m<=5->∀{n:Int} {c:Cur},cu n c->n+m<=800000->∀(q:List ByteArray) (q1 q2 q3:ByteArray) (g:List ByteArray) (p f s:ByteArray),g.length+m<=6->(∀w∈g,w.size<=50)->
  EvP (λk=>Z25.l0 k c q q1 q2 q3 g p f s m) λr=>∃g',r.2=(q,q1,q2,q3,g',p,f,s)/\cu (n+m) r.1/\g'.length<=6/\∀w∈g',w.size<=50
 |0,_,n,c,hc,hn,q,q1,q2,q3,g,p,f,s,hg,hw=>by
  refine EvP.step (λk=>by rw[Z25.l0]) ?_
  simp(disch:=omega) only[Qk]
  exact EvP.pure _ ⟨g,rfl,hc.mono (by omega),by omega,hw⟩
 |m+1,hm,n,c,hc,hn,q,q1,q2,q3,g,p,f,s,hg,hw=>by
  refine EvP.step (λk=>by rw[Z25.l0]) ?_
  simp(disch:=omega) only[Qa]
  refine Yi hc (by omega) (by decide) (by decide) (by decide) λc1 x hc1 hx=>?_
  dsimp only
  have hr:room (g.length+([x]:List ByteArray).length) .str=true:=Q05 (by simp;omega) (by decide)
  rw[show(((m+1:Nat):Int)-1)=(m:Int) by omega]
  simp(disch:=omega) only[hr,cond_true,wrap_in]
  refine EvP.mono (Q76 m (by omega) hc1 (by omega) q q1 q2 q3 (g++[x]) p f s (by simp;omega) λw h=>?_) λr hr=>?_
  ·rcases List.mem_append.1 h with h|h
   ·exact hw w h
   ·rw[List.mem_singleton.1 h];exact hx
  ·obtain⟨g',h1,h2,h3⟩:=hr
   exact⟨g',h1,h2.mono (by omega),h3⟩
theorem Q6g {n:Int}{c:Cur}(h:cu n c)(hn:n<=700000):EvP (λk=>Z25.F k c) λr=>cu (n+10) r.1/\Gz r.2/\r.2.given.length<=6:=by
 unfold Z25.F
 simp(disch:=decide) only[Qa]
 refine Yi h (by omega) (by decide) (by decide) (by decide) λc1 x hc1 hx=>?_
 refine Jd hc1 (by omega) (by omega) (by omega) λc2 y hc2 y0 y1=>?_
 obtain⟨m,rfl⟩:∃m:Nat,y=m:=⟨y.toNat,by omega⟩
 refine EvP.bind (Q76 m (by omega) hc2 (by omega) [] _ _ _ [] ⟨#[]⟩ x ⟨#[]⟩ (by simp;omega) (by simp)) λr hr=>?_
 obtain⟨r1,r2⟩:=r
 obtain⟨g,rfl,h2,h3,h4⟩:=hr
 have h2:cu (n+1+1+m) r1:=h2
 dsimp only
 have z:(⟨#[]⟩:ByteArray).size<=50:=by decide
 refine Yb h2 (by omega) (by decide) (by decide) λc3 b3 hc3=>?_
 refine EvP.cond (λ_=>?_) (λ_=>?_)
 ·refine Yi hc3 (by omega) (by decide) (by decide) (by decide) λc4 x4 hc4 hx4=>?_
  refine Yb hc4 (by omega) (by decide) (by decide) λc5 b5 hc5=>?_
  refine EvP.cond (λ_=>?_) (λ_=>?_)
  ·refine Yi hc5 (by omega) (by decide) (by decide) (by decide) λc6 x6 hc6 hx6=>?_
   exact EvP.pure _ ⟨hc6.mono (by omega),⟨by show g.length<=8;omega,h4,hx4,hx,hx6⟩,h3⟩
  ·exact EvP.pure _ ⟨hc5.mono (by omega),⟨by show g.length<=8;omega,h4,hx4,hx,z⟩,h3⟩
 ·refine Yb hc3 (by omega) (by decide) (by decide) λc5 b5 hc5=>?_
  refine EvP.cond (λ_=>?_) (λ_=>?_)
  ·refine Yi hc5 (by omega) (by decide) (by decide) (by decide) λc6 x6 hc6 hx6=>?_
   exact EvP.pure _ ⟨hc6.mono (by omega),⟨by show g.length<=8;omega,h4,z,hx,hx6⟩,h3⟩
  ·exact EvP.pure _ ⟨hc5.mono (by omega),⟨by show g.length<=8;omega,h4,z,hx,z⟩,h3⟩
theorem GA {m:Nat}{l:List Name}{n:Name}(h:Js m l)(hn:Gz n):Js (m+1) (l++[n]):=by
 refine⟨by have:=h.1;simp;omega,λx hx=>?_⟩
 rcases List.mem_append.1 hx with hx|hx
 ·exact h.2 x hx
 ·rw[List.mem_singleton.1 hx];exact hn
theorem Q53:∀m:Nat,m<=6->∀{n:Int} {c:Cur},cu n c->n+10*m<=600000->∀(q:Nat) (l:List Name),q+m<=20->Js q l->EvP (λk=>Z20.l0 k c l m) λr=>cu (n+10*m) r.1/\Js (q+m) r.2
 |0,_,n,c,hc,hn,q,l,hq,hl=>by
  refine EvP.step (λk=>by rw[Z20.l0]) ?_
  simp(disch:=omega) only[Qk]
  exact EvP.pure _ ⟨hc.mono (by omega),hl⟩
 |m+1,hm,n,c,hc,hn,q,l,hq,hl=>by
  refine EvP.step (λk=>by rw[Z20.l0]) ?_
  simp(disch:=omega) only[Qa]
  refine EvP.bind (Q6g hc (by omega)) λr hr=>?_
  obtain⟨h1,h2,_⟩:=hr
  have hrm:room (l.length+([(⟨r.2.given,r.2.particle,r.2.family,r.2.suffix⟩:Name)]:List Name).length) .name=true:=Q05 (by have:=hl.1;simp;omega) (by decide)
  rw[show(((m+1:Nat):Int)-1)=(m:Int) by omega]
  simp(disch:=omega) only[hrm,cond_true,wrap_in]
  refine EvP.mono (Q53 m (by omega) h1 (by omega) (q+1) _ (by omega) (GA hl (n:=⟨r.2.given,r.2.particle,r.2.family,r.2.suffix⟩) h2)) λy hy=>⟨hy.1.mono (by omega),?_⟩
  rw[show q+(m+1)=q+1+m by omega]
  exact hy.2
theorem Q0r {n:Int}{c:Cur}(h:cu n c)(hn:n<=500000):EvP (λk=>Z20.F k c) λr=>cu (n+60) r.1/\Js 6 r.2:=by
 unfold Z20.F
 refine Jd h (by omega) (by omega) (by omega) λc2 y hc2 y0 y1=>?_
 obtain⟨m,rfl⟩:∃m:Nat,y=m:=⟨y.toNat,by omega⟩
 refine EvP.bind (Q53 m (by omega) hc2 (by omega) 0 [] (by omega) ⟨Nat.le_refl _,λn h=>by cases h⟩) λr hr=>?_
 exact EvP.pure _ ⟨hr.1.mono (by omega),by have:=hr.2.1;show r.2.length<=6;omega,hr.2.2⟩
theorem Q8g {n:Int}{c:Cur}(h:cu n c)(hn:n<=600000):EvP (λk=>Z107.F k c) λr=>cu (n+20) r.1/\Gz r.2:=by
 unfold Z107.F
 refine EvP.bind (Q6g h (by omega)) λr hr=>?_
 obtain⟨h1,⟨g1,g2,g3,g4,g5⟩,h3⟩:=hr
 refine Jd h1 (by omega) (by omega) (by omega) λc2 y hc2 y0 y1=>?_
 dsimp only
 repeat' refine EvP.cond (λ_=>?_) (λ_=>?_)
 ·refine Yi hc2 (by omega) (by decide) (by decide) (by decide) λc6 x6 hc6 hx6=>?_
  exact EvP.pure _ ⟨hc6.mono (by omega),g1,g2,g3,hx6,g5⟩
 ·refine Yi hc2 (by omega) (by decide) (by decide) (by decide) λc6 x6 hc6 hx6=>?_
  exact EvP.pure _ ⟨hc6.mono (by omega),g1,g2,hx6,g4,g5⟩
 ·refine Yi hc2 (by omega) (by decide) (by decide) (by decide) λc6 x6 hc6 hx6=>?_
  exact EvP.pure _ ⟨hc6.mono (by omega),g1,g2,g3,g4,hx6⟩
 ·refine Yi hc2 (by omega) (by decide) (by decide) (by decide) λc6 x6 hc6 hx6=>?_
  dsimp only
  have hrm:room (r.2.given.length+([x6,(⟨#[69,118,101]⟩:ByteArray)]:List ByteArray).length) .str=true:=Q05 (by simp;omega) (by decide)
  rw[hrm]
  refine EvP.pure _ ⟨hc6.mono (by omega),?_,λw hw=>?_,g3,g4,g5⟩
  ·show(r.2.given++_).length<=8
   simp;omega
  ·rcases List.mem_append.1 hw with hw|hw
   ·exact g2 w hw
   ·simp only[List.mem_cons,List.not_mem_nil,or_false]at hw
    rcases hw with rfl|rfl
    ·exact hx6
    ·decide
 ·exact EvP.pure _ ⟨hc2.mono (by omega),g1,g2,g3,g4,g5⟩
theorem Q06:∀m:Nat,m<=6->∀{n:Int} {c:Cur},cu n c->n+20*m<=550000->∀(l:List Name),l.length+m=6->Js 6 l->EvP (λk=>Z51.l1 k c l) λr=>cu (n+20*m+20) r.1/\Js 7 r.2
 |m,hm,n,c,hc,hn,l,hl,hq=>by
  refine EvP.step (λk=>by rw[Z51.l1]) ?_
  refine Jd hc (by omega) (by omega) (by omega) λc1 x hc1 x0 x1=>?_
  dsimp only
  by_cases h1:(l.length:Int)<4+x
  ·simp(disch:=omega) only[Qa,wrap_in]
   refine EvP.bind (Q6g hc1 (by omega)) λr hr=>?_
   obtain⟨h2,h3,_⟩:=hr
   have hrm:room (l.length+([(⟨r.2.given,r.2.particle,r.2.family,r.2.suffix⟩:Name)]:List Name).length) .name=true:=Q05 (by simp;omega) (by decide)
   simp only[hrm,cond_true]
   cases m with
   |zero=>omega
   |succ m=>
    have hp:=GA hq (n:=⟨r.2.given,r.2.particle,r.2.family,r.2.suffix⟩) h3
    refine EvP.mono (Q06 m (by omega) h2 (by omega) _ (by simp;omega) ⟨by simp;omega,hp.2⟩) λy hy=>⟨hy.1.mono (by omega),hy.2⟩
  ·simp(disch:=omega) only[Qk,wrap_in]
   exact EvP.pure _ ⟨hc1.mono (by omega),by show l.length<=7;omega,hq.2⟩
theorem Q1M {n:Int}{c:Cur}(h:cu n c)(hn:n<=450000):EvP (λk=>Z51.F k c) λr=>cu (n+250) r.1/\Js 7 r.2:=by
 unfold Z51.F
 refine EvP.bind (Q0r h (by omega)) λr hr=>?_
 obtain⟨h1,h2⟩:=hr
 have hl:=h2.1
 refine Jd h1 (by omega) (by omega) (by omega) λc1 x hc1 x0 x1=>?_
 dsimp only
 refine EvP.cond (λ_=>?_) (λ_=>EvP.cond (λ_=>?_) (λ_=>?_))
 ·refine EvP.bind (Q8g hc1 (by omega)) λy hy=>?_
  have hrm:room (r.2.length+([(⟨y.2.given,y.2.particle,y.2.family,y.2.suffix⟩:Name)]:List Name).length) .name=true:=Q05 (by simp;omega) (by decide)
  simp only[hrm,cond_true]
  exact EvP.pure _ ⟨hy.1.mono (by omega),GA h2 (n:=⟨y.2.given,y.2.particle,y.2.family,y.2.suffix⟩) hy.2⟩
 ·refine EvP.bind (Q06 (6-r.2.length) (by omega) hc1 (by omega) r.2 (by omega) h2) λy hy=>?_
  exact EvP.pure _ ⟨hy.1.mono (by omega),hy.2⟩
 ·exact EvP.pure _ ⟨hc1.mono (by omega),by show r.2.length<=7;omega,h2.2⟩
end Go.Proofs.YtoojiikgbopeiaaGreatDoor
end
section
/- What the laws draw: entries,entries near to others,containers. -/
namespace Go.Proofs.YtoojiikgbopeiaaGreatDoor
open Go.Gx
def Qx (m:Nat)(e:Entry):Prop:=e.key.size<=200/\e.title.size<=m/\e.container.size<=200/\e.publisher.size<=200/\e.pages.size<=200/\e.cross.size<=200/\Js 8 e.authors/\Js 8 e.editors
theorem Qbf (l:List ByteArray)(h:∀w∈l,w.size<=50):Q9M l<=50*l.length:=by
 induction l with
 |nil=>exact Nat.le_refl _
 |cons x l ih=>
  have h1:=h x List.mem_cons_self
  have h2:=ih λw hw=>h w (List.mem_cons_of_mem _ hw)
  have:Q9M (x::l)=x.size+Q9M l:=by simp[Q9M]
  rw[this,List.length_cons]
  omega
theorem Qbg {n:Name}(h:Gz n):Q1V n<=600:=by
 obtain⟨h1,h2,h3,h4,h5⟩:=h
 have:=Qbf _ h2
 unfold Q1V
 omega
theorem Q54 {m:Nat}{l:List Name}(h:Js m l)(hm:m<=10):XD l<=10000:=by
 have:∀l:List Name,(∀n∈l,Gz n)->(l.map Q1V).sum<=600*l.length:=λl=>by
  induction l with
  |nil=>intro _;exact Nat.le_refl _
  |cons x l ih=>
   intro h
   have h1:=Qbg (h x List.mem_cons_self)
   have h2:=ih λw hw=>h w (List.mem_cons_of_mem _ hw)
   simp only[List.map_cons,List.sum_cons,List.length_cons]
   omega
 have h1:=this l h.2
 have h2:=h.1
 unfold XD
 omega
theorem Q07 {m:Nat}(hm:m<=200){e:Entry}(h:Qx m e):Q3r e<=30000:=by
 obtain⟨h1,h2,h3,h4,h5,h6,h7,h8⟩:=h
 have:=Q54 h7 (by omega)
 have:=Q54 h8 (by omega)
 unfold Q3r
 omega
theorem YM {m:Nat}(hm:m<=200){e:Entry}(h:Qx m e):Y7 e:=by have:=Q07 hm h;unfold Y7;omega
theorem Xg {x:ByteArray}(h:x.size<=50):x.size<=200:=by omega
theorem DV {m k:Nat}{l:List Name}(h:Js m l)(hk:m<=k):Js k l:=⟨Nat.le_trans h.1 hk,h.2⟩
theorem Qce (k:Nat):Js k ([]:List Name):=⟨Nat.zero_le _,λn h=>by cases h⟩
theorem Q3F {n:Int}{c:Cur}(h:cu n c)(hn:n<=400000):EvP (λk=>Z71.F k c) λr=>cu (n+200) r.1/\Qx 50 r.2:=by
 unfold Z71.F
 refine Yi h (by omega) (by decide) (by decide) (by decide) λc1 x1 hc1 hx1=>?_
 refine Jd hc1 (by omega) (by omega) (by omega) λc2 x2 hc2 _ _=>?_
 refine EvP.bind (Q0r hc2 (by omega)) λr3 hr3=>?_
 obtain⟨hc3,hn3⟩:=hr3
 refine EvP.of0 (a:=[(⟨#[79,110,32,114,105,118,101,114,115]⟩:ByteArray),(⟨#[65,32,104,105,115,116,111,114,121,32,111,102,32,109,97,112,115]⟩:ByteArray),(⟨#[84,104,101,32,110,111,114,116,104]⟩:ByteArray),(⟨#[79,108,100,32,114,111,97,100,115,58,32,97,32,103,117,105,100,101]⟩:ByteArray),(⟨#[79,110,32,114,105,118,101,114,115]⟩:ByteArray),(⟨#[]⟩:ByteArray)]) rfl ?_
 refine Yi hc3 (by omega) (by decide) (by decide) (by decide) λc5 x5 hc5 hx5=>?_
 dsimp only
 obtain⟨r6,e6,hc6⟩:=Q3E hc5 (by omega)
 refine EvP.of0 e6 ?_
 refine Yb hc6 (by omega) (by decide) (by decide) λc7 b7 hc7=>?_
 dsimp only
 have a1:=Xg hx1
 have a5:=hx5
 have n3:=DV hn3 (show 6<=8 by omega)
 have z:(⟨#[]⟩:ByteArray).size<=200:=by decide
 have n0:=Qce 8
 refine EvP.cond (λ_=>?_) (λ_=>?_)
 ·refine EvP.bind (Q0r hc7 (by omega)) λr8 hr8=>?_
  obtain⟨hc8,hn8⟩:=hr8
  have n8:=DV hn8 (show 6<=8 by omega)
  refine Yb hc8 (by omega) (by decide) (by decide) λc9 b9 hc9=>?_
  refine EvP.cond (λ_=>?_) (λ_=>?_)
  ·refine Yi hc9 (by omega) (by decide) (by decide) (by decide) λc10 x10 hc10 hx10=>?_
   refine KI hc10 (by omega) (by decide) (by decide) λc11 x11 hc11=>?_
   refine Yi hc11 (by omega) (by decide) (by decide) (by decide) λc12 x12 hc12 hx12=>?_
   refine Yb hc12 (by omega) (by decide) (by decide) λc13 b13 hc13=>?_
   have a10:=Xg hx10
   have a12:=Xg hx12
   refine EvP.cond (λ_=>?_) (λ_=>?_)
   ·refine Yi hc13 (by omega) (by decide) (by decide) (by decide) λc14 x14 hc14 hx14=>?_
    refine Yb hc14 (by omega) (by decide) (by decide) λc15 b15 hc15=>?_
    have a14:=Xg hx14
    refine EvP.cond (λ_=>?_) (λ_=>?_)
    ·refine Yi hc15 (by omega) (by decide) (by decide) (by decide) λc16 x16 hc16 hx16=>?_
     exact EvP.pure _ ⟨hc16.mono (by omega),a1,a5,a10,a14,a12,Xg hx16,n3,n8⟩
    ·exact EvP.pure _ ⟨hc15.mono (by omega),a1,a5,a10,a14,a12,z,n3,n8⟩
   ·refine Yb hc13 (by omega) (by decide) (by decide) λc15 b15 hc15=>?_
    refine EvP.cond (λ_=>?_) (λ_=>?_)
    ·refine Yi hc15 (by omega) (by decide) (by decide) (by decide) λc16 x16 hc16 hx16=>?_
     exact EvP.pure _ ⟨hc16.mono (by omega),a1,a5,a10,z,a12,Xg hx16,n3,n8⟩
    ·exact EvP.pure _ ⟨hc15.mono (by omega),a1,a5,a10,z,a12,z,n3,n8⟩
  ·refine Yb hc9 (by omega) (by decide) (by decide) λc13 b13 hc13=>?_
   refine EvP.cond (λ_=>?_) (λ_=>?_)
   ·refine Yi hc13 (by omega) (by decide) (by decide) (by decide) λc14 x14 hc14 hx14=>?_
    refine Yb hc14 (by omega) (by decide) (by decide) λc15 b15 hc15=>?_
    have a14:=Xg hx14
    refine EvP.cond (λ_=>?_) (λ_=>?_)
    ·refine Yi hc15 (by omega) (by decide) (by decide) (by decide) λc16 x16 hc16 hx16=>?_
     exact EvP.pure _ ⟨hc16.mono (by omega),a1,a5,z,a14,z,Xg hx16,n3,n8⟩
    ·exact EvP.pure _ ⟨hc15.mono (by omega),a1,a5,z,a14,z,z,n3,n8⟩
   ·refine Yb hc13 (by omega) (by decide) (by decide) λc15 b15 hc15=>?_
    refine EvP.cond (λ_=>?_) (λ_=>?_)
    ·refine Yi hc15 (by omega) (by decide) (by decide) (by decide) λc16 x16 hc16 hx16=>?_
     exact EvP.pure _ ⟨hc16.mono (by omega),a1,a5,z,z,z,Xg hx16,n3,n8⟩
    ·exact EvP.pure _ ⟨hc15.mono (by omega),a1,a5,z,z,z,z,n3,n8⟩
 ·refine Yb hc7 (by omega) (by decide) (by decide) λc9 b9 hc9=>?_
  refine EvP.cond (λ_=>?_) (λ_=>?_)
  ·refine Yi hc9 (by omega) (by decide) (by decide) (by decide) λc10 x10 hc10 hx10=>?_
   refine KI hc10 (by omega) (by decide) (by decide) λc11 x11 hc11=>?_
   refine Yi hc11 (by omega) (by decide) (by decide) (by decide) λc12 x12 hc12 hx12=>?_
   refine Yb hc12 (by omega) (by decide) (by decide) λc13 b13 hc13=>?_
   have a10:=Xg hx10
   have a12:=Xg hx12
   refine EvP.cond (λ_=>?_) (λ_=>?_)
   ·refine Yi hc13 (by omega) (by decide) (by decide) (by decide) λc14 x14 hc14 hx14=>?_
    refine Yb hc14 (by omega) (by decide) (by decide) λc15 b15 hc15=>?_
    have a14:=Xg hx14
    refine EvP.cond (λ_=>?_) (λ_=>?_)
    ·refine Yi hc15 (by omega) (by decide) (by decide) (by decide) λc16 x16 hc16 hx16=>?_
     exact EvP.pure _ ⟨hc16.mono (by omega),a1,a5,a10,a14,a12,Xg hx16,n3,n0⟩
    ·exact EvP.pure _ ⟨hc15.mono (by omega),a1,a5,a10,a14,a12,z,n3,n0⟩
   ·refine Yb hc13 (by omega) (by decide) (by decide) λc15 b15 hc15=>?_
    refine EvP.cond (λ_=>?_) (λ_=>?_)
    ·refine Yi hc15 (by omega) (by decide) (by decide) (by decide) λc16 x16 hc16 hx16=>?_
     exact EvP.pure _ ⟨hc16.mono (by omega),a1,a5,a10,z,a12,Xg hx16,n3,n0⟩
    ·exact EvP.pure _ ⟨hc15.mono (by omega),a1,a5,a10,z,a12,z,n3,n0⟩
  ·refine Yb hc9 (by omega) (by decide) (by decide) λc13 b13 hc13=>?_
   refine EvP.cond (λ_=>?_) (λ_=>?_)
   ·refine Yi hc13 (by omega) (by decide) (by decide) (by decide) λc14 x14 hc14 hx14=>?_
    refine Yb hc14 (by omega) (by decide) (by decide) λc15 b15 hc15=>?_
    have a14:=Xg hx14
    refine EvP.cond (λ_=>?_) (λ_=>?_)
    ·refine Yi hc15 (by omega) (by decide) (by decide) (by decide) λc16 x16 hc16 hx16=>?_
     exact EvP.pure _ ⟨hc16.mono (by omega),a1,a5,z,a14,z,Xg hx16,n3,n0⟩
    ·exact EvP.pure _ ⟨hc15.mono (by omega),a1,a5,z,a14,z,z,n3,n0⟩
   ·refine Yb hc13 (by omega) (by decide) (by decide) λc15 b15 hc15=>?_
    refine EvP.cond (λ_=>?_) (λ_=>?_)
    ·refine Yi hc15 (by omega) (by decide) (by decide) (by decide) λc16 x16 hc16 hx16=>?_
     exact EvP.pure _ ⟨hc16.mono (by omega),a1,a5,z,z,z,Xg hx16,n3,n0⟩
    ·exact EvP.pure _ ⟨hc15.mono (by omega),a1,a5,z,z,z,z,n3,n0⟩
theorem Ur {n:Int}{c:Cur}(h:cu n c)(hn:n<=300000):EvP (λk=>Z61.F k c) λr=>cu (n+500) r.1/\Qx 50 r.2:=by
 unfold Z61.F
 refine EvP.bind (Q3F h (by omega)) λr hr=>?_
 obtain⟨h1,g1,g2,g3,g4,g5,g6,g7,g8⟩:=hr
 refine Jd h1 (by omega) (by omega) (by omega) λc2 y hc2 y0 y1=>?_
 dsimp only
 refine EvP.cond (λ_=>?_) (λ_=>EvP.cond (λ_=>?_) (λ_=>EvP.cond (λ_=>?_) (λ_=>EvP.cond (λ_=>?_) (λ_=>EvP.cond (λ_=>?_) (λ_=>EvP.cond (λ_=>?_) (λ_=>EvP.cond (λ_=>?_) (λ_=>EvP.cond (λ_=>?_) (λ_=>?_))))))))
 ·refine Yi hc2 (by omega) (by decide) (by decide) (by decide) λc6 x6 hc6 hx6=>?_
  exact EvP.pure _ ⟨hc6.mono (by omega),Xg hx6,g2,g3,g4,g5,g6,g7,g8⟩
 ·refine Jd hc2 (by omega) (by omega) (by omega) λc6 x6 hc6 _ _=>?_
  exact EvP.pure _ ⟨hc6.mono (by omega),g1,g2,g3,g4,g5,g6,g7,g8⟩
 ·refine EvP.bind (Q1M hc2 (by omega)) λq hq=>?_
  exact EvP.pure _ ⟨hq.1.mono (by omega),g1,g2,g3,g4,g5,g6,DV hq.2 (by omega),g8⟩
 ·refine Yi hc2 (by omega) (by decide) (by decide) (by decide) λc6 x6 hc6 hx6=>?_
  exact EvP.pure _ ⟨hc6.mono (by omega),g1,hx6,g3,g4,g5,g6,g7,g8⟩
 ·obtain⟨r6,e6,hc6⟩:=Q6f hc2 (by omega)
  refine EvP.of0 e6 ?_
  exact EvP.pure _ ⟨hc6.mono (by omega),g1,g2,g3,g4,g5,g6,g7,g8⟩
 ·refine KI hc2 (by omega) (by decide) (by decide) λc6 x6 hc6=>?_
  exact EvP.pure _ ⟨hc6.mono (by omega),g1,g2,g3,g4,g5,g6,g7,g8⟩
 ·obtain⟨k1,k2,k3⟩:=hc2
  obtain⟨c',x,e1,e2,e3,e4,e5,e6⟩:=DU c2 k1 k2 (by omega) 3 (by omega) (by omega)
  have hi:x.toNat<3:=by omega
  refine EvP.of0 (a:=(c',([r.2.key,(⟨#[65]⟩:ByteArray),(⟨#[98,50]⟩:ByteArray)]).getD x.toNat ⟨#[]⟩)) ?_ (EvP.pure _ ⟨⟨by rw[e2];exact k1,e3,by show c'.at_<=_;omega⟩,g1,g2,g3,g4,g5,?_,g7,g8⟩)
  ·unfold Z11.F
   have hl:(([r.2.key,(⟨#[65]⟩:ByteArray),(⟨#[98,50]⟩:ByteArray)]).length:Int)=3:=rfl
   rw[hl,e1]
   simp(disch:=omega) only[Option.bind_some,Qa]
  ·show(([r.2.key,(⟨#[65]⟩:ByteArray),(⟨#[98,50]⟩:ByteArray)]).getD x.toNat ⟨#[]⟩).size<=200
   match x.toNat,hi with
   |0,_=>exact g1
   |1,_=>show(⟨#[65]⟩:ByteArray).size<=200;decide
   |2,_=>show(⟨#[98,50]⟩:ByteArray).size<=200;decide
 ·refine EvP.bind (Q1M hc2 (by omega)) λq hq=>?_
  exact EvP.pure _ ⟨hq.1.mono (by omega),g1,g2,g3,g4,g5,g6,g7,DV hq.2 (by omega)⟩
 ·exact EvP.pure _ ⟨hc2.mono (by omega),g1,g2,g3,g4,g5,g6,g7,g8⟩
theorem Q77 (xs:List Name)(hx:Js 8 xs):∀n i:Nat,i+n=xs.length->Ev (λk=>Z46.l0 k xs (xs.take i) i) xs
 |0,i,h=>by
  refine Ev.step (λk=>by rw[Z46.l0]) ?_
  simp(disch:=omega) only[Qk]
  rw[List.take_of_length_le (by omega)]
  exact Ev.pure _
 |n+1,i,h=>by
  have hl:=hx.1
  have hi:i<xs.length:=by omega
  have hg:=(hx.2 _ (List.getElem_mem hi)).1
  have e:xs.getD i (Q4 .name)=xs[i]:=getD_at hi _
  have r1:∀(g:List ByteArray),g.length<=8->room (([]:List ByteArray).length+g.length) .str=true:=λg hg=>Q05 (by simp;omega) (by decide)
  have r2:∀x:Name,room ((xs.take i).length+([x]:List Name).length) .name=true:=λx=>Q05 (by simp;omega) (by decide)
  refine Ev.step (λk=>by rw[Z46.l0]) ?_
  simp(disch:=omega) only[Qa,Int.toNat_natCast,e,r1 _ hg,r2,cond_true,wrap_in,List.nil_append]
  have:xs.take i++[xs[i]]=xs.take (i+1):=by simp
  rw[show(⟨xs[i].given,xs[i].particle,xs[i].family,xs[i].suffix⟩:Name)=xs[i]from rfl,this]
  exact Q77 xs hx n (i+1) (by omega)
theorem Q78 (xs:List Name)(hx:Js 8 xs):Ev (λk=>Z46.F k xs) xs:=by
 unfold Z46.F
 exact Ev.bind (Q77 xs hx xs.length 0 (by omega)) (Ev.pure _)
theorem XY {m:Nat}(e:Entry)(h:Qx m e):Ev (λk=>Z60.F k e) e:=by
 obtain⟨h1,h2,h3,h4,h5,h6,h7,h8⟩:=h
 unfold Z60.F
 exact Ev.bind (Q78 _ h7) (Ev.bind (Q78 _ h8) (Ev.pure _))
theorem Qx.up {m k:Nat}{e:Entry}(h:Qx m e)(hk:m<=k):Qx k e:=⟨h.1,Nat.le_trans h.2.1 hk,h.2.2⟩
theorem Qau {n:Int}{c:Cur}(h:cu n c)(hn:n<=200000){m:Nat}(hm:m<=100)(h50:50<=m){e:Entry}(he:Qx m e):EvP (λk=>Z80.F k c e) λr=>cu (n+600) r.1/\Qx (m+20) r.2:=by
 unfold Z80.F
 obtain⟨g1,g2,g3,g4,g5,g6,g7,g8⟩:=he
 have g2':e.title.size<=m+20:=by omega
 have z:(⟨#[]⟩:ByteArray).size<=200:=by decide
 refine EvP.of (XY (m:=m) e ⟨g1,g2,g3,g4,g5,g6,g7,g8⟩) ?_
 refine Jd h (by omega) (by omega) (by omega) λc2 y hc2 y0 y1=>?_
 dsimp only
 refine EvP.cond (λ_=>?_) (λ_=>EvP.cond (λ_=>?_) (λ_=>EvP.cond (λ_=>?_) (λ_=>EvP.cond (λ_=>?_) (λ_=>EvP.cond (λ_=>?_) (λ_=>EvP.cond (λ_=>?_) (λ_=>?_))))))
 ·obtain⟨r,⟨K,hK⟩,hr1,hr2⟩:=Q8f hc2 (by omega) (t:=e.title) (w:=⟨#[97,66,32,45]⟩) (by omega) (by decide) (by decide)
  refine EvP.of0 (hK K (Nat.le_refl _)) (EvP.pure _ ⟨hr1.mono (by omega),g1,?_,g3,g4,g5,g6,g7,g8⟩)
  show r.2.size<=m+20
  omega
 ·refine EvP.of (Xz e.title (by omega)) (EvP.pure _ ⟨hc2.mono (by omega),g1,?_,g3,g4,g5,g6,g7,g8⟩)
  show(KN e.title).size<=m+20
  have:(KN e.title).size=e.title.size:=Gv _
  omega
 ·obtain⟨r6,e6,hc6⟩:=Q3E hc2 (by omega)
  exact EvP.of0 e6 (EvP.pure _ ⟨hc6.mono (by omega),g1,g2',g3,g4,g5,g6,g7,g8⟩)
 ·refine EvP.bind (Q0r hc2 (by omega)) λq hq=>?_
  exact EvP.pure _ ⟨hq.1.mono (by omega),g1,g2',g3,g4,g5,g6,DV hq.2 (by omega),g8⟩
 ·refine EvP.bind (Ur hc2 (by omega)) λq hq=>?_
  exact EvP.pure _ ⟨hq.1.mono (by omega),hq.2.up (by omega)⟩
 ·exact EvP.pure _ ⟨hc2.mono (by omega),g1,g2',g3,z,g5,g6,g7,g8⟩
 ·exact EvP.pure _ ⟨hc2.mono (by omega),g1,g2',g3,g4,g5,g6,g7,g8⟩
end Go.Proofs.YtoojiikgbopeiaaGreatDoor
end
section
/- What the laws draw: libraries. -/
namespace Go.Proofs.YtoojiikgbopeiaaGreatDoor
open Go.Gx
def YZ (m:Nat)(l:List Entry):Prop:=l.length<=m/\∀e∈l,Qx 50 e
theorem Y0 {m:Nat}{l:List Entry}(h:YZ m l)(hm:m<=20):JZ ⟨l⟩:=by
 have:∀l:List Entry,(∀n∈l,Qx 50 n)->(l.map Q3r).sum<=30000*l.length:=λl=>by
  induction l with
  |nil=>intro _;exact Nat.le_refl _
  |cons x l ih=>
   intro h
   have h1:=Q07 (by omega) (h x List.mem_cons_self)
   have h2:=ih λw hw=>h w (List.mem_cons_of_mem _ hw)
   simp only[List.map_cons,List.sum_cons,List.length_cons]
   omega
 have h1:=this l h.2
 have h2:=h.1
 unfold JZ Q6R
 show l.length+(l.map Q3r).sum<=1048576
 omega
theorem Xh {m:Nat}{l:List Entry}{n:Entry}(h:∀e∈l,Qx 50 e)(hn:Qx 50 n):∀e∈l++[n],Qx 50 e:=λx hx=>by
 rcases List.mem_append.1 hx with hx|hx
 ·exact h x hx
 ·rw[List.mem_singleton.1 hx];exact hn
theorem XA {l:List Entry}{i:Nat}(h:∀e∈l,Qx 50 e)(hi:i<l.length)(d:Entry):Qx 50 (l.getD i d):=by
 rw[getD_at hi];exact h _ (List.getElem_mem hi)
theorem Q8h {l:List Entry}{i:Nat}{n:Entry}(h:∀e∈l,Qx 50 e)(hn:Qx 50 n):∀e∈l.set i n,Qx 50 e:=λx hx=>by
 rcases List.mem_or_eq_of_mem_set hx with hx|rfl
 ·exact h x hx
 ·exact hn
theorem Qbh:(⟨#[]⟩:ByteArray).size<=200:=by decide
theorem Q55 {n:Nat}(hn:n<=1000):room n .entry=true:=Q05 hn (by decide)
def wB (b:Bool):Nat:=bif b then 0 else 1
theorem Q6h (xs:List Entry)(hx:∀e∈xs,Qx 50 e)(hl:xs.length<=20)(e:Entry)(he:Qx 50 e):∀n i:Nat,i+n=xs.length->∀(z acc:List Entry) (b:Bool),acc.length+n+wB b<=40->(∀e∈acc,Qx 50 e)->
  EvP (λk=>Z12.l0 k ⟨xs⟩ e z acc b i) λr=>r.1=e/\r.2.2.1.length+wB r.2.2.2<=acc.length+n+wB b/\∀e∈r.2.2.1,Qx 50 e
 |0,i,h,z,acc,b,hb,ha=>by
  refine EvP.step (λk=>by rw[Z12.l0]) ?_
  dsimp only
  simp(disch:=omega) only[Qk]
  exact EvP.pure _ ⟨rfl,by show acc.length+wB b<=_;omega,ha⟩
 |n+1,i,h,z,acc,b,hb,ha=>by
  have hi:i<xs.length:=by omega
  have hm:=hx _ (List.getElem_mem hi)
  have c1:=XY e he
  have c2:=XY xs[i] hm
  have r1:∀x:Entry,room (acc.length+([x]:List Entry).length) .entry=true:=λx=>Q55 (by simp;omega)
  have r2:∀x y:Entry,room ((acc++[x]).length+([y]:List Entry).length) .entry=true:=λx y=>Q55 (by simp;omega)
  have old:∀(acc':List Entry) (b':Bool),acc'.length+wB b'<=acc.length+wB b->(∀e∈acc',Qx 50 e)->(∀y:Entry,room (acc'.length+([y]:List Entry).length) .entry=true)->
    EvP (λk=>bif decide (0<=(i:Int))then(bif decide ((i:Int)<(xs.length:Int))then(bif (!Qr ((xs.getD (i:Int).toNat (Q4 .entry)).key) e.key)then(bif decide (0<=(i:Int))then(bif decide ((i:Int)<(xs.length:Int))then((Z60.F k (xs.getD (i:Int).toNat (Q4 .entry))).bind λr2=>bif room (acc'.length+([r2]:List Entry).length) .entry then(Z12.l0 k ⟨xs⟩ e z (acc'++([r2]:List Entry)) b' (IntKind.wrap .i64 ((i:Int)+1)))else none)else none)else none)else(Z12.l0 k ⟨xs⟩ e z acc' b' (IntKind.wrap .i64 ((i:Int)+1))))else none)else none)
     λr=>r.1=e/\r.2.2.1.length+wB r.2.2.2<=acc.length+(n+1)+wB b/\∀e∈r.2.2.1,Qx 50 e:=λacc' b' h1 h2 h3=>by
   simp(disch:=omega) only[Qa,Int.toNat_natCast,getD_at hi]
   refine EvP.cond (λ_=>?_) (λ_=>?_)
   ·refine EvP.of c2 ?_
    simp(disch:=omega) only[h3,cond_true,wrap_in]
    refine EvP.mono (Q6h xs hx hl e he n (i+1) (by omega) z (acc'++[xs[i]]) b' (by simp;omega) (Xh (m:=0) h2 hm)) λr hr=>⟨hr.1,?_,hr.2.2⟩
    have:=hr.2.1
    simp at this
    omega
   ·simp(disch:=omega) only[wrap_in]
    refine EvP.mono (Q6h xs hx hl e he n (i+1) (by omega) z acc' b' (by omega) h2) λr hr=>⟨hr.1,?_,hr.2.2⟩
    have:=hr.2.1
    omega
  refine EvP.step (λk=>by rw[Z12.l0]) ?_
  dsimp only
  have e1:=old acc b (Nat.le_refl _) ha r1
  simp(disch:=omega) only[Qa,Int.toNat_natCast,getD_at hi]at e1
  simp(disch:=omega) only[Qa,Int.toNat_natCast,getD_at hi]
  refine EvP.cond (λ_=>?_) (λ_=>?_)
  ·cases b with
   |true=>
    simp only[Bool.not_true,cond_false]
    exact e1
   |false=>
    simp only[Bool.not_false,cond_true]
    refine EvP.of c1 ?_
    simp only[r1,cond_true]
    have e2:=old (acc++[e]) true (by simp[wB]) (Xh (m:=0) ha he) (r2 e)
    simp(disch:=omega) only[Qa,Int.toNat_natCast,getD_at hi]at e2
    exact e2
  ·exact e1
theorem Q56 {m:Nat}{xs:List Entry}(hx:YZ m xs)(hm:m<=15){e:Entry}(he:Qx 50 e):EvP (λk=>Z12.F k ⟨xs⟩ e) λr=>YZ (m+1) r.entries:=by
 unfold Z12.F
 have hl:=hx.1
 refine EvP.bind (Q6h xs hx.2 (by omega) e he xs.length 0 (by omega) [] [] false (by simp[wB];omega) (by simp)) λr hr=>?_
 obtain⟨h1,h2,h3⟩:=hr
 have h2:r.2.2.1.length+wB r.2.2.2<=xs.length+1:=by simpa[wB]using h2
 refine EvP.cond (λhb=>?_) (λhb=>?_)
 ·rw[h1]
  refine EvP.of (XY e he) ?_
  rw[Q55 (by simp;omega)]
  refine EvP.pure _ ⟨?_,Xh (m:=0) h3 he⟩
  have:r.2.2.2=false:=by cases h:r.2.2.2<;>rw[h]at hb<;>first|rfl|cases hb
  rw[this]at h2
  show(r.2.2.1++[e]).length<=m+1
  simp[wB]at h2 ⊢
  omega
 ·exact EvP.pure _ ⟨by show r.2.2.1.length<=m+1;omega,h3⟩
theorem Q1N:∀m:Nat,m<=6->∀{n:Int} {c:Cur},cu n c->n+250*m<=300000->∀(q:Nat) (z l:List Entry),q+m<=8->YZ q l->EvP (λk=>Z35.l0 k c z l m) λr=>cu (n+250*m) r.1/\YZ (q+m) r.2.2
 |0,_,n,c,hc,hn,q,z,l,hq,hl=>by
  refine EvP.step (λk=>by rw[Z35.l0]) ?_
  simp(disch:=omega) only[Qk]
  exact EvP.pure _ ⟨hc.mono (by omega),hl⟩
 |m+1,hm,n,c,hc,hn,q,z,l,hq,hl=>by
  refine EvP.step (λk=>by rw[Z35.l0]) ?_
  simp(disch:=omega) only[Qa]
  refine EvP.bind (Q3F hc (by omega)) λr hr=>?_
  obtain⟨h1,g1,g2,g3,g4,g5,g6,g7,g8⟩:=hr
  have w1:IntKind.wrap .i64 (((m+1:Nat):Int)-1)=(m:Int):=by rw[wrap_in (by omega) (by omega)];omega
  have next:∀{n':Int} {c':Cur} {l':Library},cu n' c'->n'<=n+250->YZ (q+1) l'.entries->EvP (λk=>Z35.l0 k c' z l'.entries (IntKind.wrap .i64 (((m+1:Nat):Int)-1))) λr=>cu (n+250* (m+1:Nat)) r.1/\YZ (q+(m+1)) r.2.2:=λ{n' c' l'} hc' hn' hl'=>by
   rw[w1]
   refine EvP.mono (Q1N m (by omega) hc' (by omega) (q+1) z _ (by omega) hl') λy hy=>⟨hy.1.mono (by omega),?_⟩
   rw[show q+(m+1)=q+1+m by omega]
   exact hy.2
  refine Yb h1 (by omega) (by decide) (by decide) λc3 b3 hc3=>?_
  refine EvP.cond (λ_=>?_) (λ_=>?_)
  ·refine Yi hc3 (by omega) (by decide) (by decide) (by decide) λc4 x4 hc4 hx4=>?_
   refine EvP.cond (λ_=>?_) (λ_=>?_)
   ·refine EvP.bind (Q56 hl (by omega) (e:=⟨r.2.key,r.2.kind,r.2.authors,r.2.editors,r.2.title,r.2.container,r.2.publisher,r.2.date,r.2.volume,r.2.pages,⟨#[]⟩⟩) ⟨g1,g2,g3,g4,g5,Qbh,g7,g8⟩) λy hy=>?_
    exact next hc4 (by omega) hy
   ·refine EvP.bind (Q56 hl (by omega) (e:=⟨r.2.key,r.2.kind,r.2.authors,r.2.editors,r.2.title,r.2.container,r.2.publisher,r.2.date,r.2.volume,r.2.pages,x4⟩) ⟨g1,g2,g3,g4,g5,Xg hx4,g7,g8⟩) λy hy=>?_
    exact next hc4 (by omega) hy
  ·refine EvP.bind (Q56 hl (by omega) (e:=r.2) ⟨g1,g2,g3,g4,g5,g6,g7,g8⟩) λy hy=>?_
   exact next hc3 (by omega) hy
theorem Q8i {n:Int}{c:Cur}(h:cu n c)(hn:n<=200000):EvP (λk=>Z35.F k c) λr=>cu (n+2000) r.1/\YZ 6 r.2.entries:=by
 unfold Z35.F
 refine Jd h (by omega) (by omega) (by omega) λc2 y hc2 y0 y1=>?_
 obtain⟨m,rfl⟩:∃m:Nat,y=m:=⟨y.toNat,by omega⟩
 refine EvP.bind (Q1N m (by omega) hc2 (by omega) 0 [] [] (by omega) ⟨Nat.le_refl _,λn h=>by cases h⟩) λr hr=>?_
 exact EvP.pure _ ⟨hr.1.mono (by omega),by have:=hr.2.1;show r.2.2.length<=6;omega,hr.2.2⟩
theorem Qcf (n:Nat)(hn:n<10):EvP (λk=>Z54.F k n) λr=>r.size<=10:=by
 refine EvP.step (λk=>by rw[Z54.F]) ?_
 have z:(⟨#[48,49,50,51,52,53,54,55,56,57]⟩:ByteArray).size=10:=rfl
 have w1:IntKind.wrap .i64 ((n:Int)+1)=((n+1:Nat):Int):=by rw[wrap_in (by omega) (by omega)];omega
 simp(disch:=omega) only[Qa,Qk,w1,z]
 exact EvP.pure _ (by have:=size_ext ⟨#[48,49,50,51,52,53,54,55,56,57]⟩ (n:Int).toNat (((n+1:Nat):Int)).toNat;rw[z]at this;exact this)
theorem Q2R:∀m:Nat,∀{n:Int} {c:Cur},cu n c->n+250*m<=290000->∀(z l:List Entry) (i:Nat),i+m=10->l.length<=10->(∀e∈l,Qx 50 e)->EvP (λk=>Z41.l1 k c z l i) λr=>cu (n+250*m+10) r.1/\YZ 10 r.2.2
 |m,n,c,hc,hn,z,l,i,hi,hl,hq=>by
  refine EvP.step (λk=>by rw[Z41.l1]) ?_
  refine Jd hc (by omega) (by omega) (by omega) λc1 x hc1 x0 x1=>?_
  dsimp only
  by_cases h1:(l.length:Int)<8+x
  ·simp(disch:=omega) only[Qa,wrap_in]
   cases m with
   |zero=>
    simp(disch:=omega) only[Qk]
    exact EvP.pure _ ⟨hc1.mono (by omega),hl,hq⟩
   |succ m=>
    simp(disch:=omega) only[Qa]
    refine EvP.bind (Q3F hc1 (by omega)) λr hr=>?_
    obtain⟨h1,g1,g2,g3,g4,g5,g6,g7,g8⟩:=hr
    refine EvP.bind (Qcf i (by omega)) λt ht=>?_
    have e120:(⟨#[120]⟩:ByteArray).size=1:=rfl
    have hk:((⟨#[120]⟩:ByteArray)++t).size<=200:=by rw[YL,e120];omega
    have hr:∀e:Entry,room (l.length+([e]:List Entry).length) .entry=true:=λe=>Q55 (by simp;omega)
    simp(disch:=(try simp only[e120]);omega) only[Xa,hr,cond_true,wrap_in]
    refine EvP.mono (Q2R m h1 (by omega) z _ (i+1) (by omega) (by simp;omega) (Xh (m:=0) hq (n:=⟨⟨#[120]⟩++t,r.2.kind,r.2.authors,r.2.editors,r.2.title,r.2.container,r.2.publisher,r.2.date,r.2.volume,r.2.pages,r.2.cross⟩) ⟨hk,g2,g3,g4,g5,g6,g7,g8⟩)) λy hy=>⟨hy.1.mono (by omega),hy.2⟩
  ·simp(disch:=omega) only[Qk,wrap_in]
   exact EvP.pure _ ⟨hc1.mono (by omega),hl,hq⟩
theorem Q57 {n:Int}{c:Cur}(h:cu n c)(hn:n<=150000):EvP (λk=>Z41.F k c) λr=>cu (n+10000) r.1/\YZ 10 r.2.entries:=by
 unfold Z41.F
 refine EvP.bind (Q8i h (by omega)) λr hr=>?_
 obtain⟨h1,hl,hq⟩:=hr
 by_cases c0:(r.2.entries.length:Int)=0
 ·simp(disch:=exact c0) only[ceq]
  exact EvP.pure _ ⟨h1.mono (by omega),by show r.2.entries.length<=10;omega,hq⟩
 ·simp(disch:=exact c0) only[cne]
  refine Jd h1 (by omega) (by omega) (by omega) λc1 x hc1 x0 x1=>?_
  dsimp only
  refine EvP.cond (λ_=>?_) (λ_=>EvP.cond (λ_=>?_) (λ_=>EvP.cond (λ_=>?_) (λ_=>?_)))
  ·refine Jd hc1 (by omega) (by omega) (by omega) λc2 x2 hc2 y0 y1=>?_
   refine EvP.bind (Ur hc2 (by omega)) λy hy=>?_
   simp(disch:=omega) only[Qa]
   exact EvP.pure _ ⟨hy.1.mono (by omega),by show(r.2.entries.set _ _).length<=10;rw[List.length_set];omega,Q8h hq hy.2⟩
  ·simp(disch:=omega) only[Qa]
   rw[Q55 (by simp;omega)]
   refine EvP.pure _ ⟨hc1.mono (by omega),?_,Xh (m:=0) hq (XA hq (by show(0:Int).toNat<_;have:(0:Int).toNat=0:=rfl;omega) _)⟩
   show(r.2.entries++_).length<=10
   simp;omega
  ·refine EvP.bind (Q2R 10 hc1 (by omega) [] r.2.entries 0 (by omega) (by omega) hq) λy hy=>?_
   exact EvP.pure _ ⟨hy.1.mono (by omega),hy.2⟩
  ·exact EvP.pure _ ⟨hc1.mono (by omega),by show r.2.entries.length<=10;omega,hq⟩
end Go.Proofs.YtoojiikgbopeiaaGreatDoor
end
section
/- The plain law of FnDuplicates. -/
namespace Go.Proofs.YtoojiikgbopeiaaGreatDoor
open Go.Gx
theorem Qbi {m:Nat}{e:Entry}(h:Qx m e)(hv:JE e=true):Qx 50 e:=by
 have:=Un (J8 hv).2
 exact⟨h.1,by omega,h.2.2⟩
theorem Q79 {n:Int}{c:Cur}(h:cu n c)(hn:n<=100000):EvP (λk=>Z81.F k c) λr=>cu (n+20000) r.1/\YZ 12 r.2.entries:=by
 unfold Z81.F
 refine EvP.bind (Q57 h (by omega)) λr hr=>?_
 obtain⟨h1,hl⟩:=hr
 have hup:YZ 12 r.2.entries:=⟨Nat.le_trans hl.1 (by omega),hl.2⟩
 by_cases c0:(r.2.entries.length:Int)=0
 ·simp(disch:=exact c0) only[ceq]
  exact EvP.pure _ ⟨h1.mono (by omega),hup⟩
 simp(disch:=exact c0) only[cne]
 by_cases c6:(r.2.entries.length:Int) > 6
 ·simp(disch:=omega) only[Qa]
  exact EvP.pure _ ⟨h1.mono (by omega),hup⟩
 simp(disch:=omega) only[Qk]
 have hs:JZ r.2:=Y0 hl (by omega)
 refine EvP.of (YJ r.2 hs) ?_
 refine EvP.cond (λ_=>EvP.pure _ ⟨h1.mono (by omega),hup⟩) (λ_=>?_)
 refine Jd h1 (by omega) (by omega) (by omega) λc2 x hc2 x0 x1=>?_
 dsimp only
 simp(disch:=omega) only[Qa]
 refine EvP.bind (Qau hc2 (by omega) (by omega) (Nat.le_refl 50) (XA hl.2 (by omega) _)) λq hq=>?_
 refine Yi hq.1 (by omega) (by decide) (by decide) (by decide) λc5 x5 hc5 hx5=>?_
 dsimp only
 obtain⟨g1,g2,g3,g4,g5,g6,g7,g8⟩:=hq.2
 have he:Qx 70 ⟨x5,q.2.kind,q.2.authors,q.2.editors,q.2.title,q.2.container,q.2.publisher,q.2.date,q.2.volume,q.2.pages,q.2.cross⟩:=⟨Xg hx5,g2,g3,g4,g5,g6,g7,g8⟩
 refine EvP.of (Yx _ (YM (by omega) he)) ?_
 refine EvP.cond (λhv=>?_) (λ_=>EvP.pure _ ⟨hc5.mono (by omega),hup⟩)
 refine EvP.bind (Q56 hl (by omega) (Qbi he hv)) λy hy=>?_
 exact EvP.pure _ ⟨hc5.mono (by omega),Nat.le_trans hy.1 (by omega),hy.2⟩
theorem Qav {code:List Int}(h:byt code):EvP (λk=>Z109.F k code) λr=>YZ 12 r.1.entries:=by
 unfold Z109.F
 refine EvP.bind (Q79 (cu.start h) (by omega)) λr1 hr1=>?_
 refine Jd hr1.1 (by omega) (by omega) (by omega) λc4 y4 hc4 y0 y1=>?_
 dsimp only
 have hq:0<=Int.tdiv y4 11/\Int.tdiv y4 11<=2:=by
  rw[Int.tdiv_eq_ediv_of_nonneg y0]
  omega
 simp only[show((11:Nat)==0)=false from rfl,cond_false]
 rw[wrap_in (x:=Int.tdiv y4 11) (by omega) (by omega),wrap_in (by omega) (by omega)]
 obtain⟨m,hm⟩:∃m:Nat,5+Int.tdiv y4 11=m:=⟨(5+Int.tdiv y4 11).toNat,by omega⟩
 have h7:(([0,1,2,5,40,(-1),41]:List Int).length:Int)=7:=rfl
 rw[hm,h7]
 simp(disch:=omega) only[Qa,Int.toNat_natCast]
 refine KI hc4 (by omega) (by simp;omega) (by simp;omega) λc5 x5 hc5=>?_
 exact EvP.pure _ hr1.2
theorem Qaw {code:List Int}(h:byt code):EvP (λk=>Z111.F k code) λr=>YZ 12 r.1.entries/\Qx 50 r.2:=by
 unfold Z111.F
 refine EvP.bind (Q57 (cu.start h) (by omega)) λr hr=>?_
 obtain⟨h1,hl⟩:=hr
 have hup:YZ 12 r.2.entries:=⟨Nat.le_trans hl.1 (by omega),hl.2⟩
 refine EvP.bind (Ur h1 (by omega)) λq hq=>?_
 obtain⟨v,v1,v2,v3⟩:=Q1L ⟨[]⟩ q.2 (Y0 (m:=0) ⟨by simp,λ_ h=>by cases h⟩ (by omega)) (YM (by omega) hq.2)
 refine EvP.of v1 ?_
 refine EvP.cond (λhv=>?_) (λ_=>EvP.pure _ ⟨hup,hq.2⟩)
 have hk:=(v3 hv).1.1
 by_cases c0:(r.2.entries.length:Int) > 0
 ·simp(disch:=omega) only[Qa]
  refine Yb hq.1 (by omega) (by decide) (by decide) λc6 b6 hc6=>?_
  refine EvP.cond (λ_=>?_) (λ_=>EvP.pure _ ⟨hup,hq.2⟩)
  have he:=XA hl.2 (i:=(0:Int).toNat) (by have:(0:Int).toNat=0:=rfl;omega) (Q4 .entry)
  refine EvP.of (XY (m:=50) _ he) ?_
  obtain⟨g1,g2,g3,g4,g5,g6,g7,g8⟩:=he
  refine EvP.cond (λ_=>?_) (λ_=>EvP.pure _ ⟨hup,hq.2⟩)
  refine EvP.of (YJ r.2 (Y0 hl (by omega))) ?_
  refine EvP.cond (λ_=>?_) (λ_=>EvP.pure _ ⟨hup,hq.2⟩)
  refine EvP.cond (λ_=>?_) (λ_=>EvP.pure _ ⟨hup,hq.2⟩)
  refine EvP.bind (Q56 (e:=⟨v.1,(r.2.entries.getD (0:Int).toNat (Q4 .entry)).kind,(r.2.entries.getD (0:Int).toNat (Q4 .entry)).authors,(r.2.entries.getD (0:Int).toNat (Q4 .entry)).editors,(r.2.entries.getD (0:Int).toNat (Q4 .entry)).title,(r.2.entries.getD (0:Int).toNat (Q4 .entry)).container,(r.2.entries.getD (0:Int).toNat (Q4 .entry)).publisher,(r.2.entries.getD (0:Int).toNat (Q4 .entry)).date,(r.2.entries.getD (0:Int).toNat (Q4 .entry)).volume,(r.2.entries.getD (0:Int).toNat (Q4 .entry)).pages,(r.2.entries.getD (0:Int).toNat (Q4 .entry)).cross⟩) hl (by omega) ⟨by show v.1.size<=200;omega,g2,g3,g4,g5,g6,g7,g8⟩) λy hy=>?_
  exact EvP.pure _ ⟨⟨Nat.le_trans hy.1 (by omega),hy.2⟩,hq.2⟩
 ·simp(disch:=omega) only[Qk]
  exact EvP.pure _ ⟨hup,hq.2⟩
theorem Qax {code:List Int}(h:byt code):EvP (λk=>Z86.F k code) λr=>YZ 12 r.1.entries/\Qx 70 r.2:=by
 unfold Z86.F
 refine EvP.bind (Q79 (cu.start h) (by omega)) λr hr=>?_
 obtain⟨h1,hl⟩:=hr
 have hlen:=hl.1
 by_cases c0:(r.2.entries.length:Int) > 0
 ·simp(disch:=omega) only[Qa]
  refine Yb h1 (by omega) (by decide) (by decide) λc6 b6 hc6=>?_
  refine EvP.cond (λ_=>?_) (λ_=>?_)
  ·refine Jd hc6 (by omega) (by omega) (by omega) λc2 x hc2 x0 x1=>?_
   dsimp only
   simp(disch:=omega) only[Qa]
   refine EvP.bind (Qau hc2 (by omega) (by omega) (Nat.le_refl 50) (XA hl.2 (by omega) _)) λq hq=>?_
   exact EvP.pure _ ⟨hl,hq.2⟩
  ·refine EvP.bind (Ur hc6 (by omega)) λq hq=>?_
   exact EvP.pure _ ⟨hl,hq.2.up (by omega)⟩
 ·simp(disch:=omega) only[Qk]
  refine EvP.bind (Ur h1 (by omega)) λq hq=>?_
  exact EvP.pure _ ⟨hl,hq.2.up (by omega)⟩
def inS (s:ByteArray)(xs:List ByteArray):Bool:=xs.any λy=>Qr y s
theorem Q3G {s:ByteArray}{xs:List ByteArray}:inS s xs=true ↔ s∈xs:=by
 unfold inS
 rw[List.any_eq_true]
 exact⟨λ⟨x,hx,e⟩=>YT.1 e▸hx,λh=>⟨s,h,Xb s⟩⟩
theorem Qay (xs:List ByteArray)(s:ByteArray)(hl:xs.length<=1048576):∀n i:Nat,i+n=xs.length->Ev (λk=>Z37.l0 k xs s i) (bif inS s (xs.drop i)then .inl true else .inr ())
 |0,i,h=>by
  refine Ev.step (λk=>by rw[Z37.l0]) ?_
  simp(disch:=omega) only[Qk]
  rw[List.drop_eq_nil_of_le (by omega)]
  exact Ev.pure _
 |n+1,i,h=>by
  have hi:i<xs.length:=by omega
  refine Ev.step (λk=>by rw[Z37.l0]) ?_
  simp(disch:=omega) only[Qa,Int.toNat_natCast,getD_at hi]
  rw[List.drop_eq_getElem_cons hi]
  have e:inS s (xs[i]::xs.drop (i+1))=(Qr xs[i] s||inS s (xs.drop (i+1))):=rfl
  rw[e]
  cases hb:Qr xs[i] s with
  |true=>exact Ev.pure _
  |false=>
   simp(disch:=omega) only[cond_false,Bool.false_or,wrap_in]
   exact Qay xs s hl n (i+1) (by omega)
theorem Q7a (xs:List ByteArray)(s:ByteArray)(hl:xs.length<=1048576):Ev (λk=>Z37.F k xs s) (inS s xs):=by
 have h:=Qay xs s hl xs.length 0 (by omega)
 rw[List.drop_zero]at h
 unfold Z37.F
 cases hm:inS s xs with
 |true=>rw[hm]at h;exact Ev.bind h (Ev.pure _)
 |false=>rw[hm]at h;exact Ev.bind h (Ev.pure _)
theorem Qaz (gs:List (List ByteArray))(a b:ByteArray)(hl:gs.length<=1048576)(hs:∀g∈gs,g.length<=1048576)(hab:∀g∈gs,a∈g->b∈g):∀n i:Nat,i+n=gs.length->(∃g∈gs.drop i,a∈g)->Ev (λk=>Z42.l0 k gs a b i) (.inl true)
 |0,i,h,hx=>by
  obtain⟨g,hg,_⟩:=hx
  rw[List.drop_eq_nil_of_le (by omega)]at hg
  cases hg
 |n+1,i,h,hx=>by
  have hi:i<gs.length:=by omega
  have hm:=List.getElem_mem hi
  refine Ev.step (λk=>by rw[Z42.l0]) ?_
  simp(disch:=omega) only[Qa,Int.toNat_natCast,getD_at hi]
  refine Ev.bind (Q7a gs[i] a (hs _ hm)) ?_
  cases ha:inS a gs[i]with
  |true=>
   have hb:=Q3G.2 (hab _ hm (Q3G.1 ha))
   have h2:=Q7a gs[i] b (hs _ hm)
   rw[hb]at h2
   exact Ev.bind h2 (Ev.pure _)
  |false=>
   simp(disch:=omega) only[cond_false,wrap_in]
   refine Qaz gs a b hl hs hab n (i+1) (by omega) ?_
   obtain⟨g,hg,hag⟩:=hx
   rw[List.drop_eq_getElem_cons hi]at hg
   rcases List.mem_cons.1 hg with rfl|hg
   ·rw[Q3G.2 hag]at ha;cases ha
   ·exact⟨g,hg,hag⟩
theorem Qbj (gs:List (List ByteArray))(a b:ByteArray)(hl:gs.length<=1048576)(hs:∀g∈gs,g.length<=1048576)(hab:∀g∈gs,a∈g->b∈g)(hx:∃g∈gs,a∈g):Ev (λk=>Z42.F k gs a b) true:=by
 unfold Z42.F
 exact Ev.bind (Qaz gs a b hl hs hab gs.length 0 (by omega) (by simpa using hx)) (Ev.pure _)
theorem Qcx {l:Library}(hB:U5 l=true){lim:Int}(hlim:(decide (lim ≥ 0)&&decide (lim<=40))=true)(hs:JZ l){k i:Nat}(hk:k<l.entries.length)(hi:i<l.entries.length):Ev (λkk=>Z110.F kk l.entries[k] l.entries[i] lim) (alR l lim k i,true):=by
 have e1:=YI l.entries[k] (Ub hs (List.getElem_mem hk))
 have e2:=YI l.entries[i] (Ub hs (List.getElem_mem hi))
 rw[U6 hB hk]at e1
 rw[U6 hB hi]at e2
 have l2:=Jx lim 0 40
 rw[hlim]at l2
 unfold Z110.F
 exact Ev.bind e1 (Ev.bind e2 (Ev.bind0 l2 (Ev.bind (Q6a (Um hB) hB lim hk hi).2 (Ev.pure _))))
theorem Q7b {l:Library}{i:Nat}(hi:i<l.entries.length):kAt l (i:Int)=l.entries[i].key:=by
 unfold kAt
 rw[Int.toNat_natCast,getD_at hi]
theorem Qbk {l:Library}(hB:U5 l=true){x y:Int}(hx:0<=x/\x<l.entries.length)(hy:0<=y/\y<l.entries.length)(h:kAt l x=kAt l y):x=y:=by
 have:=Qb7 hB (i:=x.toNat) (j:=y.toNat) (by omega) (by omega) h
 omega
theorem QbD (code:List Int)(l:Library)(hs:JZ l)(hB:U5 l=true)(lim:Int)(hlim:(decide (lim ≥ 0)&&decide (lim<=40))=true)(lab:List Int)(gs:List (List Int))(hR:Rest l.entries.length (alR l lim) lab)(hg:∀g∈gs,Qan l.entries.length lab g)(hgl:gs.length<=8)(hgs:∀g∈gs,g.length<=8)
  (hx:∀j x:Nat,j<l.entries.length->lab.getD j 0=j->x<l.entries.length->x≠j->lab.getD x 0=j->∃g∈gs,(j:Int)∈g) (i:Nat) (hi:i<l.entries.length):∀m k:Nat,k+m=i->
  Ev (λkk=>Z2.l2 kk code l lim (gs.map (List.map (kAt l))) true i k) (.inr (code,l,lim,gs.map (List.map (kAt l)),true,(i:Int)))
 |0,k,h=>by
  refine Ev.step (λk=>by rw[Z2.l2]) ?_
  simp(disch:=omega) only[Qk]
  exact Ev.pure _
 |m+1,k,h=>by
  have hk:k<l.entries.length:=by omega
  have hl:=Um hB
  have ih:=QbD code l hs hB lim hlim lab gs hR hg hgl hgs hx i hi m (k+1) (by omega)
  refine Ev.step (λk=>by rw[Z2.l2]) ?_
  simp(disch:=omega) only[Qa,Int.toNat_natCast,getD_at hi,getD_at hk]
  refine Ev.bind (Qcx hB hlim hs hk hi) ?_
  cases hr:alR l lim k i with
  |false=>
   simp(disch:=omega) only[Bool.not_true,cond_false,wrap_in]
   exact ih
  |true=>
   have hlab:=hR.eq i k hi (by omega) hr
   have li:=hR.lo i hi
   have lk:=hR.lo k hk
   have low:=hR.low (Q1B l lim) hi
   have memg:∀g∈gs,∀a c:Nat,a<l.entries.length->c<l.entries.length->lab.getD a 0=lab.getD c 0->kAt l a∈g.map (kAt l)->kAt l c∈g.map (kAt l):=λg hgm a c ha hc hac hm=>by
    obtain⟨j,hj,hmem⟩:=hg g hgm
    obtain⟨y,hy,he⟩:=List.mem_map.1 hm
    have hy':=(hmem y).1 hy
    have:=Qbk hB ⟨hy'.1,hy'.2.1⟩ ⟨by omega,by omega⟩ he
    subst this
    refine List.mem_map.2 ⟨(c:Int),(hmem c).2 ⟨by omega,by omega,?_⟩,rfl⟩
    rw[Int.toNat_natCast,<-hac,<-hy'.2.2,Int.toNat_natCast]
   have tog:Ev (λkk=>Z42.F kk (gs.map (List.map (kAt l))) l.entries[k].key l.entries[i].key) true:=by
    rw[<-Q7b hk,<-Q7b hi]
    refine Qbj _ _ _ (by rw[List.length_map];omega) (λg hgm=>?_) (λg hgm ha=>?_) ?_
    ·obtain⟨g',hg',rfl⟩:=List.mem_map.1 hgm
     rw[List.length_map];have:=hgs g' hg';omega
    ·obtain⟨g',hg',rfl⟩:=List.mem_map.1 hgm
     exact memg g' hg' k i hk hi hlab.symm ha
    ·have hj:(lab.getD i 0).toNat<l.entries.length:=by omega
     have e1:lab.getD (lab.getD i 0).toNat 0=(((lab.getD i 0).toNat:Nat):Int):=by rw[low];omega
     obtain⟨g,hg',hjg⟩:=hx (lab.getD i 0).toNat i hj e1 hi (by omega) (by omega)
     exact⟨g.map (kAt l),List.mem_map.2 ⟨g,hg',rfl⟩,memg g hg' (lab.getD i 0).toNat k hj hk (by rw[low];omega) (List.mem_map.2 ⟨_,hjg,rfl⟩)⟩
   simp(disch:=omega) only[Bool.not_true,cond_false,cond_true,Qa,Int.toNat_natCast,getD_at hi,getD_at hk]
   refine Ev.bind tog ?_
   simp(disch:=omega) only[Bool.not_true,cond_false,wrap_in]
   exact ih
theorem QbE (code:List Int)(l:Library)(hs:JZ l)(lim:Int)(G:List (List ByteArray))(ok:Bool)(h2:ok=true->∀i:Nat,i<l.entries.length->Ev (λkk=>Z2.l2 kk code l lim G true i 0) (.inr (code,l,lim,G,true,(i:Int)))):∀m i:Nat,i+m=l.entries.length->
  Ev (λkk=>Z2.l0 kk code l lim G ok i) (.inr code)
 |0,i,h=>by
  refine Ev.step (λk=>by rw[Z2.l0]) ?_
  simp(disch:=omega) only[Qk]
  exact Ev.pure _
 |m+1,i,h=>by
  have hl:=Da hs
  refine Ev.step (λk=>by rw[Z2.l0]) ?_
  simp(disch:=omega) only[Qa]
  cases hok:ok with
  |false=>exact Ev.pure _
  |true=>
   have ih:=QbE code l hs lim G ok h2 m (i+1) (by omega)
   rw[hok]at ih
   refine Ev.bind (h2 hok i (by omega)) ?_
   simp(disch:=omega) only[wrap_in]
   exact ih
theorem QbF (l:Library)(hB:U5 l=true)(e:Entry)(he:JE e=true)(n:Int)(hn:∀t,t<l.entries.length->n<=dW (l.entries.getD t (Q4 .entry)).title e.title):∀m i:Nat,i+m=l.entries.length->Ev (λk=>Z2.l4 k l e n true i) (.inr ())
 |0,i,h=>by
  refine Ev.step (λk=>by rw[Z2.l4]) ?_
  simp(disch:=omega) only[Qk]
  exact Ev.pure _
 |m+1,i,h=>by
  have hi:i<l.entries.length:=by omega
  have hl:=Um hB
  have t1:=(J8 (U6 hB hi)).2
  have t2:=(J8 he).2
  have s1:=Ua l.entries[i].title
  have s2:=Ua e.title
  rw[t1]at s1
  rw[t2]at s2
  obtain⟨_,d2,_⟩:=Q4R _ _ t1 t2
  have hd:=hn i hi
  rw[getD_at hi]at hd
  have td:Ev (λk=>Z114.F k l.entries[i].title e.title) (dW l.entries[i].title e.title,true):=by
   unfold Z114.F
   exact Ev.bind s1 (Ev.bind s2 (Ev.bind d2 (Ev.pure _)))
  refine Ev.step (λk=>by rw[Z2.l4]) ?_
  simp(disch:=omega) only[Qa,cond_true,Int.toNat_natCast,getD_at hi]
  refine Ev.bind td ?_
  simp(disch:=omega) only[Bool.not_true,cond_false,Qk,wrap_in]
  exact QbF l hB e he n hn m (i+1) (by omega)
theorem Qcg (l:Library)(e:Entry)(n:Int):Ev (λk=>Z2.l4 k l e n false 0) (.inr ()):=by
 refine Ev.step (λk=>by rw[Z2.l4]) ?_
 refine Ev.cond (λ_=>Ev.pure _) (λ_=>Ev.pure _)
theorem Q8j (code:List Int)(hc:byt code):Ev (λk=>(Z86.F k code).bind λr15=>(Z26.F k r15.1 r15.2).bind λr16=>(Z34.F k r15.1 r15.2).bind λr17=>bif (!Qr r16.1 r17.1)then(some false)else(bif (r16.2.1 != r17.2.1)then(some false)else(bif (!(r16.2.2==r17.2.2))then(some false)else((Z2.l4 k r15.1 r15.2 r16.2.1 r16.2.2 0).bind λy19=>match y19 with|.inl z20=>some z20|.inr z20=>some true)))) true:=by
 obtain⟨d,d1,d2,d3⟩:=Qax hc
 obtain⟨v,v1,v2,v3⟩:=Q3D d.1 d.2 (Y0 d2 (by omega)) (YM (by omega) d3)
 refine Ev.bind d1 (Ev.bind v2 (Ev.bind v1 ?_))
 simp only[Xb,bne_self_eq_false,beq_self_eq_true,Bool.not_true,cond_false]
 have hl4:Ev (λk=>Z2.l4 k d.1 d.2 v.2.1 v.2.2 0) (.inr ()):=by
  cases hv:v.2.2 with
  |false=>exact Qcg _ _ _
  |true=>
   obtain⟨w1,w2,w3⟩:=v3 hv
   exact QbF d.1 w1 d.2 w2 v.2.1 w3 d.1.entries.length 0 (by omega)
 exact Ev.bind hl4 (Ev.pure _)
theorem Q1O (code:List Int)(hw:WF (.sl (.int .u8)) code):∃k,Z2.F k code=some true:=by
 refine Ev.get (?_:Ev (λk=>Z2.F k code) true)
 unfold Z2.F Z120.F
 by_cases c0:(code.length:Int) > 65536
 ·simp(disch:=omega) only[Qa,Option.bind_some]
  exact Ev.pure _
 simp(disch:=omega) only[Qk,Option.bind_some]
 have hc:byt code:=Qcc hw (by omega)
 obtain⟨d,d1,d2⟩:=Qav hc
 have sd:=Y0 d2 (by omega)
 obtain⟨r,b,v1,v2,v3,v4,v5⟩:=Db d.1 d.2 sd
 refine Ev.bind d1 (Ev.bind v2 (Ev.bind v1 ?_))
 simp only[beq_self_eq_true,bne_self_eq_false,Bool.not_true,cond_false]
 have h0:Ev (λk=>Z2.l0 k code d.1 d.2 r b 0) (.inr code):=by
  refine QbE code d.1 sd d.2 r b (λhb i hi=>?_) d.1.entries.length 0 (by omega)
  obtain⟨w1,w2,lab,gs,w3,w4,w5,w6⟩:=v5 hb
  subst w4
  rw[List.length_map]at v3
  exact QbD code d.1 sd w1 d.2 w2 lab gs w3 w5 v3 (λg hg=>by have:=v4 _ (List.mem_map.2 ⟨g,hg,rfl⟩);rwa [List.length_map]at this) w6 i hi i 0 (by omega)
 refine Ev.bind h0 ?_
 obtain⟨s,s1,s2,s3⟩:=Qaw hc
 obtain⟨u,u1,u2,u3⟩:=Q1L s.1 s.2 (Y0 s2 (by omega)) (YM (by omega) s3)
 refine Ev.bind s1 (Ev.bind u2 (Ev.bind u1 ?_))
 simp only[Xb,beq_self_eq_true,Bool.not_true,cond_false]
 have hb:=Q8j code hc
 cases hu:u.2 with
 |false=>exact hb
 |true=>
  obtain⟨⟨_,z,z1,z2⟩,w2⟩:=u3 hu
  have hf:Ev (λk=>Z113.F k s.1 u.1) (0,false):=by
   have a1:=YJ s.1 (Y0 s2 (by omega))
   rw[w2]at a1
   unfold Z113.F
   refine Ev.bind a1 (Ev.bind z2 ?_)
   simp(disch:=omega) only[Qa]
   exact Ev.pure _
  refine Ev.bind hf ?_
  exact hb
end Go.Proofs.YtoojiikgbopeiaaGreatDoor
end
section
/- The law FnDuplicates returns true for every input,the listed package variables being as the program's text lays it: the card. -/
namespace Go.Proofs.YtoojiikgbopeiaaGreatDoor
open Go.Gx Go.RowKit Go.ChangeShapes Go.WideShapes Go.ChangeAt
theorem fnDuplicates_own:ownKnob Tryz.prog.godebug=none:=by kernel_rfl
set_option maxRecDepth 100000 in
theorem fnDuplicates_contract (H:Type)(enc:TypeId×Value->H)(W:World)(base:Nat)(args:Array Value)(ds gs:List (DataW H))(before:List MemPlace)
  (Yz:∀(j:Nat) t v,Tryz.f4.params[j]? =some t->args[j]? =some v->Value.okWide Tryz.prog W .any base t v)
  (hW:DataW.Whole enc Tryz.prog Tryz.f4.params.toList Rows.fnDuplicatesSpec.vars false W args.toList ds gs before) (hsh:W.ShapedOpen Tryz.prog) :
  Calls Tryz.prog 4 args W λe W'=>∃v,e= .returned v/\Rows.fnDuplicatesSpec.post enc Tryz.prog Tryz.f4 false true false false W args v W':=by
 have hgs:gs=[]:=by
  obtain⟨p,q,_,hV,_⟩:=hW
  exact(trodVars_none hV).1
 subst hgs
 have hds:∃d1,ds=[d1]:=by
  obtain⟨p,q,hA,_⟩:=hW
  obtain⟨_,_,d1,e0,_,_,_,rfl,_,_,h0⟩:=trodAll_cons hA
  obtain⟨_,rfl,_⟩:=trodAll_nil h0
  exact⟨d1,rfl⟩
 obtain⟨d1,rfl⟩:=hds
 have hgl:Qy Q0 (λ_=>undef) (Lt W) W:=by
  refine Qy.mk0 (λg b h=>(by cases h)) (λg hg=>?_)
  have hg':giT g=true:=hg
  unfold giT at hg'
  split at hg'
  ·obtain⟨m,hm⟩:=cell_of_shapedOpen_int (P:=Tryz.prog) (g:=1) (t:=3) (zero:=#[.int .i64 0]) hsh (of_decide_eq_true (by kernel_rfl)) (by kernel_rfl) rfl (by kernel_rfl) (by kernel_rfl) (by kernel_rfl)
   exact⟨World.block_lt_of_cell? _ _ hm,m,hm⟩
  ·cases hg'
 refine Q3l (τs:=[(.sl (.int .u8))]) (r:=.t .bool true) Q1j (by kernel_rfl) rfl (by kernel_rfl) (by kernel_rfl) rfl (by kernel_rfl) (by kernel_rfl) (λt ht=>?_) rfl (λx hx=>by
   obtain⟨k,hk⟩:=Q1O x.1 hx.1
   exact Z2.good Q1j _ k _ hk) rfl Yz hW hgl (λq hq W' _=>?_)
 ·have:t∈[38]:=ht
  simp only[List.mem_cons,List.not_mem_nil,or_false]at this
  rcases this with rfl<;>exact⟨by kernel_rfl,Nat.le_of_ble_eq_true (by kernel_rfl)⟩
 ·obtain⟨_,rfl⟩:=trodVars_none hq
  exact rfl
set_option maxRecDepth 100000 in
noncomputable def fnDuplicates_world (os:Os):World:=
 {World.holding Tryz.prog os ⟨#[],#[],[]⟩with heap:=((((((World.holding Tryz.prog os ⟨#[],#[],[]⟩).heap.modify 4 fun
   |.cells _ t frozen=>.cells #[.int .u8 0,.int .u8 1,.int .u8 28,.int .u8 2,.int .u8 29,.int .u8 14,.int .u8 24,.int .u8 3,.int .u8 30,.int .u8 22,.int .u8 20,.int .u8 15,.int .u8 25,.int .u8 17,.int .u8 4,.int .u8 8,.int .u8 31,.int .u8 27,.int .u8 13,.int .u8 23,.int .u8 21,.int .u8 19,.int .u8 16,.int .u8 7,.int .u8 26,.int .u8 12,.int .u8 18,.int .u8 6,.int .u8 11,.int .u8 5,.int .u8 10,.int .u8 9] t frozen
   |o=>o).modify 5 fun
   |.cells _ t frozen=>.cells #[.int .u8 0,.int .u8 1,.int .u8 56,.int .u8 2,.int .u8 57,.int .u8 49,.int .u8 28,.int .u8 3,.int .u8 61,.int .u8 58,.int .u8 42,.int .u8 50,.int .u8 38,.int .u8 29,.int .u8 17,.int .u8 4,.int .u8 62,.int .u8 47,.int .u8 59,.int .u8 36,.int .u8 45,.int .u8 43,.int .u8 51,.int .u8 22,.int .u8 53,.int .u8 39,.int .u8 33,.int .u8 30,.int .u8 24,.int .u8 18,.int .u8 12,.int .u8 5,.int .u8 63,.int .u8 55,.int .u8 48,.int .u8 27,.int .u8 60,.int .u8 41,.int .u8 37,.int .u8 16,.int .u8 46,.int .u8 35,.int .u8 44,.int .u8 21,.int .u8 52,.int .u8 32,.int .u8 23,.int .u8 11,.int .u8 54,.int .u8 26,.int .u8 40,.int .u8 15,.int .u8 34,.int .u8 20,.int .u8 31,.int .u8 10,.int .u8 25,.int .u8 14,.int .u8 19,.int .u8 9,.int .u8 13,.int .u8 8,.int .u8 7,.int .u8 6] t frozen
   |o=>o).modify 0 fun
   |.cells _ t frozen=>.cells #[.int .u64 1,.int .u64 10,.int .u64 100,.int .u64 1000,.int .u64 10000,.int .u64 100000,.int .u64 1000000,.int .u64 10000000,.int .u64 100000000,.int .u64 1000000000,.int .u64 10000000000,.int .u64 100000000000,.int .u64 1000000000000,.int .u64 10000000000000,.int .u64 100000000000000,.int .u64 1000000000000000,.int .u64 10000000000000000,.int .u64 100000000000000000,.int .u64 1000000000000000000,.int .u64 10000000000000000000] t frozen
   |o=>o).modify 3 fun
   |.cells _ t frozen=>.cells #[.int .u8 128,.int .u8 191,.int .u8 160,.int .u8 191,.int .u8 128,.int .u8 159,.int .u8 144,.int .u8 191,.int .u8 128,.int .u8 143,.int .u8 0,.int .u8 0,.int .u8 0,.int .u8 0,.int .u8 0,.int .u8 0,.int .u8 0,.int .u8 0,.int .u8 0,.int .u8 0,.int .u8 0,.int .u8 0,.int .u8 0,.int .u8 0,.int .u8 0,.int .u8 0,.int .u8 0,.int .u8 0,.int .u8 0,.int .u8 0,.int .u8 0,.int .u8 0] t frozen
   |o=>o).modify 2 fun
   |.cells _ t frozen=>.cells (Pinned.utf8FirstZ.map λ(n:Nat)=>Value.int .u8 (n:Int)).toArray t frozen
   |o=>o)}
theorem fnDuplicates_met (os:Os):laidMet Tryz.prog Rows.fnDuplicatesRow.laid ((fnDuplicates_world os).forCall (λ_ _=>0) ⟨#[],#[.slice none 0 0],[]⟩).memory:=
 laidMet_of_run' 8 (by kernel_rfl) (by kernel_rfl)
theorem fnDuplicates_reads (os:Os){H:Type}(enc:TypeId×Value->H):∃places,DataW.whole enc Tryz.prog ((fnDuplicates_world os).forCall (λ_ _=>0) ⟨#[],#[.slice none 0 0],[]⟩).memory Tryz.f4.params.toList Rows.fnDuplicatesSpec.vars false #[.slice none 0 0].toList 8=some ([.nil],[],places):=
 ⟨[],by kernel_rfl⟩
set_option maxRecDepth 100000 in
theorem fnDuplicates_lifted (os:Os)(started:os.Started)(H:Type)(enc:TypeId×Value->H)(F:Stop.Interp) :
  ReturnsInHanded {} Tryz.checked os 4 .any ((OpenSpec.ofChange Rows.fnDuplicatesSpec).preRow enc Tryz.prog Tryz.f4 Rows.fnDuplicatesRow.domain false Rows.fnDuplicatesRow.laid) (((OpenSpec.ofChange Rows.fnDuplicatesSpec).at F).post enc Tryz.prog Tryz.f4 false true false false):=by
 obtain⟨places,hx⟩:=fnDuplicates_reads os enc
 refine returnsInHanded_of_row (C:=Tryz.checked) (s:=OpenSpec.ofChange Rows.fnDuplicatesSpec) fnDuplicates_own started (by kernel_rfl) (by kernel_rfl)
  (witness_row_at (enc:=enc) (C:=Tryz.checked) false (fnDuplicates_world os) #[.slice none 0 0] rfl (by kernel_rfl) (by kernel_rfl) (by kernel_rfl)
   (OpenSpec.preRow_of_cond 8 hx (by kernel_rfl) (λk hk=>by cases hk) (by kernel_rfl) (fnDuplicates_met os))) ?_
 intro W base args ds gs before Yz hW _ _ _ _ hsh _
 exact fnDuplicates_contract H enc W base args ds gs before Yz hW hsh
theorem fnDuplicates_said:Rows.FnDuplicatesSaid:=
 OpenClaim.holds_of_cond 4 Tryz.f4 rfl rfl rfl rfl rfl rfl rfl ⟨rfl,rfl,rfl,rfl,rfl⟩ rfl rfl rfl rfl rfl (by kernel_rfl) (by kernel_rfl) (by kernel_rfl)
  (of_decide_eq_true (by kernel_rfl)) (by unfold Func.isWrapper;first|(rw[if_pos (by decide+kernel)];kernel_rfl)|(rw[if_neg (by decide+kernel)];exact⟨rfl,rfl⟩))
  (λos started H enc _ F=>by rw[OpenClaim.pre_eq_preRow];exact fnDuplicates_lifted os started H enc F)
theorem fnDuplicates_plain (f:FuncId)(fn:Func)(hf:Tryz.pinned.checked.prog.funcNamed "loop.example/g00896/laws.FnDuplicates" =some f)(hfn:Tryz.pinned.checked.prog.funcs[f]? =some fn) :
  false=Tryz.pinned.checked.prog.looks []/\∀(j:Nat) t,fn.params[j]? =some t->Tryz.pinned.checked.prog.wantsStandIn t=false:=by
 obtain rfl:f=4:=(Option.some.inj ((show Tryz.prog.funcNamed "loop.example/g00896/laws.FnDuplicates" =some 4 by kernel_rfl).symm.trans hf)).symm
 obtain rfl:fn=Tryz.f4:=(Option.some.inj ((show Tryz.prog.funcs[4]? =some Tryz.f4 by kernel_rfl).symm.trans hfn)).symm
 refine⟨by kernel_rfl,λj t ht=>?_⟩
 have ht':t∈[38]:=by simpa using Array.mem_of_getElem? (show(#[38]:Array Nat)[j]? =some t from ht)
 simp only[List.mem_cons,List.not_mem_nil,or_false]at ht'
 rcases ht' with rfl
 ·exact(show Tryz.prog.wantsStandIn 38=false by kernel_rfl)
theorem FnDuplicates_holds:Rows.FnDuplicatesCardSaid:=
 Claim7.holds_tied_plain_at .later [] _ _ _ _ fnDuplicates_said (λ_ h=>by cases h) (by kernel_rfl) (λ_ h=>by cases h) fnDuplicates_row_tie rfl ⟨rfl,rfl⟩ (by kernel_rfl) rfl fnDuplicates_plain (by kernel_rfl)
#print axioms FnDuplicates_holds
end Go.Proofs.YtoojiikgbopeiaaGreatDoor
end
