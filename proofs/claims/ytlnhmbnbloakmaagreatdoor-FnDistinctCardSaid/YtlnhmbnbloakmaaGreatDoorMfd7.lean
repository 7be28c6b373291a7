/- The law FnDistinct returns true for every input,the listed package variables being as the program's text lays it: the card. -/
import Derived.Test.YtlnhmbnbloakmaaGreatDoorMfd6
import Derived.Test.YtlnhmbnbloakmaaGreatDoorCards
import Derived.Test.YtlnhmbnbloakmaaGreatDoorTie
import Derived.Test.YtlnhmbnbloakmaaGreatDoorMfd4
import Derived.Shelf.Vars
import Derived.WalkKit
import Derived.ProofKit
import Derived.OpenShut
import Derived.Deep.DeepHandedRow
import Derived.Lib.LaidTab
set_option linter.unusedVariables false
set_option linter.unusedSimpArgs false
set_option maxRecDepth 100000
section
namespace Go.Proofs.YtlnhmbnbloakmaaGreatDoor
open Go.Gx
noncomputable def twin (xs:List Abbr)(t u:ByteArray):Bool:=!Ql u t&&Ql (tW xs u) (tW xs t)
theorem Gq (xs:List Abbr)(hs:smalls xs)(ts:List ByteArray)(ht:∀t∈ts,Jo t=true)(hl:ts.length<=20)(acc:List ByteArray)(i:Nat)(hi:i<ts.length):∀n j:Nat,j+n=ts.length->∀nm:ByteArray,
  Ev (λk=>Z3.l2 k xs ts acc i nm j) (xs,ts,acc,(i:Int),if(ts.drop j).any (twin xs ts[i])=true then ts[i]else nm)
 |0,j,h,nm=>by
  refine Ev.step (λk=>by rw[Z3.l2]) ?_
  simp(disch:=omega) only[Qu]
  rw[List.drop_eq_nil_of_le (by omega)]
  exact Ev.pure _
 |n+1,j,h,nm=>by
  have hj:j<ts.length:=by omega
  obtain⟨t1,_⟩:=Q0w xs hs ts[i] (ht _ (List.getElem_mem hi))
  obtain⟨u1,_⟩:=Q0w xs hs ts[j] (ht _ (List.getElem_mem hj))
  refine Ev.step (λk=>by rw[Z3.l2]) ?_
  rw[List.drop_eq_getElem_cons hj,List.any_cons]
  simp(disch:=omega) only[Qd,Int.toNat_natCast,getD_at hi,getD_at hj]
  unfold twin
  cases h1:Ql ts[j] ts[i]with
  |true=>
   simp(disch:=omega) only[Bool.not_true,cond_false,Bool.false_and,Bool.false_or,wrap_in]
   have:=Gq xs hs ts ht hl acc i hi n (j+1) (by omega) nm
   unfold twin at this
   exact this
  |false=>
   simp(disch:=omega) only[Bool.not_false,cond_true,Bool.true_and]
   refine Ev.bind u1 (Ev.bind t1 ?_)
   cases h2:Ql (tW xs ts[j]) (tW xs ts[i])with
   |true=>
    simp(disch:=omega) only[cond_true,Bool.true_or,if_true,wrap_in]
    have:=Gq xs hs ts ht hl acc i hi n (j+1) (by omega) ts[i]
    rw[ite_self]at this
    exact this
   |false=>
    simp(disch:=omega) only[cond_false,Bool.false_or,wrap_in]
    have:=Gq xs hs ts ht hl acc i hi n (j+1) (by omega) nm
    unfold twin at this
    exact this
theorem Q7H (xs:List Abbr)(hs:smalls xs)(ts:List ByteArray)(ht:∀t∈ts,Jo t=true)(hl:ts.length<=20)(t:ByteArray):Ev (λk=>Z63.F k ts t xs (tW xs t)) (ts.any (twin xs t)):=by
 have hq:∀x,x∈ts->Ev (λk=>Z54.F k x t xs (tW xs t)) (twin xs t x):=λx hx=>by
  unfold Z54.F twin
  cases Ql x t with
  |true=>exact Ev.pure _
  |false=>exact Ev.bind (Q0w xs hs x (ht x hx)).2 (Ev.pure _)
 obtain⟨r,h1,h2⟩:=Q2d (d:=(⟨#[]⟩:ByteArray)) (p:=twin xs t) (q:=λk x=>Z54.F k x t xs (tW xs t)) (xs:=ts) (l0:=λk x0 x7 x8=>Z33.l0 k x0 t xs (tW xs t) x7 x8) (λk x0 x7 x8=>by rw[Z33.l0]) hq (by omega) (F:=λk x0=>Z33.F k x0 t xs (tW xs t)) (λk a0=>rfl)
 unfold Z63.F
 refine Ev.bind h1 ((Ev.pure _).eq ?_)
 rcases h2 with⟨rfl,h2⟩|⟨j,rfl,hj,hp,_⟩
 ·have:ts.any (twin xs t)=false:=by rw[List.any_eq_false];exact λx hx=>by rw[h2 x hx];decide
  rw[this];rfl
 ·have:ts.any (twin xs t)=true:=by
   rw[List.any_eq_true]
   refine⟨ts[j],List.getElem_mem hj,?_⟩
   rw[getD_at hj]at hp
   exact hp
  rw[this,decide_eq_true (by omega)]
theorem Q0x (xs:List Abbr)(hs:smalls xs)(ts:List ByteArray)(ht:∀t∈ts,Jo t=true)(hl:ts.length<=20):∀n i:Nat,i+n=ts.length->∀acc:List ByteArray,acc.length<=i->
  ∃r,Ev (λk=>Z3.l0 k xs ts acc i) r/\Ev (λk=>Z18.l0 k ts xs acc ts ts.length i) r/\r.length<=ts.length
 |0,i,h,acc,ha=>by
  refine⟨acc,Ev.step (λk=>by rw[Z3.l0]) ?_,Ev.step (λk=>by rw[Z18.l0]) ?_,by omega⟩
  ·simp(disch:=omega) only[Qu];exact Ev.pure _
  ·simp(disch:=omega) only[Qu];exact Ev.pure _
 |n+1,i,h,acc,ha=>by
  have hi:i<ts.length:=by omega
  obtain⟨t1,t2⟩:=Q0w xs hs ts[i] (ht _ (List.getElem_mem hi))
  have e1:=Gq xs hs ts ht hl acc i hi ts.length 0 (by omega) (tW xs ts[i])
  rw[List.drop_zero]at e1
  have e2:=Q7H xs hs ts ht hl ts[i]
  have hr:∀z:ByteArray,room (acc.length+([z]:List ByteArray).length) .str=true:=λz=>UJ (by simp;omega)
  obtain⟨r,r1,r2,r3⟩:=Q0x xs hs ts ht hl n (i+1) (by omega) (acc++[if ts.any (twin xs ts[i])=true then ts[i]else tW xs ts[i]]) (by simp;omega)
  refine⟨r,Ev.step (λk=>by rw[Z3.l0]) ?_,Ev.step (λk=>by rw[Z18.l0]) ?_,r3⟩
  ·simp(disch:=omega) only[Qd,Int.toNat_natCast,getD_at hi]
   refine Ev.bind t1 (Ev.bind e1 ?_)
   simp(disch:=omega) only[hr,cond_true,wrap_in]
   exact r1
  ·simp(disch:=omega) only[Qd,Int.toNat_natCast,getD_at hi]
   refine Ev.bind t2 (Ev.bind e2 ?_)
   cases hb:ts.any (twin xs ts[i])with
   |true=>
    rw[hb]at r2
    simp(disch:=omega) only[hr,cond_true,wrap_in]
    exact r2
   |false=>
    rw[hb]at r2
    simp(disch:=omega) only[hr,cond_true,cond_false,wrap_in]
    exact r2
theorem Q3q (xs:List Abbr)(hs:smalls xs)(ts:List ByteArray)(hl:ts.length<=1048576):∃r b,Ev (λk=>Z3.F k xs ts) (r,b)/\Ev (λk=>Z18.F k xs ts) (r,b)/\r.length<=20:=by
 have v1:=D7 xs hs
 have t1:=XN ts hl
 have v2:=UL xs hs ts hl
 unfold Z3.F Z18.F
 cases hv:JB xs with
 |false=>
  rw[hv]at v1 v2
  exact⟨_,_,Ev.bind v1 (Ev.pure _),Ev.bind v2 (Ev.pure _),by simp⟩
 |true=>
  rw[hv]at v1 v2
  cases ht:Yc ts with
  |false=>
   rw[ht]at t1 v2
   exact⟨_,_,Ev.bind v1 (Ev.bind t1 (Ev.pure _)),Ev.bind v2 (Ev.pure _),by simp⟩
  |true=>
   rw[ht]at t1 v2
   obtain⟨h1,h2⟩:=Xm ht
   obtain⟨r,r1,r2,r3⟩:=Q0x xs hs ts h1 h2 ts.length 0 (by omega) [] (Nat.le_refl _)
   exact⟨r,true,Ev.bind v1 (Ev.bind t1 (Ev.bind r1 (Ev.pure _))),Ev.bind v2 (Ev.bind r2 (Ev.pure _)),by omega⟩
end Go.Proofs.YtlnhmbnbloakmaaGreatDoor
end
section
/- Plain laws: the abbreviations that no title uses,both ways. -/
namespace Go.Proofs.YtlnhmbnbloakmaaGreatDoor
open Go.Gx
theorem Q4p {n:Nat}(h:n<=1000000):room n (.int .i64)=true:=by
 unfold room
 rw[Nat.ble_eq]
 have:nb (.int .i64)=8:=rfl
 rw[this]
 omega
theorem Q7I (l:List Int)(v:Int)(hl:l.length<=1048576):∀n i:Nat,i+n=l.length->∃j:Nat,j<=l.length/\Ev (λk=>Z29.l0 k l v i) (l,v,(j:Int))
 |0,i,h=>by
  refine⟨i,by omega,Ev.step (λk=>by rw[Z29.l0]) ?_⟩
  simp(disch:=omega) only[Qu]
  exact Ev.pure _
 |n+1,i,h=>by
  have hi:i<l.length:=by omega
  by_cases c:l[i]<v
  ·obtain⟨j,h1,h2⟩:=Q7I l v hl n (i+1) (by omega)
   refine⟨j,h1,Ev.step (λk=>by rw[Z29.l0]) ?_⟩
   simp(disch:=omega) only[Qd,Int.toNat_natCast,getD_at hi,wrap_in]
   exact h2
  ·refine⟨i,by omega,Ev.step (λk=>by rw[Z29.l0]) ?_⟩
   simp(disch:=omega) only[Qd,Qu,Int.toNat_natCast,getD_at hi,wrap_in]
   exact Ev.pure _
theorem Q98 (l:List Int)(v:Int)(hl:l.length<=900000):∃r,Ev (λk=>Z29.F k l v) r/\(∀x,x∈r ↔ x=v\/x∈l)/\r.length<=l.length+1:=by
 obtain⟨j,hj,h1⟩:=Q7I l v (by omega) l.length 0 (by omega)
 have r1:room (([]:List Int).length+(l.take j).length) (.int .i64)=true:=Q4p (by simp;omega)
 have r2:room ((([]:List Int)++l.take j).length+([v]:List Int).length) (.int .i64)=true:=Q4p (by simp;omega)
 have r3:room (((([]:List Int)++l.take j)++([v]:List Int)).length+(l.drop j).length) (.int .i64)=true:=Q4p (by simp;omega)
 have hm:∀x,x∈(([]:List Int)++l.take j)++[v]++l.drop j ↔ x=v\/x∈l:=λx=>by
  have e:x∈l ↔ x∈l.take j\/x∈l.drop j:=by
   conv=>lhs;rw[<-List.take_append_drop j l]
   exact List.mem_append
  rw[e]
  simp only[List.nil_append,List.mem_append,List.mem_singleton]
  constructor
  ·rintro((h|h)|h)
   ·exact .inr (.inl h)
   ·exact .inl h
   ·exact .inr (.inr h)
  ·rintro(h|h|h)
   ·exact .inl (.inr h)
   ·exact .inl (.inl h)
   ·exact .inr h
 have hln:((([]:List Int)++l.take j)++[v]++l.drop j).length<=l.length+1:=by simp;omega
 unfold Z29.F
 by_cases c:j<l.length
 ·by_cases c2:l[j]=v
  ·refine⟨l,Ev.bind h1 ?_,λx=>?_,by omega⟩
   ·simp(disch:=omega) only[Qd,Int.toNat_natCast,getD_at c,ceq]
    exact Ev.pure _
   ·constructor
    ·exact .inr
    ·rintro(rfl|h)
     ·rw[<-c2];exact List.getElem_mem c
     ·exact h
  ·refine⟨_,Ev.bind h1 ?_,hm,hln⟩
   simp(disch:=omega) only[Qd,Int.toNat_natCast,getD_at c,cne,r1,r2,r3,cond_true]
   exact Ev.pure _
 ·refine⟨_,Ev.bind h1 ?_,hm,hln⟩
  simp(disch:=omega) only[Qu,Qd,Int.toNat_natCast,r1,r2,r3,cond_true]
  exact Ev.pure _
theorem Q7J (xs:List Int)(v:Int)(hl:xs.length<=1048576):∀n i:Nat,i+n=xs.length->Ev (λk=>Z21.l0 k xs v i) (if v∈xs.drop i then .inl true else .inr ())
 |0,i,h=>by
  have hd:xs.drop i=[]:=List.drop_eq_nil_of_le (by omega)
  rw[hd]
  refine Ev.step (λk=>by rw[Z21.l0]) ?_
  simp(disch:=omega) only[Qu]
  exact(Ev.pure _).eq (by simp)
 |n+1,i,h=>by
  have hi:i<xs.length:=by omega
  have hd:xs.drop i=xs[i]::xs.drop (i+1):=List.drop_eq_getElem_cons hi
  have h1:=Q7J xs v hl n (i+1) (by omega)
  by_cases hv:xs[i]=v
  ·have hm:v∈xs.drop i:=by rw[hd,hv];exact List.mem_cons_self
   refine Ev.step (λk=>by rw[Z21.l0]) ?_
   rw[if_pos hm]
   simp(disch:=omega) only[Qd,Int.toNat_natCast,getD_at hi,ceq]
   exact Ev.pure _
  ·have hm:v∈xs.drop i ↔ v∈xs.drop (i+1):=by
    rw[hd,List.mem_cons]
    exact⟨λh=>h.resolve_left λe=>hv e.symm,.inr⟩
   refine Ev.step (λk=>by rw[Z21.l0]) ?_
   simp(disch:=omega) only[Qd,Int.toNat_natCast,getD_at hi,cne,wrap_in]
   exact h1.eq (by simp only[hm])
theorem Q8u (xs:List Int)(v:Int)(hl:xs.length<=1048576):Ev (λk=>Z21.F k xs v) (decide (v∈xs)):=by
 have h1:=Q7J xs v hl xs.length 0 (by omega)
 rw[List.drop_zero]at h1
 unfold Z21.F
 by_cases hv:v∈xs
 ·rw[if_pos hv]at h1
  rw[decide_eq_true hv]
  exact Ev.bind h1 (Ev.pure _)
 ·rw[if_neg hv]at h1
  rw[decide_eq_false hv]
  exact Ev.bind h1 (Ev.pure _)
def Q3r (l m:List Int):Prop:=∀j:Int,0<=j->(j∈l ↔ j∈m)
theorem Q0y (xs:List Abbr)(hs:smalls xs)(ts acc:List ByteArray)(t:Int)(W:List ByteArray)(hW:∀x∈W,0<x.size/\x.size<=1048576)(hl:W.length<=8192):∀n i:Nat,i+n=W.length->∀l m:List Int,Q3r l m->l.length<=m.length->m.length+n<=800000->
  ∃l' m',Ev (λk=>Z1.l2 k xs ts acc l t W true i) (xs,ts,acc,l',t)/\Ev (λk=>uW (Z5.F k xs) (W.drop i) m) m'/\Q3r l' m'/\l'.length<=m'.length/\m'.length<=m.length+n
 |0,i,h,l,m,h1,h2,h3=>by
  rw[List.drop_eq_nil_of_le (by omega)]
  refine⟨l,m,Ev.step (λk=>by rw[Z1.l2]) ?_,Ev.pure _,h1,h2,by omega⟩
  simp(disch:=omega) only[Qu]
  exact Ev.pure _
 |n+1,i,h,l,m,h1,h2,h3=>by
  have hi:i<W.length:=by omega
  obtain⟨w1,w2⟩:=hW _ (List.getElem_mem hi)
  obtain⟨z,z1,z2,z3,z4⟩:=found xs hs W[i] w1 w2
  have hz:(Lit.int .i64 z).wf=true:=by
   have e1:IntKind.i64.min= -9223372036854775808:=by decide
   have e2:IntKind.i64.max=9223372036854775807:=by decide
   have:=hs.1
   simp only[Lit.wf,e1,e2,Bool.and_eq_true,decide_eq_true_eq]
   omega
  have hb:Nat.ble m.length 1000000=true:=Nat.ble_eq_true_of_le (by omega)
  rw[List.drop_eq_getElem_cons hi]
  by_cases c:0<=z
  ·obtain⟨r,p1,p2,p3⟩:=Q98 l z (by omega)
   obtain⟨l',m',q1,q2,q3,q4,q5⟩:=Q0y xs hs ts acc t W hW hl n (i+1) (by omega) r (z::m) (λj hj=>by rw[p2,List.mem_cons,h1 j hj]) (by simp;omega) (by simp;omega)
   refine⟨l',m',Ev.step (λk=>by rw[Z1.l2]) ?_,?_,q3,q4,by simp at q5;omega⟩
   ·simp(disch:=omega) only[Qd,Int.toNat_natCast,getD_at hi,cond_true]
    refine Ev.bind z1 ?_
    rw[decide_eq_true (show z ≥ 0 from c)]
    simp only[cond_true]
    refine Ev.bind p1 ?_
    simp(disch:=omega) only[wrap_in]
    exact q1
   ·unfold uW
    simp only[hb,cond_true]
    refine Ev.bind z2 ?_
    simp only[hz,cond_true]
    exact q2
  ·obtain⟨l',m',q1,q2,q3,q4,q5⟩:=Q0y xs hs ts acc t W hW hl n (i+1) (by omega) l (z::m) (λj hj=>by rw[List.mem_cons,h1 j hj];exact⟨.inr,λh=>h.resolve_left (by omega)⟩) (by simp;omega) (by simp;omega)
   refine⟨l',m',Ev.step (λk=>by rw[Z1.l2]) ?_,?_,q3,q4,by simp at q5;omega⟩
   ·simp(disch:=omega) only[Qd,Int.toNat_natCast,getD_at hi,cond_true]
    refine Ev.bind z1 ?_
    rw[decide_eq_false (show¬z ≥ 0 from c)]
    simp(disch:=omega) only[cond_false,wrap_in]
    exact q1
   ·unfold uW
    simp only[hb,cond_true]
    refine Ev.bind z2 ?_
    simp only[hz,cond_true]
    exact q2
theorem DN (xs:List Abbr)(hs:smalls xs)(ts:List ByteArray)(ht:∀t∈ts,Jo t=true)(hl:ts.length<=20):∀n i:Nat,i+n=ts.length->∀l m:List Int,Q3r l m->l.length<=m.length->m.length<=100*i->
  ∃l' m',Ev (λk=>Z1.l0 k xs ts [] l i) (xs,[],l')/\Ev (λk=>uT (Z44.F k) (Z5.F k xs) (ts.drop i) m) m'/\Q3r l' m'/\l'.length<=2000
 |0,i,h,l,m,h1,h2,h3=>by
  rw[List.drop_eq_nil_of_le (by omega)]
  refine⟨l,m,Ev.step (λk=>by rw[Z1.l0]) ?_,Ev.pure _,h1,by omega⟩
  simp(disch:=omega) only[Qu]
  exact Ev.pure _
 |n+1,i,h,l,m,h1,h2,h3=>by
  have hi:i<ts.length:=by omega
  have hti:=ht _ (List.getElem_mem hi)
  have hsz:ts[i].size<=40:=by
   unfold Jo at hti
   rw[Bool.and_eq_true,decide_eq_true_eq]at hti
   exact hti.1
  have k1:=Xl ts[i] hsz
  have k2:=Q2g ts[i] hsz
  obtain⟨k3,k4⟩:=UK ts[i]
  rw[List.drop_eq_getElem_cons hi]
  cases hb:(J4 ts[i]).2 with
  |true=>
   obtain⟨l',m',q1,q2,q3,q4,q5⟩:=Q0y xs hs ts [] (i:Int) (J4 ts[i]).1 (λx hx=>by have:=k3 x hx;omega) (by omega) (J4 ts[i]).1.length 0 (by omega) l m h1 h2 (by omega)
   rw[List.drop_zero]at q2
   obtain⟨l2,m2,r1,r2,r3,r4⟩:=DN xs hs ts ht hl n (i+1) (by omega) l' m' q3 q4 (by omega)
   refine⟨l2,m2,Ev.step (λk=>by rw[Z1.l0]) ?_,?_,r3,r4⟩
   ·simp(disch:=omega) only[Qd,Int.toNat_natCast,getD_at hi]
    refine Ev.bind k1 ?_
    rw[hb]
    refine Ev.bind q1 ?_
    simp(disch:=omega) only[wrap_in]
    exact r1
   ·unfold uT
    refine Ev.bind k2 ?_
    rw[hb]
    exact Ev.bind q2 r2
  |false=>
   obtain⟨l2,m2,r1,r2,r3,r4⟩:=DN xs hs ts ht hl n (i+1) (by omega) l m h1 h2 (by omega)
   refine⟨l2,m2,Ev.step (λk=>by rw[Z1.l0]) ?_,?_,r3,r4⟩
   ·simp(disch:=omega) only[Qd,Int.toNat_natCast,getD_at hi]
    refine Ev.bind k1 ?_
    rw[hb]
    refine Ev.bind (a:=(xs,ts,[],l,(i:Int))) (Ev.step (λk=>by rw[Z1.l2]) ?_) ?_
    ·cases hd:decide ((0:Int)<((J4 ts[i]).1.length:Int))with
     |true=>simp only[cond_true,cond_false];exact Ev.pure _
     |false=>simp only[cond_false];exact Ev.pure _
    ·simp(disch:=omega) only[wrap_in]
     exact r1
   ·unfold uT
    refine Ev.bind k2 ?_
    rw[hb]
    exact Ev.bind (Ev.pure _) r2
theorem Q4q (xs:List Abbr)(hx:xs.length<=15)(l m:List Int)(hS:Q3r l m)(hl:l.length<=2000):∀n i:Nat,i+n=xs.length->∀acc:List ByteArray,acc.length<=i->
  Ev (λk=>Z1.l4 k xs acc l i) (acc++uO i (xs.drop i) m)
 |0,i,h,acc,ha=>by
  rw[List.drop_eq_nil_of_le (by omega)]
  refine Ev.step (λk=>by rw[Z1.l4]) ?_
  simp(disch:=omega) only[Qu]
  exact(Ev.pure _).eq (by simp[uO])
 |n+1,i,h,acc,ha=>by
  have hi:i<xs.length:=by omega
  have h1:=Q8u l (i:Int) (by omega)
  have hr:∀z:ByteArray,room (acc.length+([z]:List ByteArray).length) .str=true:=λz=>UJ (by simp;omega)
  have ec:m.contains (i:Int)=decide ((i:Int)∈l):=by
   rw[show decide ((i:Int)∈l)=decide ((i:Int)∈m) by simp only[hS _ (Int.natCast_nonneg i)]]
   exact List.contains_eq_mem _ _
  rw[List.drop_eq_getElem_cons hi]
  refine Ev.step (λk=>by rw[Z1.l4]) ?_
  simp(disch:=omega) only[Qd,Int.toNat_natCast,getD_at hi]
  refine Ev.bind h1 ?_
  unfold uO
  rw[ec]
  cases decide ((i:Int)∈l)with
  |true=>
   simp(disch:=omega) only[Bool.not_true,cond_false,cond_true,wrap_in]
   exact Q4q xs hx l m hS hl n (i+1) (by omega) acc (by omega)
  |false=>
   simp(disch:=omega) only[Bool.not_false,cond_false,cond_true,wrap_in,hr]
   have:=Q4q xs hx l m hS hl n (i+1) (by omega) (acc++[xs[i].word]) (by simp;omega)
   rw[List.append_assoc]at this
   exact this
theorem Q7K:∀(xs:List Abbr) (i:Int) (m:List Int),(uO i xs m).length<=xs.length
 |[],_,_=>Nat.le_refl _
 |a::l,i,m=>by
  have:=Q7K l (i+1) m
  unfold uO
  cases m.contains i<;>simp<;>omega
theorem Q61 (xs:List Abbr)(hs:smalls xs)(ts:List ByteArray)(hl:ts.length<=1048576):∃r b,Ev (λk=>Z1.F k xs ts) (r,b)/\Ev (λk=>Z75.F k xs ts) (r,b)/\r.length<=15/\(JB xs=true->Yc ts=true->b=true/\∃m,r=uO 0 xs m/\Ev (λk=>uT (Z44.F k) (Z5.F k xs) ts []) m):=by
 have v1:=D7 xs hs
 have t1:=XN ts hl
 have v2:=UL xs hs ts hl
 unfold Z1.F Z75.F
 cases hv:JB xs with
 |false=>
  rw[hv]at v1 v2
  exact⟨_,_,Ev.bind v1 (Ev.pure _),Ev.bind v2 (Ev.pure _),by simp,λh=>by cases h⟩
 |true=>
  rw[hv]at v1 v2
  cases ht:Yc ts with
  |false=>
   rw[ht]at t1 v2
   exact⟨_,_,Ev.bind v1 (Ev.bind t1 (Ev.pure _)),Ev.bind v2 (Ev.pure _),by simp,λ_ h=>by cases h⟩
  |true=>
   rw[ht]at t1 v2
   obtain⟨h1,h2⟩:=Xm ht
   have hx:xs.length<=15:=by
    unfold JB at hv
    rw[Bool.and_eq_true,decide_eq_true_eq]at hv
    omega
   obtain⟨l,m,r1,r2,r3,r4⟩:=DN xs hs ts h1 h2 ts.length 0 (by omega) [] [] (λ_ _=>Iff.rfl) (Nat.le_refl _) (by simp)
   rw[List.drop_zero]at r2
   have o1:=Q4q xs hx l m r3 r4 xs.length 0 (by omega) [] (Nat.le_refl _)
   rw[List.drop_zero,List.nil_append]at o1
   refine⟨uO 0 xs m,true,Ev.bind v1 (Ev.bind t1 (Ev.bind r1 (Ev.bind o1 (Ev.pure _)))),Ev.bind v2 ?_,by have:=Q7K xs 0 m;omega,λ_ _=>⟨rfl,m,rfl,r2⟩⟩
   unfold Q8o
   rw[show Nat.ble xs.length 1000000=true from Nat.ble_eq_true_of_le (by omega)]
   exact Ev.bind r2 (Ev.pure _)
end Go.Proofs.YtlnhmbnbloakmaaGreatDoor
end
section
/- Plain laws: which abbreviation a word has,and that it keeps it where others are left out. -/
namespace Go.Proofs.YtlnhmbnbloakmaaGreatDoor
open Go.Gx
def Q2k (lw:ByteArray)(a:Abbr):Prop:=dash a.word=true/\(JU a.word 45).size<=lw.size/\lw.extract 0 (JU a.word 45).size=JU a.word 45
def Q8v (xs:List Abbr)(lw:ByteArray):Option Abbr->Prop
 |none=>(∀a∈xs,a.word≠lw)/\∀a∈xs,¬Q2k lw a
 |some a=>a∈xs/\(a.word=lw\/((∀b∈xs,b.word≠lw)/\Q2k lw a/\∀b∈xs,Q2k lw b->b.word.size<=a.word.size))
theorem Q8w {a b:ByteArray}(c:a≠b):Ql a b=false:=by
 cases h:Ql a b with
 |false=>rfl
 |true=>exact absurd (YQ.1 h) c
def Q99 (xs:List Abbr)(lw:ByteArray)(z:Int):Prop:=(z= -1/\Q8v xs lw none)\/∃b:Nat,z=b/\∃h:b<xs.length,Q8v xs lw (some xs[b])
theorem Q2l (xs:List Abbr)(hs:smalls xs)(lw:ByteArray):∀n i:Nat,i+n=xs.length->∀best:Int,-1<=best->best<xs.length->(∀j (h:j<xs.length),j<i->xs[j].word≠lw)->
  ((best= -1/\∀j (h:j<xs.length),j<i->¬Q2k lw xs[j])\/(∃b:Nat,best=b/\∃h:b<xs.length,Q2k lw xs[b]/\∀j (h':j<xs.length),j<i->Q2k lw xs[j]->xs[j].word.size<=xs[b].word.size))->
  ∃z:Int,(Ev (λk=>Z0.l2 k xs lw best i) (.inl z)\/Ev (λk=>Z0.l2 k xs lw best i) (.inr z))/\Q99 xs lw z
 |0,i,h,best,h1,h2,hne,hb=>by
  have hall:∀a∈xs,a.word≠lw:=λa ha=>by
   obtain⟨j,hj,rfl⟩:=List.getElem_of_mem ha
   exact hne j hj (by omega)
  refine⟨best,.inr (Ev.step (λk=>by rw[Z0.l2]) ?_),?_⟩
  ·simp(disch:=omega) only[Qu];exact Ev.pure _
  ·rcases hb with⟨rfl,hb⟩|⟨b,rfl,hbl,hc,hb⟩
   ·refine .inl ⟨rfl,hall,λa ha=>?_⟩
    obtain⟨j,hj,rfl⟩:=List.getElem_of_mem ha
    exact hb j hj (by omega)
   ·refine .inr ⟨b,rfl,hbl,List.getElem_mem hbl,.inr ⟨hall,hc,λa ha=>?_⟩⟩
    obtain⟨j,hj,rfl⟩:=List.getElem_of_mem ha
    exact hb j hj (by omega)
 |n+1,i,h,best,h1,h2,hne,hb=>by
  have hi:i<xs.length:=by omega
  have hlen:=hs.1
  have hw:=(hs.2 _ (List.getElem_mem hi)).1
  have cut:Z42.F xs[i].word 45=some (JU xs[i].word 45):=UH xs[i].word 45 (by omega)
  by_cases ex:xs[i].word=lw
  ·refine⟨i,.inl (Ev.step (λk=>by rw[Z0.l2]) ?_),.inr ⟨i,rfl,hi,List.getElem_mem hi,.inl ex⟩⟩
   simp(disch:=omega) only[Qd,Int.toNat_natCast,getD_at hi,ex,Un,cond_true];exact Ev.pure _
  ·have e:=Q8w ex
   have hne':∀j (h:j<xs.length),j<i+1->xs[j].word≠lw:=λj hj hji=>by
    rcases Nat.lt_or_eq_of_le (Nat.le_of_lt_succ hji)with hlt|rfl
    ·exact hne j hj hlt
    ·exact ex
   by_cases hc:Q2k lw xs[i]
   ·obtain⟨hd,c,hq⟩:=hc
    have hq':=YQ.2 hq
    have put:best<0\/(∃hb':best.toNat<xs.length,(xs[i].word.size:Int) > (xs[best.toNat].word.size:Int))->∃z:Int,(Ev (λk=>Z0.l2 k xs lw i ((i:Int)+1)) (.inl z)\/Ev (λk=>Z0.l2 k xs lw i ((i:Int)+1)) (.inr z))/\Q99 xs lw z:=λhbig=>by
     refine Q2l xs hs lw n (i+1) (by omega) i (by omega) (by omega) hne' (.inr ⟨i,rfl,hi,⟨hd,c,hq⟩,λj hj hji hcj=>?_⟩)
     rcases Nat.lt_or_eq_of_le (Nat.le_of_lt_succ hji)with hlt|rfl
     ·rcases hb with⟨rfl,hb⟩|⟨b,rfl,hbl,hcb,hb⟩
      ·exact absurd hcj (hb j hj hlt)
      ·have h3:=hb j hj hlt hcj
       rcases hbig with h4|⟨h5,h4⟩
       ·omega
       ·simp only[Int.toNat_natCast]at h4
        omega
     ·exact Nat.le_refl _
    by_cases hb0:best<0
    ·obtain⟨z,z1,z2⟩:=put (.inl hb0)
     have go:∀r,Ev (λk=>Z0.l2 k xs lw i ((i:Int)+1)) r->Ev (λk=>Z0.l2 k xs lw best i) r:=λr hr=>by
      refine Ev.step (λk=>by rw[Z0.l2]) ?_
      simp(disch:=omega) only[Qd,Int.toNat_natCast,getD_at hi,e,cond_false]
      refine Ev.bind0 cut ?_
      simp(disch:=omega) only[U6,hd,cond_true,cond_false,Qd,Int.toNat_natCast,hq',wrap_in]
      exact hr
     exact⟨z,z1.imp (go _) (go _),z2⟩
    ·have hb':best.toNat<xs.length:=by omega
     by_cases hz:(xs[i].word.size:Int) > (xs[best.toNat].word.size:Int)
     ·obtain⟨z,z1,z2⟩:=put (.inr ⟨hb',hz⟩)
      have go:∀r,Ev (λk=>Z0.l2 k xs lw i ((i:Int)+1)) r->Ev (λk=>Z0.l2 k xs lw best i) r:=λr hr=>by
       refine Ev.step (λk=>by rw[Z0.l2]) ?_
       simp(disch:=omega) only[Qd,Int.toNat_natCast,getD_at hi,e,cond_false]
       refine Ev.bind0 cut ?_
       simp(disch:=omega) only[U6,hd,cond_true,cond_false,Qd,Qu,Int.toNat_natCast,hq',wrap_in,getD_at hb']
       exact hr
      exact⟨z,z1.imp (go _) (go _),z2⟩
     ·obtain⟨z,z1,z2⟩:=Q2l xs hs lw n (i+1) (by omega) best h1 h2 hne' (by
       rcases hb with⟨rfl,hb⟩|⟨b,rfl,hbl,hcb,hb⟩
       ·exact absurd (by omega) hb0
       ·refine .inr ⟨b,rfl,hbl,hcb,λj hj hji hcj=>?_⟩
        rcases Nat.lt_or_eq_of_le (Nat.le_of_lt_succ hji)with hlt|rfl
        ·exact hb j hj hlt hcj
        ·simp only[Int.toNat_natCast]at hz
         omega)
      have go:∀r,Ev (λk=>Z0.l2 k xs lw best ((i:Int)+1)) r->Ev (λk=>Z0.l2 k xs lw best i) r:=λr hr=>by
       refine Ev.step (λk=>by rw[Z0.l2]) ?_
       simp(disch:=omega) only[Qd,Int.toNat_natCast,getD_at hi,e,cond_false]
       refine Ev.bind0 cut ?_
       simp(disch:=omega) only[U6,hd,cond_true,cond_false,Qd,Qu,Int.toNat_natCast,hq',wrap_in,getD_at hb']
       exact hr
      exact⟨z,z1.imp (go _) (go _),z2⟩
   ·obtain⟨z,z1,z2⟩:=Q2l xs hs lw n (i+1) (by omega) best h1 h2 hne' (by
     rcases hb with⟨rfl,hb⟩|⟨b,rfl,hbl,hcb,hb⟩
     ·refine .inl ⟨rfl,λj hj hji=>?_⟩
      rcases Nat.lt_or_eq_of_le (Nat.le_of_lt_succ hji)with hlt|rfl
      ·exact hb j hj hlt
      ·exact hc
     ·refine .inr ⟨b,rfl,hbl,hcb,λj hj hji hcj=>?_⟩
      rcases Nat.lt_or_eq_of_le (Nat.le_of_lt_succ hji)with hlt|rfl
      ·exact hb j hj hlt hcj
      ·exact absurd hcj hc)
    have go:∀r,Ev (λk=>Z0.l2 k xs lw best ((i:Int)+1)) r->Ev (λk=>Z0.l2 k xs lw best i) r:=λr hr=>by
     refine Ev.step (λk=>by rw[Z0.l2]) ?_
     simp(disch:=omega) only[Qd,Int.toNat_natCast,getD_at hi,e,cond_false]
     refine Ev.bind0 cut ?_
     simp(disch:=omega) only[U6,wrap_in]
     refine Ev.cond (λhd=>?_) (λ_=>hr)
     by_cases c:(JU xs[i].word 45).size<=lw.size
     ·simp(disch:=omega) only[Qd,Int.toNat_natCast]
      refine Ev.cond (λhq=>?_) (λ_=>hr)
      exact absurd ⟨hd,c,YQ.1 hq⟩ hc
     ·simp(disch:=omega) only[Qu]
      exact hr
    exact⟨z,z1.imp (go _) (go _),z2⟩
theorem Q57 (xs:List Abbr)(hs:smalls xs)(s:ByteArray)(h1:s.size<=1048576)(ha:(Q6 s).all Kr=true):∃z:Int,Ev (λk=>Z0.F k xs s) z/\Q99 xs (DF s) z:=by
 have e1:=D9 xs s h1 s.size 0 (by omega)
 rw[List.drop_zero,ha]at e1
 obtain⟨z,z1,z2⟩:=Q2l xs hs (DF s) xs.length 0 (by omega) (-1) (by omega) (by omega) (λj _ h=>by omega) (.inl ⟨rfl,λj _ h=>by omega⟩)
 refine⟨z,?_,z2⟩
 unfold Z0.F
 rcases z1 with z1|z1
 ·exact Ev.bind e1 (Ev.bind (Yb s h1) (Ev.bind z1 (Ev.pure _)))
 ·exact Ev.bind e1 (Ev.bind (Yb s h1) (Ev.bind z1 (Ev.pure _)))
theorem Q3s (xs:List Abbr)(s:ByteArray)(h1:s.size<=1048576)(ha:(Q6 s).all Kr=false):Ev (λk=>Z0.F k xs s) (-1):=by
 have e1:=D9 xs s h1 s.size 0 (by omega)
 rw[List.drop_zero,ha]at e1
 unfold Z0.F
 exact Ev.bind e1 (Ev.pure _)
theorem Q1y {s:ByteArray}(h:dash s=true):0<s.size/\L s=L (JU s 45)++[45]/\(JU s 45).size=s.size-1:=by
 unfold dash at h
 rw[Bool.and_eq_true,decide_eq_true_eq,beq_iff_eq]at h
 obtain⟨h0,h2⟩:=h
 have h3:JU s 45=s.extract 0 (s.size-1):=by
  unfold JU
  rw[if_pos ⟨h0,h2⟩]
 have hl:s.size-1<(L s).length:=by rw[J2];omega
 have h4:(L s)[s.size-1]=45:=by
  unfold bt at h2
  have h5:((s.data.getD (s.size-1) 0).toNat:Int)=45:=h2
  have h6:s.data.getD (s.size-1) 0=(L s)[s.size-1]:=by
   have:s.size-1<s.size:=by omega
   simp[L,Array.getD,this]
  rw[h6]at h5
  have h7:(L s)[s.size-1].toNat=45:=by omega
  exact UInt8.toNat_inj.1 h7
 refine⟨h0,?_,by rw[h3,ByteArray.size_extract];omega⟩
 rw[h3,J8,List.drop_zero]
 have:L s=(L s).take (s.size-1)++(L s).drop (s.size-1):=(List.take_append_drop _ _).symm
 rw[List.drop_eq_getElem_cons hl,h4,List.drop_eq_nil_of_le (by rw[J2];omega)]at this
 exact this
theorem Q62 {lw:ByteArray}{a b:Abbr}(ha:Q2k lw a)(hb:Q2k lw b)(hs:a.word.size=b.word.size):a.word=b.word:=by
 obtain⟨a1,a2,a3⟩:=ha
 obtain⟨b1,b2,b3⟩:=hb
 obtain⟨_,a4,a5⟩:=Q1y a1
 obtain⟨_,b4,b5⟩:=Q1y b1
 have:JU a.word 45=JU b.word 45:=by rw[<-a3,<-b3,a5,b5,hs]
 exact XL (by rw[a4,b4,this])
theorem Ks {xs us:List Abbr}{lw:ByteArray}{o p:Option Abbr}(hsub:∀a∈us,a∈xs)(hd:∀a∈xs,∀b∈xs,a.word=b.word->a=b)(ho:Q8v xs lw o)(hk:∀a,o=some a->a∈us)(hp:Q8v us lw p):p=o:=by
 cases o with
 |none=>
  cases p with
  |none=>rfl
  |some b=>
   obtain⟨h1,h2|⟨_,h2,_⟩⟩:=hp
   ·exact absurd h2 (ho.1 _ (hsub _ h1))
   ·exact absurd h2 (ho.2 _ (hsub _ h1))
 |some a=>
  have hau:=hk a rfl
  obtain⟨hax,hoa⟩:=ho
  cases p with
  |none=>
   rcases hoa with h2|⟨_,h2,_⟩
   ·exact absurd h2 (hp.1 _ hau)
   ·exact absurd h2 (hp.2 _ hau)
  |some b=>
   obtain⟨hbu,hpb⟩:=hp
   have hbx:=hsub _ hbu
   congr 1
   rcases hoa with h2|⟨n2,h2,m2⟩
   ·rcases hpb with h3|⟨n3,h3,m3⟩
    ·exact hd _ hbx _ hax (by rw[h3,h2])
    ·exact absurd h2 (n3 _ hau)
   ·rcases hpb with h3|⟨n3,h3,m3⟩
    ·exact absurd h3 (n2 _ hbx)
    ·exact hd _ hbx _ hax (Q62 h3 h2 (Nat.le_antisymm (m2 _ hbx h3) (m3 _ hau h2)))
end Go.Proofs.YtlnhmbnbloakmaaGreatDoor
end
section
/- The plain law of FnDistinct. -/
namespace Go.Proofs.YtlnhmbnbloakmaaGreatDoor
open Go.Gx
abbrev Q0J (x y:List UInt8):Bool:=Op.bytesLess x y
theorem Q3t:∀x:List UInt8,Q0J x x=false
 |[]=>rfl
 |a::x=>by
  have:¬a<a:=by simp
  have ih:=Q3t x
  simp only[Q0J]at ih
  simp[Q0J,Op.bytesLess,ih]
theorem Q0z:∀{x y z:List UInt8},Q0J x y=true->Q0J y z=true->Q0J x z=true
 |x,y,[],_,h=>by cases y<;>simp[Q0J,Op.bytesLess]at h
 |x,[],c::z,h,_=>by cases x<;>simp[Q0J,Op.bytesLess]at h
 |[],b::y,c::z,_,_=>rfl
 |a::x,b::y,c::z,h,k=>by
  simp only[Q0J,Op.bytesLess,Bool.or_eq_true,decide_eq_true_eq,Bool.and_eq_true,beq_iff_eq]at h k ⊢
  rcases h with h|⟨rfl,h⟩
  ·rcases k with k|⟨rfl,k⟩
   ·exact .inl (UInt8.lt_trans h k)
   ·exact .inl h
  ·rcases k with k|⟨rfl,k⟩
   ·exact .inl k
   ·exact .inr ⟨rfl,Q0z h k⟩
theorem Q7L (s t:ByteArray):ltS s t=Q0J (L s) (L t):=by unfold ltS;rw[toList_eq,toList_eq];rfl
theorem Q3u (s:ByteArray):ltS s s=false:=by rw[Q7L];exact Q3t _
theorem Q4r {s t u:ByteArray}(h:ltS s t=true)(k:ltS t u=true):ltS s u=true:=by rw[Q7L]at*;exact Q0z h k
def PW (xs:List Abbr):Prop:=xs.Pairwise λa b=>ltS a.word b.word=true
theorem Q63 {xs:List Abbr}(h:∀i (h:i+1<xs.length),ltS (xs[i]'(by omega)).word xs[i+1].word=true):PW xs:=by
 refine List.pairwise_iff_getElem.2 λi j hi hj hij=>?_
 have key:∀d i:Nat,(hd:i+1+d<xs.length)->ltS (xs[i]'(by omega)).word xs[i+1+d].word=true:=λd=>by
  induction d with
  |zero=>exact λi hd=>h i hd
  |succ d ih=>exact λi hd=>Q4r (ih i (by omega)) (h (i+1+d) hd)
 have:=key (j-i-1) i (by omega)
 have e:i+1+(j-i-1)=j:=by omega
 simp only[e]at this
 exact this
theorem Q1z (xs:List Abbr):JB xs=true ↔ (∀a∈xs,Q5X a=true)/\PW xs/\xs.length<=15:=by
 unfold JB
 rw[Bool.and_eq_true,List.all_eq_true,decide_eq_true_eq]
 constructor
 ·rintro⟨h1,h2⟩
  have ok:∀i (h:i<xs.length),okA xs i=true:=λi hi=>h1 i (List.mem_range'_1.2 ⟨Nat.zero_le _,by omega⟩)
  refine⟨λa ha=>?_,Q63 λi hi=>?_,by omega⟩
  ·obtain⟨j,hj,rfl⟩:=List.getElem_of_mem ha
   have:=ok j hj
   unfold okA at this
   rw[Bool.and_eq_true,getD_at hj]at this
   exact this.1
  ·have:=ok (i+1) hi
   unfold okA at this
   rw[Bool.and_eq_true,Bool.or_eq_true,decide_eq_true_eq]at this
   have h3:=this.2.resolve_left (by omega)
   rw[getD_at hi,Nat.add_sub_cancel,getD_at (show i<xs.length by omega)]at h3
   exact h3
 ·rintro⟨h1,h2,h3⟩
  refine⟨λi hi=>?_,by omega⟩
  have hi:i<xs.length:=by have:=List.mem_range'_1.1 hi;omega
  unfold okA
  rw[Bool.and_eq_true,Bool.or_eq_true,decide_eq_true_eq,getD_at hi]
  refine⟨h1 _ (List.getElem_mem hi),?_⟩
  by_cases h0:i=0
  ·exact .inl h0
  ·rw[getD_at (show i-1<xs.length by omega)]
   exact .inr (List.pairwise_iff_getElem.1 h2 (i-1) i (by omega) hi (by omega))
theorem Q7M {xs:List Abbr}(h:PW xs){i j:Nat}(hi:i<xs.length)(hj:j<xs.length)(e:xs[i].word=xs[j].word):i=j:=by
 rcases Nat.lt_trichotomy i j with hl|rfl|hl
 ·have:=List.pairwise_iff_getElem.1 h i j hi hj hl
  rw[e,Q3u]at this
  cases this
 ·rfl
 ·have:=List.pairwise_iff_getElem.1 h j i hj hi hl
  rw[e,Q3u]at this
  cases this
theorem Q2m {xs:List Abbr}(h:PW xs):∀a∈xs,∀b∈xs,a.word=b.word->a=b:=λa ha b hb e=>by
 obtain⟨i,hi,rfl⟩:=List.getElem_of_mem ha
 obtain⟨j,hj,rfl⟩:=List.getElem_of_mem hb
 obtain rfl:=Q7M h hi hj e
 rfl
theorem Q7N:∀(xs:List Abbr) (i:Int) (m:List Int) (w:ByteArray),w∈uO i xs m->∃j:Nat,∃h:j<xs.length,xs[j].word=w/\(i+j) ∉ m
 |[],_,_,_,h=>by simp[uO]at h
 |a::l,i,m,w,h=>by
  unfold uO at h
  have rest:w∈uO (i+1) l m->∃j:Nat,∃h:j<(a::l).length,(a::l)[j].word=w/\(i+j) ∉ m:=λh=>by
   obtain⟨j,hj,h1,h2⟩:=Q7N l (i+1) m w h
   exact⟨j+1,by simp;omega,by simpa using h1,by rw[show i+((j+1:Nat):Int)=i+1+j by omega];exact h2⟩
  cases hc:m.contains i with
  |true=>rw[hc]at h;exact rest h
  |false=>
   rw[hc]at h
   rcases List.mem_cons.1 h with rfl|h
   ·refine⟨0,by simp,rfl,?_⟩
    simpa using hc
   ·exact rest h
theorem Q7O (g:ByteArray->Option Int):∀(ws:List ByteArray) (l m:List Int),uW g ws l=some m->(∀x∈l,x∈m)/\∀w∈ws,∃i,g w=some i/\i∈m
 |[],l,m,h=>by cases h;exact⟨λx hx=>hx,λw hw=>by cases hw⟩
 |s::ss,l,m,h=>by
  obtain⟨_,i,h1,_,h2⟩:=Q50 h
  obtain⟨h3,h4⟩:=Q7O g ss (i::l) m h2
  refine⟨λx hx=>h3 x (List.mem_cons_of_mem _ hx),λw hw=>?_⟩
  rcases List.mem_cons.1 hw with rfl|hw
  ·exact⟨i,h1,h3 i List.mem_cons_self⟩
  ·exact h4 w hw
theorem Q7P (t:ByteArray->Option (List ByteArray×Bool))(g:ByteArray->Option Int):∀(ts:List ByteArray) (l m:List Int),uT t g ts l=some m->(∀x∈l,x∈m)/\∀s∈ts,∀ws,t s=some (ws,true)->∀w∈ws,∃i,g w=some i/\i∈m
 |[],l,m,h=>by cases h;exact⟨λx hx=>hx,λw hw=>by cases hw⟩
 |s::ss,l,m,h=>by
  obtain⟨ws,b,l',h1,h2,h3⟩:=Q51 h
  obtain⟨h4,h5⟩:=Q7P t g ss l' m h3
  cases b with
  |false=>
   cases h2
   refine⟨h4,λx hx=>?_⟩
   rcases List.mem_cons.1 hx with rfl|hx
   ·intro ws' e
    rw[h1]at e
    cases e
   ·exact h5 x hx
  |true=>
   obtain⟨h6,h7⟩:=Q7O g ws l l' h2
   refine⟨λx hx=>h4 x (h6 x hx),λx hx=>?_⟩
   rcases List.mem_cons.1 hx with rfl|hx
   ·intro ws' e w hw
    rw[h1]at e
    cases e
    obtain⟨i,h8,h9⟩:=h7 w hw
    exact⟨i,h8,h4 i h9⟩
   ·exact h5 x hx
theorem Q7Q {xs:List Abbr}{ts:List ByteArray}{m:List Int}(hm:Ev (λk=>uT (Z44.F k) (Z5.F k xs) ts []) m){s w:ByteArray}(hs:s∈ts)(h40:s.size<=40)(hf:(J4 s).2=true)(hw:w∈(J4 s).1){z:Int}(hz:Ev (λk=>Z5.F k xs w) z):z∈m:=by
 obtain⟨k1,h1⟩:=hm
 obtain⟨k2,h2⟩:=Q2g s h40
 obtain⟨k3,h3⟩:=hz
 have e1:=h1 (k1+k2+k3) (by omega)
 have e2:=h2 (k1+k2+k3) (by omega)
 have e3:=h3 (k1+k2+k3) (by omega)
 obtain⟨i,h4,h5⟩:=(Q7P _ _ ts [] m e1).2 s hs (J4 s).1 (by rw[<-hf];exact e2) w hw
 have h4':some z=some i:=e3.symm.trans h4
 cases h4'
 exact h5
theorem Db (xs:List Abbr)(w:ByteArray)(h:Ev (λk=>Z0.F k xs w) (-1)):Ev (λk=>Z43.F k xs w) w:=by
 unfold Z43.F
 refine Ev.bind h ?_
 simp(disch:=omega) only[Qd]
 exact Ev.pure _
theorem short_at (xs:List Abbr)(hl:xs.length<=1048576)(w:ByteArray)(h0:0<w.size)(b:Nat)(hb:b<xs.length)(h:Ev (λk=>Z0.F k xs w) (b:Int))(r:ByteArray)(hr:Ev (λk=>Z16.F k xs[b].short) r) :
  Ev (λk=>Z43.F k xs w) (if 65<=bt w (0:Int).toNat/\bt w (0:Int).toNat<=90 then r else xs[b].short):=by
 unfold Z43.F
 refine Ev.bind h ?_
 by_cases c1:65<=bt w (0:Int).toNat
 ·by_cases c2:bt w (0:Int).toNat<=90
  ·rw[if_pos ⟨c1,c2⟩]
   simp(disch:=omega) only[Qd,Qu,Int.toNat_natCast,getD_at hb]
   exact Ev.bind hr (Ev.pure _)
  ·rw[if_neg (λh=>c2 h.2)]
   simp(disch:=omega) only[Qd,Qu,Int.toNat_natCast,getD_at hb]
   exact Ev.pure _
 ·rw[if_neg (λh=>c1 h.1)]
  simp(disch:=omega) only[Qd,Qu,Int.toNat_natCast,getD_at hb]
  exact Ev.pure _
theorem Q4s {xs us:List Abbr}(hx:smalls xs)(hu:smalls us)(hsub:∀a∈us,a∈xs)(hp:PW xs){w:ByteArray}(h0:0<w.size)(h1:w.size<=1048576)(hk:∀b:Nat,(h:b<xs.length)->Ev (λk=>Z0.F k xs w) (b:Int)->xs[b]∈us):shW us w=shW xs w:=by
 obtain⟨s1,_⟩:=DJ xs hx w h0 h1
 obtain⟨s2,_⟩:=DJ us hu w h0 h1
 cases ha:(Q6 w).all Kr with
 |false=>rw[Ev.uniq s2 (Db us w (Q3s us w h1 ha)),Ev.uniq s1 (Db xs w (Q3s xs w h1 ha))]
 |true=>
  obtain⟨z,z1,z2⟩:=Q57 xs hx w h1 ha
  obtain⟨y,y1,y2⟩:=Q57 us hu w h1 ha
  rcases z2 with⟨rfl,z2⟩|⟨b,rfl,hb,z2⟩
  ·rcases y2 with⟨rfl,y2⟩|⟨c,rfl,hc,y2⟩
   ·rw[Ev.uniq s2 (Db us w y1),Ev.uniq s1 (Db xs w z1)]
   ·have:=Ks hsub (Q2m hp) z2 (λa h=>by cases h) y2
    cases this
  ·have hbu:=hk b hb z1
   rcases y2 with⟨rfl,y2⟩|⟨c,rfl,hc,y2⟩
   ·have:=Ks hsub (Q2m hp) z2 (λa h=>by cases h;exact hbu) y2
    cases this
   ·have e:=Ks hsub (Q2m hp) z2 (λa h=>by cases h;exact hbu) y2
    have e:us[c]=xs[b]:=Option.some.inj e
    obtain⟨r,r1,_,_⟩:=Q1s xs[b].short (hx.2 _ (List.getElem_mem hb)).2
    have t1:=short_at xs hx.1 w h0 b hb z1 r r1
    have t2:=short_at us hu.1 w h0 c hc y1 r (by rw[e];exact r1)
    rw[e]at t2
    rw[Ev.uniq s2 t2,Ev.uniq s1 t1]
theorem Q4t {xs us:List Abbr}(hx:smalls xs)(hu:smalls us){s:ByteArray}(ht:Jo s=true)(h:(J4 s).2=true->∀w∈(J4 s).1,shW us w=shW xs w):tW us s=tW xs s:=by
 obtain⟨t1,_⟩:=Q0w xs hx s ht
 obtain⟨t2,_⟩:=Q0w us hu s ht
 unfold Jo at ht
 simp only[Bool.and_eq_true,decide_eq_true_eq]at ht
 obtain⟨h40,_,he⟩:=ht
 obtain⟨hW,hl⟩:=UK s
 have k1:=Xl s h40
 cases hb:(J4 s).2 with
 |false=>
  have go:∀ys:List Abbr,Ev (λk=>Z7.F k ys s) s:=λys=>by
   unfold Z7.F
   refine Ev.bind k1 ?_
   rw[hb];exact Ev.pure _
  rw[Ev.uniq t1 (go xs),Ev.uniq t2 (go us)]
 |true=>
  have hW':∀x∈(J4 s).1,0<x.size/\x.size<=1048576:=λx hx=>by have:=hW x hx;omega
  have s1:=Yk xs hx (J4 s).1 hW' (by omega) (J4 s).1.length 0 (by omega) [] (Nat.le_refl _)
  have s2:=Yk us hu (J4 s).1 hW' (by omega) (J4 s).1.length 0 (by omega) [] (Nat.le_refl _)
  rw[List.drop_zero,List.nil_append]at s1 s2
  rw[List.map_congr_left (h hb)]at s2
  obtain⟨r,r1,r2,r3,_⟩:=Q2h ((J4 s).1.map (shW xs)) (λx hx'=>by
   obtain⟨y,hy,rfl⟩:=List.mem_map.1 hx'
   obtain⟨h1,h2⟩:=hW' y hy
   exact(DJ xs hx y h1 h2).2.2) (by rw[List.length_map];omega)
  have g1:Ev (λk=>Z7.F k xs s) r:=by
   unfold Z7.F
   refine Ev.bind k1 ?_
   rw[hb];exact Ev.bind s1 (Ev.bind r1 (Ev.pure _))
  have g2:Ev (λk=>Z7.F k us s) r:=by
   unfold Z7.F
   refine Ev.bind k1 ?_
   rw[hb];exact Ev.bind s2 (Ev.bind r1 (Ev.pure _))
  rw[Ev.uniq t1 g1,Ev.uniq t2 g2]
def Q2n (l:List ByteArray)(w:ByteArray):Bool:=l.any λx=>Ql x w
theorem Q7R {l:List ByteArray}{w:ByteArray}:Q2n l w=true ↔ w∈l:=by
 unfold Q2n
 rw[List.any_eq_true]
 constructor
 ·rintro⟨x,hx,e⟩
  rw[<-YQ.1 e];exact hx
 ·intro h
  exact⟨w,h,Un w⟩
theorem Q58 (l:List ByteArray)(w:ByteArray)(hl:l.length<=1048576):∀n i:Nat,i+n=l.length->Ev (λk=>Z24.l0 k l w i) (bif Q2n (l.drop i) w then .inl true else .inr ())
 |0,i,h=>by
  have hd:l.drop i=[]:=List.drop_eq_nil_of_le (by omega)
  rw[hd]
  refine Ev.step (λk=>by rw[Z24.l0]) ?_
  simp(disch:=omega) only[Qu]
  exact Ev.pure _
 |n+1,i,h=>by
  have hi:i<l.length:=by omega
  have hd:l.drop i=l[i]::l.drop (i+1):=List.drop_eq_getElem_cons hi
  have h1:=Q58 l w hl n (i+1) (by omega)
  refine Ev.step (λk=>by rw[Z24.l0]) ?_
  rw[hd]
  unfold Q2n at h1 ⊢
  rw[List.any_cons]
  simp(disch:=omega) only[Qd,Int.toNat_natCast,getD_at hi,wrap_in]
  cases Ql l[i] w with
  |true=>exact Ev.pure _
  |false=>exact h1
theorem Q7S (l:List ByteArray)(w:ByteArray)(hl:l.length<=1048576):Ev (λk=>Z24.F k l w) (Q2n l w):=by
 have h1:=Q58 l w hl l.length 0 (by omega)
 rw[List.drop_zero]at h1
 unfold Z24.F
 cases hv:Q2n l w with
 |true=>
  rw[hv]at h1
  exact Ev.bind h1 (Ev.pure _)
 |false=>
  rw[hv]at h1
  exact Ev.bind h1 (Ev.pure _)
theorem Q4u (xs:List Abbr)(hx:xs.length<=15)(ts r:List ByteArray)(hr:r.length<=15):∀n i:Nat,i+n=xs.length->∀acc:List Abbr,acc.length<=i->
  Ev (λk=>Z4.l0 k xs ts r acc i) (xs,ts,acc++(xs.drop i).filter λa=> !Q2n r a.word)
 |0,i,h,acc,ha=>by
  rw[List.drop_eq_nil_of_le (by omega)]
  refine Ev.step (λk=>by rw[Z4.l0]) ?_
  simp(disch:=omega) only[Qu]
  exact(Ev.pure _).eq (by simp)
 |n+1,i,h,acc,ha=>by
  have hi:i<xs.length:=by omega
  have hro:∀z:Abbr,room (acc.length+([z]:List Abbr).length) .abbr=true:=λz=>Q7r (by simp;omega)
  rw[List.drop_eq_getElem_cons hi,List.filter_cons]
  refine Ev.step (λk=>by rw[Z4.l0]) ?_
  simp(disch:=omega) only[Qd,Int.toNat_natCast,getD_at hi]
  refine Ev.bind (Q7S r xs[i].word (by omega)) ?_
  cases Q2n r xs[i].word with
  |true=>
   simp(disch:=omega) only[Bool.not_true,cond_false,wrap_in]
   exact Q4u xs hx ts r hr n (i+1) (by omega) acc (by omega)
  |false=>
   simp(disch:=omega) only[Bool.not_false,cond_true,hro,wrap_in,if_true]
   have:=Q4u xs hx ts r hr n (i+1) (by omega) (acc++[xs[i]]) (by simp;omega)
   rw[List.append_assoc]at this
   exact this
theorem Q3v (xs:List Abbr)(hs:smalls xs)(hv:JB xs=true)(s:ByteArray)(ht:Jo s=true):Ev (λk=>Z55.F k xs s) (tW xs s,true):=by
 have v1:=D6 xs hs
 rw[hv]at v1
 have t1:=Q1w s
 rw[ht]at t1
 unfold Z55.F
 exact Ev.bind v1 (Ev.bind t1 (Ev.bind (Q0w xs hs s ht).2 (Ev.pure _)))
theorem Q7T (xs us:List Abbr)(hx:smalls xs)(hu:smalls us)(vx:JB xs=true)(vu:JB us=true)(ts:List ByteArray)(hl:ts.length<=20)(ht:∀t∈ts,Jo t=true)(he:∀t∈ts,tW us t=tW xs t):∀n i:Nat,i+n=ts.length->Ev (λk=>Z4.l2 k xs ts us i) (.inr ())
 |0,i,h=>by
  refine Ev.step (λk=>by rw[Z4.l2]) ?_
  simp(disch:=omega) only[Qu]
  exact Ev.pure _
 |n+1,i,h=>by
  have hi:i<ts.length:=by omega
  have hm:=List.getElem_mem hi
  refine Ev.step (λk=>by rw[Z4.l2]) ?_
  simp(disch:=omega) only[Qd,Int.toNat_natCast,getD_at hi]
  refine Ev.bind (Q3v xs hx vx _ (ht _ hm)) (Ev.bind (Q3v us hu vu _ (ht _ hm)) ?_)
  rw[he _ hm]
  simp(disch:=omega) only[Un,Bool.not_true,cond_false,wrap_in]
  exact Q7T xs us hx hu vx vu ts hl ht he n (i+1) (by omega)
theorem XO:∀m:Nat,m<=10->∀{n:Int} {c:Cur},cu n c->n+20*m<=300000->∀acc:List ByteArray,acc.length+m<=20->(∀x∈acc,x.size<=100)->
  EvP (λk=>Z2.l0 k c acc m) λr=>cu (n+20*m) r.1/\r.2.length<=acc.length+m/\∀x∈r.2,x.size<=100
 |0,_,n,c,hc,hn,acc,ha,hx=>by
  refine EvP.step (λk=>by rw[Z2.l0]) ?_
  simp(disch:=omega) only[Qu]
  exact EvP.pure _ ⟨hc.mono (by omega),Nat.le_refl _,hx⟩
 |m+1,hm,n,c,hc,hn,acc,ha,hx=>by
  have hr:∀z:ByteArray,room (acc.length+([z]:List ByteArray).length) .str=true:=λz=>UJ (by simp;omega)
  refine EvP.step (λk=>by rw[Z2.l0]) ?_
  simp(disch:=omega) only[Qd]
  refine EvP.bind (Q3o hc (by omega)) λy hy=>?_
  simp(disch:=omega) only[hr,cond_true,wrap_in]
  have e:((m+1:Nat):Int)-1=(m:Nat):=by omega
  rw[e]
  exact EvP.mono (XO m (by omega) hy.1 (by omega) (acc++[y.2]) (by simp;omega) (λx hx'=>by
   rcases List.mem_append.1 hx' with h|h
   ·exact hx x h
   ·rw[List.mem_singleton.1 h];exact hy.2)) λr hr=>⟨hr.1.mono (by omega),by have:=hr.2.1;simp at this;omega,hr.2.2⟩
theorem XP:∀m:Nat,∀{n:Int} {c:Cur},cu n c->n+m<=800000->∀acc:List ByteArray,acc.length+m=40->
  EvP (λk=>Z2.l2 k c acc) λr=>r.2.length<=40
 |0,n,c,hc,hn,acc,ha=>by
  refine EvP.step (λk=>by rw[Z2.l2]) ?_
  refine DL hc (by omega) (by decide) (by decide) λc1 x hc1 x0 x1=>?_
  simp(disch:=omega) only[wrap_in,Qu]
  exact EvP.pure _ (by show acc.length<=40;omega)
 |m+1,n,c,hc,hn,acc,ha=>by
  refine EvP.step (λk=>by rw[Z2.l2]) ?_
  have hr:∀z:ByteArray,room (acc.length+([z]:List ByteArray).length) .str=true:=λz=>UJ (by simp;omega)
  refine DL hc (by omega) (by decide) (by decide) λc1 x hc1 x0 x1=>?_
  dsimp only
  refine EvP.cond (λ_=>?_) (λ_=>EvP.pure _ (by show acc.length<=40;omega))
  simp only[hr,cond_true]
  exact XP m hc1 (by omega) (acc++[_]) (by simp;omega)
theorem Q2o {n:Int}{c:Cur}(h:cu n c)(hn:n<=100000):EvP (λk=>Z2.F k c) λr=>r.2.length<=40:=by
 unfold Z2.F
 refine DL h (by omega) (by decide) (by decide) λc1 x hc1 x0 x1=>?_
 obtain⟨p,rfl⟩:∃p:Nat,x=p:=⟨x.toNat,by omega⟩
 refine EvP.bind (XO p (by omega) hc1 (by omega) [] (by simp;omega) (λ_ h=>by cases h)) λy hy=>?_
 obtain⟨y1,y2,y3⟩:=hy
 have hyl:y.2.length<=5:=by simp at y2;omega
 have fin:∀{n':Int} {c':Cur} (l:List ByteArray),cu n' c'->n'<=300000->l.length<=10->EvP (λk=>(Z39.F c' 40).bind λr5=>bif r5.2 then((Z2.l2 k r5.1 l).bind λy7=>some (y7.1,y7.2))else(some (r5.1,l))) λr=>r.2.length<=40:=λl hc hn hl=>by
  refine Q7E hc (by omega) (by decide) (by decide) λc5 b5 hc5=>?_
  dsimp only
  refine EvP.cond (λ_=>?_) (λ_=>EvP.pure _ (by show l.length<=40;omega))
  exact EvP.bind (XP (40-l.length) hc5 (by omega) l (by omega)) λz hz=>EvP.pure _ hz
 by_cases c0:(y.2.length:Int) > 0
 ·simp(disch:=omega) only[Qd]
  refine Q7E y1 (by omega) (by decide) (by decide) λc4 b4 hc4=>?_
  dsimp only
  have hr:∀z:ByteArray,room (y.2.length+([z]:List ByteArray).length) .str=true:=λz=>UJ (by simp;omega)
  refine EvP.cond (λ_=>?_) (λ_=>fin y.2 hc4 (by omega) (by omega))
  refine EvP.cond (λ_=>?_) (λhbad=>?_)
  ·simp only[hr,cond_true]
   exact fin _ hc4 (by omega) (by simp;omega)
  ·have h0:0<y.2.length:=by omega
   have h1:=y3 _ (List.getElem_mem h0)
   rw[getD_at (i:=(0:Int).toNat) h0]at hbad
   have h2:(⟨#[84,104,101,32]⟩:ByteArray).size=4:=rfl
   rw[h2]at hbad
   have h3:Nat.ble (4+y.2[(0:Int).toNat].size) 9223372036854775807=true:=Nat.ble_eq_true_of_le (by have:y.2[(0:Int).toNat].size<=100:=h1;omega)
   rw[h3]at hbad
   cases hbad
 ·simp(disch:=omega) only[Qu]
  exact fin y.2 y1 (by omega) (by omega)
theorem Q0A {code:List Int}(h:byt code):EvP (λk=>Z56.F k code) λr=>smalls r.1/\r.2.length<=40:=by
 unfold Z56.F
 refine EvP.bind (Q3p (cu.start h) (by omega)) λr hr=>?_
 exact EvP.bind (Q2o hr.1 (by omega)) λy hy=>EvP.pure _ ⟨hr.2.smalls (by omega),hy⟩
theorem Q2p (code:List Int)(hw:WF (.sl (.int .u8)) code):∃k,Z4.F k code=some true:=by
 refine Ev.get (?_:Ev (λk=>Z4.F k code) true)
 unfold Z4.F Z69.F
 by_cases c0:(code.length:Int) > 65536
 ·simp(disch:=omega) only[Qd,Option.bind_some]
  exact Ev.pure _
 simp(disch:=omega) only[Qu,Option.bind_some]
 have hc:byt code:=Q97 hw (by omega)
 obtain⟨d,d1,d2,d3⟩:=Q0A hc
 obtain⟨v,b,v1,v2,v3⟩:=Q3q d.1 d2 d.2 (by omega)
 refine Ev.bind d1 (Ev.bind v2 (Ev.bind v1 ?_))
 simp only[beq_self_eq_true,Bool.not_true,cond_false]
 refine Ev.bind (Q7G v (by omega)) ?_
 simp only[Bool.not_true,cond_false,cond_true]
 cases b with
 |false=>exact Ev.bind (Q7G v (by omega)) (Ev.pure _)
 |true=>
  simp only[Bool.not_true,cond_false]
  have hvt:JB d.1=true/\Yc d.2=true:=by
   have a1:=UL d.1 d2 d.2 (by omega)
   cases hv:JB d.1&&Yc d.2 with
   |true=>rw[Bool.and_eq_true]at hv;exact hv
   |false=>
    rw[hv]at a1
    have:Ev (λk=>Z18.F k d.1 d.2) ([],false):=by
     unfold Z18.F
     exact Ev.bind a1 (Ev.pure _)
    have:=Ev.uniq v2 this
    cases this
  obtain⟨r,f,u1,u2,u3,u4⟩:=Q61 d.1 d2 d.2 (by omega)
  obtain⟨rfl,m,rfl,hm⟩:=u4 hvt.1 hvt.2
  refine Ev.bind u2 (Ev.bind u1 ?_)
  simp only[beq_self_eq_true,Bool.not_true,cond_false]
  refine Ev.bind (Q7G _ (by omega)) ?_
  simp only[Bool.not_true,cond_false]
  obtain⟨w1,w2,w3⟩:=(Q1z d.1).1 hvt.1
  obtain⟨t1,t2⟩:=Xm hvt.2
  have l1:=Q4u d.1 w3 d.2 (uO 0 d.1 m) u3 d.1.length 0 (by omega) [] (Nat.le_refl _)
  rw[List.drop_zero,List.nil_append]at l1
  obtain⟨us,hus⟩:∃us,us=d.1.filter λa=> !Q2n (uO 0 d.1 m) a.word:=⟨_,rfl⟩
  rw[<-hus]at l1
  have hsub:∀a∈us,a∈d.1:=λa ha=>by rw[hus]at ha;exact(List.mem_filter.1 ha).1
  have hsl:us.length<=15:=by rw[hus];exact Nat.le_trans (List.length_filter_le _ _) w3
  have hu:smalls us:=⟨by omega,λa ha=>d2.2 a (hsub a ha)⟩
  have vu:JB us=true:=(Q1z us).2 ⟨λa ha=>w1 a (hsub a ha),by rw[hus];exact List.Pairwise.filter _ w2,hsl⟩
  refine Ev.bind l1 (Ev.bind (Q7T d.1 us d2 hu hvt.1 vu d.2 t2 t1 (λt ht=>Q4t d2 hu (t1 t ht) λhf w hw=>?_) d.2.length 0 (by omega)) (Ev.pure _))
  have h40:t.size<=40:=by
   have:=t1 t ht
   unfold Jo at this
   rw[Bool.and_eq_true,decide_eq_true_eq]at this
   exact this.1
  obtain⟨q1,q2⟩:=(UK t).1 w hw
  refine Q4s d2 hu hsub w2 q1 (by omega) λb hb hfb=>?_
  obtain⟨z,z1,z2,_⟩:=found d.1 d2 w q1 (by omega)
  obtain rfl:=Ev.uniq z1 hfb
  have hbm:=Q7Q hm ht h40 hf hw z2
  rw[hus,List.mem_filter]
  refine⟨List.getElem_mem hb,?_⟩
  rw[Bool.not_eq_true']
  refine Bool.eq_false_iff.2 λhbad=>?_
  replace hbad:=Q7R.1 hbad
  obtain⟨j,hj,e1,e2⟩:=Q7N d.1 0 m _ hbad
  obtain rfl:=Q7M w2 hj hb e1
  rw[Int.zero_add]at e2
  exact e2 hbm
end Go.Proofs.YtlnhmbnbloakmaaGreatDoor
end
section
/- The law FnDistinct returns true for every input,the listed package variables being as the program's text lays it: the card. -/
namespace Go.Proofs.YtlnhmbnbloakmaaGreatDoor
open Go.Gx Go.RowKit Go.ChangeShapes Go.WideShapes Go.ChangeAt
theorem fnDistinct_own:ownKnob Tryz.prog.godebug=none:=by kernel_rfl
set_option maxRecDepth 100000 in
theorem fnDistinct_contract (H:Type)(enc:TypeId×Value->H)(W:World)(base:Nat)(args:Array Value)(ds gs:List (DataW H))(before:List MemPlace)
  (Yw:∀(j:Nat) t v,Tryz.f3.params[j]? =some t->args[j]? =some v->Value.okWide Tryz.prog W .any base t v)
  (hW:DataW.Whole enc Tryz.prog Tryz.f3.params.toList Rows.fnDistinctSpec.vars false W args.toList ds gs before) (hsh:W.ShapedOpen Tryz.prog) :
  Calls Tryz.prog 3 args W λe W'=>∃v,e= .returned v/\Rows.fnDistinctSpec.post enc Tryz.prog Tryz.f3 false true false false W args v W':=by
 have hgs:gs=[]:=by
  obtain⟨p,q,_,hV,_⟩:=hW
  exact(trodVars_none hV).1
 subst hgs
 have hds:∃d1,ds=[d1]:=by
  obtain⟨p,q,hA,_⟩:=hW
  obtain⟨_,_,d1,e0,_,_,_,rfl,_,_,h0⟩:=trodAll_cons hA
  obtain⟨_,rfl,_⟩:=trodAll_nil h0
  exact⟨d1,rfl⟩
 obtain⟨d1,rfl⟩:=hds
 have hgl:Qr Q0 (λ_=>undef) (Lt W) W:=by
  refine Qr.mk0 (λg b h=>(by cases h)) (λg hg=>?_)
  have hg':giT g=true:=hg
  unfold giT at hg'
  split at hg'
  ·obtain⟨m,hm⟩:=cell_of_shapedOpen_int (P:=Tryz.prog) (g:=0) (t:=3) (zero:=#[.int .i64 0]) hsh (of_decide_eq_true (by kernel_rfl)) (by kernel_rfl) rfl (by kernel_rfl) (by kernel_rfl) (by kernel_rfl)
   exact⟨World.block_lt_of_cell? _ _ hm,m,hm⟩
  ·cases hg'
 refine Q24 (τs:=[(.sl (.int .u8))]) (r:=.t .bool true) Q8F (by kernel_rfl) rfl (by kernel_rfl) (by kernel_rfl) rfl (by kernel_rfl) (by kernel_rfl) (λt ht=>?_) rfl (λx hx=>by
   obtain⟨k,hk⟩:=Q2p x.1 hx.1
   exact Z4.good Q8F _ k _ hk) rfl Yw hW hgl (λq hq W' _=>?_)
 ·have:t∈[22]:=ht
  simp only[List.mem_cons,List.not_mem_nil,or_false]at this
  rcases this with rfl<;>exact⟨by kernel_rfl,Nat.le_of_ble_eq_true (by kernel_rfl)⟩
 ·obtain⟨_,rfl⟩:=trodVars_none hq
  exact rfl
set_option maxRecDepth 100000 in
noncomputable def fnDistinct_world (os:Os):World:=
 {World.holding Tryz.prog os ⟨#[],#[],[]⟩with heap:=(((World.holding Tryz.prog os ⟨#[],#[],[]⟩).heap.modify 2 fun
   |.cells _ t frozen=>.cells #[.int .u8 128,.int .u8 191,.int .u8 160,.int .u8 191,.int .u8 128,.int .u8 159,.int .u8 144,.int .u8 191,.int .u8 128,.int .u8 143,.int .u8 0,.int .u8 0,.int .u8 0,.int .u8 0,.int .u8 0,.int .u8 0,.int .u8 0,.int .u8 0,.int .u8 0,.int .u8 0,.int .u8 0,.int .u8 0,.int .u8 0,.int .u8 0,.int .u8 0,.int .u8 0,.int .u8 0,.int .u8 0,.int .u8 0,.int .u8 0,.int .u8 0,.int .u8 0] t frozen
   |o=>o).modify 1 fun
   |.cells _ t frozen=>.cells (Pinned.utf8FirstZ.map λ(n:Nat)=>Value.int .u8 (n:Int)).toArray t frozen
   |o=>o)}
theorem fnDistinct_met (os:Os):laidMet Tryz.prog Rows.fnDistinctRow.laid ((fnDistinct_world os).forCall (λ_ _=>0) ⟨#[],#[.slice none 0 0],[]⟩).memory:=
 laidMet_of_run' 8 (by kernel_rfl) (by kernel_rfl)
theorem fnDistinct_reads (os:Os){H:Type}(enc:TypeId×Value->H):∃places,DataW.whole enc Tryz.prog ((fnDistinct_world os).forCall (λ_ _=>0) ⟨#[],#[.slice none 0 0],[]⟩).memory Tryz.f3.params.toList Rows.fnDistinctSpec.vars false #[.slice none 0 0].toList 8=some ([.nil],[],places):=
 ⟨[],by kernel_rfl⟩
set_option maxRecDepth 100000 in
theorem fnDistinct_lifted (os:Os)(started:os.Started)(H:Type)(enc:TypeId×Value->H)(F:Stop.Interp) :
  ReturnsInHanded {} Tryz.checked os 3 .any ((OpenSpec.ofChange Rows.fnDistinctSpec).preRow enc Tryz.prog Tryz.f3 Rows.fnDistinctRow.domain false Rows.fnDistinctRow.laid) (((OpenSpec.ofChange Rows.fnDistinctSpec).at F).post enc Tryz.prog Tryz.f3 false true false false):=by
 obtain⟨places,hx⟩:=fnDistinct_reads os enc
 refine returnsInHanded_of_row (C:=Tryz.checked) (s:=OpenSpec.ofChange Rows.fnDistinctSpec) fnDistinct_own started (by kernel_rfl) (by kernel_rfl)
  (witness_row_at (enc:=enc) (C:=Tryz.checked) false (fnDistinct_world os) #[.slice none 0 0] rfl (by kernel_rfl) (by kernel_rfl) (by kernel_rfl)
   (OpenSpec.preRow_of_cond 8 hx (by kernel_rfl) (λk hk=>by cases hk) (by kernel_rfl) (fnDistinct_met os))) ?_
 intro W base args ds gs before Yw hW _ _ _ _ hsh _
 exact fnDistinct_contract H enc W base args ds gs before Yw hW hsh
theorem fnDistinct_said:Rows.FnDistinctSaid:=
 OpenClaim.holds_of_cond 3 Tryz.f3 rfl rfl rfl rfl rfl rfl rfl ⟨rfl,rfl,rfl,rfl,rfl⟩ rfl rfl rfl rfl rfl (by kernel_rfl) (by kernel_rfl) (by kernel_rfl)
  (of_decide_eq_true (by kernel_rfl)) (by unfold Func.isWrapper;first|(rw[if_pos (by decide+kernel)];kernel_rfl)|(rw[if_neg (by decide+kernel)];exact⟨rfl,rfl⟩))
  (λos started H enc _ F=>by rw[OpenClaim.pre_eq_preRow];exact fnDistinct_lifted os started H enc F)
theorem fnDistinct_plain (f:FuncId)(fn:Func)(hf:Tryz.pinned.checked.prog.funcNamed "loop.example/g00896/laws.FnDistinct" =some f)(hfn:Tryz.pinned.checked.prog.funcs[f]? =some fn) :
  false=Tryz.pinned.checked.prog.looks []/\∀(j:Nat) t,fn.params[j]? =some t->Tryz.pinned.checked.prog.wantsStandIn t=false:=by
 obtain rfl:f=3:=(Option.some.inj ((show Tryz.prog.funcNamed "loop.example/g00896/laws.FnDistinct" =some 3 by kernel_rfl).symm.trans hf)).symm
 obtain rfl:fn=Tryz.f3:=(Option.some.inj ((show Tryz.prog.funcs[3]? =some Tryz.f3 by kernel_rfl).symm.trans hfn)).symm
 refine⟨by kernel_rfl,λj t ht=>?_⟩
 have ht':t∈[22]:=by simpa using Array.mem_of_getElem? (show(#[22]:Array Nat)[j]? =some t from ht)
 simp only[List.mem_cons,List.not_mem_nil,or_false]at ht'
 rcases ht' with rfl
 ·exact(show Tryz.prog.wantsStandIn 22=false by kernel_rfl)
theorem FnDistinct_holds:Rows.FnDistinctCardSaid:=
 Claim7.holds_tied_plain_at .later [] _ _ _ _ fnDistinct_said (λ_ h=>by cases h) (by kernel_rfl) (λ_ h=>by cases h) fnDistinct_row_tie rfl ⟨rfl,rfl⟩ (by kernel_rfl) rfl fnDistinct_plain (by kernel_rfl)
#print axioms FnDistinct_holds
end Go.Proofs.YtlnhmbnbloakmaaGreatDoor
end
