/- The law FnAbbreviations returns true for every input,the listed package variables being as the program's text lays it: the card. -/
import Derived.Test.YtfindpalabmmmaaGreatDoorMab6
import Derived.Lib.TrimByte
import Derived.Lib.Join
import Derived.Test.YtfindpalabmmmaaGreatDoorCards
import Derived.Test.YtfindpalabmmmaaGreatDoorTie
import Derived.Test.YtfindpalabmmmaaGreatDoorMab4
import Derived.Shelf.Vars
import Derived.WalkKit
import Derived.ProofKit
import Derived.OpenShut
import Derived.Deep.DeepHandedRow
import Derived.Lib.LaidTab
set_option linter.unusedVariables false
set_option linter.unusedSimpArgs false
set_option maxRecDepth 100000
section
namespace Go.Proofs.YtfindpalabmmmaaGreatDoor
open Go.Gx
theorem Q0x {α:Type}(p:α->Bool):∀l:List α,l.dropWhile p=l ↔ (∀a,l.head?=some a->p a=false)
 |[]=>by simp
 |a::l=>by
  have hl:(l.dropWhile p).length<=l.length:=(List.dropWhile_sublist p).length_le
  cases h:p a with
  |true=>
   rw[List.dropWhile_cons_of_pos h]
   constructor
   ·intro e
    have:=congrArg List.length e
    simp at this
    omega
   ·intro e
    have:=e a rfl
    rw[h]at this;cases this
  |false=>
   rw[List.dropWhile_cons_of_neg (by rw[h];exact Bool.noConfusion)]
   simp[h]
theorem Q4g (l:List UInt8)(c:UInt8):Lib.trimB l c=l ↔ l.head?≠some c/\l.getLast?≠some c:=by
 unfold Lib.trimB Lib.trimLeftB Lib.trimRightB
 have h1:∀m:List UInt8,m.dropWhile (· ==c)=m ↔ m.head?≠some c:=λm=>by
  rw[Q0x]
  constructor
  ·intro h e;have:=h c e;simp at this
  ·intro h a e
   have:a≠c:=λe'=>h (e'▸e)
   simpa using this
 constructor
 ·intro h
  have h2:((l.reverse.dropWhile (· ==c)).reverse).length<=l.length:=by
   have:=(List.dropWhile_sublist (p:=(· ==c)) (l:=l.reverse)).length_le
   simpa using this
  have h3:=(List.dropWhile_sublist (p:=(· ==c)) (l:=(l.reverse.dropWhile (· ==c)).reverse))
  have h4:(l.reverse.dropWhile (· ==c)).reverse=l:=by
   have h5:(l.reverse.dropWhile (· ==c)).reverse.length=l.length:=by
    have:=h3.length_le
    rw[h]at this
    omega
   have h6:l.reverse.dropWhile (· ==c)=l.reverse:=(List.dropWhile_sublist (p:=(· ==c)) (l:=l.reverse)).eq_of_length (by simpa using h5)
   rw[h6,List.reverse_reverse]
  rw[h4]at h
  refine⟨(h1 l).1 h,?_⟩
  have h6:l.reverse.dropWhile (· ==c)=l.reverse:=by rw[<-List.reverse_inj,h4,List.reverse_reverse]
  have:=(h1 _).1 h6
  simpa using this
 ·rintro⟨ha,hb⟩
  have h6:l.reverse.dropWhile (· ==c)=l.reverse:=(h1 _).2 (by simpa using hb)
  rw[h6,List.reverse_reverse]
  exact(h1 l).2 ha
def vis (lo b:Int):Bool:=decide (lo<=b)&&decide (b<=126)
theorem Da {s:ByteArray}{i:Nat}(hi:i<s.size):bt s i=32 ↔ (L s)[i]? =some 32:=by
 have hi':i<(L s).length:=hi
 have hbt:bt s i=((L s)[i].toNat:Int):=by rw[Q7c,getD_at hi']
 rw[List.getElem?_eq_getElem hi',hbt]
 have:(32:UInt8).toNat=32:=rfl
 constructor
 ·intro h
  congr 1
  apply UInt8.toNat_inj.1
  omega
 ·intro h
  rw[Option.some.inj h];rfl
def Q5N (s:ByteArray):Bool:=(decide (s.size=0))||(bt s 0 != 32&&bt s (s.size-1) != 32)
theorem Q5O (s:ByteArray)(hs:s.size<=1048576):Z81.F s ⟨#[32]⟩=some ⟨(Lib.trimB (L s) 32).toArray⟩:=by
 unfold Z81.F Q28
 rw[Nat.ble_eq_true_of_le (by omega)]
 rfl
theorem Q83 (s:ByteArray):Qi ⟨(Lib.trimB (L s) 32).toArray⟩ s=Q5N s:=by
 rw[Bool.eq_iff_iff,KY]
 have h1:(⟨(Lib.trimB (L s) 32).toArray⟩:ByteArray)=s ↔ Lib.trimB (L s) 32=L s:=by
  constructor
  ·intro h
   have:=congrArg L h
   rwa [Q8B]at this
  ·intro h
   apply KX
   rw[Q8B,h]
 rw[h1,Q4g]
 unfold Q5N
 by_cases hz:s.size=0
 ·have:L s=[]:=List.eq_nil_of_length_eq_zero hz
  rw[this]
  simp[hz]
 ·have h2:(L s).head?=(L s)[0]?:=List.head?_eq_getElem?
  have h3:(L s).getLast?=(L s)[s.size-1]?:=by rw[List.getLast?_eq_getElem?];rfl
  rw[h2,h3,Bool.or_eq_true,decide_eq_true_eq,Bool.and_eq_true,bne_iff_ne,bne_iff_ne,Ne,Ne,Ne,Ne,Da (by omega),Da (by omega)]
  simp[hz]
theorem G7 (s:ByteArray)(hs:s.size<=1048576):∀n i:Nat,i+n=s.size->Ev (λk=>Z10.l0 k s i) (if((Q2 s).drop i).all (vis 32)=true then .inr s else .inl false)
 |0,i,h=>by
  refine Ev.step (λk=>by rw[Z10.l0]) ?_
  simp(disch:=omega) only[Qz]
  rw[List.drop_eq_nil_of_le (by rw[Qj];omega)]
  exact Ev.pure _
 |n+1,i,h=>by
  have hl:=Qj s
  have hi:i<(Q2 s).length:=by omega
  refine Ev.step (λk=>by rw[Z10.l0]) ?_
  simp(disch:=omega) only[Qg,Int.toNat_natCast,JO s i hi]
  rw[YG hi]
  unfold vis
  by_cases c1:(Q2 s)[i]<32
  ·simp(disch:=omega) only[Qg,Xh,Bool.false_and];exact Ev.pure _
  ·by_cases c2:(Q2 s)[i] > 126
   ·simp(disch:=omega) only[Qg,Qz,Xh,Bool.and_false,Bool.false_and];exact Ev.pure _
   ·simp(disch:=omega) only[Qg,Qz,KW,Bool.and_self,Bool.true_and,wrap_in]
    exact G7 s hs n (i+1) (by omega)
theorem Q0y (s:ByteArray)(hs:s.size<=1048576):∀n i:Nat,i+n=s.size->Ev (λk=>Z26.l0 k s i) (if((Q2 s).drop i).all (vis 32)=true then .inr s else .inl false)
 |0,i,h=>by
  refine Ev.step (λk=>by rw[Z26.l0]) ?_
  simp(disch:=omega) only[Qz]
  rw[List.drop_eq_nil_of_le (by rw[Qj];omega)]
  exact Ev.pure _
 |n+1,i,h=>by
  have hl:=Qj s
  have hi:i<(Q2 s).length:=by omega
  refine Ev.step (λk=>by rw[Z26.l0]) ?_
  simp(disch:=omega) only[Qg,Int.toNat_natCast,JO s i hi]
  rw[YG hi]
  unfold vis
  by_cases c1:(Q2 s)[i]<32
  ·simp(disch:=omega) only[Qg,Xh,Bool.false_and];exact Ev.pure _
  ·by_cases c2:(Q2 s)[i] > 126
   ·simp(disch:=omega) only[Qg,Qz,Xh,Bool.and_false,Bool.false_and];exact Ev.pure _
   ·simp(disch:=omega) only[Qg,Qz,KW,Bool.and_self,Bool.true_and,wrap_in]
    exact Q0y s hs n (i+1) (by omega)
def Yh (s:ByteArray):Bool:=decide (s.size<=40)&&((Q2 s).all (vis 32)&&Q5N s)
theorem G8 (s:ByteArray):Ev (λk=>Z10.F k s) (Yh s):=by
 unfold Z10.F Yh
 by_cases c:(s.size:Int) > 40
 ·simp(disch:=omega) only[Qg,Xh,Bool.false_and]
  exact Ev.pure _
 ·simp(disch:=omega) only[Qz,KW,Bool.true_and]
  have:=G7 s (by omega) s.size 0 (by omega)
  rw[List.drop_zero]at this
  cases h:(Q2 s).all (vis 32)with
  |false=>rw[h]at this;exact Ev.bind this (Ev.pure _)
  |true=>
   rw[h]at this
   refine Ev.bind (a:=.inr s) this ?_
   dsimp only
   have he:Qi s ⟨#[]⟩=decide (s.size=0):=by
    rw[<-Bool.not_not (b:=Qi s ⟨#[]⟩),D2]
    by_cases hz:s.size=0
    ·simp[hz]
    ·rw[decide_eq_true (by omega:0<s.size),decide_eq_false hz];rfl
   rw[he]
   unfold Q5N
   by_cases hz:s.size=0
   ·rw[decide_eq_true hz];exact Ev.pure _
   ·rw[decide_eq_false hz]
    simp(disch:=omega) only[cond_false,cond_true,Qg,wrap_in]
    rw[show((s.size:Int)-1).toNat=s.size-1 by omega,show(0:Int).toNat=0 from rfl,Bool.false_or,Bool.true_and]
    cases (bt s 0 != 32)with
    |true=>exact Ev.pure _
    |false=>exact Ev.pure _
theorem DJ (s:ByteArray):Ev (λk=>Z44.F k s) (Yh s):=by
 unfold Z44.F Yh
 by_cases c:(s.size:Int)<=40
 ·simp(disch:=omega) only[Qg,KW,Bool.true_and]
  refine Ev.bind ?_ (Ev.pure _)
  unfold Z26.F
  have:=Q0y s (by omega) s.size 0 (by omega)
  rw[List.drop_zero]at this
  cases h:(Q2 s).all (vis 32)with
  |false=>rw[h]at this;exact Ev.bind this (Ev.pure _)
  |true=>
   rw[h]at this
   refine Ev.bind (a:=.inr s) this ?_
   dsimp only
   refine Ev.bind0 (Q5O s (by omega)) ?_
   simp only[Q83,Bool.true_and]
   exact Ev.pure _
 ·simp(disch:=omega) only[Qz,Xh,Bool.false_and]
  exact Ev.pure _
def pos (s:ByteArray):Bool:=decide (0<s.size)
def kw (s:ByteArray):List ByteArray:=(words s).filter pos
theorem ext_size {s:ByteArray}{a b:Nat}(h:a<=b)(hb:b<=s.size):(s.extract a b).size=b-a:=by
 rw[ByteArray.size_extract];omega
theorem Q0z {n:Nat}(h:n<=8192):room n .str=true:=by
 unfold room
 rw[Nat.ble_eq]
 have:nb .str=16:=rfl
 rw[this]
 omega
theorem YU (s:ByteArray)(a b:Nat)(hab:a<=b)(hb:b<=s.size)(l:List ByteArray):(s.extract a b::l).filter pos=(if a<b then[s.extract a b]else[])++l.filter pos:=by
 rw[List.filter_cons]
 unfold pos
 rw[ext_size hab hb]
 by_cases c:a<b
 ·rw[if_pos c,decide_eq_true (by omega)];rfl
 ·rw[if_neg c,decide_eq_false (by omega)];rfl
theorem YE (s:ByteArray)(hs:s.size<=4000):∀n i:Nat,i+n=s.size->∀st:Nat,st<=i->(∀j,st<=j->j<i->(L s)[j]? ≠some 32)->∀acc:List ByteArray,acc.length<=i->Ev (λk=>Z5.l0 k s acc st i) (acc++(Jd s st).filter pos)
 |0,i,h,st,h1,hn,acc,ha=>by
  have e:Jd s st=[s.extract st s.size]:=XE s st λj hj=>by
   by_cases hj2:j<i
   ·exact hn j hj hj2
   ·rw[List.getElem?_eq_none (by rw[J9];omega)];exact λh=>by cases h
  rw[e,YU s st s.size (by omega) (Nat.le_refl _),List.filter_nil,List.append_nil]
  have fin:∀acc',Ev (λk=>Z5.l0 k s acc' ((i:Int)+1) ((i:Int)+1)) acc':=λacc'=>by
   refine Ev.step (λk=>by rw[Z5.l0]) ?_
   simp(disch:=omega) only[Qz]
   exact Ev.pure _
  refine Ev.step (λk=>by rw[Z5.l0]) ?_
  by_cases c:st<i
  ·rw[if_pos (by omega)]
   have hr:∀x:ByteArray,room (acc.length+([x]:List ByteArray).length) .str=true:=λx=>Q0z (by simp;omega)
   simp(disch:=omega) only[Qg,ceq,Int.toNat_natCast,hr,cond_true,wrap_in]
   rw[show i=s.size by omega]
   have:=fin (acc++[s.extract st s.size])
   rw[show i=s.size by omega]at this
   exact this
  ·rw[if_neg (by omega),List.append_nil]
   simp(disch:=omega) only[Qg,Qz,ceq,wrap_in]
   exact fin acc
 |n+1,i,h,st,h1,hn,acc,ha=>by
  have hi:i<s.size:=by omega
  refine Ev.step (λk=>by rw[Z5.l0]) ?_
  by_cases c:bt s i=32
  ·rw[DF s st i h1 hi ((Da hi).1 c) hn,YU s st i h1 (by omega)]
   by_cases c2:st<i
   ·have hr:∀x:ByteArray,room (acc.length+([x]:List ByteArray).length) .str=true:=λx=>Q0z (by simp;omega)
    rw[if_pos c2,<-List.append_assoc]
    simp(disch:=first|exact c|omega) only[Qg,cne,ceq,Int.toNat_natCast,hr,cond_true,wrap_in]
    exact YE s hs n (i+1) (by omega) (i+1) (Nat.le_refl _) (λj h1 h2=>by omega) (acc++[s.extract st i]) (by simp;omega)
   ·rw[if_neg c2,List.nil_append]
    simp(disch:=first|exact c|omega) only[Qg,Qz,cne,ceq,Int.toNat_natCast,wrap_in]
    exact YE s hs n (i+1) (by omega) (i+1) (Nat.le_refl _) (λj h1 h2=>by omega) acc (by omega)
  ·simp(disch:=first|exact c|omega) only[Qg,cne,Int.toNat_natCast,wrap_in]
   exact YE s hs n (i+1) (by omega) st (by omega) (λj h3 h4=>by
    rcases Nat.lt_or_ge j i with h5|h5
    ·exact hn j h3 h5
    ·obtain rfl:j=i:=by omega
     exact λe=>c ((Da hi).2 e)) acc (by omega)
theorem Q2h (s:ByteArray)(hs:s.size<=4000):Ev (λk=>Z5.F k s) (kw s):=by
 unfold Z5.F
 have:=YE s hs s.size 0 (by omega) 0 (Nat.le_refl _) (λj h1 h2=>by omega) [] (Nat.le_refl _)
 rw[Q0w,List.nil_append]at this
 exact Ev.bind this (Ev.pure _)
theorem Q7r:(λx:ByteArray=> !Qi x ⟨#[]⟩)=pos:=by
 funext x
 rw[D2];rfl
theorem Q4h (s:ByteArray)(hs:s.size<=4000):Ev (λk=>Z67.F k s) (kw s):=by
 unfold Z67.F
 refine Ev.bind0 (Q7p s hs) (Ev.bind (a:=kw s) ?_ (Ev.pure _))
 have hlen:=(Q1y s).2
 have hq:∀x,x∈words s->Ev (λk=>(λ(_:Nat) (x:ByteArray)=>Z47.F x) k x) (Qi x ⟨#[]⟩):=λx _=>Ev.const rfl
 have:=DI (d:=(⟨#[]⟩:ByteArray)) (p:=λx=>Qi x ⟨#[]⟩) (q:=λ_ x=>Z47.F x) (xs:=words s) (l0:=Z32.l0) (λk x0 x5 x6=>by rw[Z32.l0]) hq (by omega) (I:=Z28.F) (F:=Z32.F)
  (Q2g (d:=(⟨#[]⟩:ByteArray)) (p:=λx=>Qi x ⟨#[]⟩) (q:=λ_ x=>Z47.F x) (l0:=Z28.l0) (λk x0 x7 x8=>by rw[Z28.l0]) hq (by omega) (λk a0=>rfl)) (λk a0=>rfl)
 rw[Q7r]at this
 exact this
def om (s:ByteArray):Bool:=Qi (DC s) ⟨#[97]⟩||(Qi (DC s) ⟨#[97,110]⟩||(Qi (DC s) ⟨#[97,110,100]⟩||(Qi (DC s) ⟨#[102,111,114]⟩||(Qi (DC s) ⟨#[105,110]⟩||(Qi (DC s) ⟨#[111,102]⟩||(Qi (DC s) ⟨#[111,110]⟩||Qi (DC s) ⟨#[116,104,101]⟩))))))
theorem cb1 (c:Bool):(bif c then some true else some false)=some c:=by cases c<;>rfl
theorem cb2 (c d:Bool):(bif c then some c else some d)=some (c||d):=by cases c<;>rfl
theorem Q7s (s:ByteArray)(hs:s.size<=1048576):Ev (λk=>Z69.F k s) (om s):=by
 unfold Z69.F om
 refine Ev.bind (YD s hs) ?_
 simp only[cb1,cb2]
 exact Ev.pure _
theorem Q4i (s:ByteArray)(hs:s.size<=1048576):Ev (λk=>Z45.F k s) (om s):=by
 unfold Z45.F om
 refine Ev.bind (Q0t s hs) ?_
 simp only[cb1,cb2]
 exact Ev.pure _
theorem Q0A (s:ByteArray):∀x∈kw s,0<x.size/\x.size<=s.size:=λx hx=>by
 obtain⟨h1,h2⟩:=List.mem_filter.1 hx
 exact⟨by simpa[pos]using h2,G6 _ _ x h1⟩
theorem Q4j (s:ByteArray):(kw s).length<=s.size+1:=Nat.le_trans (List.length_filter_le _ _) (Q1y s).2
theorem Q2i (W:List ByteArray)(hW:∀x∈W,x.size<=4000)(hl:W.length<=4001):∀n i:Nat,i+n=W.length->∀acc:List ByteArray,acc.length<=i->Ev (λk=>Z14.l0 k W acc i) (W,acc++(W.drop i).filter λx=> !om x)
 |0,i,h,acc,ha=>by
  refine Ev.step (λk=>by rw[Z14.l0]) ?_
  simp(disch:=omega) only[Qz]
  rw[List.drop_eq_nil_of_le (by omega),List.filter_nil,List.append_nil]
  exact Ev.pure _
 |n+1,i,h,acc,ha=>by
  have hi:i<W.length:=by omega
  refine Ev.step (λk=>by rw[Z14.l0]) ?_
  simp(disch:=omega) only[Qg,Int.toNat_natCast,getD_at hi]
  have:=hW _ (List.getElem_mem hi)
  refine Ev.bind (Q7s _ (by omega)) ?_
  rw[List.drop_eq_getElem_cons hi,List.filter_cons]
  cases ho:om W[i]with
  |true=>
   simp(disch:=omega) only[Bool.not_true,cond_false,wrap_in,Bool.false_eq_true,if_false]
   exact Q2i W hW hl n (i+1) (by omega) acc (by omega)
  |false=>
   have hr:room (acc.length+([W[i]]:List ByteArray).length) .str=true:=Q0z (by simp;omega)
   simp(disch:=omega) only[Bool.not_false,cond_true,Qg,hr,wrap_in,if_true]
   have:=Q2i W hW hl n (i+1) (by omega) (acc++[W[i]]) (by simp;omega)
   rw[List.append_assoc]at this
   exact this
def JA (s:ByteArray):List ByteArray×Bool:=if(kw s).length<=1 then(kw s,false)else if((kw s).filter λx=> !om x).length=0 then(kw s,true)else((kw s).filter λx=> !om x,true)
theorem G9 (s:ByteArray)(hs:s.size<=40):Ev (λk=>Z14.F k s) (JA s):=by
 unfold Z14.F
 have hW:=Q0A s
 have hl:=Q4j s
 have h2:=Q2i (kw s) (λx hx=>by have:=(hW x hx).2;omega) (by omega) (kw s).length 0 (by omega) [] (Nat.le_refl _)
 rw[List.drop_zero,List.nil_append]at h2
 refine Ev.bind (Q2h s (by omega)) (Ev.bind h2 ?_)
 unfold JA
 by_cases c1:(kw s).length<=1
 ·rw[if_pos c1]
  by_cases c2:(((kw s).filter λx=> !om x).length:Int)=0
  ·simp(disch:=omega) only[ceq,Qg];exact Ev.pure _
  ·simp(disch:=omega) only[cne,Qg];exact Ev.pure _
 ·rw[if_neg c1]
  by_cases c2:((kw s).filter λx=> !om x).length=0
  ·rw[if_pos c2]
   simp(disch:=omega) only[ceq,Qz];exact Ev.pure _
  ·rw[if_neg c2]
   simp(disch:=omega) only[cne,Qz];exact Ev.pure _
theorem Q4U (s:ByteArray)(hs:s.size<=40):Ev (λk=>Z54.F k s) (JA s):=by
 unfold Z54.F JA
 have hW:=Q0A s
 have hl:=Q4j s
 refine Ev.bind (Q4h s (by omega)) ?_
 by_cases c1:(kw s).length<=1
 ·rw[if_pos c1]
  simp(disch:=omega) only[Qg]
  exact Ev.pure _
 ·rw[if_neg c1]
  simp(disch:=omega) only[Qz]
  have hc:Z83.F (kw s)=some (kw s):=by
   unfold Z83.F Q29
   rw[Nat.ble_eq_true_of_le (by omega)]
   rfl
  refine Ev.bind0 hc ?_
  have hq:∀x,x∈kw s->Ev (λk=>Z45.F k x) (om x):=λx hx=>Q4i x (by have:=(hW x hx).2;omega)
  refine Ev.bind (DI (d:=(⟨#[]⟩:ByteArray)) (p:=om) (q:=Z45.F) (xs:=kw s) (l0:=Z33.l0) (λk x0 x5 x6=>by rw[Z33.l0]) hq (by omega) (I:=Z29.F) (F:=Z33.F)
   (Q2g (d:=(⟨#[]⟩:ByteArray)) (p:=om) (q:=Z45.F) (l0:=Z29.l0) (λk x0 x7 x8=>by rw[Z29.l0]) hq (by omega) (λk a0=>rfl)) (λk a0=>rfl)) ?_
  by_cases c2:((kw s).filter λx=> !om x).length=0
  ·rw[if_pos c2]
   simp(disch:=omega) only[ceq];exact Ev.pure _
  ·rw[if_neg c2]
   simp(disch:=omega) only[cne];exact Ev.pure _
theorem Q0B (s:ByteArray):(∀x∈(JA s).1,0<x.size/\x.size<=s.size)/\(JA s).1.length<=s.size+1:=by
 have hW:=Q0A s
 have hl:=Q4j s
 have hf:=List.length_filter_le (λx=> !om x) (kw s)
 unfold JA
 split
 ·exact⟨hW,hl⟩
 ·split
  ·exact⟨hW,hl⟩
  ·exact⟨λx hx=>hW x (List.mem_filter.1 hx).1,by show((kw s).filter λx=> !om x).length<=_;omega⟩
end Go.Proofs.YtfindpalabmmmaaGreatDoor
end
section
/- Plain laws: a text,abbreviated. -/
namespace Go.Proofs.YtfindpalabmmmaaGreatDoor
open Go.Gx
theorem Q5P (x:List UInt8)(r:List (List UInt8)):Lib.joinTail [32] (x::r)=32::(x++Lib.joinTail [32] r):=by simp[Lib.joinTail]
theorem e32:(⟨#[32]⟩:ByteArray).size=1:=rfl
theorem L32:L ⟨#[32]⟩=[32]:=rfl
theorem Q4V (W:List ByteArray)(hW:∀x∈W,x.size<=1048576)(hl:W.length<=8192):∀n i:Nat,i+n=W.length->1<=i->∀acc:ByteArray,acc.size<=1048577*i->
  ∃r,Ev (λk=>Z11.l0 k W acc i) r/\L r=L acc++Lib.joinTail [32] ((W.drop i).map L)/\r.size<=1048577*W.length
 |0,i,h,h0,acc,ha=>by
  refine⟨acc,Ev.step (λk=>by rw[Z11.l0]) ?_,?_,by rw[show W.length=i by omega];exact ha⟩
  ·simp(disch:=omega) only[Qz];exact Ev.pure _
  ·rw[List.drop_eq_nil_of_le (by omega)];simp[Lib.joinTail]
 |n+1,i,h,h0,acc,ha=>by
  have hi:i<W.length:=by omega
  have hx:=hW _ (List.getElem_mem hi)
  obtain⟨r,r1,r2,r3⟩:=Q4V W hW hl n (i+1) (by omega) (by omega) (acc++⟨#[32]⟩++W[i]) (by rw[Q0v,Q0v,e32];omega)
  refine⟨r,Ev.step (λk=>by rw[Z11.l0]) ?_,?_,r3⟩
  ·simp(disch:=(try simp only[Q0v,e32]);omega) only[Qg,Int.toNat_natCast,getD_at hi,Q0L,wrap_in]
   exact r1
  ·rw[r2,List.drop_eq_getElem_cons hi,List.map_cons,Q5P,Yt,Yt,L32]
   simp
theorem Q4W (W:List ByteArray)(hW:∀x∈W,x.size<=1048576)(hl:W.length<=8192):∃r,Ev (λk=>Z11.F k W) r/\Z79.F W ⟨#[32]⟩=some r/\L r=Lib.join (W.map L) [32]/\r.size<=1048577*W.length:=by
 have key:∃r,Ev (λk=>Z11.F k W) r/\L r=Lib.join (W.map L) [32]/\r.size<=1048577*W.length:=by
  unfold Z11.F
  match W,hW,hl with
  |[],_,_=>
   refine⟨⟨#[]⟩,Ev.bind (a:=⟨#[]⟩) ?_ (Ev.pure _),rfl,Nat.zero_le _⟩
   refine Ev.step (λk=>by rw[Z11.l0]) ?_
   exact Ev.pure _
  |x::W,hW,hl=>
   have hx:=hW x List.mem_cons_self
   have e00:∀t:ByteArray,(⟨#[]⟩:ByteArray)++t=t:=λt=>KX (by rw[Yt];rfl)
   have e0:(⟨#[]⟩:ByteArray).size=0:=rfl
   obtain⟨r,r1,r2,r3⟩:=Q4V (x::W) hW hl W.length 1 (by rw[List.length_cons];omega) (Nat.le_refl _) x (by omega)
   refine⟨r,Ev.bind (a:=r) ?_ (Ev.pure _),?_,r3⟩
   ·refine Ev.step (λk=>by rw[Z11.l0]) ?_
    have r1':Ev (λk=>Z11.l0 k (x::W) x (0+1)) r:=r1
    have hlen:(0:Int)<((x::W).length:Int):=by rw[List.length_cons];omega
    have hg:(x::W).getD (0:Int).toNat (⟨#[]⟩:ByteArray)=x:=rfl
    simp(disch:=(try simp only[e0]);omega) only[Qg,Qz,hg,e00,Q0L,wrap_in]
    exact r1'
   ·rw[r2,List.map_cons,Lib.join_cons];rfl
 obtain⟨r,r1,r2,r3⟩:=key
 refine⟨r,r1,?_,r2,r3⟩
 unfold Z79.F Q4P
 have e1:Lib.join (W.map (·.data.toList)) (⟨#[32]⟩:ByteArray).data.toList=L r:=by rw[r2];rfl
 rw[e1,Nat.ble_eq_true_of_le (by omega),Nat.ble_eq_true_of_le (by rw[J9];omega)]
 show some _=some r
 congr 1
def ms {α:Type}(f:α->α)(W:List α)(i:Nat):List α:=(W.take i).map f++W.drop i
section
variable {α:Type} (f:α->α) (W:List α)
theorem Q8E (i:Nat):(ms f W i).length=W.length:=by unfold ms;simp;omega
theorem Q84:ms f W 0=W:=by simp[ms]
theorem Q8F:ms f W W.length=W.map f:=by simp[ms]
theorem Q8Z {i:Nat}(h:i<W.length)(d:α):(ms f W i).getD i d=W[i]:=by
 unfold ms
 rw[List.getD_eq_getElem?_getD,List.getElem?_append_right (by simp;omega)]
 simp[Nat.min_eq_left (Nat.le_of_lt h),h]
theorem Q8G {i:Nat}(h:i<W.length):(ms f W i).set i (f W[i])=ms f W (i+1):=by
 unfold ms
 rw[List.set_append_right _ _ (by simp;omega)]
 simp only[List.length_map,List.length_take,Nat.min_eq_left (Nat.le_of_lt h),Nat.sub_self]
 rw[List.drop_eq_getElem_cons h,List.set_cons_zero,List.take_add_one,List.getElem?_eq_getElem h]
 simp only[Option.toList_some,List.map_append,List.map_cons,List.map_nil,List.append_assoc,List.cons_append,List.nil_append]
end
open Classical in
noncomputable def shW (xs:List Abbr)(s:ByteArray):ByteArray:=if h:∃r,Ev (λk=>Z37.F k xs s) r/\Ev (λk=>Z40.F k xs s) r/\r.size<=1048576 then h.choose else s
theorem Q0C (xs:List Abbr)(hs:smalls xs)(s:ByteArray)(h0:0<s.size)(h1:s.size<=1048576):Ev (λk=>Z37.F k xs s) (shW xs s)/\Ev (λk=>Z40.F k xs s) (shW xs s)/\(shW xs s).size<=1048576:=by
 have h:=Q3k xs hs s h0 h1
 unfold shW
 rw[dif_pos h]
 exact h.choose_spec
theorem XL (xs:List Abbr)(hs:smalls xs)(W:List ByteArray)(hW:∀x∈W,0<x.size/\x.size<=1048576)(hl:W.length<=8192):∀n i:Nat,i+n=W.length->∀acc:List ByteArray,acc.length<=i->Ev (λk=>Z22.l0 k xs W acc i) (acc++(W.drop i).map (shW xs))
 |0,i,h,acc,ha=>by
  refine Ev.step (λk=>by rw[Z22.l0]) ?_
  simp(disch:=omega) only[Qz]
  rw[List.drop_eq_nil_of_le (by omega),List.map_nil,List.append_nil]
  exact Ev.pure _
 |n+1,i,h,acc,ha=>by
  have hi:i<W.length:=by omega
  obtain⟨h1,h2⟩:=hW _ (List.getElem_mem hi)
  refine Ev.step (λk=>by rw[Z22.l0]) ?_
  simp(disch:=omega) only[Qg,Int.toNat_natCast,getD_at hi]
  refine Ev.bind (Q0C xs hs _ h1 h2).1 ?_
  have hr:room (acc.length+([shW xs W[i]]:List ByteArray).length) .str=true:=Q0z (by simp;omega)
  simp(disch:=omega) only[hr,cond_true,wrap_in]
  have:=XL xs hs W hW hl n (i+1) (by omega) (acc++[shW xs W[i]]) (by simp;omega)
  rw[List.append_assoc]at this
  rw[List.drop_eq_getElem_cons hi,List.map_cons]
  exact this
theorem Q1z (xs:List Abbr)(hs:smalls xs)(W:List ByteArray)(hW:∀x∈W,0<x.size/\x.size<=1048576)(hl:W.length<=8192):∀n i:Nat,i+n=W.length->Ev (λk=>Z9.l0 k xs (ms (shW xs) W i) W.length i) (W.map (shW xs))
 |0,i,h=>by
  refine Ev.step (λk=>by rw[Z9.l0]) ?_
  simp(disch:=omega) only[Qz]
  rw[show i=W.length by omega,Q8F]
  exact Ev.pure _
 |n+1,i,h=>by
  have hi:i<W.length:=by omega
  have hm:=Q8E (shW xs) W i
  obtain⟨h1,h2⟩:=hW _ (List.getElem_mem hi)
  refine Ev.step (λk=>by rw[Z9.l0]) ?_
  simp(disch:=omega) only[Qg,Int.toNat_natCast,Q8Z (shW xs) W hi]
  refine Ev.bind (Q0C xs hs _ h1 h2).2.1 ?_
  simp(disch:=omega) only[Qg,Q8G (shW xs) W hi,wrap_in]
  exact Q1z xs hs W hW hl n (i+1) (by omega)
theorem DK (s:ByteArray)(hl:bt s (s.size-1)≠32):∀n i:Nat,i+n=s.size->∀st:Nat,st<=i->st<s.size->(∀j,st<=j->j<i->(L s)[j]? ≠some 32)->0<((Jd s st).filter pos).length
 |0,i,h,st,h1,h2,hn=>by
  rw[XE s st λj hj=>by
   by_cases hj2:j<i
   ·exact hn j hj hj2
   ·rw[List.getElem?_eq_none (by rw[J9];omega)];exact λh=>by cases h]
  rw[YU s st s.size (by omega) (Nat.le_refl _),if_pos h2]
  simp
 |n+1,i,h,st,h1,h2,hn=>by
  have hi:i<s.size:=by omega
  by_cases c:bt s i=32
  ·have hi2:i+1<s.size:=by
    rcases Nat.lt_or_ge (i+1) s.size with h3|h3
    ·exact h3
    ·exact absurd (by rw[show s.size-1=i by omega];exact c) hl
   rw[DF s st i h1 hi ((Da hi).1 c) hn,YU s st i h1 (by omega)]
   have:=DK s hl n (i+1) (by omega) (i+1) (Nat.le_refl _) hi2 (λj h1 h2=>by omega)
   simp;omega
  ·exact DK s hl n (i+1) (by omega) st (by omega) h2 (λj h3 h4=>by
    rcases Nat.lt_or_ge j i with h5|h5
    ·exact hn j h3 h5
    ·obtain rfl:j=i:=by omega
     exact λe=>c ((Da hi).2 e))
theorem Q3n (s:ByteArray)(hl:bt s (s.size-1)≠32):∀n i:Nat,i+n=s.size->1<=i->(∀j,j<i->(L s)[j]? ≠some 32)->((Jd s 0).filter pos).length<=1->(Jd s 0).filter pos=[s]
 |0,i,h,h0,hn,hlen=>by
  rw[XE s 0 λj hj=>by
   by_cases hj2:j<i
   ·exact hn j hj2
   ·rw[List.getElem?_eq_none (by rw[J9];omega)];exact λh=>by cases h]
  rw[YU s 0 s.size (by omega) (Nat.le_refl _),if_pos (by omega),sub_self]
  rfl
 |n+1,i,h,h0,hn,hlen=>by
  have hi:i<s.size:=by omega
  by_cases c:bt s i=32
  ·have hi2:i+1<s.size:=by
    rcases Nat.lt_or_ge (i+1) s.size with h3|h3
    ·exact h3
    ·exact absurd (by rw[show s.size-1=i by omega];exact c) hl
   rw[DF s 0 i (by omega) hi ((Da hi).1 c) (λj _ h=>hn j h),YU s 0 i (by omega) (by omega),if_pos (by omega)]at hlen
   have:=DK s hl n (i+1) (by omega) (i+1) (Nat.le_refl _) hi2 (λj h1 h2=>by omega)
   rw[List.length_append,List.length_singleton]at hlen
   omega
  ·exact Q3n s hl n (i+1) (by omega) (by omega) (λj h4=>by
    rcases Nat.lt_or_ge j i with h5|h5
    ·exact hn j h5
    ·obtain rfl:j=i:=by omega
     exact λe=>c ((Da hi).2 e)) hlen
theorem Q8H (s:ByteArray)(he:Q5N s=true)(hl:(kw s).length<=1):Lib.join ((kw s).map L) [32]=L s:=by
 unfold kw at hl ⊢
 rw[<-Q0w]at hl ⊢
 unfold Q5N at he
 by_cases hz:s.size=0
 ·rw[XE s 0 λj hj=>by rw[List.getElem?_eq_none (by rw[J9];omega)];exact λh=>by cases h]
  rw[YU s 0 s.size (by omega) (Nat.le_refl _),if_neg (by omega)]
  have:L s=[]:=List.eq_nil_of_length_eq_zero hz
  rw[this];rfl
 ·rw[decide_eq_false hz,Bool.false_or,Bool.and_eq_true,bne_iff_ne,bne_iff_ne]at he
  rw[Q3n s he.2 (s.size-1) 1 (by omega) (Nat.le_refl _) (λj hj=>by
   obtain rfl:j=0:=by omega
   exact λe=>he.1 ((Da (by omega)).2 e)) hl]
  simp[Lib.join_one]
theorem Q7t (xs:List Abbr)(hs:smalls xs)(s:ByteArray)(ht:Yh s=true):∃r,Ev (λk=>Z22.F k xs s) r/\Ev (λk=>Z9.F k xs s) r:=by
 unfold Yh at ht
 simp only[Bool.and_eq_true,decide_eq_true_eq]at ht
 obtain⟨h40,_,he⟩:=ht
 obtain⟨hW,hl⟩:=Q0B s
 have k1:=G9 s h40
 have k2:=Q4U s h40
 unfold Z22.F Z9.F
 cases hb:(JA s).2 with
 |false=>
  have hk:JA s=(kw s,false)/\(kw s).length<=1:=by
   unfold JA at hb ⊢
   split at hb
   ·rename_i c;rw[if_pos c];exact⟨rfl,c⟩
   ·split at hb<;>cases hb
  obtain⟨r,r1,r2,r3,_⟩:=Q4W (JA s).1 (λx hx=>by have:=(hW x hx).2;omega) (by omega)
  have:r=s:=KX (by rw[r3,hk.1,Q8H s he hk.2])
  subst this
  refine⟨r,Ev.bind k1 ?_,Ev.bind k2 ?_⟩
  ·rw[hb];exact Ev.pure _
  ·rw[hb];exact Ev.bind0 r2 (Ev.pure _)
 |true=>
  have hW':∀x∈(JA s).1,0<x.size/\x.size<=1048576:=λx hx=>by have:=hW x hx;omega
  have s1:=XL xs hs (JA s).1 hW' (by omega) (JA s).1.length 0 (by omega) [] (Nat.le_refl _)
  have s2:=Q1z xs hs (JA s).1 hW' (by omega) (JA s).1.length 0 (by omega)
  rw[List.drop_zero,List.nil_append]at s1
  rw[Q84]at s2
  obtain⟨r,r1,r2,r3,_⟩:=Q4W ((JA s).1.map (shW xs)) (λx hx=>by
   obtain⟨y,hy,rfl⟩:=List.mem_map.1 hx
   obtain⟨h1,h2⟩:=hW' y hy
   exact(Q0C xs hs y h1 h2).2.2) (by rw[List.length_map];omega)
  refine⟨r,Ev.bind k1 ?_,Ev.bind k2 ?_⟩
  ·rw[hb];exact Ev.bind s1 (Ev.bind r1 (Ev.pure _))
  ·rw[hb];exact Ev.bind s2 (Ev.bind0 r2 (Ev.pure _))
end Go.Proofs.YtfindpalabmmmaaGreatDoor
end
section
/- Plain laws: lists of titles. -/
namespace Go.Proofs.YtfindpalabmmmaaGreatDoor
open Go.Gx
open Classical in
noncomputable def tW (xs:List Abbr)(s:ByteArray):ByteArray:=if h:∃r,Ev (λk=>Z22.F k xs s) r/\Ev (λk=>Z9.F k xs s) r then h.choose else s
theorem Q8g (xs:List Abbr)(hs:smalls xs)(s:ByteArray)(ht:Yh s=true):Ev (λk=>Z22.F k xs s) (tW xs s)/\Ev (λk=>Z9.F k xs s) (tW xs s):=by
 have h:=Q7t xs hs s ht
 unfold tW
 rw[dif_pos h]
 exact h.choose_spec
def Gs (ts:List ByteArray):Bool:=ts.all Yh&&decide (ts.length<=20)
theorem Q2j (xs:List Abbr)(hs:smalls xs)(ts:List ByteArray)(hl:ts.length<=1048576):Ev (λk=>Z71.F k xs ts) (J2 xs&&Gs ts):=by
 have v2:=Ji xs hs
 unfold Z71.F Gs
 cases hv:J2 xs with
 |false=>rw[hv]at v2;exact Ev.bind v2 (Ev.pure _)
 |true=>
  rw[hv]at v2
  refine Ev.bind v2 ?_
  simp only[cond_true,Bool.true_and]
  by_cases c:ts.length<=20
  ·simp(disch:=omega) only[Qg,KW,Bool.and_true]
   have hq:∀x,x∈ts->Ev (λk=>Z60.F k x) (!Yh x):=λx _=>by
    unfold Z60.F
    exact Ev.bind (DJ x) (Ev.pure _)
   obtain⟨r,h1,h2⟩:=Q2g (d:=(⟨#[]⟩:ByteArray)) (p:=λx=> !Yh x) (q:=Z60.F) (xs:=ts) (l0:=Z31.l0) (λk x0 x7 x8=>by rw[Z31.l0]) hq (by omega) (F:=Z31.F) (λk a0=>rfl)
   refine Ev.bind (a:=!ts.all Yh) ?_ ?_
   ·unfold Z76.F
    refine Ev.bind h1 ((Ev.pure _).eq ?_)
    rcases h2 with⟨rfl,h2⟩|⟨j,rfl,hj,hp,_⟩
    ·have:ts.all Yh=true:=List.all_eq_true.2 λx hx=>by have:=h2 x hx;simpa using this
     rw[this];rfl
    ·have:ts.all Yh=false:=by
      rw[List.all_eq_false]
      refine⟨ts[j],List.getElem_mem hj,?_⟩
      rw[getD_at hj]at hp
      simpa using hp
     rw[this,decide_eq_true (by omega)];rfl
   ·rw[Bool.not_not];exact Ev.pure _
  ·simp(disch:=omega) only[Qz,Xh,Bool.and_false]
   exact Ev.pure _
end Go.Proofs.YtfindpalabmmmaaGreatDoor
end
section
/- UnabbreviatedWords,both ways (cut out of LawUnabbr). -/
namespace Go.Proofs.YtfindpalabmmmaaGreatDoor
open Go.Gx
noncomputable def unP (xs:List Abbr)(b:Bool)(x:ByteArray):Bool:=b&& !Qi (shW xs x) x
theorem DL (xs:List Abbr)(hs:smalls xs)(W:List ByteArray)(b:Bool)(hW:∀x∈W,0<x.size/\x.size<=1048576)(hl:W.length<=8192):∀n i:Nat,i+n=W.length->∀acc:List ByteArray,acc.length<=i->
  Ev (λk=>Z6.l0 k xs acc W b i) (acc++(W.drop i).filter λx=> !unP xs b x)
 |0,i,h,acc,ha=>by
  refine Ev.step (λk=>by rw[Z6.l0]) ?_
  simp(disch:=omega) only[Qz]
  rw[List.drop_eq_nil_of_le (by omega),List.filter_nil,List.append_nil]
  exact Ev.pure _
 |n+1,i,h,acc,ha=>by
  have hi:i<W.length:=by omega
  obtain⟨h1,h2⟩:=hW _ (List.getElem_mem hi)
  have hr:room (acc.length+([W[i]]:List ByteArray).length) .str=true:=Q0z (by simp;omega)
  have put:Ev (λk=>Z6.l0 k xs (acc++[W[i]]) W b ((i:Int)+1)) (acc++W[i]::(W.drop (i+1)).filter λx=> !unP xs b x):=by
   have:=DL xs hs W b hW hl n (i+1) (by omega) (acc++[W[i]]) (by simp;omega)
   rw[List.append_assoc]at this
   exact this
  refine Ev.step (λk=>by rw[Z6.l0]) ?_
  rw[List.drop_eq_getElem_cons hi,List.filter_cons]
  simp(disch:=omega) only[Qg,Int.toNat_natCast,getD_at hi]
  cases b with
  |false=>
   have e:unP xs false W[i]=false:=rfl
   rw[e]
   simp(disch:=omega) only[Bool.not_false,cond_true,hr,wrap_in,if_true]
   exact put
  |true=>
   simp only[Bool.not_true,cond_false]
   refine Ev.bind (Q0C xs hs _ h1 h2).1 ?_
   have e:unP xs true W[i]= !Qi (shW xs W[i]) W[i]:=rfl
   rw[e,Bool.not_not]
   cases hb:Qi (shW xs W[i]) W[i]with
   |true=>
    simp(disch:=omega) only[cond_true,hr,wrap_in,if_true]
    exact put
   |false=>
    simp(disch:=omega) only[cond_false,wrap_in,Bool.false_eq_true,if_false]
    exact DL xs hs W true hW hl n (i+1) (by omega) acc (by omega)
theorem Q5Q (xs:List Abbr)(hs:smalls xs)(W:List ByteArray)(b:Bool)(hW:∀x∈W,0<x.size/\x.size<=1048576)(hl:W.length<=8192):Ev (λk=>Z30.F k W b xs) (W.filter λx=> !unP xs b x):=by
 have hq:∀x,x∈W->Ev (λk=>Z46.F k x b xs) (unP xs b x):=λx hx=>by
  unfold Z46.F unP
  obtain⟨h1,h2⟩:=hW x hx
  cases b with
  |false=>exact Ev.pure _
  |true=>exact Ev.bind (Q0C xs hs x h1 h2).2.1 (Ev.pure _)
 exact DI (d:=(⟨#[]⟩:ByteArray)) (p:=unP xs b) (q:=λk x=>Z46.F k x b xs) (xs:=W) (l0:=λk x0 x5 x6=>Z30.l0 k x0 b xs x5 x6) (λk x0 x5 x6=>by rw[Z30.l0]) hq (by omega) (I:=λk x0=>Z27.F k x0 b xs) (F:=λk x0=>Z30.F k x0 b xs)
  (Q2g (d:=(⟨#[]⟩:ByteArray)) (p:=unP xs b) (q:=λk x=>Z46.F k x b xs) (l0:=λk x0 x7 x8=>Z27.l0 k x0 b xs x7 x8) (λk x0 x7 x8=>by rw[Z27.l0]) hq (by omega) (F:=λk x0=>Z27.F k x0 b xs) (λk a0=>rfl)) (λk a0=>rfl)
theorem Q5R (xs:List Abbr)(hs:smalls xs)(s:ByteArray):∃r b,Ev (λk=>Z6.F k xs s) (r,b)/\Ev (λk=>Z58.F k xs s) (r,b)/\r.length<=41:=by
 have v1:=Ju xs hs
 have v2:=Ji xs hs
 have t1:=G8 s
 have t2:=DJ s
 unfold Z6.F Z58.F
 cases hv:J2 xs with
 |false=>
  rw[hv]at v1 v2
  exact⟨_,_,Ev.bind v1 (Ev.pure _),Ev.bind v2 (Ev.pure _),by simp⟩
 |true=>
  rw[hv]at v1 v2
  cases ht:Yh s with
  |false=>
   rw[ht]at t1 t2
   exact⟨_,_,Ev.bind v1 (Ev.bind t1 (Ev.pure _)),Ev.bind v2 (Ev.bind t2 (Ev.pure _)),by simp⟩
  |true=>
   rw[ht]at t1 t2
   have h40:s.size<=40:=by
    unfold Yh at ht
    simp only[Bool.and_eq_true,decide_eq_true_eq]at ht
    exact ht.1
   obtain⟨hW,hl⟩:=Q0B s
   have hW':∀x∈(JA s).1,0<x.size/\x.size<=1048576:=λx hx=>by have:=hW x hx;omega
   have k1:=G9 s h40
   have k2:=Q4U s h40
   have s1:=DL xs hs (JA s).1 (JA s).2 hW' (by omega) (JA s).1.length 0 (by omega) [] (Nat.le_refl _)
   rw[List.drop_zero,List.nil_append]at s1
   have s2:=Q5Q xs hs (JA s).1 (JA s).2 hW' (by omega)
   refine⟨_,true,Ev.bind v1 (Ev.bind t1 (Ev.bind k1 (Ev.bind s1 (Ev.pure _)))),Ev.bind v2 (Ev.bind t2 (Ev.bind k2 (Ev.bind s2 (Ev.pure _)))),?_⟩
   have:=List.length_filter_le (λx=> !unP xs (JA s).2 x) (JA s).1
   omega
end Go.Proofs.YtfindpalabmmmaaGreatDoor
end
section
/- What the laws draw: cursors and titles of containers (cut out of PlDraw and PlDraw2). -/
namespace Go.Proofs.YtfindpalabmmmaaGreatDoor
open Go.Gx
theorem EvP.cond {α:Type}{b:Bool}{f g:Nat->Option α}{Q:α->Prop}(h1:b=true->EvP f Q)(h2:b=false->EvP g Q):EvP (λk=>cond b (f k) (g k)) Q:=by
 cases b with
 |true=>exact h1 rfl
 |false=>exact h2 rfl
theorem Q8I (z:Int):0<=IntKind.wrap .i64 (IntKind.wrap .u64 ((BitVec.ofInt (IntKind.bits .u64) z&&& BitVec.ofInt (IntKind.bits .u64) 255).toNat:Int))/\IntKind.wrap .i64 (IntKind.wrap .u64 ((BitVec.ofInt (IntKind.bits .u64) z&&& BitVec.ofInt (IntKind.bits .u64) 255).toNat:Int))<=255:=by
 have h1:(BitVec.ofInt (IntKind.bits .u64) z&&& BitVec.ofInt (IntKind.bits .u64) 255).toNat<=255:=by
  rw[BitVec.toNat_and]
  exact Nat.le_trans Nat.and_le_right (Nat.le_of_eq rfl)
 generalize (BitVec.ofInt (IntKind.bits .u64) z&&& BitVec.ofInt (IntKind.bits .u64) 255).toNat=m at h1
 have h2:IntKind.wrap .u64 (m:Int)=m:=by rw[IntKind.wrap_u64];omega
 rw[h2,wrap_in (by omega) (by omega)]
 omega
def byt (l:List Int):Prop:=(∀b∈l,0<=b/\b<=255)/\l.length<=65536
theorem Q8J {code:List Int}(hw:WF (.sl (.int .u8)) code)(hl:(code.length:Int)<=65536):byt code:=by
 refine⟨λb hb=>?_,by omega⟩
 obtain⟨i,hi,rfl⟩:=List.getElem_of_mem hb
 cases hw with
 |sl _ _ _ h=>
  have:=h i hi
  cases this with
  |int _ _ h=>
   have h1:IntKind.u8.min=0:=rfl
   have h2:IntKind.u8.max=255:=rfl
   simp only[Lit.wf,Bool.and_eq_true,decide_eq_true_eq]at h
   omega
theorem Q85 (c:Cur)(hc:byt c.code)(h0:0<=c.at_)(h1:c.at_<=1000000):∃c' x,Z59.F c=some (c',x)/\c'.code=c.code/\c'.at_=c.at_+1/\0<=x/\x<=255:=by
 unfold Z59.F
 have hl:=hc.2
 have z40:(decide ((0:Nat)<=40))=true:=rfl
 by_cases c1:c.at_<(c.code.length:Int)
 ·have hi:c.at_.toNat<c.code.length:=by omega
  have hb:0<=c.code.getD c.at_.toNat 0/\c.code.getD c.at_.toNat 0<=255:=by
   have:c.code.getD c.at_.toNat 0=c.code[c.at_.toNat]:=by simp[List.getD,hi]
   rw[this];exact hc.1 _ (List.getElem_mem hi)
  by_cases c2:c.at_+1<=(c.code.length:Int)
  ·refine⟨⟨c.code,c.at_+1,_⟩,_,by simp(disch:=omega) only[Qg,wrap_in];rfl,rfl,rfl,hb⟩
  ·omega
 ·have c2:¬c.at_+1<=(c.code.length:Int):=by omega
  refine⟨⟨c.code,c.at_+1,_⟩,_,by simp(disch:=omega) only[Qz,wrap_in,z40,cond_true];rfl,rfl,rfl,Q8I _⟩
theorem Q2k (c:Cur)(hc:byt c.code)(h0:0<=c.at_)(h1:c.at_<=1000000)(n:Int)(hn:1<=n)(hn2:n<=200):∃c' x,Z35.F c n=some (c',x)/\c'.code=c.code/\0<=c'.at_/\c'.at_<=c.at_+1/\0<=x/\x<n:=by
 unfold Z35.F
 by_cases c1:n<=1
 ·refine⟨c,0,by simp(disch:=omega) only[Qg],rfl,h0,by omega,by omega,by omega⟩
 ·obtain⟨c',x,e1,e2,e3,e4,e5⟩:=Q85 c hc h0 h1
  refine⟨c',Int.tmod x n,?_,e2,by omega,by omega,Int.tmod_nonneg _ e4,Int.tmod_lt_of_pos _ (by omega)⟩
  have hz:(n==0)=false:=by rw[beq_eq_false_iff_ne];omega
  simp(disch:=omega) only[Qz,e1,Option.bind_some,hz,cond_false]
def cu (n:Int)(c:Cur):Prop:=byt c.code/\0<=c.at_/\c.at_<=n
theorem cu.mono {n m:Int}{c:Cur}(h:cu n c)(hn:n<=m):cu m c:=⟨h.1,h.2.1,Int.le_trans h.2.2 hn⟩
theorem cu.start {code:List Int}(h:byt code):cu 0 ⟨code,0,0⟩:=⟨h,Int.le_refl 0,Int.le_refl 0⟩
section
variable {β:Type} {Q:β->Prop} {n:Int} {c:Cur}
theorem Q4k {m:Int}{g:Nat->Cur×Int->Option β}(h:cu n c)(hn:n<=900000)(h1:1<=m)(h2:m<=200)(hg:∀c' x,cu (n+1) c'->0<=x->x<m->EvP (λk=>g k (c',x)) Q):EvP (λk=>(Z35.F c m).bind (g k)) Q:=by
 obtain⟨h3,h4,h5⟩:=h
 obtain⟨c',x,e1,e2,e3,e4,e5,e6⟩:=Q2k c h3 h4 (by omega) m h1 h2
 exact EvP.of0 e1 (hg c' x ⟨by rw[e2];exact h3,e3,by omega⟩ e5 e6)
theorem Q90 {m:Int}{g:Nat->Cur×Bool->Option β}(h:cu n c)(hn:n<=900000)(h1:1<=m)(h2:m<=200)(hg:∀c' x,cu (n+1) c'->EvP (λk=>g k (c',x)) Q):EvP (λk=>(Z61.F c m).bind (g k)) Q:=by
 obtain⟨h3,h4,h5⟩:=h
 obtain⟨c',x,e1,e2,e3,e4,e5,e6⟩:=Q2k c h3 h4 (by omega) m h1 h2
 refine EvP.of0 (a:=(c',x==0)) ?_ (hg c' (x==0) ⟨by rw[e2];exact h3,e3,by omega⟩)
 unfold Z61.F
 rw[e1];rfl
theorem Q3o {l:List ByteArray}{g:Nat->Cur×ByteArray->Option β}(h:cu n c)(hn:n<=900000)(h1:1<=l.length)(h2:l.length<=200)(hs:∀y∈l,y.size<=50)(hg:∀c' x,cu (n+1) c'->x.size<=50->EvP (λk=>g k (c',x)) Q):EvP (λk=>(Z34.F c l).bind (g k)) Q:=by
 obtain⟨h3,h4,h5⟩:=h
 obtain⟨c',x,e1,e2,e3,e4,e5,e6⟩:=Q2k c h3 h4 (by omega) (l.length:Int) (by omega) (by omega)
 have hi:x.toNat<l.length:=by omega
 refine EvP.of0 (a:=(c',l.getD x.toNat ⟨#[]⟩)) ?_ (hg c' _ ⟨by rw[e2];exact h3,e3,by omega⟩ (by rw[getD_at hi];exact hs _ (List.getElem_mem hi)))
 unfold Z34.F
 simp(disch:=omega) only[e1,Option.bind_some,Qg]
end
theorem Y8 (s t:ByteArray):(s++t).size=s.size+t.size:=by rw[<-J9,Yt,List.length_append];rfl
theorem UM:∀m:Nat,m<=6->∀{n:Int} {c:Cur},cu n c->n+m<=500000->∀(s:ByteArray),s.size+60*m<=1000->EvP (λk=>Z25.l0 k c s m) λr=>cu (n+m) r.1/\r.2.size<=s.size+60*m
 |0,_,n,c,hc,hn,s,hs=>by
  refine EvP.step (λk=>by rw[Z25.l0]) ?_
  simp(disch:=omega) only[Qz]
  exact EvP.pure _ ⟨hc.mono (by omega),by show s.size<=_;omega⟩
 |m+1,hm,n,c,hc,hn,s,hs=>by
  have e32:(⟨#[32]⟩:ByteArray).size=1:=rfl
  refine EvP.step (λk=>by rw[Z25.l0]) ?_
  simp(disch:=omega) only[Qg]
  refine EvP.cond (λ_=>?_) (λ_=>?_)
  ·simp(disch:=(try simp only[e32]);omega) only[Q0L]
   refine Q3o hc (by omega) (by decide) (by decide) (by decide) λc1 x hc1 hx=>?_
   dsimp only
   rw[show(((m+1:Nat):Int)-1)=(m:Int) by omega]
   simp(disch:=(try simp only[Y8,e32]);omega) only[Q0L,wrap_in]
   refine EvP.mono (UM m (by omega) hc1 (by omega) (s++⟨#[32]⟩++x) (by simp only[Y8,e32];omega)) λr hr=>⟨hr.1.mono (by omega),?_⟩
   have:=hr.2
   simp only[Y8,e32]at this
   omega
  ·refine Q3o hc (by omega) (by decide) (by decide) (by decide) λc1 x hc1 hx=>?_
   dsimp only
   rw[show(((m+1:Nat):Int)-1)=(m:Int) by omega]
   simp(disch:=(try simp only[Y8,e32]);omega) only[Q0L,wrap_in]
   refine EvP.mono (UM m (by omega) hc1 (by omega) (s++x) (by simp only[Y8,e32];omega)) λr hr=>⟨hr.1.mono (by omega),?_⟩
   have:=hr.2
   simp only[Y8,e32]at this
   omega
theorem Q3p {n:Int}{c:Cur}(h:cu n c)(hn:n<=400000):EvP (λk=>Z25.F k c) λr=>cu (n+10) r.1/\r.2.size<=100:=by
 unfold Z25.F
 have z20:(20:Int).toNat=20:=rfl
 have e120:(⟨#[120]⟩:ByteArray).size=1:=rfl
 refine Q4k h (by omega) (by omega) (by omega) λc2 y hc2 y0 y1=>?_
 obtain⟨m,rfl⟩:∃m:Nat,y=m:=⟨y.toNat,by omega⟩
 dsimp only
 rw[wrap_in (by omega) (by omega),show(1+(m:Int))=((m+1:Nat):Int) by omega]
 refine EvP.bind (UM (m+1) (by omega) hc2 (by omega) ⟨#[]⟩ (by have:(⟨#[]⟩:ByteArray).size=0:=rfl;omega)) λr hr=>?_
 obtain⟨h1,h2⟩:=hr
 have z0:(⟨#[]⟩:ByteArray).size=0:=rfl
 have tail:∀(t:ByteArray),t.size<=41->∀{c:Cur},cu (n+1+((m+1:Nat):Int)) c->EvP (λk=>(Z35.F c 40).bind λr7=>bif (r7.2==0)then(some (r7.1,(⟨#[]⟩:ByteArray)))else(bif (r7.2==1)then((Z34.F r7.1 ([(⟨#[32]⟩:ByteArray),(⟨#[9]⟩:ByteArray)]:List ByteArray)).bind λr8=>bif Nat.ble (t.size+r8.2.size) 9223372036854775807 then(some (r8.1,(t++r8.2)))else none)else(bif (r7.2==2)then(some (r7.1,(⟨#[111,102,32,32,84,104,101]⟩:ByteArray)))else(some (r7.1,t))))) λr=>cu (n+10) r.1/\r.2.size<=100:=λt ht {c} hc=>by
  refine Q4k hc (by omega) (by omega) (by omega) λc4 y4 hc4 _ _=>?_
  dsimp only
  refine EvP.cond (λ_=>?_) (λ_=>EvP.cond (λ_=>?_) (λ_=>EvP.cond (λ_=>?_) (λ_=>?_)))
  ·exact EvP.pure _ ⟨hc4.mono (by omega),by show(⟨#[]⟩:ByteArray).size<=100;decide⟩
  ·refine Q3o hc4 (by omega) (by decide) (by decide) (by decide) λc5 x5 hc5 hx5=>?_
   dsimp only
   simp(disch:=omega) only[Q0L]
   exact EvP.pure _ ⟨hc5.mono (by omega),by show(t++x5).size<=100;rw[Y8];omega⟩
  ·exact EvP.pure _ ⟨hc4.mono (by omega),by show(⟨#[111,102,32,32,84,104,101]⟩:ByteArray).size<=100;decide⟩
  ·exact EvP.pure _ ⟨hc4.mono (by omega),by show t.size<=100;omega⟩
 by_cases c1:(r.2.size:Int) > 40
 ·have hx:(r.2.extract 0 20).size<=20:=by rw[<-J9,Jc,List.length_drop,List.length_take];omega
  simp(disch:=(try simp only[e120]);omega) only[Qg,z20,Q0L]
  have:=tail (r.2.extract 0 20++⟨#[120]⟩) (by rw[Y8,e120];omega) h1
  exact this
 ·simp(disch:=omega) only[Qz]
  exact tail r.2 (by omega) h1
end Go.Proofs.YtfindpalabmmmaaGreatDoor
end
section
/- The plain law of FnAbbreviations. -/
namespace Go.Proofs.YtfindpalabmmmaaGreatDoor
open Go.Gx
def Q2l (m:Nat)(l:List Abbr):Prop:=l.length<=m/\∀a∈l,a.word.size<=50/\a.short.size<=50
theorem Q2l.smalls {m:Nat}{l:List Abbr}(h:Q2l m l)(hm:m<=100):smalls l:=⟨by have:=h.1;omega,λa ha=>by have:=h.2 a ha;omega⟩
theorem Q2l.put {m:Nat}{l:List Abbr}{a:Abbr}(h:Q2l m l)(ha:a.word.size<=50/\a.short.size<=50):Q2l (m+1) (l++[a]):=
 ⟨by have:=h.1;simp;omega,λx hx=>by
  rcases List.mem_append.1 hx with hx|hx
  ·exact h.2 x hx
  ·rw[List.mem_singleton.1 hx];exact ha⟩
theorem UN (all:List Abbr)(hall:Q2l 7 all):∀m:Nat,∀{n:Int} {c:Cur},cu n c->n+m<=100000->∀(i:Nat) (acc:List Abbr),i+m=all.length->Q2l i acc->
  EvP (λk=>Z4.l0 k c all acc i) λr=>cu (n+m) r.1/\Q2l 7 r.2
 |0,n,c,hc,hn,i,acc,h,ha=>by
  have hl:=hall.1
  refine EvP.step (λk=>by rw[Z4.l0]) ?_
  simp(disch:=omega) only[Qz]
  exact EvP.pure _ ⟨hc.mono (by omega),by have:=ha.1;show acc.length<=7;omega,ha.2⟩
 |m+1,n,c,hc,hn,i,acc,h,ha=>by
  have hl:=hall.1
  have hi:i<all.length:=by omega
  have hal:=ha.1
  refine EvP.step (λk=>by rw[Z4.l0]) ?_
  simp(disch:=omega) only[Qg]
  refine Q90 hc (by omega) (by decide) (by decide) λc1 b1 hc1=>?_
  dsimp only
  have hr:∀x:Abbr,room (acc.length+([x]:List Abbr).length) .abbr=true:=λx=>Q0r (by simp;omega)
  refine EvP.cond (λ_=>?_) (λ_=>?_)
  ·simp(disch:=omega) only[Qg,Int.toNat_natCast,getD_at hi,hr,cond_true,wrap_in]
   exact EvP.mono (UN all hall m hc1 (by omega) (i+1) _ (by omega) (ha.put (hall.2 _ (List.getElem_mem hi)))) λr hr=>⟨hr.1.mono (by omega),hr.2⟩
  ·simp(disch:=omega) only[wrap_in]
   exact EvP.mono (UN all hall m hc1 (by omega) (i+1) acc (by omega) ⟨by omega,ha.2⟩) λr hr=>⟨hr.1.mono (by omega),hr.2⟩
theorem Xk {n:Int}{c:Cur}(h:cu n c)(hn:n<=50000):EvP (λk=>Z4.F k c) λr=>cu (n+20) r.1/\Q2l 8 r.2:=by
 unfold Z4.F
 refine EvP.bind (UN _ ⟨by decide,by decide⟩ 7 h (by omega) 0 [] (by rfl) ⟨by simp,λ_ h=>by cases h⟩) λy hy=>?_
 obtain⟨y1,y2⟩:=hy
 have hl:=y2.1
 have hr:∀x:Abbr,room (y.2.length+([x]:List Abbr).length) .abbr=true:=λx=>Q0r (by simp;omega)
 refine Q4k y1 (by omega) (by omega) (by omega) λc2 x hc2 x0 x1=>?_
 dsimp only
 refine EvP.cond (λ_=>?_) (λ_=>EvP.cond (λ_=>?_) (λ_=>?_))
 ·refine Q3o hc2 (by omega) (by decide) (by decide) (by decide) λc5 x5 hc5 hx5=>?_
  simp only[hr,cond_true]
  exact EvP.pure _ ⟨hc5.mono (by omega),y2.put ⟨hx5,by show(⟨#[122,46]⟩:ByteArray).size<=50;decide⟩⟩
 ·refine Q3o hc2 (by omega) (by decide) (by decide) (by decide) λc5 x5 hc5 hx5=>?_
  simp only[hr,cond_true]
  exact EvP.pure _ ⟨hc5.mono (by omega),y2.put ⟨by show(⟨#[122,111,111,108,111,103,121]⟩:ByteArray).size<=50;decide,hx5⟩⟩
 ·exact EvP.pure _ ⟨hc2.mono (by omega),by show y.2.length<=8;omega,y2.2⟩
theorem Q5S {code:List Int}(h:byt code):EvP (λk=>Z62.F k code) λr=>smalls r.1/\r.2.word.size<=50/\r.2.short.size<=50:=by
 unfold Z62.F
 refine EvP.bind (Xk (cu.start h) (by omega)) λr hr=>?_
 refine Q3o hr.1 (by omega) (by decide) (by decide) (by decide) λc5 x5 hc5 hx5=>?_
 refine Q3o hc5 (by omega) (by decide) (by decide) (by decide) λc6 x6 hc6 hx6=>?_
 exact EvP.pure _ ⟨hr.2.smalls (by omega),hx5,hx6⟩
theorem Q3q {code:List Int}(h:byt code):EvP (λk=>Z53.F k code) λr=>smalls r.1:=by
 unfold Z53.F
 refine EvP.bind (Xk (cu.start h) (by omega)) λr hr=>?_
 refine EvP.bind (Q3p hr.1 (by omega)) λy hy=>?_
 exact EvP.pure _ (hr.2.smalls (by omega))
theorem Q4l {code:List Int}(h:byt code):EvP (λk=>Z41.F k code) λr=>smalls r.1/\r.2.size<=50:=by
 unfold Z41.F
 refine EvP.bind (Xk (cu.start h) (by omega)) λr hr=>?_
 refine Q3o hr.1 (by omega) (by decide) (by decide) (by decide) λc5 x5 hc5 hx5=>?_
 exact EvP.pure _ ⟨hr.2.smalls (by omega),hx5⟩
theorem Q1A:∀x:List UInt8,Op.bytesLess x x=false
 |[]=>rfl
 |a::x=>by
  have ih:=Q1A x
  simp[Op.bytesLess,ih]
theorem Q7u (s:ByteArray):ltS s s=false:=by unfold ltS;exact Q1A _
theorem Q0D (xs:List Abbr)(hs:smalls xs)(w:ByteArray)(hw:w.size<=1048576)(j:Nat)(hj:j<xs.length)(e:xs[j].word=w)(hn:∀i (h:i<xs.length),i<j->¬xs[i].word=w):∀n i:Nat,i+n=j->∀best:Int,-1<=best->best<xs.length->
  Ev (λk=>Z0.l2 k xs w best i) (.inl (j:Int))
 |0,i,h,best,b0,b1=>by
  obtain rfl:i=j:=by omega
  have hl:=hs.1
  refine Ev.step (λk=>by rw[Z0.l2]) ?_
  simp(disch:=omega) only[Qg,Int.toNat_natCast,getD_at hj,e,JS,cond_true]
  exact Ev.pure _
 |n+1,i,h,best,b0,b1=>by
  have hi:i<xs.length:=by omega
  have hl:=hs.1
  have ne:Qi xs[i].word w=false:=neS (hn i hi (by omega))
  have hsz:=(hs.2 _ (List.getElem_mem hi)).1
  have hc:Z43.F xs[i].word 45=some (Yx xs[i].word 45):=UK _ 45 (by omega)
  have hcs:=Us xs[i].word 45
  have keep:∀b:Int,-1<=b->b<xs.length->Ev (λk=>Z0.l2 k xs w b (IntKind.wrap .i64 ((i:Int)+1))) (.inl (j:Int)):=λb h0 h1=>by
   rw[wrap_in (by omega) (by omega)]
   exact Q0D xs hs w hw j hj e hn n (i+1) (by omega) b h0 h1
  refine Ev.step (λk=>by rw[Z0.l2]) ?_
  simp(disch:=omega) only[Qg,Int.toNat_natCast,getD_at hi,ne,cond_false]
  refine Ev.bind0 hc ?_
  refine Ev.cond (λ_=>?_) (λ_=>keep best b0 b1)
  by_cases c:((Yx xs[i].word 45).size:Int)<=w.size
  ·simp(disch:=omega) only[Qg]
   refine Ev.cond (λ_=>?_) (λ_=>keep best b0 b1)
   by_cases c2:best<0
   ·simp(disch:=omega) only[Qg]
    exact keep i (by omega) (by omega)
   ·simp(disch:=omega) only[Qz,Qg]
    exact Ev.cond (λ_=>keep i (by omega) (by omega)) (λ_=>keep best b0 b1)
  ·simp(disch:=omega) only[Qz]
   exact keep best b0 b1
theorem Q5T {w:ByteArray}(h:(L w).all low=true):(Q2 w).all D6=true/\(Q2 w).all (Xj 33)=true/\DC w=w/\∀b∈Q2 w,97<=b/\b<=122:=by
 have hb:∀b∈Q2 w,97<=b/\b<=122:=λb hb=>by
  rw[YT,List.mem_map]at hb
  obtain⟨u,hu,rfl⟩:=hb
  have:=List.all_eq_true.1 h u hu
  unfold low at this
  simp only[Bool.and_eq_true,decide_eq_true_eq]at this
  omega
 refine⟨List.all_eq_true.2 λb h=>?_,List.all_eq_true.2 λb h=>?_,?_,hb⟩
 ·have:=hb b h
  unfold D6
  simp[this.1,this.2]
 ·have:=hb b h
  unfold Xj
  simp only[Bool.and_eq_true,decide_eq_true_eq]
  omega
 ·unfold DC
  have:(Q2 w).map Ut=Q2 w:=by
   conv=>rhs;rw[<-List.map_id (Q2 w)]
   refine List.map_congr_left λb h=>?_
   have:=hb b h
   unfold Ut
   have c:¬(b<=90):=by omega
   simp[c]
  rw[this,XZ]
theorem Q7v (r:List Abbr)(hs:smalls r)(hv:J2 r=true)(a:Abbr)(ho:D3 a=true)(hsz:a.word.size<=50)(p:Nat)(hp:r[p]? =some a)(hb:∀j:Nat,j<p->∃x,r[j]? =some x/\ltS x.word a.word=true)(hd:bt a.word (a.word.size-1)≠45):Ev (λk=>Z36.F k r a.word) (a.short,true):=by
 obtain⟨hlt,hpe⟩:=List.getElem?_eq_some_iff.1 hp
 have hl:=hs.1
 unfold D3 at ho
 rw[Bool.and_eq_true]at ho
 have h1:=ho.1
 unfold Y4 at h1
 have hcut:Yx a.word 45=a.word:=by unfold Yx;rw[if_neg (λh=>hd h.2)]
 rw[hcut]at h1
 simp only[Bool.and_eq_true,decide_eq_true_eq]at h1
 obtain⟨hlow,h2,h15⟩:=h1
 obtain⟨f1,f2,f3,f4⟩:=Q5T hlow
 have hno:∀i (h:i<r.length),i<p->¬r[i].word=a.word:=λi h hip e=>by
  obtain⟨x,hx,hx2⟩:=hb i hip
  rw[List.getElem?_eq_getElem h]at hx
  rw[<-Option.some.inj hx,e,Q7u]at hx2
  cases hx2
 have fx:=Q0D r hs a.word (by omega) p hlt (by rw[hpe]) hno p 0 (by omega) (-1) (by omega) (by omega)
 have hfind:Ev (λk=>Z0.F k r a.word) (p:Int):=by
  unfold Z0.F
  have hl0:=Q0u r a.word (by omega) a.word.size 0 (by omega)
  rw[List.drop_zero,f1,if_pos rfl]at hl0
  refine Ev.bind hl0 ?_
  have hlw:=YD a.word (by omega)
  rw[f3]at hlw
  exact Ev.bind hlw (Ev.bind fx (Ev.pure _))
 have hb0:bt a.word 0=(Q2 a.word)[0]'(by rw[Qj];omega):=JO a.word 0 (by rw[Qj];omega)
 have hb1:=f4 _ (List.getElem_mem (l:=Q2 a.word) (n:=0) (by rw[Qj];omega))
 rw[<-hb0]at hb1
 have hshort:Ev (λk=>Z37.F k r a.word) a.short:=by
  unfold Z37.F
  refine Ev.bind hfind ?_
  have z:(0:Int).toNat=0:=rfl
  have c1:bt a.word 0 ≥ 65:=by omega
  have c2:¬bt a.word 0<=90:=by omega
  simp(disch:=omega) only[Qz,Qg,z,Int.toNat_natCast,getD_at hlt,hpe]
  exact Ev.pure _
 have hspec:Ev (λk=>Z38.F k r a.word) (a.short,true):=by
  unfold Z38.F
  have v1:=Ju r hs
  rw[hv]at v1
  have sb:=D9 a.word (by omega) 1 40 33
  rw[f2,decide_eq_true (show(a.word.size:Int) ≥ 1 by omega),decide_eq_true (show(a.word.size:Int)<=40 by omega)]at sb
  refine Ev.bind v1 ?_
  simp only[Bool.not_true,cond_false]
  refine Ev.bind sb ?_
  simp only[Bool.and_self,Bool.not_true,cond_false]
  exact Ev.bind hshort (Ev.pure _)
 obtain⟨q,q1,q2⟩:=Q4T r hs a.word (by omega)
 rw[<-Ev.uniq hspec q1]at q2
 exact q2
theorem Q8h (a:List ByteArray)(ha:a.length<=1048576):∀n i:Nat,i+n=a.length->Ev (λk=>Z12.l0 k a a i) (.inr ())
 |0,i,e=>by
  refine Ev.step (λk=>by rw[Z12.l0]) ?_
  simp(disch:=omega) only[Qz]
  exact Ev.pure _
 |n+1,i,e=>by
  refine Ev.step (λk=>by rw[Z12.l0]) ?_
  simp(disch:=omega) only[Qg,JS,Bool.not_true,cond_false,wrap_in]
  exact Q8h a ha n (i+1) (by omega)
theorem Q91 (a:List ByteArray)(ha:a.length<=1048576):Ev (λk=>Z12.F k a a) true:=by
 unfold Z12.F
 simp only[bne_self_eq_false,cond_false]
 exact Ev.bind (Q8h a ha a.length 0 (by omega)) (Ev.pure _)
theorem Q0E (xs:List Abbr)(hs:smalls xs)(s:ByteArray):∃r b,Ev (λk=>Z57.F k xs s) (r,b)/\Ev (λk=>Z55.F k xs s) (r,b)/\(b=true->J2 xs=true/\Yh s=true/\r=tW xs s):=by
 have v1:=Ju xs hs
 have v2:=Ji xs hs
 have t1:=G8 s
 have t2:=DJ s
 unfold Z57.F Z55.F
 cases hv:J2 xs with
 |false=>
  rw[hv]at v1 v2
  exact⟨_,_,Ev.bind v1 (Ev.pure _),Ev.bind v2 (Ev.pure _),λh=>by cases h⟩
 |true=>
  rw[hv]at v1 v2
  cases ht:Yh s with
  |false=>
   rw[ht]at t1 t2
   exact⟨_,_,Ev.bind v1 (Ev.bind t1 (Ev.pure _)),Ev.bind v2 (Ev.bind t2 (Ev.pure _)),λh=>by cases h⟩
  |true=>
   rw[ht]at t1 t2
   obtain⟨r1,r2⟩:=Q8g xs hs s ht
   exact⟨_,_,Ev.bind v1 (Ev.bind t1 (Ev.bind r1 (Ev.pure _))),Ev.bind v2 (Ev.bind t2 (Ev.bind r2 (Ev.pure _))),λ_=>⟨rfl,rfl,rfl⟩⟩
theorem Q7w (xs:List Abbr)(hs:smalls xs)(s:ByteArray)(hv:J2 xs=true)(ht:Yh s=true):Ev (λk=>Z15.F k xs [s] (tW xs s)) ([0],true):=by
 unfold Z15.F
 have ha:=Q2j xs hs [s] (by simp)
 have e:(J2 xs&&Gs [s])=true:=by
  rw[hv];unfold Gs;simp[ht]
 rw[e]at ha
 refine Ev.bind ha ?_
 simp only[Bool.not_true,cond_false]
 have z:(0:Int).toNat=0:=rfl
 have hr:room (([]:List Int).length+([(0:Int)]:List Int).length) (.int .i64)=true:=rfl
 have hl:Ev (λk=>Z15.l0 k xs (tW xs s) ([]:List Int) [s] (([s]:List ByteArray).length:Int) 0) [0]:=by
  refine Ev.step (λk=>by rw[Z15.l0]) ?_
  have h1:((([s]:List ByteArray).length:Nat):Int)=1:=rfl
  simp(disch:=omega) only[h1,Qg,z,List.getD_cons_zero]
  refine Ev.bind (Q8g xs hs s ht).2 ?_
  simp(disch:=omega) only[JS,cond_true,hr,wrap_in]
  refine Ev.step (λk=>by rw[Z15.l0]) ?_
  simp(disch:=omega) only[Qz]
  exact Ev.pure _
 exact Ev.bind hl (Ev.pure _)
theorem Db (code:List Int)(hw:WF (.sl (.int .u8)) code):∃k,Z77.F k code=some true:=by
 refine Ev.get (?_:Ev (λk=>Z77.F k code) true)
 unfold Z77.F Z72.F
 by_cases c0:(code.length:Int) > 65536
 ·simp(disch:=omega) only[Qg,Option.bind_some]
  exact Ev.pure _
 simp(disch:=omega) only[Qz,Option.bind_some]
 have hc:byt code:=Q8J hw (by omega)
 obtain⟨d,d1,d2,d3,d4⟩:=Q5S hc
 obtain⟨m,b,v1,v2,v3,v4⟩:=Q8C d.1 d2 d.2 (by omega) (by omega)
 obtain⟨t,t1,t2⟩:=Q3q hc
 obtain⟨s,f,s1,s2,s3⟩:=Q0E t.1 t2 t.2
 obtain⟨u,g,u1,u2,u3⟩:=Q5R t.1 t2 t.2
 have ru:=Q91 u (by omega)
 obtain⟨q,q1,q2,q3⟩:=Q4l hc
 obtain⟨x,x1,x2⟩:=Q4T q.1 q2 q.2 (by omega)
 refine Ev.bind d1 (Ev.bind v2 (Ev.bind v1 ?_))
 simp only[beq_self_eq_true,Bool.not_true,cond_false]
 have last:Ev (λk=>((Z41.F k code).bind λr14=>(Z36.F k r14.1 r14.2).bind λr15=>(Z38.F k r14.1 r14.2).bind λr16=>bif (Qi r15.1 r16.1)then(some (r15.2==r16.2))else(some false))) true:=by
  refine Ev.bind q1 (Ev.bind x2 (Ev.bind x1 ?_))
  simp only[JS,cond_true,beq_self_eq_true]
  exact Ev.pure _
 have rest:Ev (λk=>((Z53.F k code).bind λr7=>(Z55.F k r7.1 r7.2).bind λr8=>(Z57.F k r7.1 r7.2).bind λr9=>bif (!Qi r8.1 r9.1)then(some false)else(bif (!(r8.2==r9.2))then(some false)else((Z58.F k r7.1 r7.2).bind λr10=>(Z6.F k r7.1 r7.2).bind λr11=>bif (!(r10.2==r11.2))then(some false)else((Z12.F k r10.1 r11.1).bind λr12=>bif (!r12)then(some false)else(bif r8.2 then((Z15.F k r7.1 ([r7.2]:List ByteArray) r8.1).bind λr13=>bif (!r13.2)then(some false)else(bif ((r13.1.length:Int) != 1)then(some false)else((Z41.F k code).bind λr14=>(Z36.F k r14.1 r14.2).bind λr15=>(Z38.F k r14.1 r14.2).bind λr16=>bif (Qi r15.1 r16.1)then(some (r15.2==r16.2))else(some false))))else((Z41.F k code).bind λr17=>(Z36.F k r17.1 r17.2).bind λr18=>(Z38.F k r17.1 r17.2).bind λr19=>bif (Qi r18.1 r19.1)then(some (r18.2==r19.2))else(some false)))))))) true:=by
  refine Ev.bind t1 (Ev.bind s2 (Ev.bind s1 ?_))
  simp only[JS,beq_self_eq_true,Bool.not_true,cond_false]
  refine Ev.bind u2 (Ev.bind u1 ?_)
  simp only[beq_self_eq_true,Bool.not_true,cond_false]
  refine Ev.bind ru ?_
  simp only[Bool.not_true,cond_false]
  cases f with
  |false=>
   simp only[cond_false]
   exact last
  |true=>
   obtain⟨w1,w2,w3⟩:=s3 rfl
   subst w3
   simp only[cond_true]
   refine Ev.bind (Q7w t.1 t2 t.2 w1 w2) ?_
   have e1:((([0]:List Int).length:Int) != 1)=false:=rfl
   simp only[Bool.not_true,cond_false,e1]
   exact last
 cases b with
 |false=>
  simp only[cond_false]
  exact rest
 |true=>
  obtain⟨k1,k2,k3,k4,k5,p,k6,k7⟩:=v4 rfl
  have hv:=Ji m k1
  rw[k2]at hv
  have hlen:=d2.1
  have hw0:1<=d.2.word.size:=by
   unfold D3 at k3
   rw[Bool.and_eq_true]at k3
   have h1:=k3.1
   unfold Y4 at h1
   simp only[Bool.and_eq_true,decide_eq_true_eq]at h1
   have:=Us d.2.word 45
   omega
  have ez:((d.2.word.size:Int)-1).toNat=d.2.word.size-1:=by omega
  simp(disch:=omega) only[cond_true,wrap_in,Qg,ez]
  refine Ev.cond (λhd=>?_) (λhd=>?_)
  ·have hd:bt d.2.word (d.2.word.size-1)≠45:=by simpa using hd
   refine Ev.bind (Q7v m k1 k2 d.2 k3 d3 p k6 k7 hd) ?_
   simp only[Bool.not_true,cond_false,JS]
   refine Ev.bind hv ?_
   simp(disch:=omega) only[Bool.not_true,cond_false,Qz]
   exact rest
  ·refine Ev.bind hv ?_
   simp(disch:=omega) only[Bool.not_true,cond_false,Qz]
   exact rest
end Go.Proofs.YtfindpalabmmmaaGreatDoor
end
section
/- The law FnAbbreviations returns true for every input,the listed package variables being as the program's text lays it: the card. -/
namespace Go.Proofs.YtfindpalabmmmaaGreatDoor
open Go.Gx Go.RowKit Go.ChangeShapes Go.WideShapes Go.ChangeAt
theorem fnAbbreviations_own:ownKnob Tryz.prog.godebug=none:=by kernel_rfl
set_option maxRecDepth 100000 in
theorem fnAbbreviations_contract (H:Type)(enc:TypeId×Value->H)(W:World)(base:Nat)(args:Array Value)(ds gs:List (DataW H))(before:List MemPlace)
  (Yq:∀(j:Nat) t v,Tryz.f3.params[j]? =some t->args[j]? =some v->Value.okWide Tryz.prog W .any base t v)
  (hW:DataW.Whole enc Tryz.prog Tryz.f3.params.toList Rows.fnAbbreviationsSpec.vars false W args.toList ds gs before) (hsh:W.ShapedOpen Tryz.prog) :
  Calls Tryz.prog 3 args W λe W'=>∃v,e= .returned v/\Rows.fnAbbreviationsSpec.post enc Tryz.prog Tryz.f3 false true false false W args v W':=by
 have hgs:gs=[]:=by
  obtain⟨p,q,_,hV,_⟩:=hW
  exact(trodVars_none hV).1
 subst hgs
 have hds:∃d1,ds=[d1]:=by
  obtain⟨p,q,hA,_⟩:=hW
  obtain⟨_,_,d1,e0,_,_,_,rfl,_,_,h0⟩:=trodAll_cons hA
  obtain⟨_,rfl,_⟩:=trodAll_nil h0
  exact⟨d1,rfl⟩
 obtain⟨d1,rfl⟩:=hds
 have hgl:Qs Q0 (λ_=>undef) (Lt W) W:=by
  refine Qs.mk0 (λg b h=>(by cases h)) (λg hg=>?_)
  have hg':giT g=true:=hg
  unfold giT at hg'
  split at hg'
  ·obtain⟨m,hm⟩:=cell_of_shapedOpen_int (P:=Tryz.prog) (g:=0) (t:=3) (zero:=#[.int .i64 0]) hsh (of_decide_eq_true (by kernel_rfl)) (by kernel_rfl) rfl (by kernel_rfl) (by kernel_rfl) (by kernel_rfl)
   exact⟨World.block_lt_of_cell? _ _ hm,m,hm⟩
  ·cases hg'
 refine Q25 (τs:=[(.sl (.int .u8))]) (r:=.t .bool true) Q8e (by kernel_rfl) rfl (by kernel_rfl) (by kernel_rfl) rfl (by kernel_rfl) (by kernel_rfl) (λt ht=>?_) rfl (λx hx=>by
   obtain⟨k,hk⟩:=Db x.1 hx.1
   exact Z77.good Q8e _ k _ hk) rfl Yq hW hgl (λq hq W' _=>?_)
 ·have:t∈[22]:=ht
  simp only[List.mem_cons,List.not_mem_nil,or_false]at this
  rcases this with rfl<;>exact⟨by kernel_rfl,Nat.le_of_ble_eq_true (by kernel_rfl)⟩
 ·obtain⟨_,rfl⟩:=trodVars_none hq
  exact rfl
set_option maxRecDepth 100000 in
noncomputable def fnAbbreviations_world (os:Os):World:=
 {World.holding Tryz.prog os ⟨#[],#[],[]⟩with heap:=(((World.holding Tryz.prog os ⟨#[],#[],[]⟩).heap.modify 2 fun
   |.cells _ t frozen=>.cells #[.int .u8 128,.int .u8 191,.int .u8 160,.int .u8 191,.int .u8 128,.int .u8 159,.int .u8 144,.int .u8 191,.int .u8 128,.int .u8 143,.int .u8 0,.int .u8 0,.int .u8 0,.int .u8 0,.int .u8 0,.int .u8 0,.int .u8 0,.int .u8 0,.int .u8 0,.int .u8 0,.int .u8 0,.int .u8 0,.int .u8 0,.int .u8 0,.int .u8 0,.int .u8 0,.int .u8 0,.int .u8 0,.int .u8 0,.int .u8 0,.int .u8 0,.int .u8 0] t frozen
   |o=>o).modify 1 fun
   |.cells _ t frozen=>.cells (Pinned.utf8FirstZ.map λ(n:Nat)=>Value.int .u8 (n:Int)).toArray t frozen
   |o=>o)}
theorem fnAbbreviations_met (os:Os):laidMet Tryz.prog Rows.fnAbbreviationsRow.laid ((fnAbbreviations_world os).forCall (λ_ _=>0) ⟨#[],#[.slice none 0 0],[]⟩).memory:=
 laidMet_of_run' 8 (by kernel_rfl) (by kernel_rfl)
theorem fnAbbreviations_reads (os:Os){H:Type}(enc:TypeId×Value->H):∃places,DataW.whole enc Tryz.prog ((fnAbbreviations_world os).forCall (λ_ _=>0) ⟨#[],#[.slice none 0 0],[]⟩).memory Tryz.f3.params.toList Rows.fnAbbreviationsSpec.vars false #[.slice none 0 0].toList 8=some ([.nil],[],places):=
 ⟨[],by kernel_rfl⟩
set_option maxRecDepth 100000 in
theorem fnAbbreviations_lifted (os:Os)(started:os.Started)(H:Type)(enc:TypeId×Value->H)(F:Stop.Interp) :
  ReturnsInHanded {} Tryz.checked os 3 .any ((OpenSpec.ofChange Rows.fnAbbreviationsSpec).preRow enc Tryz.prog Tryz.f3 Rows.fnAbbreviationsRow.domain false Rows.fnAbbreviationsRow.laid) (((OpenSpec.ofChange Rows.fnAbbreviationsSpec).at F).post enc Tryz.prog Tryz.f3 false true false false):=by
 obtain⟨places,hx⟩:=fnAbbreviations_reads os enc
 refine returnsInHanded_of_row (C:=Tryz.checked) (s:=OpenSpec.ofChange Rows.fnAbbreviationsSpec) fnAbbreviations_own started (by kernel_rfl) (by kernel_rfl)
  (witness_row_at (enc:=enc) (C:=Tryz.checked) false (fnAbbreviations_world os) #[.slice none 0 0] rfl (by kernel_rfl) (by kernel_rfl) (by kernel_rfl)
   (OpenSpec.preRow_of_cond 8 hx (by kernel_rfl) (λk hk=>by cases hk) (by kernel_rfl) (fnAbbreviations_met os))) ?_
 intro W base args ds gs before Yq hW _ _ _ _ hsh _
 exact fnAbbreviations_contract H enc W base args ds gs before Yq hW hsh
theorem fnAbbreviations_said:Rows.FnAbbreviationsSaid:=
 OpenClaim.holds_of_cond 3 Tryz.f3 rfl rfl rfl rfl rfl rfl rfl ⟨rfl,rfl,rfl,rfl,rfl⟩ rfl rfl rfl rfl rfl (by kernel_rfl) (by kernel_rfl) (by kernel_rfl)
  (of_decide_eq_true (by kernel_rfl)) (by unfold Func.isWrapper;first|(rw[if_pos (by decide+kernel)];kernel_rfl)|(rw[if_neg (by decide+kernel)];exact⟨rfl,rfl⟩))
  (λos started H enc _ F=>by rw[OpenClaim.pre_eq_preRow];exact fnAbbreviations_lifted os started H enc F)
theorem fnAbbreviations_plain (f:FuncId)(fn:Func)(hf:Tryz.pinned.checked.prog.funcNamed "loop.example/g00896/laws.FnAbbreviations" =some f)(hfn:Tryz.pinned.checked.prog.funcs[f]? =some fn) :
  false=Tryz.pinned.checked.prog.looks []/\∀(j:Nat) t,fn.params[j]? =some t->Tryz.pinned.checked.prog.wantsStandIn t=false:=by
 obtain rfl:f=3:=(Option.some.inj ((show Tryz.prog.funcNamed "loop.example/g00896/laws.FnAbbreviations" =some 3 by kernel_rfl).symm.trans hf)).symm
 obtain rfl:fn=Tryz.f3:=(Option.some.inj ((show Tryz.prog.funcs[3]? =some Tryz.f3 by kernel_rfl).symm.trans hfn)).symm
 refine⟨by kernel_rfl,λj t ht=>?_⟩
 have ht':t∈[22]:=by simpa using Array.mem_of_getElem? (show(#[22]:Array Nat)[j]? =some t from ht)
 simp only[List.mem_cons,List.not_mem_nil,or_false]at ht'
 rcases ht' with rfl
 ·exact(show Tryz.prog.wantsStandIn 22=false by kernel_rfl)
theorem FnAbbreviations_holds:Rows.FnAbbreviationsCardSaid:=
 Claim7.holds_tied_plain_at .later [] _ _ _ _ fnAbbreviations_said (λ_ h=>by cases h) (by kernel_rfl) (λ_ h=>by cases h) fnAbbreviations_row_tie rfl ⟨rfl,rfl⟩ (by kernel_rfl) rfl fnAbbreviations_plain (by kernel_rfl)
#print axioms FnAbbreviations_holds
end Go.Proofs.YtfindpalabmmmaaGreatDoor
end
