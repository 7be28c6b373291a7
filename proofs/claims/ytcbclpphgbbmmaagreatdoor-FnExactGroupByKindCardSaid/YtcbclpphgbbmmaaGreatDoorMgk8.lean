/- The law FnExactGroupByKind returns true for every input,the listed package variables being as the program's text lays it: the card. -/
import Derived.Test.YtcbclpphgbbmmaaGreatDoorMgk7
import Derived.Test.YtcbclpphgbbmmaaGreatDoorCards
import Derived.Test.YtcbclpphgbbmmaaGreatDoorTie
import Derived.Test.YtcbclpphgbbmmaaGreatDoorMgk4
import Derived.Shelf.Vars
import Derived.WalkKit
import Derived.ProofKit
import Derived.OpenShut
import Derived.Deep.DeepHandedRow
import Derived.Lib.LaidTab
set_option linter.unusedVariables false
set_option linter.unusedSimpArgs false
set_option maxRecDepth 100000
section
namespace Go.Proofs.YtcbclpphgbbmmaaGreatDoor
open Go.Gx
theorem mtI (x:Int)(h0:0<=x)(h1:x<=1099511627776):∃r,Ev (λk=>Z4.F k x) r:=by
 obtain⟨n,rfl⟩:∃n:Nat,x=n:=⟨x.toNat,by omega⟩
 exact Ks n (by omega)
theorem Qab (xs:List ByteArray)(hlen:xs.length<=1048576):∀n i:Nat,i+n=xs.length->∀z:Int,0<=z->z+n<=1099511627776->Ev (λk=>Z56.l0 k xs z i) (xs,z+n)
 |0,i,h,z,h0,h1=>by
  refine Ev.step (λk=>by rw[Z56.l0]) ?_
  simp(disch:=omega) only[Qk]
  exact(Ev.pure _).eq (by simp)
 |n+1,i,h,z,h0,h1=>by
  have hi:i<xs.length:=by omega
  refine Ev.step (λk=>by rw[Z56.l0]) ?_
  simp(disch:=omega) only[Qb]
  obtain⟨r,hr⟩:=mtI z h0 (by omega)
  refine Ev.bind hr ?_
  simp(disch:=omega) only[wrap_in]
  refine(Qab xs hlen n (i+1) (by omega) (z+1) (by omega) (by omega)).eq ?_
  rw[show z+1+(n:Int)=z+((n+1:Nat):Int) by omega]
theorem Qc0 (xs:List ByteArray)(hlen:xs.length<=1048576)(z:Int)(h0:0<=z)(h1:z+xs.length<=1099511627776):Ev (λk=>Z56.F k xs z) (z+xs.length):=by
 unfold Z56.F
 exact Ev.bind (Qab xs hlen xs.length 0 (by omega) z h0 h1) (Ev.pure _)
def Qac (n:Name):Nat:=n.given.length+3
def Yo (xs:List Name):Nat:=(xs.map Qac).sum
theorem Q6b {xs:List Name}{i:Nat}(hi:i<xs.length):Yo (xs.drop i)=Qac xs[i]+Yo (xs.drop (i+1)):=by
 unfold Yo
 rw[List.drop_eq_getElem_cons hi,List.map_cons,List.sum_cons]
theorem Qad (xs:List Name)(hs:∀x∈xs,QO x)(hlen:xs.length<=1048576):∀n i:Nat,i+n=xs.length->∀z:Int,0<=z->z+Yo (xs.drop i)<=1099511627776->Ev (λk=>Z48.l0 k xs z i) (xs,z+Yo (xs.drop i))
 |0,i,h,z,h0,h1=>by
  refine Ev.step (λk=>by rw[Z48.l0]) ?_
  simp(disch:=omega) only[Qk]
  refine(Ev.pure _).eq ?_
  rw[List.drop_eq_nil_of_le (by omega)]
  simp[Yo]
 |n+1,i,h,z,h0,h1=>by
  have hi:i<xs.length:=by omega
  have hd:=Q6b hi
  rw[hd]at h1 ⊢
  unfold Qac at h1 ⊢
  have hg:xs[i].given.length<=1048576:=by have:=hs _ (List.getElem_mem hi);unfold QO Dk at this;omega
  refine Ev.step (λk=>by rw[Z48.l0]) ?_
  simp(disch:=omega) only[Qb,Int.toNat_natCast,getD_at hi]
  refine Ev.bind (Qc0 xs[i].given hg z h0 (by omega)) ?_
  obtain⟨r1,e1⟩:=mtI (z+xs[i].given.length) (by omega) (by omega)
  obtain⟨r2,e2⟩:=mtI (z+xs[i].given.length+1) (by omega) (by omega)
  obtain⟨r3,e3⟩:=mtI (z+xs[i].given.length+1+1) (by omega) (by omega)
  simp(disch:=omega) only[wrap_in]
  refine Ev.bind e1 (Ev.bind e2 (Ev.bind e3 ?_))
  refine(Qad xs hs hlen n (i+1) (by omega) (z+xs[i].given.length+1+1+1) (by omega) (by omega)).eq ?_
  rw[show z+(xs[i].given.length:Int)+1+1+1+(Yo (xs.drop (i+1)):Int)=z+((xs[i].given.length+3+Yo (xs.drop (i+1)):Nat):Int) by omega]
theorem Qae (xs:List Name)(hs:∀x∈xs,QO x)(hlen:xs.length<=1048576)(z:Int)(h0:0<=z)(h1:z+Yo xs<=1099511627776):Ev (λk=>Z48.F k xs z) (z+Yo xs):=by
 unfold Z48.F
 exact Ev.bind (Qad xs hs hlen xs.length 0 (by omega) z h0 (by simpa using h1)) ((Ev.pure _).eq (by simp))
def Qaf (e:Entry):Nat:=Yo e.authors+Yo e.editors+12
def XB (xs:List Entry):Nat:=(xs.map Qaf).sum
theorem Q6c {xs:List Entry}{i:Nat}(hi:i<xs.length):XB (xs.drop i)=Qaf xs[i]+XB (xs.drop (i+1)):=by
 unfold XB
 rw[List.drop_eq_getElem_cons hi,List.map_cons,List.sum_cons]
theorem Q1D:∀xs:List Name,Yo xs<=3*YO xs
 |[]=>by simp[Yo,YO]
 |x::xs=>by
  have:=Q1D xs
  unfold Yo YO at*
  simp only[List.map_cons,List.sum_cons,List.length_cons]
  have h1:Qac x<=Dk x+3:=by unfold Qac Dk;omega
  omega
theorem Q4V:∀xs:List Entry,XB xs<=12*D1 xs
 |[]=>by simp[XB,D1]
 |x::xs=>by
  have:=Q4V xs
  unfold XB D1 at*
  simp only[List.map_cons,List.sum_cons,List.length_cons]
  have h1:Qaf x<=3*Q1j x+12:=by
   have:=Q1D x.authors
   have:=Q1D x.editors
   unfold Qaf Q1j
   omega
  omega
theorem Qag (xs:List Entry)(hs:∀x∈xs,Jf x)(hlen:xs.length<=1048576):∀n i:Nat,i+n=xs.length->∀z:Int,0<=z->z+XB (xs.drop i)<=1099511627776->Ev (λk=>Z60.l0 k xs z i) (xs,z+XB (xs.drop i))
 |0,i,h,z,h0,h1=>by
  refine Ev.step (λk=>by rw[Z60.l0]) ?_
  simp(disch:=omega) only[Qk]
  refine(Ev.pure _).eq ?_
  rw[List.drop_eq_nil_of_le (by omega)]
  simp[XB]
 |n+1,i,h,z,h0,h1=>by
  have hi:i<xs.length:=by omega
  have hd:=Q6c hi
  rw[hd]at h1 ⊢
  unfold Qaf at h1 ⊢
  have hsm:=hs _ (List.getElem_mem hi)
  have ha:=UU hsm
  have he:=UV hsm
  refine Ev.step (λk=>by rw[Z60.l0]) ?_
  obtain⟨r1,e1⟩:=mtI z (by omega) (by omega)
  simp(disch:=omega) only[Qb]
  refine Ev.bind e1 ?_
  simp(disch:=omega) only[Qb,Int.toNat_natCast,getD_at hi,wrap_in]
  refine Ev.bind (Qae xs[i].authors (λx hx=>Jo ha hx) (JB ha) (z+1+1) (by omega) (by omega)) ?_
  refine Ev.bind (Qae xs[i].editors (λx hx=>Jo he hx) (JB he) (z+1+1+Yo xs[i].authors) (by omega) (by omega)) ?_
  generalize hw:z+1+1+(Yo xs[i].authors:Int)+(Yo xs[i].editors:Int)=w
  have h30:((3:Int)==0)=false:=rfl
  obtain⟨r4,e4⟩:=mtI w (by omega) (by omega)
  obtain⟨r5,e5⟩:=mtI (w+1) (by omega) (by omega)
  obtain⟨r6,e6⟩:=mtI (w+1+1) (by omega) (by omega)
  obtain⟨r7,e7⟩:=mtI (w+1+1+1+1+1+1+1+1) (by omega) (by omega)
  obtain⟨r8,e8⟩:=mtI (w+1+1+1+1+1+1+1+1+1) (by omega) (by omega)
  simp(disch:=omega) only[wrap_in,h30,cond_false]
  refine Ev.bind e4 (Ev.bind e5 (Ev.bind e6 (Ev.bind e7 (Ev.bind e8 ?_))))
  refine(Qag xs hs hlen n (i+1) (by omega) (w+1+1+1+1+1+1+1+1+1+1) (by omega) (by omega)).eq ?_
  rw[show w+1+1+1+1+1+1+1+1+1+1+(XB (xs.drop (i+1)):Int)=z+((Yo xs[i].authors+Yo xs[i].editors+12+XB (xs.drop (i+1)):Nat):Int) by omega]
end Go.Proofs.YtcbclpphgbbmmaaGreatDoor
end
section
/- Plain laws: marks that begin anywhere. -/
namespace Go.Proofs.YtcbclpphgbbmmaaGreatDoor
open Go.Gx
theorem Q2M:∀n i:Nat,∀ys:List ByteArray,i+n=ys.length->ys.length<=1048576->∀m:Nat,m+n<=1099511627776->∃r,Ev (λk=>Z53.l0 k ys (m:Int) i) (r,((m+n:Nat):Int))/\r.length=ys.length
 |0,i,ys,h,hl,m,hm=>by
  refine⟨ys,Ev.step (λk=>by rw[Z53.l0]) ?_,rfl⟩
  simp(disch:=omega) only[Qk]
  exact Ev.pure _
 |n+1,i,ys,h,hl,m,hm=>by
  obtain⟨t,ht⟩:=Ks m (by omega)
  obtain⟨r,r1,r2⟩:=Q2M n (i+1) (ys.set i t) (by rw[List.length_set];omega) (by rw[List.length_set];exact hl) (m+1) (by omega)
  rw[List.length_set]at r2
  refine⟨r,Ev.step (λk=>by rw[Z53.l0]) ?_,r2⟩
  simp(disch:=omega) only[Qb,Int.toNat_natCast]
  refine Ev.bind ht ?_
  simp(disch:=omega) only[wrap_in]
  rw[show m+(n+1)=m+1+n by omega]
  exact r1
theorem Q8g (ys:List ByteArray)(hl:ys.length<=1048576)(m:Nat)(hm:m<=1099500000000):∃r,Ev (λk=>Z53.F k ys (m:Int)) (r,((m+ys.length:Nat):Int)):=by
 obtain⟨r,r1,r2⟩:=Q2M ys.length 0 ys (by omega) hl m (by omega)
 unfold Z53.F
 refine⟨r,Ev.bind r1 ?_⟩
 rw[show Nat.beq (r,((m+ys.length:Nat):Int)).1.length ys.length=true by rw[Nat.beq_eq];exact r2]
 exact Ev.pure _
theorem Qb3 (l:Library)(hs:JY l):∃m:Nat,m<=1099500000000/\Ev (λk=>Z125.F k l 1) (m:Int):=by
 have h1:=Q4V l.entries
 have h2:D1 l.entries<=1048576:=hs
 unfold Z125.F Z60.F
 refine⟨1+XB l.entries,by omega,Ev.bind (Ev.bind (Qag l.entries (λx hx=>Yl hs hx) (YG hs) l.entries.length 0 (by omega) 1 (by omega) (by simp;omega)) ((Ev.pure _).eq (by simp))) (Ev.pure _)⟩
end Go.Proofs.YtcbclpphgbbmmaaGreatDoor
end
section
/- Plain laws: lists of numbers,equality and marks. -/
namespace Go.Proofs.YtcbclpphgbbmmaaGreatDoor
open Go.Gx
theorem Qah (xs:List Int)(hlen:xs.length<=1048576):∀n i:Nat,i+n=xs.length->Ev (λk=>Z31.l0 k xs xs i) (.inr ())
 |0,i,h=>by
  refine Ev.step (λk=>by rw[Z31.l0]) ?_
  simp(disch:=omega) only[Qk]
  exact Ev.pure _
 |n+1,i,h=>by
  refine Ev.step (λk=>by rw[Z31.l0]) ?_
  simp(disch:=first|rfl|omega) only[Qb,Yx,wrap_in]
  exact Qah xs hlen n (i+1) (by omega)
theorem Qc1 (xs:List Int)(hlen:xs.length<=1048576):Ev (λk=>Z31.F k xs xs) true:=by
 unfold Z31.F
 simp(disch:=omega) only[Yx]
 exact Ev.bind (Qah xs hlen xs.length 0 (by omega)) (Ev.pure _)
def Y4 (i:Nat):List Int:=(List.range i).map λj=>((1+j:Nat):Int)
theorem Yg (i:Nat):(Y4 i).length=i:=by simp[Y4]
theorem Q4W (xs:List Int)(hlen:xs.length<=1048576):∀n i:Nat,i+n=xs.length->Ev (λk=>Z54.l0 k (Y4 i++xs.drop i) ((1+i:Nat):Int) i) (Y4 xs.length,((1+xs.length:Nat):Int))
 |0,i,h=>by
  have hl:(Y4 i++xs.drop i).length=xs.length:=by rw[List.length_append,Yg,List.length_drop];omega
  refine Ev.step (λk=>by rw[Z54.l0]) ?_
  simp(disch:=omega) only[Qk]
  rw[List.drop_eq_nil_of_le (by omega),List.append_nil,show i=xs.length by omega]
  exact Ev.pure _
 |n+1,i,h=>by
  have hi:i<xs.length:=by omega
  have hl:(Y4 i++xs.drop i).length=xs.length:=by rw[List.length_append,Yg,List.length_drop];omega
  refine Ev.step (λk=>by rw[Z54.l0]) ?_
  have e:(Y4 i++xs.drop i).set i ((1+i:Nat):Int)=Y4 (i+1)++xs.drop (i+1):=by
   rw[List.set_append_right _ _ (by rw[Yg];exact Nat.le_refl _),Yg,Nat.sub_self,List.drop_eq_getElem_cons hi,List.set_cons_zero]
   unfold Y4
   rw[List.range_succ,List.map_append,List.append_assoc]
   rfl
  simp(disch:=omega) only[Qb,Int.toNat_natCast,wrap_in,e]
  rw[show(((1+i:Nat):Int)+1)=((1+(i+1):Nat):Int) by omega]
  exact Q4W xs hlen n (i+1) (by omega)
theorem Qai (xs:List Int)(hlen:xs.length<=1048576):Ev (λk=>Z54.F k xs 1) (Y4 xs.length,((1+xs.length:Nat):Int)):=by
 unfold Z54.F
 refine Ev.bind (Q4W xs hlen xs.length 0 (by omega)) ?_
 rw[show Nat.beq (Y4 xs.length,((1+xs.length:Nat):Int)).1.length xs.length=true by rw[Nat.beq_eq];exact Yg _]
 exact Ev.pure _
theorem Q4X (m:Nat)(hlen:m<=1048576):∀n i:Nat,i+n=m->Ev (λk=>Z36.l0 k (Y4 m) ((1+i:Nat):Int) i) (.inr ((1+m:Nat):Int))
 |0,i,h=>by
  have hl:=Yg m
  refine Ev.step (λk=>by rw[Z36.l0]) ?_
  simp(disch:=omega) only[Qk]
  rw[show i=m by omega]
  exact Ev.pure _
 |n+1,i,h=>by
  have hl:=Yg m
  have hi:i<(Y4 m).length:=by omega
  have e:(Y4 m)[i]=((1+i:Nat):Int):=by simp[Y4]
  refine Ev.step (λk=>by rw[Z36.l0]) ?_
  simp(disch:=first|rfl|omega) only[Qb,Int.toNat_natCast,getD_at hi,e,Yx,wrap_in]
  rw[show(((1+i:Nat):Int)+1)=((1+(i+1):Nat):Int) by omega]
  exact Q4X m hlen n (i+1) (by omega)
theorem Qaj (m:Nat)(hlen:m<=1048576):Ev (λk=>Z36.F k (Y4 m) 1) ((1+m:Nat):Int):=by
 unfold Z36.F
 exact Ev.bind (Q4X m hlen m 0 (by omega)) (Ev.pure _)
end Go.Proofs.YtcbclpphgbbmmaaGreatDoor
end
section
/- Marks of trees: what they hold then,and that it is held. -/
namespace Go.Proofs.YtcbclpphgbbmmaaGreatDoor
open Go.Gx
theorem set_mid {α:Type}(pre:List α)(e y:α)(xs:List α):(pre++e::xs).set pre.length y=pre++y::xs:=by simp
theorem Q1E {α:Type}(pre:List α)(e d:α)(xs:List α):(pre++e::xs).getD pre.length d=e:=by simp[List.getD]
theorem Q0i {α:Type}(pre:List α)(y:α)(xs:List α):pre++y::xs=(pre++[y])++xs:=by simp
theorem Q0j {α:Type}(pre:List α)(y:α):(pre.length:Int)+1=((pre++[y]).length:Int):=by simp
theorem Qb4 (s:ByteArray):Qu s s=true:=by simp[Qu]
noncomputable def mtZ (z:Int):ByteArray:=mt z.toNat
theorem Qak {z:Int}(h0:0<=z)(h1:z<=1099511627776):Ev (λk=>Z4.F k z) (mtZ z):=by
 have h:=Qcj z.toNat (by omega)
 rw[show((z.toNat:Nat):Int)=z by omega]at h
 exact h
noncomputable def mkS:List ByteArray->Int->List ByteArray
 |[],_=>[]
 |_::xs,z=>mtZ z::mkS xs (z+1)
theorem Qbk:∀(xs pre:List ByteArray) (z:Int),pre.length+xs.length<=1048576->0<=z->z+xs.length<=1099511627776->Ev (λk=>Z57.l0 k (pre++xs) z pre.length) (pre++mkS xs z,z+xs.length)
 |[],pre,z,h,h0,h1=>by
  refine Ev.step (λk=>by rw[Z57.l0]) ?_
  simp(disch:=omega) only[List.append_nil,Qk]
  exact(Ev.pure _).eq (by simp[mkS])
 |x::xs,pre,z,h,h0,h1=>by
  simp only[List.length_cons]at h h1
  refine Ev.step (λk=>by rw[Z57.l0]) ?_
  simp(disch:=omega) only[List.length_append,List.length_cons,Qb]
  refine Ev.bind (Qak h0 (by omega)) (Ev.bind (Ev.pure _) ?_)
  simp(disch:=omega) only[Int.toNat_natCast,set_mid,wrap_in]
  rw[Q0i,Q0j pre (mtZ z)]
  refine(Qbk xs (pre++[mtZ z]) (z+1) (by simp;omega) (by omega) (by omega)).eq ?_
  simp only[mkS,List.append_assoc,List.singleton_append,List.length_cons]
  congr 1;omega
theorem Qck (xs:List ByteArray)(z:Int)(h:xs.length<=1048576)(h0:0<=z)(h1:z+xs.length<=1099511627776):Ev (λk=>Z57.F k xs z) (mkS xs z,z+xs.length):=by
 unfold Z57.F
 exact Ev.bind (Qbk xs [] z (by simpa using h) h0 h1) ((Ev.pure _).eq (by simp))
theorem Qbl:∀(xs pre:List ByteArray) (z:Int),pre.length+xs.length<=1048576->0<=z->z+xs.length<=1099511627776->Ev (λk=>Z43.l0 k (pre++mkS xs z) z pre.length) (.inr (z+xs.length))
 |[],pre,z,h,h0,h1=>by
  refine Ev.step (λk=>by rw[Z43.l0]) ?_
  simp(disch:=omega) only[mkS,List.append_nil,Qk]
  exact(Ev.pure _).eq (by simp)
 |x::xs,pre,z,h,h0,h1=>by
  simp only[List.length_cons]at h h1
  refine Ev.step (λk=>by rw[Z43.l0]) ?_
  simp(disch:=omega) only[mkS,List.length_append,List.length_cons,Qb,Int.toNat_natCast,Q1E]
  refine Ev.bind (Qak h0 (by omega)) ?_
  simp(disch:=omega) only[Qb4,Bool.not_true,cond_false,wrap_in]
  rw[Q0i,Q0j pre (mtZ z)]
  refine(Qbl xs (pre++[mtZ z]) (z+1) (by simp;omega) (by omega) (by omega)).eq ?_
  congr 1;push_cast [List.length_cons];omega
theorem Qcl (xs:List ByteArray)(z:Int)(h:xs.length<=1048576)(h0:0<=z)(h1:z+xs.length<=1099511627776):Ev (λk=>Z43.F k (mkS xs z) z) (z+xs.length):=by
 unfold Z43.F
 exact Ev.bind (Qbl xs [] z (by simpa using h) h0 h1) (Ev.pure _)
def YT (xs:List (List ByteArray)):Nat:=(xs.map List.length).sum
noncomputable def Q4Y:List (List ByteArray)->Int->List (List ByteArray)
 |[],_=>[]
 |x::xs,z=>mkS x z::Q4Y xs (z+x.length)
theorem Q1F (x:List ByteArray)(xs:List (List ByteArray)):(YT (x::xs):Int)=x.length+YT xs:=by
 simp only[YT,List.map_cons,List.sum_cons];omega
theorem Qal:∀(xs pre:List (List ByteArray)) (z:Int),pre.length+xs.length<=1048576->YT xs<=1048576->0<=z->z+YT xs<=1099511627776->Ev (λk=>Z58.l0 k (pre++xs) z pre.length) (pre++Q4Y xs z,z+YT xs)
 |[],pre,z,h,hc,h0,h1=>by
  refine Ev.step (λk=>by rw[Z58.l0]) ?_
  simp(disch:=omega) only[List.append_nil,Qk]
  exact(Ev.pure _).eq (by simp[Q4Y,YT])
 |x::xs,pre,z,h,hc,h0,h1=>by
  have hc':=Q1F x xs
  rw[hc']at h1
  simp only[List.length_cons]at h
  refine Ev.step (λk=>by rw[Z58.l0]) ?_
  simp(disch:=omega) only[List.length_append,List.length_cons,Qb,Int.toNat_natCast,Q1E]
  refine Ev.bind (Qck x z (by omega) h0 (by omega)) (Ev.bind (Ev.pure _) ?_)
  simp(disch:=omega) only[set_mid,wrap_in]
  rw[Q0i,Q0j pre (mkS x z)]
  refine(Qal xs (pre++[mkS x z]) (z+x.length) (by simp;omega) (by omega) (by omega) (by omega)).eq ?_
  simp only[Q4Y,List.append_assoc,List.singleton_append,hc']
  congr 1;omega
theorem Qam:∀(xs pre:List (List ByteArray)) (z:Int),pre.length+xs.length<=1048576->YT xs<=1048576->0<=z->z+YT xs<=1099511627776->Ev (λk=>Z37.l0 k (pre++Q4Y xs z) z pre.length) (.inr (z+YT xs))
 |[],pre,z,h,hc,h0,h1=>by
  refine Ev.step (λk=>by rw[Z37.l0]) ?_
  simp(disch:=omega) only[Q4Y,List.append_nil,Qk]
  exact(Ev.pure _).eq (by simp[YT])
 |x::xs,pre,z,h,hc,h0,h1=>by
  have hc':=Q1F x xs
  rw[hc']at h1
  simp only[List.length_cons]at h
  refine Ev.step (λk=>by rw[Z37.l0]) ?_
  simp(disch:=omega) only[Q4Y,List.length_append,List.length_cons,Qb,Int.toNat_natCast,Q1E]
  refine Ev.bind (Qcl x z (by omega) h0 (by omega)) ?_
  simp(disch:=omega) only[Qk,wrap_in]
  rw[Q0i,Q0j pre (mkS x z)]
  refine(Qam xs (pre++[mkS x z]) (z+x.length) (by simp;omega) (by omega) (by omega) (by omega)).eq ?_
  rw[hc']
  congr 1;omega
end Go.Proofs.YtcbclpphgbbmmaaGreatDoor
end
section
/- Plain laws: lists of lists of texts. -/
namespace Go.Proofs.YtcbclpphgbbmmaaGreatDoor
open Go.Gx
theorem Qb5 {n:Nat}(h:n<=8192):room n (.sl .str)=true:=by
 have h2:nb (.sl .str)<=1000:=by decide
 have h3:n*nb (.sl .str)<=8192*1000:=Nat.mul_le_mul h h2
 exact Nat.ble_eq_true_of_le (Nat.le_trans h3 (by decide))
theorem Q79 (xs:List (List ByteArray))(hlen:xs.length<=1048576)(hx:∀x∈xs,x.length<=1048576):∀n i:Nat,i+n=xs.length->Ev (λk=>Z32.l0 k xs xs i) (.inr ())
 |0,i,h=>by
  refine Ev.step (λk=>by rw[Z32.l0]) ?_
  simp(disch:=omega) only[Qk]
  exact Ev.pure _
 |n+1,i,h=>by
  have hi:i<xs.length:=by omega
  refine Ev.step (λk=>by rw[Z32.l0]) ?_
  simp(disch:=omega) only[Qb,Int.toNat_natCast,getD_at hi]
  refine Ev.bind (Q5Y _ (hx _ (List.getElem_mem hi))) ?_
  simp(disch:=omega) only[Bool.not_true,cond_false,wrap_in]
  exact Q79 xs hlen hx n (i+1) (by omega)
theorem Qb6 (xs:List (List ByteArray))(hlen:xs.length<=1048576)(hx:∀x∈xs,x.length<=1048576):Ev (λk=>Z32.F k xs xs) true:=by
 unfold Z32.F
 simp(disch:=omega) only[Yx]
 exact Ev.bind (Q79 xs hlen hx xs.length 0 (by omega)) (Ev.pure _)
theorem Q4Z:∀xs:List (List ByteArray),(∀x∈xs,x.length<=8)->YT xs<=8*xs.length
 |[],_=>by simp[YT]
 |x::xs,h=>by
  have h1:=h x List.mem_cons_self
  have h2:=Q4Z xs λy hy=>h y (List.mem_cons_of_mem _ hy)
  simp only[YT,List.map_cons,List.sum_cons,List.length_cons]at h2 ⊢
  omega
end Go.Proofs.YtcbclpphgbbmmaaGreatDoor
end
section
/- The plain law of GroupByKind. -/
namespace Go.Proofs.YtcbclpphgbbmmaaGreatDoor
open Go.Gx
theorem Qan (l:Library)(keys:List ByteArray)(hf:Found l keys):∃K:ByteArray->Int,∀x∈keys,∃q:Int,0<=q/\q<l.entries.length/\Ev (λk=>Z0.F k l x) q/\Ev (λk=>Z63.F k l x) q/\(l.entries.getD q.toNat (Qh .entry)).kind=K x:=by
 have h:∀x,∃z:Int,x∈keys->∃q:Int,0<=q/\q<l.entries.length/\Ev (λk=>Z0.F k l x) q/\Ev (λk=>Z63.F k l x) q/\(l.entries.getD q.toNat (Qh .entry)).kind=z:=λx=>by
  by_cases hx:x∈keys
  ·obtain⟨q,q0,q1,q2,q3⟩:=hf x hx
   exact⟨_,λ_=>⟨q,q0,q1,q2,q3,rfl⟩⟩
  ·exact⟨0,λh=>absurd h hx⟩
 exact⟨λx=>Classical.choose (h x),λx hx=>Classical.choose_spec (h x) hx⟩
theorem Qao (l:Library)(x7:List Int)(x8:List (List ByteArray))(W:List ByteArray)(hW:W.length<=8)(K:ByteArray->Int)(hK:∀x∈W,∃q:Int,0<=q/\q<l.entries.length/\Ev (λk=>Z0.F k l x) q/\Ev (λk=>Z63.F k l x) q/\(l.entries.getD q.toNat (Qh .entry)).kind=K x)(z:Int):∀n i:Nat,i+n=W.length->∀acc:List ByteArray,acc.length<=i->
  Ev (λk=>Z5.l2 k l x7 x8 W z acc i) (l,x7,x8,W,z,acc++(W.drop i).filter λx=>K x==z)
 |0,i,h,acc,ha=>by
  refine Ev.step (λk=>by rw[Z5.l2]) ?_
  simp(disch:=omega) only[Qk]
  exact(Ev.pure _).eq (by rw[List.drop_eq_nil_of_le (by omega)];simp)
 |n+1,i,h,acc,ha=>by
  have hi:i<W.length:=by omega
  obtain⟨q,q0,q1,q2,_,q4⟩:=hK _ (List.getElem_mem hi)
  refine Ev.step (λk=>by rw[Z5.l2]) ?_
  simp(disch:=omega) only[Qb,Int.toNat_natCast,getD_at hi]
  refine Ev.bind q2 ?_
  simp(disch:=omega) only[Qb,q4]
  rw[List.drop_eq_getElem_cons hi,List.filter_cons]
  cases hz:(K W[i]==z)with
  |false=>
   simp(disch:=omega) only[cond_false,wrap_in]
   exact(Qao l x7 x8 W hW K hK z n (i+1) (by omega) acc (by omega)).eq rfl
  |true=>
   have hr:room (acc.length+([W[i]]:List ByteArray).length) .str=true:=Q1g (by simp;omega)
   simp(disch:=omega) only[cond_true,hr,wrap_in]
   refine(Qao l x7 x8 W hW K hK z n (i+1) (by omega) (acc++[W[i]]) (by simp;omega)).eq ?_
   simp only[if_true,List.append_assoc,List.singleton_append]
theorem Qc2 (l:Library)(W:List ByteArray)(hW:W.length<=8)(K:ByteArray->Int)(hK:∀x∈W,∃q:Int,0<=q/\q<l.entries.length/\Ev (λk=>Z0.F k l x) q/\Ev (λk=>Z63.F k l x) q/\(l.entries.getD q.toNat (Qh .entry)).kind=K x)(z:Int) :
  Ev (λk=>Z47.F k W l z) (W.filter λx=>K x==z):=by
 have hq:∀x,x∈W->Ev (λk=>(λk x=>Z71.F k x l z) k x) (K x != z):=λx hx=>by
  obtain⟨q,q0,q1,_,q3,q4⟩:=hK x hx
  show Ev (λk=>Z71.F k x l z) _
  unfold Z71.F Z130.F
  refine Ev.bind (a:=l.entries.getD q.toNat (Qh .entry)) (Ev.bind q3 ?_) ((Ev.pure _).eq (by rw[q4]))
  simp(disch:=omega) only[Qb]
  exact Ev.pure _
 have h:=Q2y (d:=(⟨#[]⟩:ByteArray)) (p:=λx=>K x != z) (q:=λk x=>Z71.F k x l z) (xs:=W) (l0:=λk x0 x5 x6=>Z47.l0 k x0 l z x5 x6) (λk x0 x5 x6=>by rw[Z47.l0]) hq (by omega) (I:=λk x0=>Z46.F k x0 l z) (F:=λk x0=>Z47.F k x0 l z)
  (Q3s (d:=(⟨#[]⟩:ByteArray)) (p:=λx=>K x != z) (q:=λk x=>Z71.F k x l z) (l0:=λk x0 x7 x8=>Z46.l0 k x0 l z x7 x8) (λk x0 x7 x8=>by rw[Z46.l0]) hq (by omega) (F:=λk x0=>Z46.F k x0 l z) (λk a0=>rfl)) (λk a0=>rfl)
 refine h.eq ?_
 congr 1
 funext x
 unfold bne
 rw[Bool.not_not]
theorem Qap (l:Library)(keys W:List ByteArray)(hW:W.length<=8)(hs:Ev (λk=>Z87.F k l keys) W)(K:ByteArray->Int)(hK:∀x∈W,∃q:Int,0<=q/\q<l.entries.length/\Ev (λk=>Z0.F k l x) q/\Ev (λk=>Z63.F k l x) q/\(l.entries.getD q.toNat (Qh .entry)).kind=K x):∀m z:Nat,z+m=5->∀(ks:List Int) (gs:List (List ByteArray)),ks.length<=z->gs.length<=z->(∀g∈gs,g.length<=8)->
  ∃ks' gs',Ev (λk=>Z5.l0 k l ks gs W z) (ks',gs')/\Ev (λk=>Z38.l0 k keys l ks gs z) (ks',gs')/\ks'.length<=5/\gs'.length<=5/\∀g∈gs',g.length<=8
 |0,z,h,ks,gs,h1,h2,h3=>by
  refine⟨ks,gs,Ev.step (λk=>by rw[Z5.l0]) ?_,Ev.step (λk=>by rw[Z38.l0]) ?_,by omega,by omega,h3⟩<;>
   (simp(disch:=omega) only[Qk];exact Ev.pure _)
 |m+1,z,h,ks,gs,h1,h2,h3=>by
  have e1:=Qao l ks gs W hW K hK z W.length 0 (by omega) [] (by simp)
  rw[List.drop_zero,List.nil_append]at e1
  have e2:=Qc2 l W hW K hK z
  have hlen:(W.filter λx=>K x==(z:Int)).length<=8:=Nat.le_trans (List.length_filter_le _ _) hW
  by_cases hc:((W.filter λx=>K x==(z:Int)).length:Int) > 0
  ·obtain⟨ks',gs',i1,i2,i3,i4,i5⟩:=Qap l keys W hW hs K hK m (z+1) (by omega) (ks++[(z:Int)]) (gs++[W.filter λx=>K x==(z:Int)]) (by simp;omega) (by simp;omega) (λg hg=>by
    rcases List.mem_append.1 hg with hg|hg
    ·exact h3 g hg
    ·rw[List.mem_singleton.1 hg];exact hlen)
   have r1:room (ks.length+([(z:Int)]:List Int).length) (.int .i64)=true:=QaX (by simp;omega)
   have r2:room (gs.length+([W.filter λx=>K x==(z:Int)]:List (List ByteArray)).length) (.sl .str)=true:=Qb5 (by simp;omega)
   refine⟨ks',gs',Ev.step (λk=>by rw[Z5.l0]) ?_,Ev.step (λk=>by rw[Z38.l0]) ?_,i3,i4,i5⟩
   ·simp(disch:=omega) only[Qb]
    refine Ev.bind e1 ?_
    simp(disch:=omega) only[Qb,r1,r2,cond_true,wrap_in]
    exact i1
   ·simp(disch:=omega) only[Qb]
    refine Ev.bind hs (Ev.bind e2 ?_)
    simp(disch:=omega) only[Qb,r1,r2,cond_true,wrap_in]
    exact i2
  ·obtain⟨ks',gs',i1,i2,i3,i4,i5⟩:=Qap l keys W hW hs K hK m (z+1) (by omega) ks gs (by omega) (by omega) h3
   refine⟨ks',gs',Ev.step (λk=>by rw[Z5.l0]) ?_,Ev.step (λk=>by rw[Z38.l0]) ?_,i3,i4,i5⟩
   ·simp(disch:=omega) only[Qb]
    refine Ev.bind e1 ?_
    simp(disch:=omega) only[Qk,wrap_in]
    exact i1
   ·simp(disch:=omega) only[Qb]
    refine Ev.bind hs (Ev.bind e2 ?_)
    simp(disch:=omega) only[Qk,wrap_in]
    exact i2
theorem Qcm (k:Nat)(l:Library)(keys:List ByteArray):Z87.F k l keys=Z137.F k l keys:=by
 unfold Z87.F Z137.F;rfl
theorem Q1G (l:Library)(hs:JY l)(keys:List ByteArray)(hk:keys.length<=1048576):∃ks gs b,Ev (λk=>Z5.F k l keys) (ks,gs,b)/\Ev (λk=>Z38.F k l keys) (ks,gs,b)/\ks.length<=5/\gs.length<=5/\∀g∈gs,g.length<=8:=by
 obtain⟨v,a1,a2,a3⟩:=Q6a l hs keys hk
 unfold Z5.F Z38.F
 cases v with
 |false=>exact⟨[],[],false,Ev.bind a1 (Ev.pure _),Ev.bind a2 (Ev.pure _),by simp,by simp,λ_ h=>by cases h⟩
 |true=>
  obtain⟨b1,b2,b3,b4⟩:=a3 rfl
  obtain⟨W,w1,w2,w3,w4⟩:=Q4T l hs b1 b2 keys b3 b4
  have w2:Ev (λk=>Z87.F k l keys) W:=w2.congr λk=>Qcm k l keys
  obtain⟨K,hK⟩:=Qan l W w4
  obtain⟨ks,gs,i1,i2,i3,i4,i5⟩:=Qap l keys W (by omega) w2 K hK 4 1 (by omega) [] [] (by simp) (by simp) (λ_ h=>by cases h)
  exact⟨ks,gs,true,Ev.bind a1 (Ev.bind w1 (Ev.bind i1 (Ev.pure _))),Ev.bind a2 (Ev.bind i2 (Ev.pure _)),i3,i4,i5⟩
theorem Qc3 (xs:List (List ByteArray))(h:xs.length<=1048576)(hc:YT xs<=1048576)(z:Int)(h0:0<=z)(h1:z<=1048576):∃ys,∃m:Int,0<=m/\Ev (λk=>Z58.F k xs z) (ys,m)/\Ev (λk=>Z37.F k ys z) m:=by
 refine⟨Q4Y xs z,z+YT xs,by omega,?_,?_⟩
 ·unfold Z58.F
  exact Ev.bind (Qal xs [] z (by simpa using h) hc h0 (by omega)) ((Ev.pure _).eq (by simp))
 ·unfold Z37.F
  exact Ev.bind (Qam xs [] z (by simpa using h) hc h0 (by omega)) (Ev.pure _)
theorem Q06 (l:Library)(keys:List ByteArray)(hw:WF .lib l)(hwk:WF (.sl .str) keys):∃k,Z131.F k l keys=some true:=by
 refine Ev.get (?_:Ev (λk=>Z131.F k l keys) true)
 unfold Z131.F
 obtain⟨r,h1,h2⟩:=QbL l 1048576 (by omega) (by omega) hw
 refine Ev.bind h1 ?_
 by_cases c:r<0
 ·simp(disch:=omega) only[Qb]
  exact Ev.pure _
 simp(disch:=omega) only[Qk]
 have hs:JY l:=by have:=h2 (by omega);unfold JY;omega
 obtain⟨r',h3,h4⟩:=Q9O keys r (by omega) (by have:=h2 (by omega);omega) hwk
 refine Ev.bind h3 ?_
 by_cases c':r'<0
 ·simp(disch:=omega) only[Qb]
  exact Ev.pure _
 simp(disch:=omega) only[Qk]
 have hk:keys.length<=1048576:=by have:=h4 (by omega);have:=h2 (by omega);omega
 obtain⟨ks,gs,b,v1,v2,v3,v4,v5⟩:=Q1G l hs keys hk
 have tl:=QbO l hs
 have ts:=QbI keys hk
 have eq1:=Qc1 ks (by omega)
 have eq2:=Qb6 gs (by omega) λx hx=>Nat.le_trans (v5 x hx) (by omega)
 have hcn:=Q4Z gs v5
 refine Ev.bind tl (Ev.bind ts (Ev.bind v1 (Ev.bind tl (Ev.bind ts (Ev.bind v2 (Ev.bind eq1 ?_))))))
 simp only[Bool.not_true,cond_false]
 refine Ev.bind eq2 ?_
 simp only[beq_self_eq_true,Bool.not_true,cond_false]
 refine Ev.bind tl (Ev.bind (QbS l hs) ?_)
 simp only[Bool.not_true,cond_false]
 refine Ev.bind ts (Ev.bind (Q5Y keys hk) ?_)
 simp only[Bool.not_true,cond_false]
 obtain⟨m,m0,m1⟩:=Qb3 l hs
 obtain⟨q,q1⟩:=Q8g keys hk m m0
 refine Ev.bind m1 (Ev.bind q1 ?_)
 simp(disch:=omega) only[Qk]
 refine Ev.bind eq1 ?_
 simp only[Bool.not_true,cond_false]
 refine Ev.bind eq2 ?_
 simp only[beq_self_eq_true,Bool.not_true,cond_false]
 obtain⟨ys,m',n0,n1,n2⟩:=Qc3 gs (by omega) (by omega) ((1+ks.length:Nat):Int) (by omega) (by omega)
 have hI:=Qaj ks.length (by omega)
 refine Ev.bind (Qai ks (by omega)) (Ev.bind n1 (Ev.bind hI ?_))
 simp(disch:=omega) only[Qk]
 refine Ev.bind n2 ?_
 simp(disch:=omega) only[Qk,Yx]
 refine Ev.bind tl (Ev.bind ts (Ev.bind v2 (Ev.bind eq1 ?_)))
 simp only[Bool.not_true,cond_false]
 refine Ev.bind eq2 ?_
 simp only[beq_self_eq_true,Bool.not_true,cond_false]
 refine Ev.bind hI ?_
 simp(disch:=omega) only[Qk]
 refine Ev.bind n2 ?_
 simp(disch:=omega) only[Qk,Yx]
 exact Ev.pure _
end Go.Proofs.YtcbclpphgbbmmaaGreatDoor
end
section
/- The law FnExactGroupByKind returns true for every input,the listed package variables being as the program's text lays it: the card. -/
namespace Go.Proofs.YtcbclpphgbbmmaaGreatDoor
open Go.Gx Go.RowKit Go.ChangeShapes Go.WideShapes Go.ChangeAt
theorem fnExactGroupByKind_own:ownKnob Tryz.prog.godebug=none:=by kernel_rfl
set_option maxRecDepth 100000 in
theorem fnExactGroupByKind_contract (H:Type)(enc:TypeId×Value->H)(W:World)(base:Nat)(args:Array Value)(ds gs:List (DataW H))(before:List MemPlace)
  (Yw:∀(j:Nat) t v,Tryz.f3.params[j]? =some t->args[j]? =some v->Value.okWide Tryz.prog W .any base t v)
  (hW:DataW.Whole enc Tryz.prog Tryz.f3.params.toList Rows.fnExactGroupByKindSpec.vars false W args.toList ds gs before) (hsh:W.ShapedOpen Tryz.prog) :
  Calls Tryz.prog 3 args W λe W'=>∃v,e= .returned v/\Rows.fnExactGroupByKindSpec.post enc Tryz.prog Tryz.f3 false true false false W args v W':=by
 have hgs:gs=[]:=by
  obtain⟨p,q,_,hV,_⟩:=hW
  exact(trodVars_none hV).1
 subst hgs
 have hds:∃d1 d2,ds=[d1,d2]:=by
  obtain⟨p,q,hA,_⟩:=hW
  obtain⟨_,_,d1,e0,_,_,_,rfl,_,_,h0⟩:=trodAll_cons hA
  obtain⟨_,_,d2,e1,_,_,_,rfl,_,_,h1⟩:=trodAll_cons h0
  obtain⟨_,rfl,_⟩:=trodAll_nil h1
  exact⟨d1,d2,rfl⟩
 obtain⟨d1,d2,rfl⟩:=hds
 have hgl:Qv Q0 (λ_=>undef) (Lt W) W:=by
  refine Qv.mk0 (λg b h=>(by cases h)) (λg hg=>?_)
  have hg':giT g=true:=hg
  unfold giT at hg'
  split at hg'
  ·obtain⟨m,hm⟩:=cell_of_shapedOpen_int (P:=Tryz.prog) (g:=0) (t:=3) (zero:=#[.int .i64 0]) hsh (of_decide_eq_true (by kernel_rfl)) (by kernel_rfl) rfl (by kernel_rfl) (by kernel_rfl) (by kernel_rfl)
   exact⟨World.block_lt_of_cell? _ _ hm,m,hm⟩
  ·cases hg'
 refine Q3i (τs:=[.lib,(.sl .str)]) (r:=.t .bool true) Q4A (by kernel_rfl) rfl (by kernel_rfl) (by kernel_rfl) rfl (by kernel_rfl) (by kernel_rfl) (λt ht=>?_) rfl (λx hx=>by
   obtain⟨k,hk⟩:=Q06 x.1 x.2.1 hx.1 hx.2.1
   exact Z131.good Q4A _ k _ _ hk) rfl Yw hW hgl (λq hq W' _=>?_)
 ·have:t∈[24,25]:=ht
  simp only[List.mem_cons,List.not_mem_nil,or_false]at this
  rcases this with rfl|rfl<;>exact⟨by kernel_rfl,Nat.le_of_ble_eq_true (by kernel_rfl)⟩
 ·obtain⟨_,rfl⟩:=trodVars_none hq
  exact rfl
set_option maxRecDepth 100000 in
noncomputable def fnExactGroupByKind_world (os:Os):World:=
 {World.holding Tryz.prog os ⟨#[],#[],[]⟩with heap:=(((World.holding Tryz.prog os ⟨#[],#[],[]⟩).heap.modify 2 fun
   |.cells _ t frozen=>.cells #[.int .u8 128,.int .u8 191,.int .u8 160,.int .u8 191,.int .u8 128,.int .u8 159,.int .u8 144,.int .u8 191,.int .u8 128,.int .u8 143,.int .u8 0,.int .u8 0,.int .u8 0,.int .u8 0,.int .u8 0,.int .u8 0,.int .u8 0,.int .u8 0,.int .u8 0,.int .u8 0,.int .u8 0,.int .u8 0,.int .u8 0,.int .u8 0,.int .u8 0,.int .u8 0,.int .u8 0,.int .u8 0,.int .u8 0,.int .u8 0,.int .u8 0,.int .u8 0] t frozen
   |o=>o).modify 1 fun
   |.cells _ t frozen=>.cells (Pinned.utf8FirstZ.map λ(n:Nat)=>Value.int .u8 (n:Int)).toArray t frozen
   |o=>o)}
theorem fnExactGroupByKind_met (os:Os):laidMet Tryz.prog Rows.fnExactGroupByKindRow.laid ((fnExactGroupByKind_world os).forCall (λ_ _=>0) ⟨#[],#[.agg #[.slice none 0 0],.slice none 0 0],[]⟩).memory:=
 laidMet_of_run' 8 (by kernel_rfl) (by kernel_rfl)
theorem fnExactGroupByKind_reads (os:Os){H:Type}(enc:TypeId×Value->H):∃places,DataW.whole enc Tryz.prog ((fnExactGroupByKind_world os).forCall (λ_ _=>0) ⟨#[],#[.agg #[.slice none 0 0],.slice none 0 0],[]⟩).memory Tryz.f3.params.toList Rows.fnExactGroupByKindSpec.vars false #[.agg #[.slice none 0 0],.slice none 0 0].toList 8=some ([.agg [.nil],.nil],[],places):=
 ⟨[],by kernel_rfl⟩
set_option maxRecDepth 100000 in
theorem fnExactGroupByKind_lifted (os:Os)(started:os.Started)(H:Type)(enc:TypeId×Value->H)(F:Stop.Interp) :
  ReturnsInHanded {} Tryz.checked os 3 .any ((OpenSpec.ofChange Rows.fnExactGroupByKindSpec).preRow enc Tryz.prog Tryz.f3 Rows.fnExactGroupByKindRow.domain false Rows.fnExactGroupByKindRow.laid) (((OpenSpec.ofChange Rows.fnExactGroupByKindSpec).at F).post enc Tryz.prog Tryz.f3 false true false false):=by
 obtain⟨places,hx⟩:=fnExactGroupByKind_reads os enc
 refine returnsInHanded_of_row (C:=Tryz.checked) (s:=OpenSpec.ofChange Rows.fnExactGroupByKindSpec) fnExactGroupByKind_own started (by kernel_rfl) (by kernel_rfl)
  (witness_row_at (enc:=enc) (C:=Tryz.checked) false (fnExactGroupByKind_world os) #[.agg #[.slice none 0 0],.slice none 0 0] rfl (by kernel_rfl) (by kernel_rfl) (by kernel_rfl)
   (OpenSpec.preRow_of_cond 8 hx (by kernel_rfl) (λk hk=>by cases hk) (by kernel_rfl) (fnExactGroupByKind_met os))) ?_
 intro W base args ds gs before Yw hW _ _ _ _ hsh _
 exact fnExactGroupByKind_contract H enc W base args ds gs before Yw hW hsh
theorem fnExactGroupByKind_said:Rows.FnExactGroupByKindSaid:=
 OpenClaim.holds_of_cond 3 Tryz.f3 rfl rfl rfl rfl rfl rfl rfl ⟨rfl,rfl,rfl,rfl,rfl⟩ rfl rfl rfl rfl rfl (by kernel_rfl) (by kernel_rfl) (by kernel_rfl)
  (of_decide_eq_true (by kernel_rfl)) (by unfold Func.isWrapper;first|(rw[if_pos (by decide+kernel)];kernel_rfl)|(rw[if_neg (by decide+kernel)];exact⟨rfl,rfl⟩))
  (λos started H enc _ F=>by rw[OpenClaim.pre_eq_preRow];exact fnExactGroupByKind_lifted os started H enc F)
theorem fnExactGroupByKind_plain (f:FuncId)(fn:Func)(hf:Tryz.pinned.checked.prog.funcNamed "loop.example/g00896/laws.FnExactGroupByKind" =some f)(hfn:Tryz.pinned.checked.prog.funcs[f]? =some fn) :
  false=Tryz.pinned.checked.prog.looks []/\∀(j:Nat) t,fn.params[j]? =some t->Tryz.pinned.checked.prog.wantsStandIn t=false:=by
 obtain rfl:f=3:=(Option.some.inj ((show Tryz.prog.funcNamed "loop.example/g00896/laws.FnExactGroupByKind" =some 3 by kernel_rfl).symm.trans hf)).symm
 obtain rfl:fn=Tryz.f3:=(Option.some.inj ((show Tryz.prog.funcs[3]? =some Tryz.f3 by kernel_rfl).symm.trans hfn)).symm
 refine⟨by kernel_rfl,λj t ht=>?_⟩
 have ht':t∈[24,25]:=by simpa using Array.mem_of_getElem? (show(#[24,25]:Array Nat)[j]? =some t from ht)
 simp only[List.mem_cons,List.not_mem_nil,or_false]at ht'
 rcases ht' with rfl|rfl
 ·exact(show Tryz.prog.wantsStandIn 24=false by kernel_rfl)
 ·exact(show Tryz.prog.wantsStandIn 25=false by kernel_rfl)
theorem FnExactGroupByKind_holds:Rows.FnExactGroupByKindCardSaid:=
 Claim7.holds_tied_plain_at .later [] _ _ _ _ fnExactGroupByKind_said (λ_ h=>by cases h) (by kernel_rfl) (λ_ h=>by cases h) fnExactGroupByKind_row_tie rfl ⟨rfl,rfl⟩ (by kernel_rfl) rfl fnExactGroupByKind_plain (by kernel_rfl)
#print axioms FnExactGroupByKind_holds
end Go.Proofs.YtcbclpphgbbmmaaGreatDoor
end
