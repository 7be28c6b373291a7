/- The law FnExactResolveLibrary returns true for every input,the listed package variables being as the program's text lays it: the card. -/
import Derived.Test.YtehijcmhhkchiaaGreatDoorMrl4
import Derived.Lib.IndexBytes
import Derived.Lib.IndexLaws
import Derived.Lib.CountLaws
import Derived.Lib.Split
import Derived.Lib.SplitLaws
import Derived.Lib.TrimByte
import Derived.Lib.Join
import Derived.Test.YtehijcmhhkchiaaGreatDoorMrl6
import Derived.Lib.ItoaNum
import Derived.Test.YtehijcmhhkchiaaGreatDoorCards
import Derived.Test.YtehijcmhhkchiaaGreatDoorTie
import Derived.Shelf.Vars
import Derived.WalkKit
import Derived.ProofKit
import Derived.OpenShut
import Derived.Deep.DeepHandedRow
import Derived.Lib.LaidTab
set_option linter.unusedVariables false
set_option linter.unusedSimpArgs false
set_option maxRecDepth 100000
section
namespace Go.Proofs.YtehijcmhhkchiaaGreatDoor
open Go.Gx
theorem getD_at {α:Type} {xs:List α} {i:Nat} (h:i<xs.length) (d:α):xs.getD i d=xs[i]:=by simp [List.getD,List.getElem?_eq_getElem h]
theorem wf_len {e:Ty} {xs:List (den e)} (h:WF (.sl e) xs):xs.length<=9223372036854775807:=by
 cases h with | sl _ _ h _=>exact maxLen_eq ▸ h
theorem size_pos {s:ByteArray}:(!beqS s ⟨#[]⟩)=decide (0<s.size):=by
 rw [beqS_eq]
 have:L ⟨#[]⟩=[]:=rfl
 rw [this,<- L_size]
 cases L s <;> rfl
theorem size_app (s t:ByteArray):(s++t).size=s.size+t.size:=by
 rw [<- L_size,L_append,List.length_append,L_size,L_size]
theorem bytesL_len (s:ByteArray):(bytesL s).length=s.size:=by
 simp only [bytesL,List.length_map,Array.length_toList]; rfl
theorem bytesL_map (s:ByteArray):bytesL s=(L s).map fun b=>(b.toNat:Int):=rfl
theorem bt_bytes (s:ByteArray) (i:Nat) (h:i<(bytesL s).length):bt s i=(bytesL s)[i]:=by
 rw [L_bt]
 have h':i<(L s).length:=by simpa [bytesL_map] using h
 simp [bytesL_map,List.getD,h']
theorem all_bytes {s:ByteArray} {i:Nat} (h:i<(bytesL s).length) (p:Int->Bool):((bytesL s).drop i).all p=(p (bytesL s)[i] && ((bytesL s).drop (i+1)).all p):=by
 rw [List.drop_eq_getElem_cons h]; rfl
theorem sub_tail (s:ByteArray) (st a:Nat):(s.extract st s.size).extract a (s.extract st s.size).size=s.extract (st+a) s.size:=by
 apply L_inj
 have e:(L s).take s.size=L s:=List.take_of_length_le (Nat.le_refl _)
 rw [L_extract,L_extract s (st+a),<- L_size (s.extract st s.size),L_extract,List.take_length,List.drop_drop,e]
theorem sub_head (s:ByteArray) (st i:Nat) (h:st<=i) (hi:i<=s.size):(s.extract st s.size).extract 0 (i-st)=s.extract st i:=by
 apply L_inj
 rw [L_extract,L_extract,L_extract,List.drop_zero,List.take_of_length_le (show (L s).length<=s.size from Nat.le_refl _),List.drop_take]
def sp:ByteArray:=⟨#[32]⟩
theorem ib_hit {l:List UInt8} {c:UInt8} {i:Nat} (h:l[i]? = some c) (hn:∀ j,j<i->l[j]? ≠ some c):Lib.indexByte l c=i:=by
 have hg:=Lib.indexByte_ge l c
 by_cases e:Lib.indexByte l c = -1
 ·exact absurd h (Lib.indexByte_none e i)
 ·obtain ⟨o,ho⟩:∃ o:Nat,Lib.indexByte l c=o:=⟨(Lib.indexByte l c).toNat,by omega⟩
  obtain ⟨h1,h2⟩:=Lib.indexByte_some ho
  rcases Nat.lt_trichotomy o i with h3 | h3 | h3
  ·exact absurd h1 (hn o h3)
  ·rw [ho,h3]
  ·exact absurd h (h2 i h3)
theorem ib_miss {l:List UInt8} {c:UInt8} (hn:∀ j:Nat,l[j]? ≠ some c):Lib.indexByte l c = -1:=by
 have hg:=Lib.indexByte_ge l c
 by_cases e:Lib.indexByte l c = -1
 ·exact e
 ·obtain ⟨o,ho⟩:∃ o:Nat,Lib.indexByte l c=o:=⟨(Lib.indexByte l c).toNat,by omega⟩
  exact absurd (Lib.indexByte_some ho).1 (hn o)
theorem indexB_sp (s:ByteArray):Lib.indexB s sp=Lib.indexByte (L s) 32:=Lib.one s sp rfl
theorem sub_at (s:ByteArray) (st j:Nat):(L (s.extract st s.size))[j]? = (L s)[st+j]?:=by
 rw [L_extract,List.take_of_length_le (show (L s).length<=s.size from Nat.le_refl _),List.getElem?_drop]
def wordsFrom (s:ByteArray) (st:Nat):List ByteArray:=Lib.splitB sp 0 (Lib.countB (s.extract st s.size) sp) (s.extract st s.size)
theorem words_end (s:ByteArray) (st:Nat) (h:∀ j,st<=j->(L s)[j]? ≠ some 32):wordsFrom s st=[s.extract st s.size]:=by
 unfold wordsFrom
 rw [Lib.countB_miss _ _ ((indexB_sp _).trans (ib_miss fun j=>by rw [sub_at]; exact h _ (by omega)))]
 rfl
theorem words_hit (s:ByteArray) (st i:Nat) (h1:st<=i) (hi:i<s.size) (hb:(L s)[i]? = some 32) (h:∀ j,st<=j->j<i->(L s)[j]? ≠ some 32):wordsFrom s st=s.extract st i :: wordsFrom s (i+1):=by
 have e:Lib.indexB (s.extract st s.size) sp=((i-st:Nat):Int):=(indexB_sp _).trans (ib_hit (by rw [sub_at,show st+(i-st)=i by omega]; exact hb) fun j hj=>by rw [sub_at]; exact h _ (by omega) (by omega))
 have e1:sp.size=1:=rfl
 unfold wordsFrom
 rw [Lib.countB_hit _ _ _ (by rw [e1]; exact Nat.le_refl _) e,Nat.add_comm 1,Lib.splitB_hit _ _ _ _ _ e,Nat.add_zero,sub_head s st i h1 (by omega),e1,sub_tail,show st+(i-st+1)=i+1 by omega]
theorem sub_self (s:ByteArray):s.extract 0 s.size=s:=by
 apply L_inj
 rw [L_extract,List.take_of_length_le (show (L s).length<=s.size from Nat.le_refl _),List.drop_zero]
def words (s:ByteArray):List ByteArray:=Lib.splitB sp 0 (Lib.countB s sp) s
theorem words_from (s:ByteArray):wordsFrom s 0=words s:=by unfold wordsFrom words; rw [sub_self]
theorem words_small:∀ (k:Nat) (s:ByteArray),∀ x ∈ Lib.splitB sp 0 k s,x.size<=s.size
 | 0,s,x,hx=>by
  rw [Lib.splitB_zero] at hx
  simp only [List.mem_singleton] at hx
  rw [hx]; exact Nat.le_refl _
 | k+1,s,x,hx=>by
  unfold Lib.splitB at hx
  split at hx
  ·simp only [List.mem_singleton] at hx
   rw [hx]; exact Nat.le_refl _
  ·rcases List.mem_cons.1 hx with rfl | hx
   ·rw [ByteArray.size_extract]; omega
   ·have:=words_small k _ x hx
    rw [ByteArray.size_extract] at this
    omega
theorem words_len (s:ByteArray):1<=(words s).length/\(words s).length<=s.size+1:=by
 unfold words
 have h1:1<=sp.size:=Nat.le_refl 1
 rw [Lib.splitB_all sp h1 0 _ s rfl]
 have:=Lib.countB_le sp h1 s.size s (Nat.le_refl _)
 omega
theorem dropWhile_self {α:Type} (p:α->Bool):∀ l:List α,l.dropWhile p=l ↔ (∀ a,l.head? = some a->p a=false)
 | []=>by simp
 | a :: l=>by
  have hl:(l.dropWhile p).length<=l.length:=(List.dropWhile_sublist p).length_le
  cases h:p a with
  | true=>
   rw [List.dropWhile_cons_of_pos h]
   constructor
   ·intro e
    have:=congrArg List.length e
    simp at this
    omega
   ·intro e
    have:=e a rfl
    rw [h] at this; cases this
  | false=>
   rw [List.dropWhile_cons_of_neg (by rw [h]; exact Bool.noConfusion)]
   simp [h]
theorem trimB_self (l:List UInt8) (c:UInt8):Lib.trimB l c=l ↔ l.head? ≠ some c/\l.getLast? ≠ some c:=by
 unfold Lib.trimB Lib.trimLeftB Lib.trimRightB
 have h1:∀ m:List UInt8,m.dropWhile (· == c)=m ↔ m.head? ≠ some c:=fun m=>by
  rw [dropWhile_self]
  constructor
  ·intro h e; have:=h c e; simp at this
  ·intro h a e
   have:a ≠ c:=fun e'=>h (e' ▸ e)
   simpa using this
 constructor
 ·intro h
  have h2:((l.reverse.dropWhile (· == c)).reverse).length<=l.length:=by
   have:=(List.dropWhile_sublist (p:=(· == c)) (l:=l.reverse)).length_le
   simpa using this
  have h3:=(List.dropWhile_sublist (p:=(· == c)) (l:=(l.reverse.dropWhile (· == c)).reverse))
  have h4:(l.reverse.dropWhile (· == c)).reverse=l:=by
   have h5:(l.reverse.dropWhile (· == c)).reverse.length=l.length:=by
    have:=h3.length_le
    rw [h] at this
    omega
   have h6:l.reverse.dropWhile (· == c)=l.reverse:=(List.dropWhile_sublist (p:=(· == c)) (l:=l.reverse)).eq_of_length (by simpa using h5)
   rw [h6,List.reverse_reverse]
  rw [h4] at h
  refine ⟨(h1 l).1 h,?_⟩
  have h6:l.reverse.dropWhile (· == c)=l.reverse:=by rw [<- List.reverse_inj,h4,List.reverse_reverse]
  have:=(h1 _).1 h6
  simpa using this
 ·rintro ⟨ha,hb⟩
  have h6:l.reverse.dropWhile (· == c)=l.reverse:=(h1 _).2 (by simpa using hb)
  rw [h6,List.reverse_reverse]
  exact (h1 l).2 ha
def vis (lo b:Int):Bool:=decide (lo<=b) && decide (b<=126)
theorem bt_sp {s:ByteArray} {i:Nat} (hi:i<s.size):bt s i=32 ↔ (L s)[i]? = some 32:=by
 have hi':i<(L s).length:=hi
 have hbt:bt s i=((L s)[i].toNat:Int):=by rw [L_bt,getD_at hi']
 rw [List.getElem?_eq_getElem hi',hbt]
 have:(32:UInt8).toNat=32:=rfl
 constructor
 ·intro h
  congr 1
  apply UInt8.toNat_inj.1
  omega
 ·intro h
  rw [Option.some.inj h]; rfl
def edge (s:ByteArray):Bool:=(decide (s.size=0)) || (bt s 0 != 32 && bt s (s.size-1) != 32)
theorem edge_eq (s:ByteArray):beqS ⟨(Lib.trimB (L s) 32).toArray⟩ s=edge s:=by
 rw [Bool.eq_iff_iff,beqS_iff]
 have h1:(⟨(Lib.trimB (L s) 32).toArray⟩:ByteArray)=s ↔ Lib.trimB (L s) 32=L s:=by
  constructor
  ·intro h
   have:=congrArg L h
   rwa [L_mk] at this
  ·intro h
   apply L_inj
   rw [L_mk,h]
 rw [h1,trimB_self]
 unfold edge
 by_cases hz:s.size=0
 ·have:L s=[]:=List.eq_nil_of_length_eq_zero hz
  rw [this]
  simp [hz]
 ·have h2:(L s).head? = (L s)[0]?:=List.head?_eq_getElem?
  have h3:(L s).getLast? = (L s)[s.size-1]?:=by rw [List.getLast?_eq_getElem?]; rfl
  rw [h2,h3,Bool.or_eq_true,decide_eq_true_eq,Bool.and_eq_true,bne_iff_ne,bne_iff_ne,Ne,Ne,Ne,Ne,bt_sp (by omega),bt_sp (by omega)]
  simp [hz]
def pos (s:ByteArray):Bool:=decide (0<s.size)
def ms {α:Type} (f:α -> α) (W:List α) (i:Nat):List α:=(W.take i).map f++W.drop i
section
variable {α:Type} (f:α -> α) (W:List α)
end
end Go.Proofs.YtehijcmhhkchiaaGreatDoor
end
section
/- Plain laws: texts of an entry. -/
namespace Go.Proofs.YtehijcmhhkchiaaGreatDoor
open Go.Gx
theorem edge_trim (s:ByteArray) (hs:s.size<=1048576):strings_Trim.F s ⟨#[32]⟩=some ⟨(Lib.trimB (L s) 32).toArray⟩:=by
 unfold strings_Trim.F xTrim1
 rw [Nat.ble_eq_true_of_le (by omega)]
 rfl
theorem specText_l0 (s:ByteArray) (hs:s.size<=1048576):∀ n i:Nat,i+n=s.size->Ev (fun k=>spec_l4Text.l0 k s i) (if ((bytesL s).drop i).all (vis 32)=true then .inr s else .inl false)
 | 0,i,h=>by
  refine Ev.step (fun k=>by rw [spec_l4Text.l0]) ?_
  simp (disch:=omega) only [cneg]
  rw [List.drop_eq_nil_of_le (by rw [bytesL_len]; omega)]
  exact Ev.pure _
 | n+1,i,h=>by
  have hl:=bytesL_len s
  have hi:i<(bytesL s).length:=by omega
  refine Ev.step (fun k=>by rw [spec_l4Text.l0]) ?_
  simp (disch:=omega) only [cpos,Int.toNat_natCast,bt_bytes s i hi]
  rw [all_bytes hi]
  unfold vis
  by_cases c1:(bytesL s)[i]<32
  ·simp (disch:=omega) only [cpos,dneg,Bool.false_and]; exact Ev.pure _
  ·by_cases c2:(bytesL s)[i] > 126
   ·simp (disch:=omega) only [cpos,cneg,dneg,Bool.and_false,Bool.false_and]; exact Ev.pure _
   ·simp (disch:=omega) only [cpos,cneg,dpos,Bool.and_self,Bool.true_and,wrap_in]
    exact specText_l0 s hs n (i+1) (by omega)
theorem isPrint_l0 (s:ByteArray) (hs:s.size<=1048576):∀ n i:Nat,i+n=s.size->Ev (fun k=>impl_isPrintable.l0 k s i) (if ((bytesL s).drop i).all (vis 32)=true then .inr s else .inl false)
 | 0,i,h=>by
  refine Ev.step (fun k=>by rw [impl_isPrintable.l0]) ?_
  simp (disch:=omega) only [cneg]
  rw [List.drop_eq_nil_of_le (by rw [bytesL_len]; omega)]
  exact Ev.pure _
 | n+1,i,h=>by
  have hl:=bytesL_len s
  have hi:i<(bytesL s).length:=by omega
  refine Ev.step (fun k=>by rw [impl_isPrintable.l0]) ?_
  simp (disch:=omega) only [cpos,Int.toNat_natCast,bt_bytes s i hi]
  rw [all_bytes hi]
  unfold vis
  by_cases c1:(bytesL s)[i]<32
  ·simp (disch:=omega) only [cpos,dneg,Bool.false_and]; exact Ev.pure _
  ·by_cases c2:(bytesL s)[i] > 126
   ·simp (disch:=omega) only [cpos,cneg,dneg,Bool.and_false,Bool.false_and]; exact Ev.pure _
   ·simp (disch:=omega) only [cpos,cneg,dpos,Bool.and_self,Bool.true_and,wrap_in]
    exact isPrint_l0 s hs n (i+1) (by omega)
def textB (s:ByteArray):Bool:=decide (s.size<=40) && ((bytesL s).all (vis 32) && edge s)
theorem specText_ev (s:ByteArray):Ev (fun k=>spec_l4Text.F k s) (textB s):=by
 unfold spec_l4Text.F textB
 by_cases c:(s.size:Int) > 40
 ·simp (disch:=omega) only [cpos,dneg,Bool.false_and]
  exact Ev.pure _
 ·simp (disch:=omega) only [cneg,dpos,Bool.true_and]
  have:=specText_l0 s (by omega) s.size 0 (by omega)
  rw [List.drop_zero] at this
  cases h:(bytesL s).all (vis 32) with
  | false=>rw [h] at this; exact Ev.bind this (Ev.pure _)
  | true=>
   rw [h] at this
   refine Ev.bind (a:=.inr s) this ?_
   dsimp only
   have he:beqS s ⟨#[]⟩=decide (s.size=0):=by
    rw [<- Bool.not_not (b:=beqS s ⟨#[]⟩),size_pos]
    by_cases hz:s.size=0
    ·simp [hz]
    ·rw [decide_eq_true (by omega:0<s.size),decide_eq_false hz]; rfl
   rw [he]
   unfold edge
   by_cases hz:s.size=0
   ·rw [decide_eq_true hz]; exact Ev.pure _
   ·rw [decide_eq_false hz]
    simp (disch:=omega) only [cond_false,cond_true,cpos,wrap_in]
    rw [show ((s.size:Int)-1).toNat=s.size-1 by omega,show (0:Int).toNat=0 from rfl,Bool.false_or,Bool.true_and]
    cases (bt s 0 != 32) with
    | true=>exact Ev.pure _
    | false=>exact Ev.pure _
theorem isText_ev (s:ByteArray):Ev (fun k=>impl_isText.F k s) (textB s):=by
 unfold impl_isText.F textB
 by_cases c:(s.size:Int)<=40
 ·simp (disch:=omega) only [cpos,dpos,Bool.true_and]
  refine Ev.bind ?_ (Ev.pure _)
  unfold impl_isPrintable.F
  have:=isPrint_l0 s (by omega) s.size 0 (by omega)
  rw [List.drop_zero] at this
  cases h:(bytesL s).all (vis 32) with
  | false=>rw [h] at this; exact Ev.bind this (Ev.pure _)
  | true=>
   rw [h] at this
   refine Ev.bind (a:=.inr s) this ?_
   dsimp only
   refine Ev.bind0 (edge_trim s (by omega)) ?_
   simp only [edge_eq,Bool.true_and]
   exact Ev.pure _
 ·simp (disch:=omega) only [cneg,dneg,Bool.false_and]
  exact Ev.pure _
end Go.Proofs.YtehijcmhhkchiaaGreatDoor
end
section
/- Plain laws: a text split at its spaces. -/
namespace Go.Proofs.YtehijcmhhkchiaaGreatDoor
open Go.Gx
theorem split_ev (s:ByteArray) (hs:s.size<=1048576):strings_Split.F s ⟨#[32]⟩=some (words s):=by
 unfold strings_Split.F xSplit
 rw [Nat.ble_eq_true_of_le (by omega)]
 rfl
end Go.Proofs.YtehijcmhhkchiaaGreatDoor
end
section
/- Plain laws: a text split at its spaces,the other way. -/
namespace Go.Proofs.YtehijcmhhkchiaaGreatDoor
open Go.Gx
theorem split_l0 (s:ByteArray) (hs:s.size<=1048576):∀ n i:Nat,i+n=s.size->∀ st:Nat,st<=i->(∀ j,st<=j->j<i->(L s)[j]? ≠ some 32)->∀ acc:List ByteArray,acc.length<=i ->
  ∃ acc' st',Ev (fun k=>spec_l1Split.l0 k s 32 acc st i) (s,acc',((st':Nat):Int))/\st'<=s.size/\acc'.length<=s.size/\acc'++[s.extract st' s.size]=acc++wordsFrom s st
 | 0,i,h,st,h1,hn,acc,ha=>by
  refine ⟨acc,st,Ev.step (fun k=>by rw [spec_l1Split.l0]) ?_,by omega,by omega,?_⟩
  ·simp (disch:=omega) only [cneg]
   exact Ev.pure _
  ·rw [words_end s st fun j hj=> ?_]
   by_cases hj2:j<i
   ·exact hn j hj hj2
   ·rw [List.getElem?_eq_none (by rw [L_size]; omega)]; exact fun h=>by cases h
 | n+1,i,h,st,h1,hn,acc,ha=>by
  have hi:i<(L s).length:=by rw [L_size]; omega
  have hbt:bt s i=((L s)[i].toNat:Int):=by rw [L_bt,getD_at hi]
  by_cases c:bt s i=32
  ·have hb:(L s)[i]? = some 32:=by
    rw [List.getElem?_eq_getElem hi]
    congr 1
    apply UInt8.toNat_inj.1
    have:(32:UInt8).toNat=32:=rfl
    omega
   obtain ⟨acc',st',r1,r2,r3,r4⟩:=split_l0 s hs n (i+1) (by omega) (i+1) (Nat.le_refl _) (fun j h1 h2=>by omega) (acc++[s.extract st i]) (by simp; omega)
   refine ⟨acc',st',Ev.step (fun k=>by rw [spec_l1Split.l0]) ?_,r2,r3,?_⟩
   ·have hr:room (acc.length+([s.extract st i]:List ByteArray).length) .str=true:=by
     unfold room
     rw [Nat.ble_eq]
     have:nb .str=16:=rfl
     rw [this]
     simp; omega
    simp (disch:=omega) only [cpos,Int.toNat_natCast,ceq,hr,cond_true,wrap_in]
    exact r1
   ·rw [r4,words_hit s st i h1 (by omega) hb hn]; simp
  ·obtain ⟨acc',st',r1,r2,r3,r4⟩:=split_l0 s hs n (i+1) (by omega) st (by omega) (fun j h1 h2=>by
    rcases Nat.lt_or_ge j i with h3 | h3
    ·exact hn j h1 h3
    ·obtain rfl:j=i:=by omega
     rw [List.getElem?_eq_getElem hi]
     intro e
     apply c
     rw [hbt,Option.some.inj e]; rfl) acc (by omega)
   refine ⟨acc',st',Ev.step (fun k=>by rw [spec_l1Split.l0]) ?_,r2,r3,r4⟩
   simp (disch:=omega) only [cpos,Int.toNat_natCast,cne,wrap_in]
   exact r1
theorem specSplit_ev (s:ByteArray) (hs:s.size<=1048576):Ev (fun k=>spec_l1Split.F k s 32) (words s):=by
 unfold spec_l1Split.F
 obtain ⟨acc',st',r1,r2,r3,r4⟩:=split_l0 s hs s.size 0 (by omega) 0 (Nat.le_refl _) (fun j h1 h2=>by omega) [] (Nat.le_refl _)
 refine Ev.bind r1 ?_
 have hr:room (acc'.length+([s.extract st' s.size]:List ByteArray).length) .str=true:=by
  unfold room
  rw [Nat.ble_eq]
  have:nb .str=16:=rfl
  rw [this]
  simp; omega
 simp (disch:=omega) only [cpos,Int.toNat_natCast,hr,cond_true,r4,words_from,List.nil_append]
 exact Ev.pure _
end Go.Proofs.YtehijcmhhkchiaaGreatDoor
end
section
/- Plain laws: lists of texts: size,copy,equality. -/
namespace Go.Proofs.YtehijcmhhkchiaaGreatDoor
open Go.Gx
def totS (xs:List ByteArray):Nat:=(xs.map ByteArray.size).sum
theorem szS_l0 (xs:List ByteArray) (hw:WF (.sl .str) xs) (hlen:xs.length<=1048576):∀ n i:Nat,i+n=xs.length->∀ l:Int,0<=l->l<=1048576 ->
  Ev (fun k=>laws_szStringS.l0 k xs l i) (if l-totS (xs.drop i)<0 then .inl (-1) else .inr (l-totS (xs.drop i)))
 | 0,i,h,l,h0,h1=>by
  refine Ev.step (fun k=>by rw [laws_szStringS.l0]) ?_
  simp (disch:=omega) only [cneg]
  rw [List.drop_eq_nil_of_le (by omega)]
  simp only [totS,List.map_nil,List.sum_nil]
  rw [if_neg (by omega)]
  exact (Ev.pure _).eq (by congr 1; omega)
 | n+1,i,h,l,h0,h1=>by
  have hi:i<xs.length:=by omega
  have hwi:xs[i].size<=9223372036854775807:=by cases hw with | sl _ _ _ h=>exact wf_str (h i hi)
  have hd:totS (xs.drop i)=xs[i].size+totS (xs.drop (i+1)):=by
   rw [List.drop_eq_getElem_cons hi]; unfold totS; rw [List.map_cons,List.sum_cons]
  refine Ev.step (fun k=>by rw [laws_szStringS.l0]) ?_
  simp (disch:=omega) only [cpos,Int.toNat_natCast,getD_at hi]
  by_cases c:l-(xs[i].size:Int)<0
  ·simp (disch:=omega) only [wrap_in,cpos]
   rw [if_pos (by omega)]
   exact Ev.pure _
  ·simp (disch:=omega) only [wrap_in,cneg]
   have:=szS_l0 xs hw hlen n (i+1) (by omega) (l-xs[i].size) (by omega) (by omega)
   refine this.eq ?_
   rw [hd]
   by_cases c2:l-(xs[i].size:Int)-(totS (xs.drop (i+1)):Int)<0
   ·rw [if_pos c2,if_pos (by omega)]
   ·rw [if_neg c2,if_neg (by omega)]; congr 1; omega
theorem szS_ev (xs:List ByteArray) (l:Int) (h0:0<=l) (h1:l<=1048576) (hw:WF (.sl .str) xs):∃ r,Ev (fun k=>laws_szStringS.F k xs l) r/\(0<=r->(xs.length:Int)+totS xs+r=l):=by
 have hl:xs.length<=9223372036854775807:=wf_len hw
 unfold laws_szStringS.F
 by_cases c:l-(xs.length:Int)<0
 ·simp (disch:=omega) only [wrap_in,cpos]
  exact ⟨-1,Ev.pure _,fun h=>by omega⟩
 ·simp (disch:=omega) only [wrap_in,cneg]
  have:=szS_l0 xs hw (by omega) xs.length 0 (by omega) (l-xs.length) (by omega) (by omega)
  simp only [List.drop_zero] at this
  by_cases c2:l-(xs.length:Int)-(totS xs:Int)<0
  ·rw [if_pos c2] at this
   exact ⟨-1,Ev.bind this (Ev.pure _),fun h=>by omega⟩
  ·rw [if_neg c2] at this
   exact ⟨l-(xs.length:Int)-(totS xs:Int),Ev.bind this (Ev.pure _),fun h=>by omega⟩
theorem toS_l0 (xs:List ByteArray) (hlen:xs.length<=1048576):∀ n i:Nat,i+n=xs.length->∀ ys:List ByteArray,ys.length=xs.length->ys.take i=xs.take i->Ev (fun k=>laws_toStringS.l0 k xs ys i) xs
 | 0,i,h,ys,hy,ht=>by
  refine Ev.step (fun k=>by rw [laws_toStringS.l0]) ?_
  simp (disch:=omega) only [cneg]
  have:ys=xs:=by
   rw [List.take_of_length_le (by omega),List.take_of_length_le (by omega)] at ht
   exact ht
  rw [this]; exact Ev.pure _
 | n+1,i,h,ys,hy,ht=>by
  have hi:i<xs.length:=by omega
  refine Ev.step (fun k=>by rw [laws_toStringS.l0]) ?_
  simp (disch:=omega) only [cpos,Int.toNat_natCast,getD_at hi,wrap_in]
  exact toS_l0 xs hlen n (i+1) (by omega) (ys.set i xs[i]) (by simpa using hy) (by
   rw [List.take_add_one,List.take_add_one,List.take_set_of_le (Nat.le_refl i),ht]
   simp [show i<ys.length by omega,hi])
theorem toS_ev (xs:List ByteArray) (hlen:xs.length<=1048576):Ev (fun k=>laws_toStringS.F k xs) xs:=by
 unfold laws_toStringS.F
 have hn:nb .str=16:=rfl
 simp (disch:=first | omega | (simp only [hn,Int.toNat_natCast]; omega)) only [ceq,cpos,cble]
 exact Ev.bind (a:=xs) (toS_l0 xs hlen xs.length 0 (by omega) _ (by simp) (by simp)) (Ev.pure _)
theorem eqS_l0 (xs:List ByteArray) (hlen:xs.length<=1048576):∀ n i:Nat,i+n=xs.length->Ev (fun k=>laws_eqStringS.l0 k xs xs i) (.inr ())
 | 0,i,h=>by
  refine Ev.step (fun k=>by rw [laws_eqStringS.l0]) ?_
  simp (disch:=omega) only [cneg]
  exact Ev.pure _
 | n+1,i,h=>by
  refine Ev.step (fun k=>by rw [laws_eqStringS.l0]) ?_
  simp (disch:=omega) only [cpos,Int.toNat_natCast,beqS_self,Bool.not_true,cond_false,wrap_in]
  exact eqS_l0 xs hlen n (i+1) (by omega)
theorem eqS_ev (xs:List ByteArray) (hlen:xs.length<=1048576):Ev (fun k=>laws_eqStringS.F k xs xs) true:=by
 unfold laws_eqStringS.F
 simp (disch:=omega) only [cbeq]
 exact Ev.bind (eqS_l0 xs hlen xs.length 0 (by omega)) (Ev.pure _)
end Go.Proofs.YtehijcmhhkchiaaGreatDoor
end
section
/- Plain laws: names,entries,libraries: size,copy,equality. -/
namespace Go.Proofs.YtehijcmhhkchiaaGreatDoor
open Go.Gx
def totN (n:Name):Nat:=n.given.length+totS n.given+n.particle.size+n.family.size+n.suffix.size
def totNs (xs:List Name):Nat:=xs.length+(xs.map totN).sum
def totE (e:Entry):Nat:=e.key.size+totNs e.authors+totNs e.editors+e.title.size+e.container.size+e.publisher.size+e.pages.size+e.cross.size
def totEs (xs:List Entry):Nat:=xs.length+(xs.map totE).sum
theorem sum_mem {α:Type} (f:α->Nat) {xs:List α} {x:α} (h:x ∈ xs):f x<=(xs.map f).sum:=by
 induction xs with
 | nil=>cases h
 | cons b l ih=>
  simp only [List.map_cons,List.sum_cons]
  rcases List.mem_cons.1 h with rfl | h
  ·omega
  ·have:=ih h; omega
def smallN (n:Name):Prop:=totN n<=1048576
def smallE (e:Entry):Prop:=totE e<=1048576
def smallL (l:Library):Prop:=totEs l.entries<=1048576
theorem smallL_at {l:Library} (h:smallL l) {e:Entry} (he:e ∈ l.entries):smallE e:=by
 have:=sum_mem totE he
 unfold smallL totEs at h
 unfold smallE
 omega
theorem smallNs_at {xs:List Name} (h:totNs xs<=1048576) {n:Name} (hn:n ∈ xs):smallN n:=by
 have:=sum_mem totN hn
 unfold totNs at h
 unfold smallN
 omega
theorem smallE_a {e:Entry} (h:smallE e):totNs e.authors<=1048576:=by unfold smallE totE at h; omega
theorem smallE_e {e:Entry} (h:smallE e):totNs e.editors<=1048576:=by unfold smallE totE at h; omega
theorem smallNs_len {xs:List Name} (h:totNs xs<=1048576):xs.length<=1048576:=by unfold totNs at h; omega
theorem smallL_len {l:Library} (h:smallL l):l.entries.length<=1048576:=by unfold smallL totEs at h; omega
theorem szN_ev (a:Name) (l:Int) (h0:0<=l) (h1:l<=1048576) (hw:WF .name a):EvP (fun k=>laws_szName.F k a l) fun r=>0<=r->(totN a:Int)+r=l:=by
 obtain ⟨w1,w2,w3,w4⟩:WF (.sl .str) a.given/\a.particle.size<=9223372036854775807/\a.family.size<=9223372036854775807/\a.suffix.size<=9223372036854775807:=by
  cases hw with | name _ h1 h2 h3 h4=>exact ⟨h1,wf_str h2,wf_str h3,wf_str h4⟩
 unfold laws_szName.F totN
 obtain ⟨r,r1,r2⟩:=szS_ev a.given l h0 h1 w1
 refine EvP.of r1 ?_
 by_cases c:r<0
 ·simp (disch:=omega) only [cpos]
  exact EvP.pure _ (fun h=>by omega)
 simp (disch:=omega) only [cneg]
 have r3:=r2 (by omega)
 by_cases c1:r-(a.particle.size:Int)<0
 ·simp (disch:=omega) only [wrap_in,cpos]
  exact EvP.pure _ (fun h=>by omega)
 simp (disch:=omega) only [wrap_in,cneg]
 by_cases c2:r-(a.particle.size:Int)-(a.family.size:Int)<0
 ·simp (disch:=omega) only [wrap_in,cpos]
  exact EvP.pure _ (fun h=>by omega)
 simp (disch:=omega) only [wrap_in,cneg]
 by_cases c3:r-(a.particle.size:Int)-(a.family.size:Int)-(a.suffix.size:Int)<0
 ·simp (disch:=omega) only [wrap_in,cpos]
  exact EvP.pure _ (fun h=>by omega)
 simp (disch:=omega) only [wrap_in,cneg]
 exact EvP.pure _ (fun h=>by omega)
theorem szNs_l0 (xs:List Name) (hw:WF (.sl .name) xs) (hlen:xs.length<=1048576):∀ n i:Nat,i+n=xs.length->∀ l:Int,0<=l->l<=1048576 ->
  EvP (fun k=>laws_szNameS.l0 k xs l i) fun r=>r = .inl (-1)\/∃ q:Int,r = .inr q/\0<=q/\(((xs.drop i).map totN).sum:Int)+q=l
 | 0,i,h,l,h0,h1=>by
  refine EvP.step (fun k=>by rw [laws_szNameS.l0]) ?_
  simp (disch:=omega) only [cneg]
  rw [List.drop_eq_nil_of_le (by omega)]
  exact EvP.pure _ (.inr ⟨l,rfl,h0,by simp⟩)
 | n+1,i,h,l,h0,h1=>by
  have hi:i<xs.length:=by omega
  have hwi:WF .name xs[i]:=by cases hw with | sl _ _ _ h=>exact h i hi
  refine EvP.step (fun k=>by rw [laws_szNameS.l0]) ?_
  simp (disch:=omega) only [cpos,Int.toNat_natCast,getD_at hi]
  refine EvP.bind (szN_ev _ l h0 h1 hwi) fun r hr=> ?_
  by_cases c:r<0
  ·simp (disch:=omega) only [cpos]
   exact EvP.pure _ (.inl rfl)
  ·have hr:=hr (by omega)
   simp (disch:=omega) only [cneg,wrap_in]
   refine EvP.mono (szNs_l0 xs hw hlen n (i+1) (by omega) r (by omega) (by omega)) fun q hq=> ?_
   rcases hq with rfl | ⟨q,rfl,h2,h3⟩
   ·exact .inl rfl
   ·refine .inr ⟨q,rfl,h2,?_⟩
    rw [List.drop_eq_getElem_cons hi,List.map_cons,List.sum_cons]
    omega
theorem szNs_ev (xs:List Name) (l:Int) (h0:0<=l) (h1:l<=1048576) (hw:WF (.sl .name) xs):EvP (fun k=>laws_szNameS.F k xs l) fun r=>0<=r->(totNs xs:Int)+r=l:=by
 have hl:xs.length<=9223372036854775807:=wf_len hw
 unfold laws_szNameS.F totNs
 by_cases c:l-(xs.length:Int)<0
 ·simp (disch:=omega) only [wrap_in,cpos]
  exact EvP.pure _ fun h=>by omega
 ·simp (disch:=omega) only [wrap_in,cneg]
  refine EvP.bind (szNs_l0 xs hw (by omega) xs.length 0 (by omega) (l-xs.length) (by omega) (by omega)) fun r hr=> ?_
  rcases hr with rfl | ⟨q,rfl,h2,h3⟩
  ·exact EvP.pure _ fun h=>by omega
  ·rw [List.drop_zero] at h3
   exact EvP.pure _ fun h=>by omega
theorem szE_ev (a:Entry) (l:Int) (h0:0<=l) (h1:l<=1048576) (hw:WF .entry a):EvP (fun k=>laws_szEntry.F k a l) fun r=>0<=r->(totE a:Int)+r=l:=by
 obtain ⟨w1,w2,w3,w4,w5,w6,w7,w8⟩:a.key.size<=9223372036854775807/\WF (.sl .name) a.authors/\WF (.sl .name) a.editors/\a.title.size<=9223372036854775807/\a.container.size<=9223372036854775807/\a.publisher.size<=9223372036854775807/\a.pages.size<=9223372036854775807/\a.cross.size<=9223372036854775807:=by
  cases hw with | entry _ h1 h2 h3 h4 h5 h6 h7 h8 h9 h10 h11=>exact ⟨wf_str h1,h3,h4,wf_str h5,wf_str h6,wf_str h7,wf_str h10,wf_str h11⟩
 unfold laws_szEntry.F totE
 by_cases c0:l-(a.key.size:Int)<0
 ·simp (disch:=omega) only [wrap_in,cpos]
  exact EvP.pure _ (fun h=>by omega)
 simp (disch:=omega) only [wrap_in,cneg]
 refine EvP.bind (szNs_ev a.authors _ (by omega) (by omega) w2) fun r hr=> ?_
 by_cases c:r<0
 ·simp (disch:=omega) only [cpos]
  exact EvP.pure _ (fun h=>by omega)
 simp (disch:=omega) only [cneg]
 have hr:=hr (by omega)
 refine EvP.bind (szNs_ev a.editors r (by omega) (by omega) w3) fun q hq=> ?_
 by_cases c':q<0
 ·simp (disch:=omega) only [cpos]
  exact EvP.pure _ (fun h=>by omega)
 simp (disch:=omega) only [cneg]
 have hq:=hq (by omega)
 by_cases c1:q-(a.title.size:Int)<0
 ·simp (disch:=omega) only [wrap_in,cpos]
  exact EvP.pure _ (fun h=>by omega)
 simp (disch:=omega) only [wrap_in,cneg]
 by_cases c2:q-(a.title.size:Int)-(a.container.size:Int)<0
 ·simp (disch:=omega) only [wrap_in,cpos]
  exact EvP.pure _ (fun h=>by omega)
 simp (disch:=omega) only [wrap_in,cneg]
 by_cases c3:q-(a.title.size:Int)-(a.container.size:Int)-(a.publisher.size:Int)<0
 ·simp (disch:=omega) only [wrap_in,cpos]
  exact EvP.pure _ (fun h=>by omega)
 simp (disch:=omega) only [wrap_in,cneg]
 by_cases c4:q-(a.title.size:Int)-(a.container.size:Int)-(a.publisher.size:Int)-(a.pages.size:Int)<0
 ·simp (disch:=omega) only [wrap_in,cpos]
  exact EvP.pure _ (fun h=>by omega)
 simp (disch:=omega) only [wrap_in,cneg]
 by_cases c5:q-(a.title.size:Int)-(a.container.size:Int)-(a.publisher.size:Int)-(a.pages.size:Int)-(a.cross.size:Int)<0
 ·simp (disch:=omega) only [wrap_in,cpos]
  exact EvP.pure _ (fun h=>by omega)
 simp (disch:=omega) only [wrap_in,cneg]
 exact EvP.pure _ (fun h=>by omega)
theorem szEs_l0 (xs:List Entry) (hw:WF (.sl .entry) xs) (hlen:xs.length<=1048576):∀ n i:Nat,i+n=xs.length->∀ l:Int,0<=l->l<=1048576 ->
  EvP (fun k=>laws_szEntryS.l0 k xs l i) fun r=>r = .inl (-1)\/∃ q:Int,r = .inr q/\0<=q/\(((xs.drop i).map totE).sum:Int)+q=l
 | 0,i,h,l,h0,h1=>by
  refine EvP.step (fun k=>by rw [laws_szEntryS.l0]) ?_
  simp (disch:=omega) only [cneg]
  rw [List.drop_eq_nil_of_le (by omega)]
  exact EvP.pure _ (.inr ⟨l,rfl,h0,by simp⟩)
 | n+1,i,h,l,h0,h1=>by
  have hi:i<xs.length:=by omega
  have hwi:WF .entry xs[i]:=by cases hw with | sl _ _ _ h=>exact h i hi
  refine EvP.step (fun k=>by rw [laws_szEntryS.l0]) ?_
  simp (disch:=omega) only [cpos,Int.toNat_natCast,getD_at hi]
  refine EvP.bind (szE_ev _ l h0 h1 hwi) fun r hr=> ?_
  by_cases c:r<0
  ·simp (disch:=omega) only [cpos]
   exact EvP.pure _ (.inl rfl)
  ·have hr:=hr (by omega)
   simp (disch:=omega) only [cneg,wrap_in]
   refine EvP.mono (szEs_l0 xs hw hlen n (i+1) (by omega) r (by omega) (by omega)) fun q hq=> ?_
   rcases hq with rfl | ⟨q,rfl,h2,h3⟩
   ·exact .inl rfl
   ·refine .inr ⟨q,rfl,h2,?_⟩
    rw [List.drop_eq_getElem_cons hi,List.map_cons,List.sum_cons]
    omega
theorem szEs_ev (xs:List Entry) (l:Int) (h0:0<=l) (h1:l<=1048576) (hw:WF (.sl .entry) xs):EvP (fun k=>laws_szEntryS.F k xs l) fun r=>0<=r->(totEs xs:Int)+r=l:=by
 have hl:xs.length<=9223372036854775807:=wf_len hw
 unfold laws_szEntryS.F totEs
 by_cases c:l-(xs.length:Int)<0
 ·simp (disch:=omega) only [wrap_in,cpos]
  exact EvP.pure _ fun h=>by omega
 ·simp (disch:=omega) only [wrap_in,cneg]
  refine EvP.bind (szEs_l0 xs hw (by omega) xs.length 0 (by omega) (l-xs.length) (by omega) (by omega)) fun r hr=> ?_
  rcases hr with rfl | ⟨q,rfl,h2,h3⟩
  ·exact EvP.pure _ fun h=>by omega
  ·rw [List.drop_zero] at h3
   exact EvP.pure _ fun h=>by omega
theorem szL_ev (a:Library) (l:Int) (h0:0<=l) (h1:l<=1048576) (hw:WF .lib a):EvP (fun k=>laws_szLibrary.F k a l) fun r=>0<=r->(totEs a.entries:Int)+r=l:=by
 have w1:WF (.sl .entry) a.entries:=by cases hw with | lib _ h=>exact h
 unfold laws_szLibrary.F
 refine EvP.bind (szEs_ev a.entries l h0 h1 w1) fun r hr=> ?_
 by_cases c:r<0
 ·simp (disch:=omega) only [cpos]
  exact EvP.pure _ (fun h=>by omega)
 simp (disch:=omega) only [cneg]
 exact EvP.pure _ hr
theorem toSp_l0 (xs:List ByteArray) (hlen:xs.length<=1048576):∀ n i:Nat,i+n=xs.length->∀ ys:List ByteArray,ys.length=xs.length->ys.take i=xs.take i->Ev (fun k=>laws_toStringS_p.l0 k xs ys i) xs
 | 0,i,h,ys,hy,ht=>by
  refine Ev.step (fun k=>by rw [laws_toStringS_p.l0]) ?_
  simp (disch:=omega) only [cneg]
  have:ys=xs:=by
   rw [List.take_of_length_le (by omega),List.take_of_length_le (by omega)] at ht
   exact ht
  rw [this]; exact Ev.pure _
 | n+1,i,h,ys,hy,ht=>by
  have hi:i<xs.length:=by omega
  refine Ev.step (fun k=>by rw [laws_toStringS_p.l0]) ?_
  simp (disch:=omega) only [cpos,Int.toNat_natCast,getD_at hi,wrap_in]
  exact toSp_l0 xs hlen n (i+1) (by omega) (ys.set i xs[i]) (by simpa using hy) (by
   rw [List.take_add_one,List.take_add_one,List.take_set_of_le (Nat.le_refl i),ht]
   simp [show i<ys.length by omega,hi])
theorem toSp_ev (xs:List ByteArray) (hlen:xs.length<=1048576):Ev (fun k=>laws_toStringS_p.F k xs) xs:=by
 unfold laws_toStringS_p.F
 have hn:nb .str=16:=rfl
 simp (disch:=first | omega | (simp only [hn,Int.toNat_natCast]; omega)) only [ceq,cpos,cble]
 exact Ev.bind (a:=xs) (toSp_l0 xs hlen xs.length 0 (by omega) _ (by simp) (by simp)) (Ev.pure _)
theorem toN_ev (a:Name) (hs:smallN a):Ev (fun k=>laws_toName_p.F k a) a:=by
 unfold laws_toName_p.F
 exact Ev.bind (toSp_ev a.given (by unfold smallN totN at hs; omega)) (Ev.pure _)
theorem toNs_l0 (xs:List Name) (hs:∀ x ∈ xs,smallN x) (hlen:xs.length<=1048576):∀ n i:Nat,i+n=xs.length->∀ ys:List Name,ys.length=xs.length->ys.take i=xs.take i->Ev (fun k=>laws_toNameS_p.l0 k xs ys i) xs
 | 0,i,h,ys,hy,ht=>by
  refine Ev.step (fun k=>by rw [laws_toNameS_p.l0]) ?_
  simp (disch:=omega) only [cneg]
  have:ys=xs:=by
   rw [List.take_of_length_le (by omega),List.take_of_length_le (by omega)] at ht
   exact ht
  rw [this]; exact Ev.pure _
 | n+1,i,h,ys,hy,ht=>by
  have hi:i<xs.length:=by omega
  refine Ev.step (fun k=>by rw [laws_toNameS_p.l0]) ?_
  simp (disch:=omega) only [cpos,Int.toNat_natCast,getD_at hi]
  refine Ev.bind (toN_ev _ (hs _ (List.getElem_mem hi))) ?_
  simp (disch:=omega) only [cpos,wrap_in]
  exact toNs_l0 xs hs hlen n (i+1) (by omega) (ys.set i xs[i]) (by simpa using hy) (by
   rw [List.take_add_one,List.take_add_one,List.take_set_of_le (Nat.le_refl i),ht]
   simp [show i<ys.length by omega,hi])
theorem toNs_ev (xs:List Name) (hs:∀ x ∈ xs,smallN x) (hlen:xs.length<=1048576):Ev (fun k=>laws_toNameS_p.F k xs) xs:=by
 unfold laws_toNameS_p.F
 have hn:nb .name=72:=rfl
 simp (disch:=first | omega | (simp only [hn,Int.toNat_natCast]; omega)) only [ceq,cpos,cble]
 exact Ev.bind (a:=xs) (toNs_l0 xs hs hlen xs.length 0 (by omega) _ (by simp) (by simp)) (Ev.pure _)
theorem toE_ev (a:Entry) (hs:smallE a):Ev (fun k=>laws_toEntry_p.F k a) a:=by
 unfold laws_toEntry_p.F
 have ha:=smallE_a hs
 have he:=smallE_e hs
 exact Ev.bind (toNs_ev a.authors (fun x hx=>smallNs_at ha hx) (smallNs_len ha)) (Ev.bind (toNs_ev a.editors (fun x hx=>smallNs_at he hx) (smallNs_len he)) (Ev.pure _))
theorem toEs_l0 (xs:List Entry) (hs:∀ x ∈ xs,smallE x) (hlen:xs.length<=1048576):∀ n i:Nat,i+n=xs.length->∀ ys:List Entry,ys.length=xs.length->ys.take i=xs.take i->Ev (fun k=>laws_toEntryS_p.l0 k xs ys i) xs
 | 0,i,h,ys,hy,ht=>by
  refine Ev.step (fun k=>by rw [laws_toEntryS_p.l0]) ?_
  simp (disch:=omega) only [cneg]
  have:ys=xs:=by
   rw [List.take_of_length_le (by omega),List.take_of_length_le (by omega)] at ht
   exact ht
  rw [this]; exact Ev.pure _
 | n+1,i,h,ys,hy,ht=>by
  have hi:i<xs.length:=by omega
  refine Ev.step (fun k=>by rw [laws_toEntryS_p.l0]) ?_
  simp (disch:=omega) only [cpos,Int.toNat_natCast,getD_at hi]
  refine Ev.bind (toE_ev _ (hs _ (List.getElem_mem hi))) ?_
  simp (disch:=omega) only [cpos,wrap_in]
  exact toEs_l0 xs hs hlen n (i+1) (by omega) (ys.set i xs[i]) (by simpa using hy) (by
   rw [List.take_add_one,List.take_add_one,List.take_set_of_le (Nat.le_refl i),ht]
   simp [show i<ys.length by omega,hi])
theorem toEs_ev (xs:List Entry) (hs:∀ x ∈ xs,smallE x) (hlen:xs.length<=1048576):Ev (fun k=>laws_toEntryS_p.F k xs) xs:=by
 unfold laws_toEntryS_p.F
 have hn:nb .entry=192:=rfl
 simp (disch:=first | omega | (simp only [hn,Int.toNat_natCast]; omega)) only [ceq,cpos,cble]
 exact Ev.bind (a:=xs) (toEs_l0 xs hs hlen xs.length 0 (by omega) _ (by simp) (by simp)) (Ev.pure _)
theorem toL_ev (a:Library) (hs:smallL a):Ev (fun k=>laws_toLibrary_p.F k a) a:=by
 unfold laws_toLibrary_p.F
 exact Ev.bind (toEs_ev a.entries (fun x hx=>smallL_at hs hx) (smallL_len hs)) (Ev.pure _)
theorem eqN_ev (a:Name) (hs:smallN a):Ev (fun k=>laws_eqName.F k a a) true:=by
 unfold laws_eqName.F
 refine Ev.bind (eqS_ev a.given (by unfold smallN totN at hs; omega)) ?_
 simp only [beqS_self,Bool.not_true,cond_false]
 exact Ev.pure _
theorem eqD_ev (a:Date):laws_eqDate.F a a=some true:=by
 unfold laws_eqDate.F
 simp only [bne_self_eq_false,beq_self_eq_true,Bool.not_true,cond_false]
theorem eqNs_l0 (xs:List Name) (hs:∀ x ∈ xs,smallN x) (hlen:xs.length<=1048576):∀ n i:Nat,i+n=xs.length->Ev (fun k=>laws_eqNameS.l0 k xs xs i) (.inr ())
 | 0,i,h=>by
  refine Ev.step (fun k=>by rw [laws_eqNameS.l0]) ?_
  simp (disch:=omega) only [cneg]
  exact Ev.pure _
 | n+1,i,h=>by
  have hi:i<xs.length:=by omega
  refine Ev.step (fun k=>by rw [laws_eqNameS.l0]) ?_
  simp (disch:=omega) only [cpos,Int.toNat_natCast,getD_at hi]
  refine Ev.bind (eqN_ev _ (hs _ (List.getElem_mem hi))) ?_
  simp (disch:=omega) only [Bool.not_true,cond_false,wrap_in]
  exact eqNs_l0 xs hs hlen n (i+1) (by omega)
theorem eqNs_ev (xs:List Name) (hs:∀ x ∈ xs,smallN x) (hlen:xs.length<=1048576):Ev (fun k=>laws_eqNameS.F k xs xs) true:=by
 unfold laws_eqNameS.F
 simp (disch:=omega) only [cbeq]
 exact Ev.bind (eqNs_l0 xs hs hlen xs.length 0 (by omega)) (Ev.pure _)
theorem eqE_ev (a:Entry) (hs:smallE a):Ev (fun k=>laws_eqEntry.F k a a) true:=by
 unfold laws_eqEntry.F
 have ha:=smallE_a hs
 have he:=smallE_e hs
 simp only [beqS_self,bne_self_eq_false,Bool.not_true,cond_false]
 refine Ev.bind (eqNs_ev a.authors (fun x hx=>smallNs_at ha hx) (smallNs_len ha)) ?_
 simp only [Bool.not_true,cond_false]
 refine Ev.bind (eqNs_ev a.editors (fun x hx=>smallNs_at he hx) (smallNs_len he)) ?_
 simp only [Bool.not_true,cond_false]
 refine Ev.bind0 (eqD_ev _) ?_
 simp only [Bool.not_true,cond_false]
 exact Ev.pure _
theorem eqEs_l0 (xs:List Entry) (hs:∀ x ∈ xs,smallE x) (hlen:xs.length<=1048576):∀ n i:Nat,i+n=xs.length->Ev (fun k=>laws_eqEntryS.l0 k xs xs i) (.inr ())
 | 0,i,h=>by
  refine Ev.step (fun k=>by rw [laws_eqEntryS.l0]) ?_
  simp (disch:=omega) only [cneg]
  exact Ev.pure _
 | n+1,i,h=>by
  have hi:i<xs.length:=by omega
  refine Ev.step (fun k=>by rw [laws_eqEntryS.l0]) ?_
  simp (disch:=omega) only [cpos,Int.toNat_natCast,getD_at hi]
  refine Ev.bind (eqE_ev _ (hs _ (List.getElem_mem hi))) ?_
  simp (disch:=omega) only [Bool.not_true,cond_false,wrap_in]
  exact eqEs_l0 xs hs hlen n (i+1) (by omega)
theorem eqEs_ev (xs:List Entry) (hs:∀ x ∈ xs,smallE x) (hlen:xs.length<=1048576):Ev (fun k=>laws_eqEntryS.F k xs xs) true:=by
 unfold laws_eqEntryS.F
 simp (disch:=omega) only [cbeq]
 exact Ev.bind (eqEs_l0 xs hs hlen xs.length 0 (by omega)) (Ev.pure _)
theorem eqL_ev (a:Library) (hs:smallL a):Ev (fun k=>laws_eqLibrary.F k a a) true:=by
 unfold laws_eqLibrary.F
 refine Ev.bind (eqEs_ev a.entries (fun x hx=>smallL_at hs hx) (smallL_len hs)) ?_
 simp only [Bool.not_true,cond_false]
 exact Ev.pure _
end Go.Proofs.YtehijcmhhkchiaaGreatDoor
end
section
/- Plain laws: slices.IndexFunc,slices.DeleteFunc,as they are printed for a function value. -/
namespace Go.Gx
section
variable {α:Type} {d:α} {p:α->Bool} {q:Nat -> α->Option Bool} {xs:List α}
theorem getDat {α:Type} {xs:List α} {i:Nat} (h:i<xs.length) (d:α):xs.getD i d=xs[i]:=by simp [List.getD,List.getElem?_eq_getElem h]
theorem idx_l0 {l0:Nat->List α->Int->Int->Option (Sum Int Unit)} (H:∀ k x0 x7 x8,l0 (k+1) x0 x7 x8=bif (decide (x8<x7)) then (bif decide (0<=x8) then (bif decide (x8<(x0.length:Int)) then ((q k (x0.getD (x8:Int).toNat d)).bind fun r1=>bif r1 then (some (.inl x8)) else (l0 k x0 x7 (IntKind.wrap .i64 (x8+1)))) else none) else none) else (some (.inr ())))
  (hq:∀ x,x ∈ xs->Ev (fun k=>q k x) (p x)) (hl:xs.length<=4611686018427387904):∀ n i:Nat,i+n=xs.length->(∀ x ∈ xs.take i,p x=false) ->
  ∃ r,Ev (fun k=>l0 k xs xs.length i) r/\((r = .inr ()/\∀ x ∈ xs,p x=false)\/∃ j:Nat,r = .inl j/\j<xs.length/\p (xs.getD j d)=true/\∀ x ∈ xs.take j,p x=false)
 | 0,i,h,ht=>by
  refine ⟨.inr (),Ev.step (fun k=>by rw [H]) ?_,.inl ⟨rfl,by rw [List.take_of_length_le (by omega)] at ht; exact ht⟩⟩
  simp (disch:=omega) only [cneg]
  exact Ev.pure _
 | n+1,i,h,ht=>by
  have hi:i<xs.length:=by omega
  cases hp:p xs[i] with
  | true=>
   refine ⟨.inl i,Ev.step (fun k=>by rw [H]) ?_,.inr ⟨i,rfl,hi,by rw [getDat hi,hp],ht⟩⟩
   simp (disch:=omega) only [cpos,Int.toNat_natCast,getDat hi]
   refine Ev.bind (hq _ (List.getElem_mem hi)) ?_
   rw [hp]
   exact Ev.pure _
  | false=>
   obtain ⟨r,h1,h2⟩:=idx_l0 H hq hl n (i+1) (by omega) (by
    intro x hx
    rw [List.take_add_one,List.getElem?_eq_getElem hi] at hx
    rcases List.mem_append.1 hx with hx | hx
    ·exact ht x hx
    ·simp only [Option.toList_some,List.mem_singleton] at hx
     rw [hx,hp])
   refine ⟨r,Ev.step (fun k=>by rw [H]) ?_,h2⟩
   simp (disch:=omega) only [cpos,Int.toNat_natCast,getDat hi]
   refine Ev.bind (hq _ (List.getElem_mem hi)) ?_
   rw [hp]
   simp (disch:=omega) only [cond_false,wrap_in]
   exact h1
theorem idx_ev {l0:Nat->List α->Int->Int->Option (Sum Int Unit)} (H:∀ k x0 x7 x8,l0 (k+1) x0 x7 x8=bif (decide (x8<x7)) then (bif decide (0<=x8) then (bif decide (x8<(x0.length:Int)) then ((q k (x0.getD (x8:Int).toNat d)).bind fun r1=>bif r1 then (some (.inl x8)) else (l0 k x0 x7 (IntKind.wrap .i64 (x8+1)))) else none) else none) else (some (.inr ())))
  (hq:∀ x,x ∈ xs->Ev (fun k=>q k x) (p x)) (hl:xs.length<=4611686018427387904) {F:Nat->List α->Option Int} (HF:∀ k a0,F k a0=(l0 k a0 (a0.length:Int) 0).bind fun y2=>match y2 with | .inl z3=>some z3 | .inr z3=>some (-1)) :
  ∃ r,Ev (fun k=>F k xs) r/\((r = -1/\∀ x ∈ xs,p x=false)\/∃ j:Nat,r=j/\j<xs.length/\p (xs.getD j d)=true/\∀ x ∈ xs.take j,p x=false):=by
 obtain ⟨r,h1,h2⟩:=idx_l0 H hq hl xs.length 0 (by omega) (fun x hx=>by simp at hx)
 rcases h2 with ⟨rfl,h2⟩ | ⟨j,rfl,h2⟩
 ·exact ⟨-1,Ev.congr (Ev.bind h1 (Ev.pure _)) (fun k=>HF k xs),.inl ⟨rfl,h2⟩⟩
 ·exact ⟨j,Ev.congr (Ev.bind h1 (Ev.pure _)) (fun k=>HF k xs),.inr ⟨j,rfl,h2⟩⟩
end
end Go.Gx
end
section
/- Plain laws: keys,names,dates,entries,libraries: are they valid? -/
namespace Go.Proofs.YtehijcmhhkchiaaGreatDoor
open Go.Gx
theorem in_ev (a b c:Int):spec_l1In.F a b c=some (decide (a ≥ b) && decide (a<=c)):=by
 unfold spec_l1In.F
 cases decide (a ≥ b) <;> rfl
theorem inside_ev (a b c:Int):impl_inside.F a b c=some (decide (a ≥ b) && decide (a<=c)):=by
 unfold impl_inside.F
 cases decide (a ≥ b) <;> rfl
theorem and_step {f:Nat->Option Bool} {b c:Bool} (h:b=true->Ev f c):Ev (fun k=>bif (!b) then some false else f k) (b && c):=by
 cases b with
 | false=>exact Ev.pure _
 | true=>exact h rfl
theorem and_step' {f:Nat->Option Bool} {b c:Bool} (h:b=true->Ev f c):Ev (fun k=>bif b then f k else some false) (b && c):=by
 cases b with
 | false=>exact Ev.pure _
 | true=>exact h rfl
def lowc (b:Int):Bool:=decide (97<=b) && decide (b<=122)
def upc (b:Int):Bool:=decide (65<=b) && decide (b<=90)
def ltr (b:Int):Bool:=upc b || lowc b
def dig (b:Int):Bool:=decide (48<=b) && decide (b<=57)
theorem sLower (b:Int):spec_l2Lower.F b=some (lowc b):=by
 unfold spec_l2Lower.F lowc
 simp only [ge_iff_le]
 cases decide (97<=b) <;> rfl
theorem sUpper (b:Int):spec_l2Upper.F b=some (upc b):=by
 unfold spec_l2Upper.F upc
 simp only [ge_iff_le]
 cases decide (65<=b) <;> rfl
theorem sLetter (b:Int):spec_l2Letter.F b=some (ltr b):=by
 unfold spec_l2Letter.F ltr
 rw [sUpper,sLower]
 cases upc b <;> rfl
theorem iLower (b:Int):impl_isLower.F b=some (lowc b):=by
 unfold impl_isLower.F lowc
 simp only [ge_iff_le]
 cases decide (97<=b) <;> rfl
theorem iUpper (b:Int):impl_isUpper.F b=some (upc b):=by
 unfold impl_isUpper.F upc
 simp only [ge_iff_le]
 cases decide (65<=b) <;> rfl
theorem iLetter (b:Int):impl_isLetter.F b=some (ltr b):=by
 unfold impl_isLetter.F ltr
 rw [iUpper,iLower]
 cases upc b <;> rfl
theorem iDigit (b:Int):impl_isDigit.F b=some (dig b):=by
 unfold impl_isDigit.F dig
 simp only [ge_iff_le]
 cases decide (48<=b) <;> rfl
def ins (n:Nat) (lo hi:Int):Bool:=decide ((n:Int) ≥ lo) && decide ((n:Int)<=hi)
theorem ins_le {n:Nat} {lo hi:Int} (h:ins n lo hi=true):lo<=n/\(n:Int)<=hi:=by
 unfold ins at h
 simp only [Bool.and_eq_true,decide_eq_true_eq] at h
 exact h
def kb (s:ByteArray) (i:Nat):Bool:=lowc (bt s i) || dig (bt s i)
def keyB (s:ByteArray):Bool:=ins s.size 1 10 && (lowc (bt s 0) && (List.range' 0 s.size).all (kb s))
theorem specKey_l0 (s:ByteArray) (hs:s.size<=10):Ev (fun k=>spec_l4Key.l0 k s ((0:Nat):Int)) (if (List.range' 0 s.size).all (kb s)=true then .inr () else .inl false):=by
 refine loop_all (f:=fun k i=>spec_l4Key.l0 k s i) (n:=s.size) (fun i hi hp=> ?_) (fun i r hi hp ih=> ?_) ?_ s.size 0 (by omega)
 ·refine Ev.step (fun k=>by rw [spec_l4Key.l0]) ?_
  unfold kb at hp
  rw [Bool.or_eq_false_iff] at hp
  simp (disch:=omega) only [cpos,Int.toNat_natCast]
  refine Ev.bind0 (sLower _) ?_
  rw [hp.1]
  have h2:=hp.2
  unfold dig at h2
  by_cases c:bt s i<48
  ·simp (disch:=omega) only [cpos,Bool.not_false,cond_true]
   exact Ev.pure _
  ·have c2:bt s i > 57:=by
    rw [decide_eq_true (show 48<=bt s i by omega),Bool.true_and,decide_eq_false_iff_not] at h2
    omega
   simp (disch:=omega) only [cpos,cneg,Bool.not_false,cond_true]
   exact Ev.pure _
 ·refine Ev.step (fun k=>by rw [spec_l4Key.l0]) ?_
  simp (disch:=omega) only [cpos,Int.toNat_natCast]
  refine Ev.bind0 (sLower _) ?_
  cases hl:lowc (bt s i) with
  | true=>
   simp (disch:=omega) only [Bool.not_true,cond_false,wrap_in]
   exact ih
  | false=>
   unfold kb at hp
   rw [hl,Bool.false_or] at hp
   unfold dig at hp
   simp only [Bool.and_eq_true,decide_eq_true_eq] at hp
   simp (disch:=omega) only [Bool.not_false,cond_true,cpos,cneg,wrap_in]
   exact ih
 ·refine Ev.step (fun k=>by rw [spec_l4Key.l0]) ?_
  simp (disch:=omega) only [cneg]
  exact Ev.pure _
theorem isKey_l0 (s:ByteArray) (hs:s.size<=10):Ev (fun k=>impl_isKey.l0 k s ((0:Nat):Int)) (if (List.range' 0 s.size).all (kb s)=true then .inr () else .inl false):=by
 refine loop_all (f:=fun k i=>impl_isKey.l0 k s i) (n:=s.size) (fun i hi hp=> ?_) (fun i r hi hp ih=> ?_) ?_ s.size 0 (by omega)
 ·refine Ev.step (fun k=>by rw [impl_isKey.l0]) ?_
  unfold kb at hp
  rw [Bool.or_eq_false_iff] at hp
  simp (disch:=omega) only [cpos,Int.toNat_natCast]
  refine Ev.bind0 (iLower _) ?_
  rw [hp.1]
  simp (disch:=omega) only [Bool.not_false,cond_true,cpos]
  refine Ev.bind0 (iDigit _) ?_
  rw [hp.2]
  exact Ev.pure _
 ·refine Ev.step (fun k=>by rw [impl_isKey.l0]) ?_
  simp (disch:=omega) only [cpos,Int.toNat_natCast]
  refine Ev.bind0 (iLower _) ?_
  cases hl:lowc (bt s i) with
  | true=>
   simp (disch:=omega) only [Bool.not_true,cond_false,wrap_in]
   exact ih
  | false=>
   unfold kb at hp
   rw [hl,Bool.false_or] at hp
   simp (disch:=omega) only [Bool.not_false,cond_true,cpos]
   refine Ev.bind0 (iDigit _) ?_
   rw [hp]
   simp (disch:=omega) only [Bool.not_true,cond_false,wrap_in]
   exact ih
 ·refine Ev.step (fun k=>by rw [impl_isKey.l0]) ?_
  simp (disch:=omega) only [cneg]
  exact Ev.pure _
theorem specKey_ev (s:ByteArray):Ev (fun k=>spec_l4Key.F k s) (keyB s):=by
 unfold spec_l4Key.F keyB
 refine Ev.bind0 (in_ev _ _ _) (and_step fun h=> ?_)
 obtain ⟨h1,h2⟩:=ins_le h
 simp (disch:=omega) only [cpos,show (0:Int).toNat=0 from rfl]
 refine Ev.bind0 (sLower _) (and_step fun _=> ?_)
 have:=specKey_l0 s (by omega)
 cases ha:(List.range' 0 s.size).all (kb s) with
 | true=>rw [ha] at this; exact Ev.bind this (Ev.pure _)
 | false=>rw [ha] at this; exact Ev.bind this (Ev.pure _)
theorem isKey_ev (s:ByteArray):Ev (fun k=>impl_isKey.F k s) (keyB s):=by
 unfold impl_isKey.F keyB
 refine Ev.bind0 (inside_ev _ _ _) (and_step fun h=> ?_)
 obtain ⟨h1,h2⟩:=ins_le h
 simp (disch:=omega) only [cpos,show (0:Int).toNat=0 from rfl]
 refine Ev.bind0 (iLower _) (and_step fun _=> ?_)
 have:=isKey_l0 s (by omega)
 cases ha:(List.range' 0 s.size).all (kb s) with
 | true=>rw [ha] at this; exact Ev.bind this (Ev.pure _)
 | false=>rw [ha] at this; exact Ev.bind this (Ev.pure _)
def wp (s:ByteArray) (i:Nat):Bool:=ltr (bt s i) || ((bt s i==45 || bt s i==39) && ltr (bt s (i-1)))
def wordB (s:ByteArray):Bool:=ins s.size 1 12 && (ltr (bt s 0) && (ltr (bt s (s.size-1)) && (List.range' 1 (s.size-1)).all (wp s)))
theorem wcase {s:ByteArray} {i:Nat} (h:ltr (bt s i)=false) (h1:bt s i ≠ 45) (h2:bt s i ≠ 39):wp s i=false:=by
 unfold wp
 rw [h,show (bt s i==45)=false by simpa using h1,show (bt s i==39)=false by simpa using h2]; rfl
theorem wcase' {s:ByteArray} {i:Nat} (h:ltr (bt s i)=false) (h1:bt s i=45\/bt s i=39):wp s i=ltr (bt s (i-1)):=by
 unfold wp
 rw [h]
 rcases h1 with h1 | h1 <;> rw [h1] <;> simp
theorem specWord_l0 (s:ByteArray) (hs:s.size<=12):∀ m i:Nat,i+m=s.size->1<=i->Ev (fun k=>spec_l2Word.l0 k s i) (if (List.range' i m).all (wp s)=true then .inr () else .inl false)
 | 0,i,h,h1=>by
  refine Ev.step (fun k=>by rw [spec_l2Word.l0]) ?_
  simp (disch:=omega) only [cneg]
  exact Ev.pure _
 | m+1,i,h,h1=>by
  have ih:=specWord_l0 s hs m (i+1) (by omega) (by omega)
  have et:((i:Int)-1).toNat=i-1:=by omega
  refine Ev.step (fun k=>by rw [spec_l2Word.l0]) ?_
  rw [List.range'_succ,List.all_cons]
  simp (disch:=omega) only [cpos,Int.toNat_natCast]
  refine Ev.bind0 (sLetter _) ?_
  cases hl:ltr (bt s i) with
  | true=>
   have:wp s i=true:=by unfold wp; rw [hl]; rfl
   rw [this]
   simp (disch:=omega) only [Bool.not_true,cond_false,Bool.true_and,wrap_in]
   exact ih
  | false=>
   have fin:(bt s i=45\/bt s i=39)->Ev (fun k=>(spec_l2Letter.F (bt s (i-1))).bind fun r5=>bif (!r5) then (some (.inl false)) else (spec_l2Word.l0 k s ((i:Int)+1))) (if (wp s i && (List.range' (i+1) m).all (wp s))=true then .inr () else .inl false):=fun hh=>by
    refine Ev.bind0 (sLetter _) ?_
    rw [wcase' hl hh]
    cases ltr (bt s (i-1)) with
    | true=>exact ih
    | false=>exact Ev.pure _
   by_cases c1:bt s i=45
   ·simp (disch:=first | exact c1 | omega) only [Bool.not_false,cond_true,cpos,cbeq,wrap_in,et]
    exact fin (.inl c1)
   ·by_cases c2:bt s i=39
    ·simp (disch:=first | exact c1 | exact c2 | omega) only [Bool.not_false,cond_true,cpos,cbne,cbeq,wrap_in,et]
     exact fin (.inr c2)
    ·rw [wcase hl c1 c2]
     simp (disch:=first | exact c1 | exact c2 | omega) only [Bool.not_false,cond_true,cpos,cbne]
     exact Ev.pure _
theorem isWord_l0 (s:ByteArray) (hs:s.size<=12):∀ m i:Nat,i+m=s.size->1<=i->Ev (fun k=>impl_isNameWord.l0 k s i) (if (List.range' i m).all (wp s)=true then .inr () else .inl false)
 | 0,i,h,h1=>by
  refine Ev.step (fun k=>by rw [impl_isNameWord.l0]) ?_
  simp (disch:=omega) only [cneg]
  exact Ev.pure _
 | m+1,i,h,h1=>by
  have ih:=isWord_l0 s hs m (i+1) (by omega) (by omega)
  have et:((i:Int)-1).toNat=i-1:=by omega
  refine Ev.step (fun k=>by rw [impl_isNameWord.l0]) ?_
  rw [List.range'_succ,List.all_cons]
  simp (disch:=omega) only [cpos,Int.toNat_natCast]
  refine Ev.bind0 (iLetter _) ?_
  cases hl:ltr (bt s i) with
  | true=>
   have:wp s i=true:=by unfold wp; rw [hl]; rfl
   rw [this]
   simp (disch:=omega) only [Bool.not_true,cond_false,Bool.true_and,wrap_in]
   exact ih
  | false=>
   have fin:(bt s i=45\/bt s i=39)->Ev (fun k=>(impl_isLetter.F (bt s (i-1))).bind fun r5=>bif (!r5) then (some (.inl false)) else (impl_isNameWord.l0 k s ((i:Int)+1))) (if (wp s i && (List.range' (i+1) m).all (wp s))=true then .inr () else .inl false):=fun hh=>by
    refine Ev.bind0 (iLetter _) ?_
    rw [wcase' hl hh]
    cases ltr (bt s (i-1)) with
    | true=>exact ih
    | false=>exact Ev.pure _
   by_cases c1:bt s i=45
   ·simp (disch:=first | exact c1 | omega) only [Bool.not_false,cond_true,cpos,cbeq,wrap_in,et]
    exact fin (.inl c1)
   ·by_cases c2:bt s i=39
    ·simp (disch:=first | exact c1 | exact c2 | omega) only [Bool.not_false,cond_true,cpos,cbne,cbeq,wrap_in,et]
     exact fin (.inr c2)
    ·rw [wcase hl c1 c2]
     simp (disch:=first | exact c1 | exact c2 | omega) only [Bool.not_false,cond_true,cpos,cbne]
     exact Ev.pure _
theorem specWord_ev (s:ByteArray):Ev (fun k=>spec_l2Word.F k s) (wordB s):=by
 unfold spec_l2Word.F wordB
 refine Ev.bind0 (in_ev _ _ _) (and_step fun h=> ?_)
 obtain ⟨h1,h2⟩:=ins_le h
 have et:((s.size:Int)-1).toNat=s.size-1:=by omega
 simp (disch:=omega) only [cpos,show (0:Int).toNat=0 from rfl,wrap_in,et]
 refine Ev.bind0 (sLetter _) (and_step fun _=> ?_)
 refine Ev.bind0 (sLetter _) (and_step fun _=> ?_)
 have:=specWord_l0 s (by omega) (s.size-1) 1 (by omega) (Nat.le_refl _)
 cases ha:(List.range' 1 (s.size-1)).all (wp s) with
 | true=>rw [ha] at this; exact Ev.bind this (Ev.pure _)
 | false=>rw [ha] at this; exact Ev.bind this (Ev.pure _)
theorem isWord_ev (s:ByteArray):Ev (fun k=>impl_isNameWord.F k s) (wordB s):=by
 unfold impl_isNameWord.F wordB
 refine Ev.bind0 (inside_ev _ _ _) (and_step fun h=> ?_)
 obtain ⟨h1,h2⟩:=ins_le h
 have et:((s.size:Int)-1).toNat=s.size-1:=by omega
 simp (disch:=omega) only [cpos,show (0:Int).toNat=0 from rfl,wrap_in,et]
 refine (Ev.bind0 (iLetter _) (and_step (c:=ltr (bt s 0) && (List.range' 1 (s.size-1)).all (wp s)) fun _=> ?_)).eq (Bool.and_left_comm _ _ _)
 refine Ev.bind0 (iLetter _) (and_step fun h0=> ?_)
 have:=isWord_l0 s (by omega) (s.size-1) 1 (by omega) (Nat.le_refl _)
 refine Ev.bind (a:=if (List.range' 1 (s.size-1)).all (wp s)=true then .inr () else .inl false) ?_ ?_
 ·refine Ev.step (fun k=>by rw [impl_isNameWord.l0]) ?_
  simp (disch:=omega) only [cpos,show (0:Int).toNat=0 from rfl]
  refine Ev.bind0 (iLetter _) ?_
  rw [h0]
  simp (disch:=omega) only [Bool.not_true,cond_false,wrap_in]
  exact this
 ·cases (List.range' 1 (s.size-1)).all (wp s) <;> exact Ev.pure _
def lowA (s:ByteArray):Bool:=(List.range' 0 s.size).all fun i=>lowc (bt s i)
theorem lowA_word {s:ByteArray} (h:lowA s=true):wordB s=ins s.size 1 12:=by
 unfold lowA at h
 rw [List.all_eq_true] at h
 have hl:∀ i,i<s.size->ltr (bt s i)=true:=fun i hi=>by
  unfold ltr
  rw [h i (by rw [List.mem_range'_1]; omega),Bool.or_true]
 unfold wordB
 cases hi:ins s.size 1 12 with
 | false=>rfl
 | true=>
  obtain ⟨h1,h2⟩:=ins_le hi
  rw [hl 0 (by omega),hl (s.size-1) (by omega)]
  have:(List.range' 1 (s.size-1)).all (wp s)=true:=by
   rw [List.all_eq_true]
   intro i hi
   rw [List.mem_range'_1] at hi
   unfold wp
   rw [hl i (by omega)]; rfl
  rw [this]; rfl
def pw (s:ByteArray):Bool:=ins s.size 1 12 && lowA s
theorem pw_eq (s:ByteArray):(wordB s && lowA s)=pw s:=by
 unfold pw
 cases h:lowA s with
 | false=>rw [Bool.and_false,Bool.and_false]
 | true=>rw [lowA_word h]
def particleB (s:ByteArray):Bool:=decide (s.size=0) || ((words s).all pw && decide ((words s).length<=2))
theorem empty_eq (s:ByteArray):beqS s ⟨#[]⟩=decide (s.size=0):=by
 rw [<- Bool.not_not (b:=beqS s ⟨#[]⟩),size_pos]
 by_cases hz:s.size=0
 ·simp [hz]
 ·rw [decide_eq_true (by omega:0<s.size),decide_eq_false hz]; rfl
theorem specPart_l2 (W:List ByteArray) (i:Nat) (hi:i<W.length) (hs:W[i].size<=1048576):Ev (fun k=>spec_l2Particle.l2 k W i ((0:Nat):Int)) (if lowA W[i]=true then .inr (W,(i:Int)) else .inl false):=by
 refine loop_all (f:=fun k j=>spec_l2Particle.l2 k W i j) (n:=W[i].size) (p:=fun j=>lowc (bt W[i] j)) (fun j hj hp=> ?_) (fun j r hj hp ih=> ?_) ?_ W[i].size 0 (by omega)
 ·refine Ev.step (fun k=>by rw [spec_l2Particle.l2]) ?_
  simp (disch:=omega) only [cpos,Int.toNat_natCast,getD_at hi]
  refine Ev.bind0 (sLower _) ?_
  rw [hp]
  exact Ev.pure _
 ·refine Ev.step (fun k=>by rw [spec_l2Particle.l2]) ?_
  simp (disch:=omega) only [cpos,Int.toNat_natCast,getD_at hi]
  refine Ev.bind0 (sLower _) ?_
  rw [hp]
  simp (disch:=omega) only [Bool.not_true,cond_false,wrap_in]
  exact ih
 ·refine Ev.step (fun k=>by rw [spec_l2Particle.l2]) ?_
  simp (disch:=omega) only [cpos,cneg,Int.toNat_natCast,getD_at hi]
  exact Ev.pure _
theorem isPart_l2 (W:List ByteArray) (w:ByteArray) (n i:Int) (hs:w.size<=1048576):Ev (fun k=>impl_isParticle.l2 k W w ((0:Nat):Int) n i) (if lowA w=true then .inr (W,n,i) else .inl false):=by
 refine loop_all (f:=fun k j=>impl_isParticle.l2 k W w j n i) (n:=w.size) (p:=fun j=>lowc (bt w j)) (fun j hj hp=> ?_) (fun j r hj hp ih=> ?_) ?_ w.size 0 (by omega)
 ·refine Ev.step (fun k=>by rw [impl_isParticle.l2]) ?_
  simp (disch:=omega) only [cpos,Int.toNat_natCast]
  refine Ev.bind0 (iLower _) ?_
  rw [hp]
  exact Ev.pure _
 ·refine Ev.step (fun k=>by rw [impl_isParticle.l2]) ?_
  simp (disch:=omega) only [cpos,Int.toNat_natCast]
  refine Ev.bind0 (iLower _) ?_
  rw [hp]
  simp (disch:=omega) only [Bool.not_true,cond_false,wrap_in]
  exact ih
 ·refine Ev.step (fun k=>by rw [impl_isParticle.l2]) ?_
  simp (disch:=omega) only [cneg]
  exact Ev.pure _
theorem specPart_l0 (W:List ByteArray) (hl:W.length<=1048577) (hW:∀ x ∈ W,x.size<=1048576):Ev (fun k=>spec_l2Particle.l0 k W ((0:Nat):Int)) (if (List.range' 0 W.length).all (fun i=>pw (W.getD i ⟨#[]⟩))=true then .inr W else .inl false):=by
 refine loop_all (f:=fun k j=>spec_l2Particle.l0 k W j) (n:=W.length) (p:=fun i=>pw (W.getD i ⟨#[]⟩)) (fun j hj hp=> ?_) (fun j r hj hp ih=> ?_) ?_ W.length 0 (by omega)
 ·rw [getD_at hj,<- pw_eq] at hp
  refine Ev.step (fun k=>by rw [spec_l2Particle.l0]) ?_
  simp (disch:=omega) only [cpos,Int.toNat_natCast,getD_at hj]
  refine Ev.bind (specWord_ev _) ?_
  cases hw:wordB W[j] with
  | false=>exact Ev.pure _
  | true=>
   rw [hw,Bool.true_and] at hp
   have:=specPart_l2 W j hj (hW _ (List.getElem_mem hj))
   rw [hp] at this
   exact Ev.bind this (Ev.pure _)
 ·rw [getD_at hj,<- pw_eq,Bool.and_eq_true] at hp
  refine Ev.step (fun k=>by rw [spec_l2Particle.l0]) ?_
  simp (disch:=omega) only [cpos,Int.toNat_natCast,getD_at hj]
  refine Ev.bind (specWord_ev _) ?_
  rw [hp.1]
  have:=specPart_l2 W j hj (hW _ (List.getElem_mem hj))
  rw [hp.2] at this
  refine Ev.bind (a:=.inr (W,(j:Int))) this ?_
  simp (disch:=omega) only [wrap_in]
  exact ih
 ·refine Ev.step (fun k=>by rw [spec_l2Particle.l0]) ?_
  simp (disch:=omega) only [cneg]
  exact Ev.pure _
theorem isPart_l0 (W:List ByteArray) (hl:W.length<=1048577) (hW:∀ x ∈ W,x.size<=1048576):Ev (fun k=>impl_isParticle.l0 k W W.length ((0:Nat):Int)) (if (List.range' 0 W.length).all (fun i=>pw (W.getD i ⟨#[]⟩))=true then .inr W else .inl false):=by
 refine loop_all (f:=fun k j=>impl_isParticle.l0 k W W.length j) (n:=W.length) (p:=fun i=>pw (W.getD i ⟨#[]⟩)) (fun j hj hp=> ?_) (fun j r hj hp ih=> ?_) ?_ W.length 0 (by omega)
 ·rw [getD_at hj] at hp
  unfold pw at hp
  refine Ev.step (fun k=>by rw [impl_isParticle.l0]) ?_
  simp (disch:=omega) only [cpos,Int.toNat_natCast,getD_at hj]
  refine Ev.bind0 (inside_ev _ _ _) ?_
  cases hw:ins W[j].size 1 12 with
  | false=>
   unfold ins at hw
   rw [hw]
   exact Ev.pure _
  | true=>
   rw [hw,Bool.true_and] at hp
   unfold ins at hw
   rw [hw]
   have:=isPart_l2 W W[j] W.length j (hW _ (List.getElem_mem hj))
   rw [hp] at this
   exact Ev.bind this (Ev.pure _)
 ·rw [getD_at hj] at hp
  unfold pw at hp
  rw [Bool.and_eq_true] at hp
  obtain ⟨hp1,hp2⟩:=hp
  unfold ins at hp1
  refine Ev.step (fun k=>by rw [impl_isParticle.l0]) ?_
  simp (disch:=omega) only [cpos,Int.toNat_natCast,getD_at hj]
  refine Ev.bind0 (inside_ev _ _ _) ?_
  rw [hp1]
  have:=isPart_l2 W W[j] W.length j (hW _ (List.getElem_mem hj))
  rw [hp2] at this
  refine Ev.bind (a:=.inr (W,(W.length:Int),(j:Int))) this ?_
  simp (disch:=omega) only [wrap_in]
  exact ih
 ·refine Ev.step (fun k=>by rw [impl_isParticle.l0]) ?_
  simp (disch:=omega) only [cneg]
  exact Ev.pure _
theorem specPart_ev (s:ByteArray) (hs:s.size<=1048576):Ev (fun k=>spec_l2Particle.F k s) (particleB s):=by
 unfold spec_l2Particle.F particleB
 rw [empty_eq]
 cases decide (s.size=0) with
 | true=>exact Ev.pure _
 | false=>
  refine Ev.bind (specSplit_ev s hs) ?_
  have:=specPart_l0 (words s) (by have:=(words_len s).2; omega) (fun x hx=>by have:=words_small _ _ x hx; omega)
  rw [range_all (words s) ⟨#[]⟩ pw] at this
  rw [Bool.false_or]
  cases ha:(words s).all pw with
  | true=>
   rw [ha] at this
   refine Ev.bind this ((Ev.pure _).eq ?_)
   rw [Bool.true_and]; exact decide_eq_decide.2 (by omega)
  | false=>rw [ha] at this; exact Ev.bind this (Ev.pure _)
theorem isPart_ev (s:ByteArray) (hs:s.size<=1048576):Ev (fun k=>impl_isParticle.F k s) (particleB s):=by
 unfold impl_isParticle.F particleB
 rw [empty_eq]
 cases decide (s.size=0) with
 | true=>exact Ev.pure _
 | false=>
  refine Ev.bind0 (split_ev s hs) ?_
  have:=isPart_l0 (words s) (by have:=(words_len s).2; omega) (fun x hx=>by have:=words_small _ _ x hx; omega)
  rw [range_all (words s) ⟨#[]⟩ pw] at this
  rw [Bool.false_or]
  cases ha:(words s).all pw with
  | true=>
   rw [ha] at this
   refine Ev.bind this ((Ev.pure _).eq ?_)
   rw [Bool.true_and]; exact decide_eq_decide.2 (by omega)
  | false=>rw [ha] at this; exact Ev.bind this (Ev.pure _)
def gw (s:ByteArray):Bool:=wordB s && upc (bt s 0)
theorem word_size {s:ByteArray} (h:wordB s=true):1<=s.size:=by
 unfold wordB at h
 rw [Bool.and_eq_true] at h
 have:=(ins_le h.1).1
 omega
theorem isGreat_ev (s:ByteArray):Ev (fun k=>impl_isGreatWord.F k s) (gw s):=by
 unfold impl_isGreatWord.F gw
 refine Ev.bind (isWord_ev s) (and_step' fun h=> ?_)
 have:=word_size h
 simp (disch:=omega) only [cpos,show (0:Int).toNat=0 from rfl]
 exact Ev.bind0 (iUpper _) (Ev.pure _)
def suffB (s:ByteArray):Bool:=decide (s.size=0) || wordB s
def nameB (n:Name):Bool:=n.given.all gw && (decide (n.given.length<=3) && (particleB n.particle && (gw n.family && suffB n.suffix)))
theorem specGood_l0 (n:Name) (hn:n.given.length<=1048576):Ev (fun k=>spec_l2Good.l0 k n ((0:Nat):Int)) (if (List.range' 0 n.given.length).all (fun i=>gw (n.given.getD i ⟨#[]⟩))=true then .inr n else .inl false):=by
 refine loop_all (f:=fun k j=>spec_l2Good.l0 k n j) (n:=n.given.length) (p:=fun i=>gw (n.given.getD i ⟨#[]⟩)) (fun j hj hp=> ?_) (fun j r hj hp ih=> ?_) ?_ n.given.length 0 (by omega)
 ·rw [getD_at hj] at hp
  unfold gw at hp
  refine Ev.step (fun k=>by rw [spec_l2Good.l0]) ?_
  simp (disch:=omega) only [cpos,Int.toNat_natCast,getD_at hj]
  refine Ev.bind (specWord_ev _) ?_
  cases hw:wordB n.given[j] with
  | false=>exact Ev.pure _
  | true=>
   rw [hw,Bool.true_and] at hp
   have:=word_size hw
   simp (disch:=omega) only [cpos,show (0:Int).toNat=0 from rfl,Bool.not_true,cond_false]
   refine Ev.bind0 (sUpper _) ?_
   rw [hp]
   exact Ev.pure _
 ·rw [getD_at hj] at hp
  unfold gw at hp
  rw [Bool.and_eq_true] at hp
  have:=word_size hp.1
  refine Ev.step (fun k=>by rw [spec_l2Good.l0]) ?_
  simp (disch:=omega) only [cpos,Int.toNat_natCast,getD_at hj]
  refine Ev.bind (specWord_ev _) ?_
  rw [hp.1]
  simp (disch:=omega) only [cpos,show (0:Int).toNat=0 from rfl,Bool.not_true,cond_false]
  refine Ev.bind0 (sUpper _) ?_
  rw [hp.2]
  simp (disch:=omega) only [Bool.not_true,cond_false,wrap_in]
  exact ih
 ·refine Ev.step (fun k=>by rw [spec_l2Good.l0]) ?_
  simp (disch:=omega) only [cneg]
  exact Ev.pure _
theorem specName_ev (n:Name) (hs:smallN n):Ev (fun k=>spec_l2Good.F k n) (nameB n):=by
 have hg:n.given.length<=1048576:=by unfold smallN totN at hs; omega
 have hp:n.particle.size<=1048576:=by unfold smallN totN at hs; omega
 unfold spec_l2Good.F nameB
 have:=specGood_l0 n hg
 rw [range_all n.given ⟨#[]⟩ gw] at this
 cases ha:n.given.all gw with
 | false=>rw [ha] at this; exact Ev.bind this (Ev.pure _)
 | true=>
  rw [ha] at this
  refine Ev.bind (a:=.inr n) this ?_
  dsimp only
  rw [Bool.true_and,show decide (n.given.length<=3)=decide ((n.given.length:Int)<=3) from decide_eq_decide.2 (by omega)]
  refine and_step' fun _=> ?_
  refine Ev.bind (specPart_ev _ hp) (and_step' fun _=> ?_)
  unfold gw
  rw [Bool.and_assoc]
  refine Ev.bind (specWord_ev _) (and_step' fun h=> ?_)
  have:=word_size h
  simp (disch:=omega) only [cpos,show (0:Int).toNat=0 from rfl]
  refine Ev.bind0 (sUpper _) (and_step' fun _=> ?_)
  unfold suffB
  rw [empty_eq]
  cases decide (n.suffix.size=0) with
  | true=>exact Ev.pure _
  | false=>exact Ev.bind (specWord_ev _) (Ev.pure _)
theorem isName_ev (n:Name) (hs:smallN n):Ev (fun k=>impl_IsValidName.F k n) (nameB n):=by
 have hg:n.given.length<=1048576:=by unfold smallN totN at hs; omega
 have hp:n.particle.size<=1048576:=by unfold smallN totN at hs; omega
 unfold impl_IsValidName.F nameB
 by_cases c:n.given.length<=3
 ·simp (disch:=omega) only [cneg,dpos,Bool.true_and]
  have hq:∀ x,x ∈ n.given->Ev (fun k=>impl_IsValidName_1.F k x) (!gw x):=fun x _=>by
   unfold impl_IsValidName_1.F
   exact Ev.bind (isGreat_ev x) (Ev.pure _)
  obtain ⟨r,h1,h2⟩:=idx_ev (d:=(⟨#[]⟩:ByteArray)) (p:=fun x=> !gw x) (q:=impl_IsValidName_1.F) (xs:=n.given) (l0:=slices_IndexFunc_string_f108.l0) (fun k x0 x7 x8=>by rw [slices_IndexFunc_string_f108.l0]) hq (by omega) (F:=slices_IndexFunc_string_f108.F) (fun k a0=>rfl)
  refine Ev.bind (a:=!n.given.all gw) ?_ ?_
  ·unfold slices_ContainsFunc_string_f108.F
   refine Ev.bind h1 ((Ev.pure _).eq ?_)
   rcases h2 with ⟨rfl,h2⟩ | ⟨j,rfl,hj,hp,_⟩
   ·have:n.given.all gw=true:=List.all_eq_true.2 fun x hx=>by have:=h2 x hx; simpa using this
    rw [this]; rfl
   ·have:n.given.all gw=false:=by
     rw [List.all_eq_false]
     refine ⟨n.given[j],List.getElem_mem hj,?_⟩
     rw [getD_at hj] at hp
     simpa using hp
    rw [this,decide_eq_true (by omega)]; rfl
  ·cases n.given.all gw with
   | false=>exact Ev.pure _
   | true=>
    rw [Bool.true_and]
    refine Ev.bind (isPart_ev _ hp) (and_step' fun _=> ?_)
    refine Ev.bind (isGreat_ev _) (and_step' fun _=> ?_)
    unfold suffB
    rw [empty_eq]
    cases decide (n.suffix.size=0) with
    | true=>exact Ev.pure _
    | false=>exact Ev.bind (isWord_ev _) (Ev.pure _)
 ·simp (disch:=omega) only [cpos,dneg,Bool.false_and,Bool.and_false]
  exact Ev.pure _
def namesB (l:List Name):Bool:=l.all nameB && decide (l.length<=4)
theorem specList_l0 (l:List Name) (hl:l.length<=1048576) (hs:∀ n ∈ l,smallN n):∀ m i:Nat,i+m=l.length->∃ r,Ev (fun k=>spec_l2List.l0 k l i) r/\(r = .inl false\/r = .inr l)/\(l.length<=4->r=if (l.drop i).all nameB=true then .inr l else .inl false)
 | 0,i,h=>by
  refine ⟨.inr l,Ev.step (fun k=>by rw [spec_l2List.l0]) ?_,.inr rfl,fun _=>by rw [List.drop_eq_nil_of_le (by omega)]; rfl⟩
  simp (disch:=omega) only [cneg]
  exact Ev.pure _
 | m+1,i,h=>by
  have hi:i<l.length:=by omega
  by_cases c4:(i:Int)<=4
  ·cases hn:nameB l[i] with
   | false=>
    refine ⟨.inl false,Ev.step (fun k=>by rw [spec_l2List.l0]) ?_,.inl rfl,fun _=>by rw [List.drop_eq_getElem_cons hi,List.all_cons,hn]; rfl⟩
    simp (disch:=omega) only [cpos,Int.toNat_natCast,getD_at hi]
    refine Ev.bind (specName_ev _ (hs _ (List.getElem_mem hi))) ?_
    rw [hn]
    exact Ev.pure _
   | true=>
    obtain ⟨r,h1,h2,h3⟩:=specList_l0 l hl hs m (i+1) (by omega)
    refine ⟨r,Ev.step (fun k=>by rw [spec_l2List.l0]) ?_,h2,fun h4=>by rw [h3 h4,List.drop_eq_getElem_cons hi,List.all_cons,hn,Bool.true_and]⟩
    simp (disch:=omega) only [cpos,Int.toNat_natCast,getD_at hi]
    refine Ev.bind (specName_ev _ (hs _ (List.getElem_mem hi))) ?_
    rw [hn]
    simp (disch:=omega) only [Bool.not_true,cond_false,wrap_in]
    exact h1
  ·refine ⟨.inr l,Ev.step (fun k=>by rw [spec_l2List.l0]) ?_,.inr rfl,fun h4=>by omega⟩
   simp (disch:=omega) only [cpos,cneg]
   exact Ev.pure _
theorem specNames_ev (l:List Name) (hl:totNs l<=1048576):Ev (fun k=>spec_l2List.F k l) (namesB l):=by
 unfold spec_l2List.F namesB
 obtain ⟨r,h1,h2,h3⟩:=specList_l0 l (smallNs_len hl) (fun n hn=>smallNs_at hl hn) l.length 0 (by omega)
 rw [List.drop_zero] at h3
 have e:decide (l.length<=4)=decide ((l.length:Int)<=4):=decide_eq_decide.2 (by omega)
 rw [e]
 by_cases c:l.length<=4
 ·rw [h3 c] at h1
  cases ha:l.all nameB with
  | true=>rw [ha] at h1; exact Ev.bind h1 (Ev.pure _)
  | false=>rw [ha] at h1; exact Ev.bind h1 (Ev.pure _)
 ·rw [decide_eq_false (show ¬ (l.length:Int)<=4 by omega),Bool.and_false]
  rcases h2 with rfl | rfl
  ·exact Ev.bind h1 (Ev.pure _)
  ·exact Ev.bind h1 ((Ev.pure _).eq (decide_eq_false (by omega)))
theorem areNames_ev (l:List Name) (hl:totNs l<=1048576):Ev (fun k=>impl_areNames.F k l) (namesB l):=by
 have hlen:=smallNs_len hl
 unfold impl_areNames.F namesB
 by_cases c:l.length<=4
 ·simp (disch:=omega) only [cpos,dpos,Bool.and_true]
  have hq:∀ x,x ∈ l->Ev (fun k=>impl_areNames_1.F k x) (!nameB x):=fun x hx=>by
   unfold impl_areNames_1.F
   exact Ev.bind (isName_ev x (smallNs_at hl hx)) (Ev.pure _)
  obtain ⟨r,h1,h2⟩:=idx_ev (d:=(dflt .name:Name)) (p:=fun x=> !nameB x) (q:=impl_areNames_1.F) (xs:=l) (l0:=slices_IndexFunc_Name_f97.l0) (fun k x0 x7 x8=>by rw [slices_IndexFunc_Name_f97.l0]) hq (by omega) (F:=slices_IndexFunc_Name_f97.F) (fun k a0=>rfl)
  refine Ev.bind (a:=!l.all nameB) ?_ ?_
  ·unfold slices_ContainsFunc_Name_f97.F
   refine Ev.bind h1 ((Ev.pure _).eq ?_)
   rcases h2 with ⟨rfl,h2⟩ | ⟨j,rfl,hj,hp,_⟩
   ·have:l.all nameB=true:=List.all_eq_true.2 fun x hx=>by have:=h2 x hx; simpa using this
    rw [this]; rfl
   ·have:l.all nameB=false:=by
     rw [List.all_eq_false]
     refine ⟨l[j],List.getElem_mem hj,?_⟩
     rw [getD_at hj] at hp
     simpa using hp
    rw [this,decide_eq_true (by omega)]; rfl
  ·rw [Bool.not_not]; exact Ev.pure _
 ·simp (disch:=omega) only [cneg,dneg,Bool.and_false]
  exact Ev.pure _
theorem days_eq (y m:Int) (hy:0<=y):∃ r,spec_l3Days.F y m=some r/\impl_daysInMonth.F y m=some r:=by
 have e1:Int.tmod y 4=y % 4:=Int.tmod_eq_emod_of_nonneg hy
 have e2:Int.tmod y 100=y % 100:=Int.tmod_eq_emod_of_nonneg hy
 have e3:Int.tmod y 400=y % 400:=Int.tmod_eq_emod_of_nonneg hy
 have z1:((4:Nat)==0)=false:=rfl
 have z2:((100:Nat)==0)=false:=rfl
 have z3:((400:Nat)==0)=false:=rfl
 unfold spec_l3Days.F impl_daysInMonth.F
 rw [e1,e2,e3]
 by_cases c2:m=2
 ·by_cases d1:y % 4=0
  ·by_cases d2:y % 100=0
   ·by_cases d3:y % 400=0
    ·exact ⟨29,by simp (disch:=first | assumption | omega) only [ceq,cbeq,z1,z2,z3,cond_false],by simp (disch:=first | assumption | omega) only [ceq,cbeq,z1,z2,z3,cond_false]⟩
    ·exact ⟨28,by simp (disch:=first | assumption | omega) only [ceq,cne,cbeq,z1,z2,z3,cond_false],by simp (disch:=first | assumption | omega) only [ceq,cne,cbeq,z1,z2,z3,cond_false]⟩
   ·exact ⟨29,by simp (disch:=first | assumption | omega) only [ceq,cbne,z1,z2,z3,cond_false],by simp (disch:=first | assumption | omega) only [ceq,cbne,z1,z2,z3,cond_false]⟩
  ·have d3:y % 400 ≠ 0:=by omega
   exact ⟨28,by simp (disch:=first | assumption | omega) only [ceq,cne,z1,z2,z3,cond_false],by simp (disch:=first | assumption | omega) only [ceq,cne,z1,z2,z3,cond_false]⟩
 ·by_cases a:m=4
  ·exact ⟨30,by simp (disch:=first | assumption | omega) only [ceq,cne],by simp (disch:=first | assumption | omega) only [ceq,cne]⟩
  ·by_cases b:m=6
   ·exact ⟨30,by simp (disch:=first | assumption | omega) only [ceq,cne],by simp (disch:=first | assumption | omega) only [ceq,cne]⟩
   ·by_cases c:m=9
    ·exact ⟨30,by simp (disch:=first | assumption | omega) only [ceq,cne],by simp (disch:=first | assumption | omega) only [ceq,cne]⟩
    ·by_cases d:m=11
     ·exact ⟨30,by simp (disch:=first | assumption | omega) only [ceq,cne],by simp (disch:=first | assumption | omega) only [ceq,cne]⟩
     ·exact ⟨31,by simp (disch:=first | assumption | omega) only [cne],by simp (disch:=first | assumption | omega) only [cne]⟩
theorem date_eq2 (d:Date):∃ b,spec_l3Good.F d=some b/\impl_IsValidDate.F d=some b:=by
 unfold spec_l3Good.F impl_IsValidDate.F
 cases (d.y==0 && (d.m==0 && (d.d==0 && d.c==false))) with
 | true=>exact ⟨true,rfl,rfl⟩
 | false=>
  rw [in_ev,inside_ev]
  simp only [Option.bind_some,cond_false]
  cases h1:(decide (d.y ≥ 1) && decide (d.y<=2999)) with
  | false=>exact ⟨false,rfl,rfl⟩
  | true=>
   have hy:0<=d.y:=by
    simp only [Bool.and_eq_true,decide_eq_true_eq] at h1; omega
   rw [in_ev,inside_ev]
   simp only [Option.bind_some,Bool.not_true,cond_false]
   cases h2:(decide (d.m ≥ 0) && decide (d.m<=12)) with
   | false=>exact ⟨false,rfl,rfl⟩
   | true=>
    obtain ⟨r,r1,r2⟩:=days_eq d.y d.m hy
    rw [r1,r2]
    simp only [Option.bind_some,Bool.not_true,cond_false,in_ev,inside_ev]
    cases d.c with
    | true=>
     by_cases c:d.m=0
     ·exact ⟨d.d==0,by simp (disch:=first | assumption | omega) only [cond_true,ceq],by simp (disch:=first | assumption | omega) only [cond_true,ceq,cbeq]⟩
     ·exact ⟨false,by simp (disch:=first | assumption | omega) only [cond_true,cne],by simp (disch:=first | assumption | omega) only [cond_true,cbne]⟩
    | false=>exact ⟨bif d.m==0 then (d.d==0) else (decide (d.d ≥ 0) && decide (d.d<=r)),by cases (d.m==0) <;> rfl,by cases (d.m==0) <;> rfl⟩
open Classical in
noncomputable def dateB (d:Date):Bool:=(date_eq2 d).choose
theorem specDate_ev (d:Date):spec_l3Good.F d=some (dateB d):=(date_eq2 d).choose_spec.1
theorem isDate_ev (d:Date):impl_IsValidDate.F d=some (dateB d):=(date_eq2 d).choose_spec.2
def insI (n lo hi:Int):Bool:=decide (n ≥ lo) && decide (n<=hi)
def crossB (e:Entry):Bool:=decide (e.cross.size=0) || (keyB e.cross && !beqS e.cross e.key)
noncomputable def entryB (e:Entry):Bool:=keyB e.key && (insI e.kind 1 4 && (namesB e.authors && (namesB e.editors && (textB e.title && (textB e.container && (textB e.publisher && (textB e.pages && (dateB e.date && (insI e.volume 0 9999 && crossB e)))))))))
theorem specEntry_ev (e:Entry) (hs:smallE e):Ev (fun k=>spec_l4Entry.F k e) (entryB e):=by
 unfold spec_l4Entry.F entryB
 refine Ev.bind (specKey_ev _) (and_step fun _=> ?_)
 refine Ev.bind0 (in_ev _ _ _) (and_step fun _=> ?_)
 refine Ev.bind (specNames_ev _ (smallE_a hs)) (and_step fun _=> ?_)
 refine Ev.bind (specNames_ev _ (smallE_e hs)) (and_step fun _=> ?_)
 refine Ev.bind (specText_ev _) (and_step fun _=> ?_)
 refine Ev.bind (specText_ev _) (and_step fun _=> ?_)
 refine Ev.bind (specText_ev _) (and_step fun _=> ?_)
 refine Ev.bind (specText_ev _) (and_step fun _=> ?_)
 refine Ev.bind0 (specDate_ev _) (and_step' fun _=> ?_)
 refine Ev.bind0 (in_ev _ _ _) (and_step' fun _=> ?_)
 unfold crossB
 rw [empty_eq]
 cases decide (e.cross.size=0) with
 | true=>exact Ev.pure _
 | false=>
  refine (Ev.bind (specKey_ev _) (and_step' fun _=> ?_)).eq (Bool.false_or _).symm
  exact Ev.pure _
theorem isEntry_ev (e:Entry) (hs:smallE e):Ev (fun k=>impl_IsValidEntry.F k e) (entryB e):=by
 have key:Ev (fun k=>impl_IsValidEntry.F k e) (keyB e.key && (insI e.kind 1 4 && (namesB e.authors && (namesB e.editors && (dateB e.date && (insI e.volume 0 9999 && (textB e.title && (textB e.container && (textB e.publisher && (textB e.pages && crossB e)))))))))):=by
  unfold impl_IsValidEntry.F
  refine Ev.bind (isKey_ev _) (and_step fun _=> ?_)
  refine Ev.bind0 (a:=insI e.kind 1 4) ?_ (and_step fun _=> ?_)
  ·unfold impl_isKind.F; rw [inside_ev]; rfl
  refine Ev.bind (areNames_ev _ (smallE_a hs)) (and_step fun _=> ?_)
  refine Ev.bind (areNames_ev _ (smallE_e hs)) (and_step fun _=> ?_)
  refine Ev.bind0 (isDate_ev _) (and_step fun _=> ?_)
  refine Ev.bind0 (inside_ev _ _ _) (and_step fun _=> ?_)
  refine Ev.bind (isText_ev _) (and_step' fun _=> ?_)
  refine Ev.bind (isText_ev _) (and_step' fun _=> ?_)
  refine Ev.bind (isText_ev _) (and_step' fun _=> ?_)
  refine Ev.bind (isText_ev _) (and_step' fun _=> ?_)
  unfold crossB
  rw [empty_eq]
  cases decide (e.cross.size=0) with
  | true=>exact Ev.pure _
  | false=>
   refine (Ev.bind (isKey_ev _) (and_step' fun _=> ?_)).eq (Bool.false_or _).symm
   exact Ev.pure _
 refine key.eq ?_
 unfold entryB
 ac_rfl
noncomputable def okL (l:Library) (i:Nat):Bool:=entryB (l.entries.getD i (dflt .entry)) && (decide (i=0) || ltS (l.entries.getD (i-1) (dflt .entry)).key (l.entries.getD i (dflt .entry)).key)
noncomputable def libB (l:Library):Bool:=(List.range' 0 l.entries.length).all (okL l) && decide (l.entries.length<=8)
theorem specGoodL_l0 (l:Library) (hs:smallL l):Ev (fun k=>spec_l4Good.l0 k l ((0:Nat):Int)) (if (List.range' 0 l.entries.length).all (okL l)=true then .inr () else .inl false):=by
 have hlen:=smallL_len hs
 refine loop_all (f:=fun k i=>spec_l4Good.l0 k l i) (n:=l.entries.length) (fun i hi hp=> ?_) (fun i r hi hp ih=> ?_) ?_ l.entries.length 0 (by omega)
 ·unfold okL at hp
  refine Ev.step (fun k=>by rw [spec_l4Good.l0]) ?_
  have hsm:smallE (l.entries.getD i (dflt .entry)):=by rw [getD_at hi]; exact smallL_at hs (List.getElem_mem hi)
  simp (disch:=omega) only [cpos,Int.toNat_natCast]
  refine Ev.bind (specEntry_ev _ hsm) ?_
  cases he:entryB (l.entries.getD i (dflt .entry)) with
  | false=>exact Ev.pure _
  | true=>
   rw [he,Bool.true_and,Bool.or_eq_false_iff,decide_eq_false_iff_not] at hp
   have et:((i:Int)-1).toNat=i-1:=by omega
   simp (disch:=omega) only [Bool.not_true,cond_false,cpos,wrap_in,et,hp.2,Bool.not_false,cond_true]
   exact Ev.pure _
 ·unfold okL at hp
  rw [Bool.and_eq_true] at hp
  refine Ev.step (fun k=>by rw [spec_l4Good.l0]) ?_
  have hsm:smallE (l.entries.getD i (dflt .entry)):=by rw [getD_at hi]; exact smallL_at hs (List.getElem_mem hi)
  simp (disch:=omega) only [cpos,Int.toNat_natCast]
  refine Ev.bind (specEntry_ev _ hsm) ?_
  rw [hp.1]
  by_cases c:i=0
  ·simp (disch:=omega) only [Bool.not_true,cond_false,cneg,wrap_in]
   exact ih
  ·have et:((i:Int)-1).toNat=i-1:=by omega
   have h2:=hp.2
   rw [decide_eq_false c,Bool.false_or] at h2
   simp (disch:=omega) only [Bool.not_true,cond_false,cpos,wrap_in,et,h2]
   exact ih
 ·refine Ev.step (fun k=>by rw [spec_l4Good.l0]) ?_
  simp (disch:=omega) only [cneg]
  exact Ev.pure _
theorem isLib_l0 (l:Library) (hs:smallL l):Ev (fun k=>impl_IsValidLibrary.l0 k l l.entries l.entries.length ((0:Nat):Int)) (if (List.range' 0 l.entries.length).all (okL l)=true then .inr l else .inl false):=by
 have hlen:=smallL_len hs
 refine loop_all (f:=fun k i=>impl_IsValidLibrary.l0 k l l.entries l.entries.length i) (n:=l.entries.length) (fun i hi hp=> ?_) (fun i r hi hp ih=> ?_) ?_ l.entries.length 0 (by omega)
 ·unfold okL at hp
  refine Ev.step (fun k=>by rw [impl_IsValidLibrary.l0]) ?_
  have hsm:smallE (l.entries.getD i (dflt .entry)):=by rw [getD_at hi]; exact smallL_at hs (List.getElem_mem hi)
  simp (disch:=omega) only [cpos,Int.toNat_natCast]
  refine Ev.bind (isEntry_ev _ hsm) ?_
  cases he:entryB (l.entries.getD i (dflt .entry)) with
  | false=>exact Ev.pure _
  | true=>
   rw [he,Bool.true_and,Bool.or_eq_false_iff,decide_eq_false_iff_not] at hp
   have et:((i:Int)-1).toNat=i-1:=by omega
   simp (disch:=omega) only [Bool.not_true,cond_false,cpos,wrap_in,et,hp.2,Bool.not_false,cond_true]
   exact Ev.pure _
 ·unfold okL at hp
  rw [Bool.and_eq_true] at hp
  refine Ev.step (fun k=>by rw [impl_IsValidLibrary.l0]) ?_
  have hsm:smallE (l.entries.getD i (dflt .entry)):=by rw [getD_at hi]; exact smallL_at hs (List.getElem_mem hi)
  simp (disch:=omega) only [cpos,Int.toNat_natCast]
  refine Ev.bind (isEntry_ev _ hsm) ?_
  rw [hp.1]
  by_cases c:i=0
  ·simp (disch:=omega) only [Bool.not_true,cond_false,cneg,wrap_in]
   exact ih
  ·have et:((i:Int)-1).toNat=i-1:=by omega
   have h2:=hp.2
   rw [decide_eq_false c,Bool.false_or] at h2
   simp (disch:=omega) only [Bool.not_true,cond_false,cpos,wrap_in,et,h2]
   exact ih
 ·refine Ev.step (fun k=>by rw [impl_IsValidLibrary.l0]) ?_
  simp (disch:=omega) only [cneg]
  exact Ev.pure _
theorem specLib_ev (l:Library) (hs:smallL l):Ev (fun k=>spec_l4Good.F k l) (libB l):=by
 unfold spec_l4Good.F libB
 by_cases c:l.entries.length<=8
 ·simp (disch:=omega) only [cneg,dpos,Bool.and_true]
  have:=specGoodL_l0 l hs
  cases ha:(List.range' 0 l.entries.length).all (okL l) with
  | true=>rw [ha] at this; exact Ev.bind this (Ev.pure _)
  | false=>rw [ha] at this; exact Ev.bind this (Ev.pure _)
 ·simp (disch:=omega) only [cpos,dneg,Bool.and_false]
  exact Ev.pure _
theorem isLib_ev (l:Library) (hs:smallL l):Ev (fun k=>impl_IsValidLibrary.F k l) (libB l):=by
 unfold impl_IsValidLibrary.F libB
 have:=isLib_l0 l hs
 cases ha:(List.range' 0 l.entries.length).all (okL l) with
 | true=>
  rw [ha] at this
  refine Ev.bind this ((Ev.pure _).eq ?_)
  rw [Bool.true_and]; exact decide_eq_decide.2 (by omega)
 | false=>rw [ha] at this; exact Ev.bind this (Ev.pure _)
theorem libB_len {l:Library} (h:libB l=true):l.entries.length<=8:=by
 unfold libB at h
 rw [Bool.and_eq_true,decide_eq_true_eq] at h
 exact h.2
end Go.Proofs.YtehijcmhhkchiaaGreatDoor
end
section
/- Plain laws: an entry found by its key; its parent. -/
namespace Go.Proofs.YtehijcmhhkchiaaGreatDoor
open Go.Gx
theorem find_l (l:Library) (key:ByteArray) (hl:l.entries.length<=1048576):∀ n i:Nat,i+n=l.entries.length ->
  ∃ r:Sum Int Unit,Ev (fun k=>spec_l4Find.l0 k key l i) r/\Ev (fun k=>slices_IndexFunc_Entry_f86.l0 k l.entries key l.entries.length i) r/\∀ z,r = .inl z->0<=z/\z<l.entries.length
 | 0,i,h=>by
  refine ⟨.inr (),Ev.step (fun k=>by rw [spec_l4Find.l0]) ?_,Ev.step (fun k=>by rw [slices_IndexFunc_Entry_f86.l0]) ?_,fun z hz=>by cases hz⟩
  ·simp (disch:=omega) only [cneg]; exact Ev.pure _
  ·simp (disch:=omega) only [cneg]; exact Ev.pure _
 | n+1,i,h=>by
  have hi:i<l.entries.length:=by omega
  have e1:impl_entryIndex_1.F l.entries[i] key=some (beqS l.entries[i].key key):=rfl
  cases hb:beqS l.entries[i].key key with
  | true=>
   refine ⟨.inl i,Ev.step (fun k=>by rw [spec_l4Find.l0]) ?_,Ev.step (fun k=>by rw [slices_IndexFunc_Entry_f86.l0]) ?_,fun z hz=>by cases hz; omega⟩
   ·simp (disch:=omega) only [cpos,Int.toNat_natCast,getD_at hi,hb,cond_true]
    exact Ev.pure _
   ·simp (disch:=omega) only [cpos,Int.toNat_natCast,getD_at hi]
    refine Ev.bind0 e1 ?_
    rw [hb]
    exact Ev.pure _
  | false=>
   obtain ⟨r,r1,r2,r3⟩:=find_l l key hl n (i+1) (by omega)
   refine ⟨r,Ev.step (fun k=>by rw [spec_l4Find.l0]) ?_,Ev.step (fun k=>by rw [slices_IndexFunc_Entry_f86.l0]) ?_,r3⟩
   ·simp (disch:=omega) only [cpos,Int.toNat_natCast,getD_at hi,hb,cond_false,wrap_in]
    exact r1
   ·simp (disch:=omega) only [cpos,Int.toNat_natCast,getD_at hi]
    refine Ev.bind0 e1 ?_
    rw [hb]
    simp (disch:=omega) only [cond_false,wrap_in]
    exact r2
theorem find_ev (l:Library) (key:ByteArray) (hl:l.entries.length<=1048576):∃ r:Int,Ev (fun k=>spec_l4Find.F k l key) r/\Ev (fun k=>impl_entryIndex.F k l key) r /\ -1<=r/\r<l.entries.length:=by
 obtain ⟨r,r1,r2,r3⟩:=find_l l key hl l.entries.length 0 (by omega)
 unfold spec_l4Find.F impl_entryIndex.F slices_IndexFunc_Entry_f86.F
 cases r with
 | inl z=>exact ⟨z,Ev.bind r1 (Ev.pure _),Ev.bind (Ev.bind r2 (Ev.pure _)) (Ev.pure _),by have:=r3 z rfl; omega,(r3 z rfl).2⟩
 | inr u=>exact ⟨-1,Ev.bind r1 (Ev.pure _),Ev.bind (Ev.bind r2 (Ev.pure _)) (Ev.pure _),by omega,by omega⟩
theorem parent_ev (l:Library) (hl:l.entries.length<=1048576) (i:Int) (h0:0<=i) (h1:i<l.entries.length):∃ r:Int,Ev (fun k=>spec_l21Parent.F k l i) r/\Ev (fun k=>impl_parentIndex.F k l i) r /\ -1<=r/\r<l.entries.length:=by
 unfold spec_l21Parent.F impl_parentIndex.F
 cases hb:beqS (l.entries.getD i.toNat (dflt .entry)).cross ⟨#[]⟩ with
 | true=>
  refine ⟨-1,?_,?_,by omega,by omega⟩
  ·simp (disch:=omega) only [cpos,cond_true]; exact Ev.pure _
  ·simp (disch:=omega) only [cpos,cond_true]; exact Ev.pure _
 | false=>
  obtain ⟨r,r1,r2,r3⟩:=find_ev l (l.entries.getD i.toNat (dflt .entry)).cross hl
  refine ⟨r,?_,?_,r3⟩
  ·simp (disch:=omega) only [cpos,cond_false]; exact Ev.bind r1 (Ev.pure _)
  ·simp (disch:=omega) only [cpos,cond_false]; exact Ev.bind r2 (Ev.pure _)
end Go.Proofs.YtehijcmhhkchiaaGreatDoor
end
section
/- Plain laws: the chain of an entry,keys,entries found by their keys. -/
namespace Go.Proofs.YtehijcmhhkchiaaGreatDoor
open Go.Gx
theorem has_l (xs:List Int) (v:Int) (hl:xs.length<=1048576):∀ n i:Nat,i+n=xs.length->Ev (fun k=>spec_l1Has.l0 k xs v i) (if v ∈ xs.drop i then .inl true else .inr ()) /\
  ∃ r:Sum Int Unit,Ev (fun k=>slices_Index_int.l0 k xs v xs.length i) r/\(v ∈ xs.drop i->∃ z:Int,r = .inl z/\0<=z)/\(v ∉ xs.drop i->r = .inr ())
 | 0,i,h=>by
  have hd:xs.drop i=[]:=List.drop_eq_nil_of_le (by omega)
  rw [hd]
  refine ⟨Ev.step (fun k=>by rw [spec_l1Has.l0]) ?_,.inr (),Ev.step (fun k=>by rw [slices_Index_int.l0]) ?_,(fun h=>by cases h),fun _=>rfl⟩
  ·simp (disch:=omega) only [cneg]
   exact (Ev.pure _).eq (by simp)
  ·simp (disch:=omega) only [cneg]; exact Ev.pure _
 | n+1,i,h=>by
  have hi:i<xs.length:=by omega
  have hd:xs.drop i=xs[i] :: xs.drop (i+1):=List.drop_eq_getElem_cons hi
  obtain ⟨h1,r,h2,h3,h4⟩:=has_l xs v hl n (i+1) (by omega)
  by_cases hv:xs[i]=v
  ·have hm:v ∈ xs.drop i:=by rw [hd,hv]; exact List.mem_cons_self
   refine ⟨Ev.step (fun k=>by rw [spec_l1Has.l0]) ?_,.inl i,Ev.step (fun k=>by rw [slices_Index_int.l0]) ?_,fun _=>⟨i,rfl,by omega⟩,fun hn=>absurd hm hn⟩
   ·rw [if_pos hm]
    simp (disch:=omega) only [cpos,Int.toNat_natCast,getD_at hi,ceq]
    exact Ev.pure _
   ·simp (disch:=omega) only [cpos,Int.toNat_natCast,getD_at hi,ceq]
    exact Ev.pure _
  ·have hm:v ∈ xs.drop i ↔ v ∈ xs.drop (i+1):=by
    rw [hd,List.mem_cons]
    exact ⟨fun h=>h.resolve_left fun e=>hv e.symm,.inr⟩
   refine ⟨Ev.step (fun k=>by rw [spec_l1Has.l0]) ?_,r,Ev.step (fun k=>by rw [slices_Index_int.l0]) ?_,fun h=>h3 (hm.1 h),fun h=>h4 fun h'=>h (hm.2 h')⟩
   ·simp (disch:=omega) only [cpos,Int.toNat_natCast,getD_at hi,cne,wrap_in]
    exact h1.eq (by simp only [hm])
   ·simp (disch:=omega) only [cpos,Int.toNat_natCast,getD_at hi,cne,wrap_in]
    exact h2
theorem has_ev (xs:List Int) (v:Int) (hl:xs.length<=1048576):Ev (fun k=>spec_l1Has.F k xs v) (decide (v ∈ xs))/\Ev (fun k=>slices_Contains_int.F k xs v) (decide (v ∈ xs)):=by
 obtain ⟨h1,r,h2,h3,h4⟩:=has_l xs v hl xs.length 0 (by omega)
 rw [List.drop_zero] at h1 h3 h4
 unfold spec_l1Has.F slices_Contains_int.F slices_Index_int.F
 by_cases hv:v ∈ xs
 ·rw [if_pos hv] at h1
  obtain ⟨z,rfl,hz⟩:=h3 hv
  rw [decide_eq_true hv]
  refine ⟨Ev.bind h1 (Ev.pure _),Ev.bind (a:=z) (Ev.bind h2 (Ev.pure _)) ((Ev.pure _).eq ?_)⟩
  rw [decide_eq_true (by omega)]
 ·rw [if_neg hv] at h1
  obtain rfl:=h4 hv
  rw [decide_eq_false hv]
  exact ⟨Ev.bind h1 (Ev.pure _),Ev.bind (a:=-1) (Ev.bind h2 (Ev.pure _)) (Ev.pure _)⟩
theorem pigeon:∀ (n:Nat) (l:List Int),l.Nodup->(∀ x ∈ l,0<=x/\x<n)->l.length<=n
 | 0,l,_,h=>by
  cases l with
  | nil=>simp
  | cons a l=>have:=h a List.mem_cons_self; omega
 | n+1,l,hn,h=>by
  by_cases hm:(n:Int) ∈ l
  ·have h1:=pigeon n (l.erase n) (hn.erase _) fun x hx=>by
    rw [hn.mem_erase_iff] at hx
    have:=h x hx.2
    have:=hx.1
    omega
   rw [List.length_erase_of_mem hm] at h1
   omega
  ·have h1:=pigeon n l hn fun x hx=>by
    have:=h x hx
    have:x ≠ n:=fun e=>hm (e ▸ hx)
    omega
   omega
theorem room_i8 {n:Nat} (h:n<=8192):room n (.int .i64)=true:=by
 show Nat.ble (n * 8) 140737488355328=true
 exact Nat.ble_eq_true_of_le (by omega)
def chR (l:Library):Sum (List Int × Bool) (List Int)->Prop
 | .inl p=>p.2=true/\p.1.Nodup/\∀ x ∈ p.1,0<=x/\x<l.entries.length
 | .inr c=>c.Nodup/\∀ x ∈ c,0<=x/\x<l.entries.length
def chL:Sum (List Int × Bool) (List Int)->List Int
 | .inl p=>p.1
 | .inr c=>c
theorem chain_l (l:Library) (hl:l.entries.length<=8):∀ (d:Nat) (acc:List Int) (i:Int),acc.length+d=l.entries.length+1 -> -1<=i->i<l.entries.length->acc.Nodup->(∀ x ∈ acc,0<=x/\x<l.entries.length) ->
  ∃ r,Ev (fun k=>spec_l21Chain.l0 k i l acc) r/\Ev (fun k=>impl_chainOf.l0 k i l acc) r/\chR l r/\∃ t,chL r=acc++t/\(0<=i->i ∉ acc->i ∈ t)
 | 0,acc,i,hd,_,_,hn,ha=>by have:=pigeon _ _ hn ha; omega
 | d+1,acc,i,hd,h0,h1,hn,ha=>by
  have hlen:=pigeon _ _ hn ha
  by_cases hi:i<0
  ·refine ⟨.inr acc,Ev.step (fun k=>by rw [spec_l21Chain.l0]) ?_,Ev.step (fun k=>by rw [impl_chainOf.l0]) ?_,⟨hn,ha⟩,[],by simp [chL],fun h=>absurd hi (by omega)⟩
   ·simp (disch:=omega) only [cneg]; exact Ev.pure _
   ·simp (disch:=omega) only [cneg]; exact Ev.pure _
  ·obtain ⟨e1,e2⟩:=has_ev acc i (by omega)
   by_cases hm:i ∈ acc
   ·rw [decide_eq_true hm] at e1 e2
    refine ⟨.inl (acc,true),Ev.step (fun k=>by rw [spec_l21Chain.l0]) ?_,Ev.step (fun k=>by rw [impl_chainOf.l0]) ?_,⟨rfl,hn,ha⟩,[],by simp [chL],fun _ h=>absurd hm h⟩
    ·simp (disch:=omega) only [cpos]; exact Ev.bind e1 (Ev.pure _)
    ·simp (disch:=omega) only [cpos]; exact Ev.bind e2 (Ev.pure _)
   ·rw [decide_eq_false hm] at e1 e2
    obtain ⟨p,p1,p2,p3,p4⟩:=parent_ev l (by omega) i (by omega) h1
    obtain ⟨r,r1,r2,r3,t,r4,_⟩:=chain_l l hl d (acc++[i]) p (by simp; omega) p3 p4 (List.nodup_append.2 ⟨hn,by simp,fun a ha' b hb=>by simp at hb; subst hb; exact fun e=>hm (e ▸ ha')⟩) (fun x hx=>by
     rcases List.mem_append.1 hx with hx | hx
     ·exact ha x hx
     ·simp at hx; subst hx; omega)
    have hr:room (acc.length+([i]:List Int).length) (.int .i64)=true:=room_i8 (by simp; omega)
    refine ⟨r,Ev.step (fun k=>by rw [spec_l21Chain.l0]) ?_,Ev.step (fun k=>by rw [impl_chainOf.l0]) ?_,r3,i :: t,by rw [r4]; simp,fun _ _=>List.mem_cons_self⟩
    ·simp (disch:=omega) only [cpos]
     refine Ev.bind e1 ?_
     simp only [cond_false,hr,cond_true]
     exact Ev.bind p1 r1
    ·simp (disch:=omega) only [cpos]
     refine Ev.bind e2 ?_
     simp only [cond_false,hr,cond_true]
     exact Ev.bind p2 r2
theorem chain_ev2 (l:Library) (hl:l.entries.length<=8) (i:Int) (h0:0<=i) (h1:i<l.entries.length) :
  ∃ c b,Ev (fun k=>spec_l21Chain.F k l i) (c,b)/\Ev (fun k=>impl_chainOf.F k l i) (c,b)/\c.Nodup/\(∀ x ∈ c,0<=x/\x<l.entries.length)/\c.length<=l.entries.length/\i ∈ c:=by
 obtain ⟨r,r1,r2,r3,t,r4,r5⟩:=chain_l l hl (l.entries.length+1) [] i (by simp) (by omega) h1 List.nodup_nil (fun x hx=>by cases hx)
 have hi:i ∈ chL r:=by rw [r4]; simpa using r5 h0 (by simp)
 unfold spec_l21Chain.F impl_chainOf.F
 cases r with
 | inl p=>
  obtain ⟨c,b⟩:=p
  exact ⟨c,b,Ev.bind r1 (Ev.pure _),Ev.bind r2 (Ev.pure _),r3.2.1,r3.2.2,pigeon _ _ r3.2.1 r3.2.2,hi⟩
 | inr c=>exact ⟨c,false,Ev.bind r1 (Ev.pure _),Ev.bind r2 (Ev.pure _),r3.1,r3.2,pigeon _ _ r3.1 r3.2,hi⟩
theorem chain_ev1 (l:Library) (hl:l.entries.length<=8) (i:Int) (h0:0<=i) (h1:i<l.entries.length) :
  ∃ c b,Ev (fun k=>spec_l21Chain.F k l i) (c,b)/\Ev (fun k=>impl_chainOf.F k l i) (c,b)/\c.Nodup/\(∀ x ∈ c,0<=x/\x<l.entries.length)/\c.length<=l.entries.length/\1<=c.length:=by
 obtain ⟨c,b,h1,h2,h3,h4,h5,h6⟩:=chain_ev2 l hl i h0 h1
 exact ⟨c,b,h1,h2,h3,h4,h5,List.length_pos_of_mem h6⟩
end Go.Proofs.YtehijcmhhkchiaaGreatDoor
end
section
/- The fields of an entry as texts: both ways to write them answer alike. -/
namespace Go.Proofs.YtehijcmhhkchiaaGreatDoor
open Go.Gx
def cs2:ByteArray:=⟨#[44,32]⟩
theorem parts_of {e:Entry} (h:entryB e=true):namesB e.authors=true/\namesB e.editors=true/\dateB e.date=true/\0<=e.volume/\e.volume<=9999:=by
 unfold entryB insI at h
 simp only [Bool.and_eq_true,decide_eq_true_eq] at h
 exact ⟨h.2.2.1,h.2.2.2.1,h.2.2.2.2.2.2.2.2.1,h.2.2.2.2.2.2.2.2.2.1.1,h.2.2.2.2.2.2.2.2.2.1.2⟩
def okF (e:Entry):Prop:=namesB e.authors=true/\namesB e.editors=true/\dateB e.date=true/\0<=e.volume/\e.volume<=9999/\totNs e.authors<=1048576/\totNs e.editors<=1048576
theorem okF_of {e:Entry} (hs:smallE e) (hv:entryB e=true):okF e:=by
 obtain ⟨ha,he,hd,v0,v1⟩:=parts_of hv
 exact ⟨ha,he,hd,v0,v1,smallE_a hs,smallE_e hs⟩
end Go.Proofs.YtehijcmhhkchiaaGreatDoor
end
section
/- Entries with what they inherit: both ways answer alike. -/
namespace Go.Proofs.YtehijcmhhkchiaaGreatDoor
open Go.Gx
theorem room_20 {n:Nat} (h:n<=2097152):room n .str=true:=by
 show Nat.ble (n * 16) 140737488355328=true
 exact Nat.ble_eq_true_of_le (by omega)
theorem room_n20 {n:Nat} (h:n<=2097152):room n .name=true:=by
 show Nat.ble (n * 72) 140737488355328=true
 exact Nat.ble_eq_true_of_le (by omega)
theorem own_l0 (xs:List Name) (ht:totNs xs<=1048576):∀ n i:Nat,i+n=xs.length->Ev (fun k=>spec_l2Own.l0 k xs (xs.take i) i) xs/\Ev (fun k=>impl_newNames.l0 k (xs.take i) xs xs.length i) xs
 | 0,i,h=>by
  have hl:=smallNs_len ht
  refine ⟨Ev.step (fun k=>by rw [spec_l2Own.l0]) ?_,Ev.step (fun k=>by rw [impl_newNames.l0]) ?_⟩ <;>
   (simp (disch:=omega) only [cneg]; exact (Ev.pure _).eq (List.take_of_length_le (by omega)))
 | n+1,i,h=>by
  have hl:=smallNs_len ht
  have hi:i<xs.length:=by omega
  have hg:xs[i].given.length<=1048576:=by
   have:=smallNs_at ht (List.getElem_mem hi)
   unfold smallN totN at this; omega
  have r1:room (([]:List ByteArray).length+xs[i].given.length) .str=true:=room_20 (by simp; omega)
  have r2:∀ z:Name,room ((xs.take i).length+([z]:List Name).length) .name=true:=fun z=>room_n20 (by simp; omega)
  obtain ⟨h1,h2⟩:=own_l0 xs ht n (i+1) (by omega)
  have e:xs.take i++[(⟨[]++xs[i].given,xs[i].particle,xs[i].family,xs[i].suffix⟩:Name)]=xs.take (i+1):=by
   rw [List.take_succ_eq_append_getElem hi]; rfl
  refine ⟨Ev.step (fun k=>by rw [spec_l2Own.l0]) ?_,Ev.step (fun k=>by rw [impl_newNames.l0]) ?_⟩
  ·simp (disch:=omega) only [cpos,Int.toNat_natCast,getD_at hi,r1,r2,cond_true,wrap_in,e]; exact h1
  ·simp (disch:=omega) only [cpos,Int.toNat_natCast,getD_at hi,r1,r2,cond_true,wrap_in,e]; exact h2
theorem own_ev (xs:List Name) (ht:totNs xs<=1048576):Ev (fun k=>spec_l2Own.F k xs) xs:=by
 unfold spec_l2Own.F; exact Ev.bind (own_l0 xs ht xs.length 0 (by omega)).1 (Ev.pure _)
theorem newNames_ev (xs:List Name) (ht:totNs xs<=1048576):Ev (fun k=>impl_newNames.F k xs) xs:=by
 unfold impl_newNames.F; exact Ev.bind (own_l0 xs ht xs.length 0 (by omega)).2 (Ev.pure _)
theorem copy_ev (e:Entry) (h:okF e):Ev (fun k=>spec_l4Copy.F k e) e:=by
 unfold spec_l4Copy.F; exact Ev.bind (own_ev _ h.2.2.2.2.2.1) (Ev.bind (own_ev _ h.2.2.2.2.2.2) (Ev.pure _))
theorem newEntry_ev (e:Entry) (h:okF e):Ev (fun k=>impl_newEntry.F k e) e:=by
 unfold impl_newEntry.F; exact Ev.bind (newNames_ev _ h.2.2.2.2.2.1) (Ev.bind (newNames_ev _ h.2.2.2.2.2.2) (Ev.pure _))
def orT (a b:ByteArray):ByteArray:=bif beqS a ⟨#[]⟩ then b else a
def inhV (e p:Entry):Entry:=⟨e.key,e.kind,e.authors,
 bif e.kind==3 then (bif (e.editors.length:Int)==0 then (bif (p.editors.length:Int)==0 then p.authors else p.editors) else e.editors) else e.editors,
 e.title,bif e.kind==3 then orT e.container p.title else (bif e.kind==2 then orT e.container p.title else orT e.container p.container),
 orT e.publisher p.publisher,bif e.date.y==0 then p.date else e.date,bif e.volume==0 then p.volume else e.volume,e.pages,e.cross⟩
theorem firstS (a b:ByteArray):spec_l20First.F a b=some (orT a b):=by unfold spec_l20First.F orT; cases beqS a ⟨#[]⟩ <;> rfl
theorem orTextS (a b:ByteArray):impl_orText.F a b=some (orT a b):=by unfold impl_orText.F orT; cases beqS a ⟨#[]⟩ <;> rfl
theorem specInh_ev (e p:Entry) (he:okF e) (hp:okF p):Ev (fun k=>spec_l21Inherit.F k e p) (inhV e p):=by
 unfold spec_l21Inherit.F inhV
 have oe:=own_ev _ hp.2.2.2.2.2.2
 have oa:=own_ev _ hp.2.2.2.2.2.1
 refine Ev.bind (copy_ev e he) ?_
 simp only [firstS,Option.bind_some]
 cases (e.date.y==0) <;> cases (e.volume==0) <;> cases (e.kind==3) <;> cases (e.kind==2) <;> cases ((e.editors.length:Int)==0) <;> cases ((p.editors.length:Int)==0) <;> simp only [cond_true,cond_false] <;>
  first | exact Ev.pure _ | exact Ev.bind oe (Ev.pure _) | exact Ev.bind oe (Ev.bind oa (Ev.pure _))
theorem orNames_ev (a b:List Name) (ha:totNs a<=1048576) (hb:totNs b<=1048576):Ev (fun k=>impl_orNames.F k a b) (bif (a.length:Int)==0 then b else a):=by
 unfold impl_orNames.F
 cases ((a.length:Int)==0)
 ·exact Ev.bind (newNames_ev _ ha) (Ev.pure _)
 ·exact Ev.bind (newNames_ev _ hb) (Ev.pure _)
theorem implInh_ev (e p:Entry) (he:okF e) (hp:okF p):Ev (fun k=>impl_inherit.F k e p) (inhV e p):=by
 unfold impl_inherit.F inhV
 have o1:=orNames_ev p.editors p.authors hp.2.2.2.2.2.2 hp.2.2.2.2.2.1
 have hd:impl_orDate.F e.date p.date=some (bif e.date.y==0 then p.date else e.date):=by unfold impl_orDate.F; cases (e.date.y==0) <;> rfl
 have hv:impl_orVolume.F e.volume p.volume=some (bif e.volume==0 then p.volume else e.volume):=by unfold impl_orVolume.F; cases (e.volume==0) <;> rfl
 simp only [orTextS,hd,hv,Option.bind_some]
 have hq:totNs (bif (p.editors.length:Int)==0 then p.authors else p.editors)<=1048576:=by
  cases ((p.editors.length:Int)==0)
  ·exact hp.2.2.2.2.2.2
  ·exact hp.2.2.2.2.2.1
 have o2:=orNames_ev e.editors _ he.2.2.2.2.2.2 hq
 cases (e.kind==3) with
 | true=>exact Ev.bind o1 (Ev.bind o2 (Ev.pure _))
 | false=>cases (e.kind==2) <;> exact Ev.pure _
theorem inh_ok (e p:Entry) (he:okF e) (hp:okF p):okF (inhV e p):=by
 obtain ⟨a1,a2,a3,a4,a5,a6,a7⟩:=he
 obtain ⟨b1,b2,b3,b4,b5,b6,b7⟩:=hp
 unfold okF inhV
 dsimp only
 cases (e.date.y==0) <;> cases (e.volume==0) <;> cases (e.kind==3) <;> cases ((e.editors.length:Int)==0) <;> cases ((p.editors.length:Int)==0) <;> simp only [cond_true,cond_false] <;> refine ⟨?_,?_,?_,?_,?_,?_,?_⟩ <;> assumption
theorem lib_ok {l:Library} (hs:smallL l) (h:libB l=true) {i:Nat} (hi:i<l.entries.length):okF l.entries[i]:=by
 refine okF_of (smallL_at hs (List.getElem_mem hi)) ?_
 unfold libB at h
 simp only [Bool.and_eq_true,List.all_eq_true] at h
 have:=h.1 i (by rw [List.mem_range'_1]; omega)
 unfold okL at this
 simp only [Bool.and_eq_true,getD_at hi] at this
 exact this.1
end Go.Proofs.YtehijcmhhkchiaaGreatDoor
end
section
/- Plain laws: marks of lists of texts; deep marks of names,entries and libraries. -/
namespace Go.Proofs.YtehijcmhhkchiaaGreatDoor
open Go.Gx
theorem markText_l0:∀ n:Nat,n<=1099511627776->∀ s:ByteArray,s.size+n<=9223372036854775806->∃ r,Ev (fun k=>laws_markText.l0 k (n:Int) s) r/\r.size<=s.size+n:=fun n=>by
 induction n using Nat.strongRecOn with
 | ind n ih=>
  intro hn s hs
  by_cases c:n=0
  ·refine ⟨s,Ev.step (fun k=>by rw [laws_markText.l0]) ?_,by omega⟩
   simp (disch:=omega) only [cneg]
   exact Ev.pure _
  ·have ed:Int.tdiv (n:Int) 10=((n / 10:Nat):Int):=by
    rw [Int.tdiv_eq_ediv_of_nonneg (by omega)]; omega
   have e1:∀ v:Int,(strL ([v]:List Int)).size=1:=fun v=>rfl
   obtain ⟨r,r1,r2⟩:=ih (n / 10) (by omega) (by omega) (strL ([IntKind.wrap .u8 (IntKind.wrap .i64 (48+Int.tmod (n:Int) 10))]:List Int)++s) (by rw [size_app,e1]; omega)
   rw [size_app,e1] at r2
   refine ⟨r,Ev.step (fun k=>by rw [laws_markText.l0]) ?_,by omega⟩
   have w1:IntKind.wrap .i64 (Int.tdiv (n:Int) 10)=((n / 10:Nat):Int):=by rw [ed,wrap_in (by omega) (by omega)]
   have hz:((10:Nat)==0)=false:=rfl
   rw [w1,hz]
   simp only [cond_false]
   simp (disch:=(try simp only [e1]); omega) only [cpos,cble]
   exact r1
theorem markText_ev (n:Nat) (hn:n<=1099511627776):∃ r,Ev (fun k=>laws_markText.F k (n:Int)) r:=by
 unfold laws_markText.F
 by_cases c:n=0
 ·refine ⟨⟨#[109,48]⟩,?_⟩
  simp (disch:=omega) only [cpos]
  exact Ev.pure _
 ·obtain ⟨r,r1,r2⟩:=markText_l0 n hn ⟨#[]⟩ (by rw [show (⟨#[]⟩:ByteArray).size=0 from rfl]; omega)
  have e0:(⟨#[]⟩:ByteArray).size=0:=rfl
  have e1:(⟨#[109]⟩:ByteArray).size=1:=rfl
  refine ⟨⟨#[109]⟩++r,?_⟩
  simp (disch:=omega) only [cneg]
  refine Ev.bind r1 ?_
  simp (disch:=omega) only [e1,cble]
  exact Ev.pure _
open Classical in
noncomputable def mt (n:Nat):ByteArray:=if h:∃ r,Ev (fun k=>laws_markText.F k (n:Int)) r then h.choose else ⟨#[]⟩
theorem mt_ev (n:Nat) (hn:n<=1099511627776):Ev (fun k=>laws_markText.F k (n:Int)) (mt n):=by
 have h:=markText_ev n hn
 unfold mt
 rw [dif_pos h]
 exact h.choose_spec
end Go.Proofs.YtehijcmhhkchiaaGreatDoor
end
section
/- Plain laws: deep marks of names,entries and libraries. -/
namespace Go.Proofs.YtehijcmhhkchiaaGreatDoor
open Go.Gx
theorem mtI (x:Int) (h0:0<=x) (h1:x<=1099511627776):∃ r,Ev (fun k=>laws_markText.F k x) r:=by
 obtain ⟨n,rfl⟩:∃ n:Nat,x=n:=⟨x.toNat,by omega⟩
 exact markText_ev n (by omega)
theorem dmS_l0 (xs:List ByteArray) (hlen:xs.length<=1048576):∀ n i:Nat,i+n=xs.length->∀ z:Int,0<=z->z+n<=1099511627776->Ev (fun k=>laws_markStringS_d.l0 k xs z i) (xs,z+n)
 | 0,i,h,z,h0,h1=>by
  refine Ev.step (fun k=>by rw [laws_markStringS_d.l0]) ?_
  simp (disch:=omega) only [cneg]
  exact (Ev.pure _).eq (by simp)
 | n+1,i,h,z,h0,h1=>by
  have hi:i<xs.length:=by omega
  refine Ev.step (fun k=>by rw [laws_markStringS_d.l0]) ?_
  simp (disch:=omega) only [cpos]
  obtain ⟨r,hr⟩:=mtI z h0 (by omega)
  refine Ev.bind hr ?_
  simp (disch:=omega) only [wrap_in]
  refine (dmS_l0 xs hlen n (i+1) (by omega) (z+1) (by omega) (by omega)).eq ?_
  rw [show z+1+(n:Int)=z+((n+1:Nat):Int) by omega]
theorem dmS_ev (xs:List ByteArray) (hlen:xs.length<=1048576) (z:Int) (h0:0<=z) (h1:z+xs.length<=1099511627776):Ev (fun k=>laws_markStringS_d.F k xs z) (z+xs.length):=by
 unfold laws_markStringS_d.F
 exact Ev.bind (dmS_l0 xs hlen xs.length 0 (by omega) z h0 h1) (Ev.pure _)
def cntN (n:Name):Nat:=n.given.length+3
def cntNs (xs:List Name):Nat:=(xs.map cntN).sum
theorem cntNs_drop {xs:List Name} {i:Nat} (hi:i<xs.length):cntNs (xs.drop i)=cntN xs[i]+cntNs (xs.drop (i+1)):=by
 unfold cntNs
 rw [List.drop_eq_getElem_cons hi,List.map_cons,List.sum_cons]
theorem dmN_l0 (xs:List Name) (hs:∀ x ∈ xs,smallN x) (hlen:xs.length<=1048576):∀ n i:Nat,i+n=xs.length->∀ z:Int,0<=z->z+cntNs (xs.drop i)<=1099511627776->Ev (fun k=>laws_markNameS_d.l0 k xs z i) (xs,z+cntNs (xs.drop i))
 | 0,i,h,z,h0,h1=>by
  refine Ev.step (fun k=>by rw [laws_markNameS_d.l0]) ?_
  simp (disch:=omega) only [cneg]
  refine (Ev.pure _).eq ?_
  rw [List.drop_eq_nil_of_le (by omega)]
  simp [cntNs]
 | n+1,i,h,z,h0,h1=>by
  have hi:i<xs.length:=by omega
  have hd:=cntNs_drop hi
  rw [hd] at h1 ⊢
  unfold cntN at h1 ⊢
  have hg:xs[i].given.length<=1048576:=by have:=hs _ (List.getElem_mem hi); unfold smallN totN at this; omega
  refine Ev.step (fun k=>by rw [laws_markNameS_d.l0]) ?_
  simp (disch:=omega) only [cpos,Int.toNat_natCast,getD_at hi]
  refine Ev.bind (dmS_ev xs[i].given hg z h0 (by omega)) ?_
  obtain ⟨r1,e1⟩:=mtI (z+xs[i].given.length) (by omega) (by omega)
  obtain ⟨r2,e2⟩:=mtI (z+xs[i].given.length+1) (by omega) (by omega)
  obtain ⟨r3,e3⟩:=mtI (z+xs[i].given.length+1+1) (by omega) (by omega)
  simp (disch:=omega) only [wrap_in]
  refine Ev.bind e1 (Ev.bind e2 (Ev.bind e3 ?_))
  refine (dmN_l0 xs hs hlen n (i+1) (by omega) (z+xs[i].given.length+1+1+1) (by omega) (by omega)).eq ?_
  rw [show z+(xs[i].given.length:Int)+1+1+1+(cntNs (xs.drop (i+1)):Int)=z+((xs[i].given.length+3+cntNs (xs.drop (i+1)):Nat):Int) by omega]
theorem dmN_ev (xs:List Name) (hs:∀ x ∈ xs,smallN x) (hlen:xs.length<=1048576) (z:Int) (h0:0<=z) (h1:z+cntNs xs<=1099511627776):Ev (fun k=>laws_markNameS_d.F k xs z) (z+cntNs xs):=by
 unfold laws_markNameS_d.F
 exact Ev.bind (dmN_l0 xs hs hlen xs.length 0 (by omega) z h0 (by simpa using h1)) ((Ev.pure _).eq (by simp))
def cntE (e:Entry):Nat:=cntNs e.authors+cntNs e.editors+12
def cntEs (xs:List Entry):Nat:=(xs.map cntE).sum
theorem cntEs_drop {xs:List Entry} {i:Nat} (hi:i<xs.length):cntEs (xs.drop i)=cntE xs[i]+cntEs (xs.drop (i+1)):=by
 unfold cntEs
 rw [List.drop_eq_getElem_cons hi,List.map_cons,List.sum_cons]
theorem cntNs_le:∀ xs:List Name,cntNs xs<=3 * totNs xs
 | []=>by simp [cntNs,totNs]
 | x :: xs=>by
  have:=cntNs_le xs
  unfold cntNs totNs at *
  simp only [List.map_cons,List.sum_cons,List.length_cons]
  have h1:cntN x<=totN x+3:=by unfold cntN totN; omega
  omega
theorem cntEs_le:∀ xs:List Entry,cntEs xs<=12 * totEs xs
 | []=>by simp [cntEs,totEs]
 | x :: xs=>by
  have:=cntEs_le xs
  unfold cntEs totEs at *
  simp only [List.map_cons,List.sum_cons,List.length_cons]
  have h1:cntE x<=3 * totE x+12:=by
   have:=cntNs_le x.authors
   have:=cntNs_le x.editors
   unfold cntE totE
   omega
  omega
theorem dmE_l0 (xs:List Entry) (hs:∀ x ∈ xs,smallE x) (hlen:xs.length<=1048576):∀ n i:Nat,i+n=xs.length->∀ z:Int,0<=z->z+cntEs (xs.drop i)<=1099511627776->Ev (fun k=>laws_markEntryS_d.l0 k xs z i) (xs,z+cntEs (xs.drop i))
 | 0,i,h,z,h0,h1=>by
  refine Ev.step (fun k=>by rw [laws_markEntryS_d.l0]) ?_
  simp (disch:=omega) only [cneg]
  refine (Ev.pure _).eq ?_
  rw [List.drop_eq_nil_of_le (by omega)]
  simp [cntEs]
 | n+1,i,h,z,h0,h1=>by
  have hi:i<xs.length:=by omega
  have hd:=cntEs_drop hi
  rw [hd] at h1 ⊢
  unfold cntE at h1 ⊢
  have hsm:=hs _ (List.getElem_mem hi)
  have ha:=smallE_a hsm
  have he:=smallE_e hsm
  refine Ev.step (fun k=>by rw [laws_markEntryS_d.l0]) ?_
  obtain ⟨r1,e1⟩:=mtI z (by omega) (by omega)
  simp (disch:=omega) only [cpos]
  refine Ev.bind e1 ?_
  simp (disch:=omega) only [cpos,Int.toNat_natCast,getD_at hi,wrap_in]
  refine Ev.bind (dmN_ev xs[i].authors (fun x hx=>smallNs_at ha hx) (smallNs_len ha) (z+1+1) (by omega) (by omega)) ?_
  refine Ev.bind (dmN_ev xs[i].editors (fun x hx=>smallNs_at he hx) (smallNs_len he) (z+1+1+cntNs xs[i].authors) (by omega) (by omega)) ?_
  generalize hw:z+1+1+(cntNs xs[i].authors:Int)+(cntNs xs[i].editors:Int)=w
  have h30:((3:Int)==0)=false:=rfl
  obtain ⟨r4,e4⟩:=mtI w (by omega) (by omega)
  obtain ⟨r5,e5⟩:=mtI (w+1) (by omega) (by omega)
  obtain ⟨r6,e6⟩:=mtI (w+1+1) (by omega) (by omega)
  obtain ⟨r7,e7⟩:=mtI (w+1+1+1+1+1+1+1+1) (by omega) (by omega)
  obtain ⟨r8,e8⟩:=mtI (w+1+1+1+1+1+1+1+1+1) (by omega) (by omega)
  simp (disch:=omega) only [wrap_in,h30,cond_false]
  refine Ev.bind e4 (Ev.bind e5 (Ev.bind e6 (Ev.bind e7 (Ev.bind e8 ?_))))
  refine (dmE_l0 xs hs hlen n (i+1) (by omega) (w+1+1+1+1+1+1+1+1+1+1) (by omega) (by omega)).eq ?_
  rw [show w+1+1+1+1+1+1+1+1+1+1+(cntEs (xs.drop (i+1)):Int)=z+((cntNs xs[i].authors+cntNs xs[i].editors+12+cntEs (xs.drop (i+1)):Nat):Int) by omega]
theorem dmL_ev (l:Library) (hs:smallL l):EvP (fun k=>laws_markLibrary_d.F k l 1) fun r=>0<=r:=by
 have h1:=cntEs_le l.entries
 have h2:totEs l.entries<=1048576:=hs
 unfold laws_markLibrary_d.F laws_markEntryS_d.F
 refine ⟨1+cntEs l.entries,Ev.bind (Ev.bind (dmE_l0 l.entries (fun x hx=>smallL_at hs hx) (smallL_len hs) l.entries.length 0 (by omega) 1 (by omega) (by simp; omega)) ((Ev.pure _).eq (by simp))) (Ev.pure _),by omega⟩
end Go.Proofs.YtehijcmhhkchiaaGreatDoor
end
section
/- Marks of trees: what they hold then,and that it is held. -/
namespace Go.Proofs.YtehijcmhhkchiaaGreatDoor
open Go.Gx
theorem set_mid {α:Type} (pre:List α) (e y:α) (xs:List α):(pre++e :: xs).set pre.length y=pre++y :: xs:=by simp
theorem getD_mid {α:Type} (pre:List α) (e d:α) (xs:List α):(pre++e :: xs).getD pre.length d=e:=by simp [List.getD]
theorem app_one {α:Type} (pre:List α) (y:α) (xs:List α):pre++y :: xs=(pre++[y])++xs:=by simp
theorem len_one {α:Type} (pre:List α) (y:α):(pre.length:Int)+1=((pre++[y]).length:Int):=by simp
theorem beqS_id (s:ByteArray):beqS s s=true:=by simp [beqS]
noncomputable def mtZ (z:Int):ByteArray:=mt z.toNat
theorem mtZ_ev {z:Int} (h0:0<=z) (h1:z<=1099511627776):Ev (fun k=>laws_markText.F k z) (mtZ z):=by
 have h:=mt_ev z.toNat (by omega)
 rw [show ((z.toNat:Nat):Int)=z by omega] at h
 exact h
noncomputable def mkS:List ByteArray->Int->List ByteArray
 | [],_=>[]
 | _ :: xs,z=>mtZ z :: mkS xs (z+1)
theorem xS_l0:∀ (xs pre:List ByteArray) (z:Int),pre.length+xs.length<=1048576->0<=z->z+xs.length<=1099511627776->Ev (fun k=>laws_markStringS_x.l0 k (pre++xs) z pre.length) (pre++mkS xs z,z+xs.length)
 | [],pre,z,h,h0,h1=>by
  refine Ev.step (fun k=>by rw [laws_markStringS_x.l0]) ?_
  simp (disch:=omega) only [List.append_nil,cneg]
  exact (Ev.pure _).eq (by simp [mkS])
 | x :: xs,pre,z,h,h0,h1=>by
  simp only [List.length_cons] at h h1
  refine Ev.step (fun k=>by rw [laws_markStringS_x.l0]) ?_
  simp (disch:=omega) only [List.length_append,List.length_cons,cpos]
  refine Ev.bind (mtZ_ev h0 (by omega)) (Ev.bind (Ev.pure _) ?_)
  simp (disch:=omega) only [Int.toNat_natCast,set_mid,wrap_in]
  rw [app_one,len_one pre (mtZ z)]
  refine (xS_l0 xs (pre++[mtZ z]) (z+1) (by simp; omega) (by omega) (by omega)).eq ?_
  simp only [mkS,List.append_assoc,List.singleton_append,List.length_cons]
  congr 1; omega
theorem xS_ev (xs:List ByteArray) (z:Int) (h:xs.length<=1048576) (h0:0<=z) (h1:z+xs.length<=1099511627776):Ev (fun k=>laws_markStringS_x.F k xs z) (mkS xs z,z+xs.length):=by
 unfold laws_markStringS_x.F
 exact Ev.bind (xS_l0 xs [] z (by simpa using h) h0 h1) ((Ev.pure _).eq (by simp))
theorem hS_l0:∀ (xs pre:List ByteArray) (z:Int),pre.length+xs.length<=1048576->0<=z->z+xs.length<=1099511627776->Ev (fun k=>laws_heldStringS.l0 k (pre++mkS xs z) z pre.length) (.inr (z+xs.length))
 | [],pre,z,h,h0,h1=>by
  refine Ev.step (fun k=>by rw [laws_heldStringS.l0]) ?_
  simp (disch:=omega) only [mkS,List.append_nil,cneg]
  exact (Ev.pure _).eq (by simp)
 | x :: xs,pre,z,h,h0,h1=>by
  simp only [List.length_cons] at h h1
  refine Ev.step (fun k=>by rw [laws_heldStringS.l0]) ?_
  simp (disch:=omega) only [mkS,List.length_append,List.length_cons,cpos,Int.toNat_natCast,getD_mid]
  refine Ev.bind (mtZ_ev h0 (by omega)) ?_
  simp (disch:=omega) only [beqS_id,Bool.not_true,cond_false,wrap_in]
  rw [app_one,len_one pre (mtZ z)]
  refine (hS_l0 xs (pre++[mtZ z]) (z+1) (by simp; omega) (by omega) (by omega)).eq ?_
  congr 1; push_cast [List.length_cons]; omega
theorem hS_ev (xs:List ByteArray) (z:Int) (h:xs.length<=1048576) (h0:0<=z) (h1:z+xs.length<=1099511627776):Ev (fun k=>laws_heldStringS.F k (mkS xs z) z) (z+xs.length):=by
 unfold laws_heldStringS.F
 exact Ev.bind (hS_l0 xs [] z (by simpa using h) h0 h1) (Ev.pure _)
noncomputable def mkN (n:Name) (z:Int):Name:=⟨mkS n.given z,mtZ (z+n.given.length),mtZ (z+n.given.length+1),mtZ (z+n.given.length+1+1)⟩
noncomputable def mkNs:List Name->Int->List Name
 | [],_=>[]
 | n :: xs,z=>mkN n z :: mkNs xs (z+n.given.length+1+1+1)
theorem cntNs_cons (n:Name) (xs:List Name):(cntNs (n :: xs):Int)=n.given.length+3+cntNs xs:=by
 simp only [cntNs,List.map_cons,List.sum_cons,cntN]; omega
theorem xN_l0:∀ (xs pre:List Name) (z:Int),(∀ x ∈ xs,smallN x)->pre.length+xs.length<=1048576->0<=z->z+cntNs xs<=1099511627776->Ev (fun k=>laws_markNameS_x.l0 k (pre++xs) z pre.length) (pre++mkNs xs z,z+cntNs xs)
 | [],pre,z,hs,h,h0,h1=>by
  refine Ev.step (fun k=>by rw [laws_markNameS_x.l0]) ?_
  simp (disch:=omega) only [List.append_nil,cneg]
  exact (Ev.pure _).eq (by simp [mkNs,cntNs])
 | x :: xs,pre,z,hs,h,h0,h1=>by
  rw [cntNs_cons] at h1
  simp only [List.length_cons] at h
  have hg:x.given.length<=1048576:=by have:=hs x List.mem_cons_self; unfold smallN totN at this; omega
  refine Ev.step (fun k=>by rw [laws_markNameS_x.l0]) ?_
  simp (disch:=omega) only [List.length_append,List.length_cons,cpos,Int.toNat_natCast,getD_mid]
  refine Ev.bind (xS_ev x.given z hg h0 (by omega)) (Ev.bind (Ev.pure _) ?_)
  simp (disch:=omega) only [set_mid,getD_mid,List.length_append,List.length_cons,cpos,Int.toNat_natCast,wrap_in]
  refine Ev.bind (mtZ_ev (by omega) (by omega)) (Ev.bind (Ev.pure _) ?_)
  simp (disch:=omega) only [set_mid,getD_mid,List.length_append,List.length_cons,cpos,Int.toNat_natCast,wrap_in]
  refine Ev.bind (mtZ_ev (by omega) (by omega)) (Ev.bind (Ev.pure _) ?_)
  simp (disch:=omega) only [set_mid,getD_mid,List.length_append,List.length_cons,cpos,Int.toNat_natCast,wrap_in]
  refine Ev.bind (mtZ_ev (by omega) (by omega)) (Ev.bind (Ev.pure _) ?_)
  rw [app_one,len_one pre (mkN x z)]
  refine (xN_l0 xs (pre++[mkN x z]) (z+x.given.length+1+1+1) (fun y hy=>hs y (List.mem_cons_of_mem _ hy)) (by simp; omega) (by omega) (by omega)).eq ?_
  simp only [mkNs,List.append_assoc,List.singleton_append,cntNs_cons]
  congr 1; omega
theorem xN_ev (xs:List Name) (z:Int) (hs:∀ x ∈ xs,smallN x) (h:xs.length<=1048576) (h0:0<=z) (h1:z+cntNs xs<=1099511627776):Ev (fun k=>laws_markNameS_x.F k xs z) (mkNs xs z,z+cntNs xs):=by
 unfold laws_markNameS_x.F
 exact Ev.bind (xN_l0 xs [] z hs (by simpa using h) h0 h1) ((Ev.pure _).eq (by simp))
theorem hN_l0:∀ (xs pre:List Name) (z:Int),(∀ x ∈ xs,smallN x)->pre.length+xs.length<=1048576->0<=z->z+cntNs xs<=1099511627776->Ev (fun k=>laws_heldNameS.l0 k (pre++mkNs xs z) z pre.length) (.inr (z+cntNs xs))
 | [],pre,z,hs,h,h0,h1=>by
  refine Ev.step (fun k=>by rw [laws_heldNameS.l0]) ?_
  simp (disch:=omega) only [mkNs,List.append_nil,cneg]
  exact (Ev.pure _).eq (by simp [cntNs])
 | x :: xs,pre,z,hs,h,h0,h1=>by
  rw [cntNs_cons] at h1
  simp only [List.length_cons] at h
  have hg:x.given.length<=1048576:=by have:=hs x List.mem_cons_self; unfold smallN totN at this; omega
  refine Ev.step (fun k=>by rw [laws_heldNameS.l0]) ?_
  simp (disch:=omega) only [mkNs,mkN,List.length_append,List.length_cons,cpos,Int.toNat_natCast,getD_mid]
  refine Ev.bind (hS_ev x.given z hg h0 (by omega)) ?_
  simp (disch:=omega) only [cneg]
  refine Ev.bind (mtZ_ev (by omega) (by omega)) ?_
  simp (disch:=omega) only [beqS_id,Bool.not_true,cond_false,wrap_in]
  refine Ev.bind (mtZ_ev (by omega) (by omega)) ?_
  simp (disch:=omega) only [beqS_id,Bool.not_true,cond_false,wrap_in]
  refine Ev.bind (mtZ_ev (by omega) (by omega)) ?_
  simp (disch:=omega) only [beqS_id,Bool.not_true,cond_false,wrap_in]
  rw [app_one,len_one pre (mkN x z)]
  refine (hN_l0 xs (pre++[mkN x z]) (z+x.given.length+1+1+1) (fun y hy=>hs y (List.mem_cons_of_mem _ hy)) (by simp; omega) (by omega) (by omega)).eq ?_
  rw [cntNs_cons]
  congr 1; omega
theorem hN_ev (xs:List Name) (z:Int) (hs:∀ x ∈ xs,smallN x) (h:xs.length<=1048576) (h0:0<=z) (h1:z+cntNs xs<=1099511627776):Ev (fun k=>laws_heldNameS.F k (mkNs xs z) z) (z+cntNs xs):=by
 unfold laws_heldNameS.F
 exact Ev.bind (hN_l0 xs [] z hs (by simpa using h) h0 h1) (Ev.pure _)
noncomputable def mkE (e:Entry) (z:Int):Entry :=
 let u:=z+1+1+cntNs e.authors+cntNs e.editors
 ⟨mtZ z,z+1,mkNs e.authors (z+1+1),mkNs e.editors (z+1+1+cntNs e.authors),mtZ u,mtZ (u+1),mtZ (u+1+1),⟨u+1+1+1,u+1+1+1+1,u+1+1+1+1+1,Int.tmod (u+1+1+1+1+1+1) 3==0⟩,u+1+1+1+1+1+1+1,mtZ (u+1+1+1+1+1+1+1+1),mtZ (u+1+1+1+1+1+1+1+1+1)⟩
noncomputable def mkEs:List Entry->Int->List Entry
 | [],_=>[]
 | e :: xs,z=>mkE e z :: mkEs xs (z+1+1+cntNs e.authors+cntNs e.editors+1+1+1+1+1+1+1+1+1+1)
theorem cntEs_cons (e:Entry) (xs:List Entry):(cntEs (e :: xs):Int)=cntNs e.authors+cntNs e.editors+12+cntEs xs:=by
 simp only [cntEs,List.map_cons,List.sum_cons,cntE]; omega
theorem small_names {e:Entry} (h:smallE e):(∀ x ∈ e.authors,smallN x)/\(∀ x ∈ e.editors,smallN x)/\e.authors.length<=1048576/\e.editors.length<=1048576:=by
 have ha:=smallE_a h
 have he:=smallE_e h
 have key:∀ xs:List Name,totNs xs<=1048576->(∀ x ∈ xs,smallN x)/\xs.length<=1048576:=fun xs hx=>by
  unfold totNs at hx
  refine ⟨fun x hm=> ?_,by omega⟩
  have:=sum_mem totN hm
  unfold smallN
  omega
 exact ⟨(key _ ha).1,(key _ he).1,(key _ ha).2,(key _ he).2⟩
theorem xE_l0:∀ (xs pre:List Entry) (z:Int),(∀ x ∈ xs,smallE x)->pre.length+xs.length<=1048576->0<=z->z+cntEs xs<=1099511627776->Ev (fun k=>laws_markEntryS_x.l0 k (pre++xs) z pre.length) (pre++mkEs xs z,z+cntEs xs)
 | [],pre,z,hs,h,h0,h1=>by
  refine Ev.step (fun k=>by rw [laws_markEntryS_x.l0]) ?_
  simp (disch:=omega) only [List.append_nil,cneg]
  exact (Ev.pure _).eq (by simp [mkEs,cntEs])
 | x :: xs,pre,z,hs,h,h0,h1=>by
  rw [cntEs_cons] at h1
  simp only [List.length_cons] at h
  obtain ⟨s1,s2,s3,s4⟩:=small_names (hs x List.mem_cons_self)
  refine Ev.step (fun k=>by rw [laws_markEntryS_x.l0]) ?_
  simp (disch:=omega) only [List.length_append,List.length_cons,cpos,Int.toNat_natCast,getD_mid]
  refine Ev.bind (mtZ_ev (by omega) (by omega)) (Ev.bind (Ev.pure _) ?_)
  simp (disch:=omega) only [set_mid,getD_mid,List.length_append,List.length_cons,cpos,Int.toNat_natCast,wrap_in]
  refine Ev.bind (Ev.pure _) ?_
  simp (disch:=omega) only [set_mid,getD_mid,List.length_append,List.length_cons,cpos,Int.toNat_natCast,wrap_in]
  refine Ev.bind (xN_ev x.authors (z+1+1) s1 s3 (by omega) (by omega)) (Ev.bind (Ev.pure _) ?_)
  simp (disch:=omega) only [set_mid,getD_mid,List.length_append,List.length_cons,cpos,Int.toNat_natCast,wrap_in]
  refine Ev.bind (xN_ev x.editors (z+1+1+cntNs x.authors) s2 s4 (by omega) (by omega)) (Ev.bind (Ev.pure _) ?_)
  simp (disch:=omega) only [set_mid,getD_mid,List.length_append,List.length_cons,cpos,Int.toNat_natCast,wrap_in]
  refine Ev.bind (mtZ_ev (by omega) (by omega)) (Ev.bind (Ev.pure _) ?_)
  simp (disch:=omega) only [set_mid,getD_mid,List.length_append,List.length_cons,cpos,Int.toNat_natCast,wrap_in]
  refine Ev.bind (mtZ_ev (by omega) (by omega)) (Ev.bind (Ev.pure _) ?_)
  simp (disch:=omega) only [set_mid,getD_mid,List.length_append,List.length_cons,cpos,Int.toNat_natCast,wrap_in]
  refine Ev.bind (mtZ_ev (by omega) (by omega)) (Ev.bind (Ev.pure _) ?_)
  simp (disch:=omega) only [set_mid,getD_mid,List.length_append,List.length_cons,cpos,Int.toNat_natCast,wrap_in]
  refine Ev.bind (Ev.pure _) ?_
  simp (disch:=omega) only [set_mid,getD_mid,List.length_append,List.length_cons,cpos,Int.toNat_natCast,wrap_in]
  refine Ev.bind (Ev.pure _) ?_
  simp (disch:=omega) only [set_mid,getD_mid,List.length_append,List.length_cons,cpos,Int.toNat_natCast,wrap_in]
  refine Ev.bind (Ev.pure _) ?_
  simp (disch:=omega) only [set_mid,getD_mid,List.length_append,List.length_cons,cpos,Int.toNat_natCast,wrap_in]
  rw [show ((3:Nat)==0)=false from rfl]
  simp (disch:=omega) only [cond_false,cpos]
  refine Ev.bind (Ev.pure _) ?_
  simp (disch:=omega) only [set_mid,getD_mid,List.length_append,List.length_cons,cpos,Int.toNat_natCast,wrap_in]
  refine Ev.bind (Ev.pure _) ?_
  simp (disch:=omega) only [set_mid,getD_mid,List.length_append,List.length_cons,cpos,Int.toNat_natCast,wrap_in]
  refine Ev.bind (mtZ_ev (by omega) (by omega)) (Ev.bind (Ev.pure _) ?_)
  simp (disch:=omega) only [set_mid,getD_mid,List.length_append,List.length_cons,cpos,Int.toNat_natCast,wrap_in]
  refine Ev.bind (mtZ_ev (by omega) (by omega)) (Ev.bind (Ev.pure _) ?_)
  rw [app_one,len_one pre (mkE x z)]
  refine (xE_l0 xs (pre++[mkE x z]) (z+1+1+cntNs x.authors+cntNs x.editors+1+1+1+1+1+1+1+1+1+1) (fun y hy=>hs y (List.mem_cons_of_mem _ hy)) (by simp; omega) (by omega) (by omega)).eq ?_
  simp only [mkEs,List.append_assoc,List.singleton_append,cntEs_cons]
  congr 1; omega
theorem xE_ev (xs:List Entry) (z:Int) (hs:∀ x ∈ xs,smallE x) (h:xs.length<=1048576) (h0:0<=z) (h1:z+cntEs xs<=1099511627776):Ev (fun k=>laws_markEntryS_x.F k xs z) (mkEs xs z,z+cntEs xs):=by
 unfold laws_markEntryS_x.F
 exact Ev.bind (xE_l0 xs [] z hs (by simpa using h) h0 h1) ((Ev.pure _).eq (by simp))
theorem hE_l0:∀ (xs pre:List Entry) (z:Int),(∀ x ∈ xs,smallE x)->pre.length+xs.length<=1048576->0<=z->z+cntEs xs<=1099511627776->Ev (fun k=>laws_heldEntryS.l0 k (pre++mkEs xs z) z pre.length) (.inr (z+cntEs xs))
 | [],pre,z,hs,h,h0,h1=>by
  refine Ev.step (fun k=>by rw [laws_heldEntryS.l0]) ?_
  simp (disch:=omega) only [mkEs,List.append_nil,cneg]
  exact (Ev.pure _).eq (by simp [cntEs])
 | x :: xs,pre,z,hs,h,h0,h1=>by
  rw [cntEs_cons] at h1
  simp only [List.length_cons] at h
  obtain ⟨s1,s2,s3,s4⟩:=small_names (hs x List.mem_cons_self)
  refine Ev.step (fun k=>by rw [laws_heldEntryS.l0]) ?_
  simp (disch:=omega) only [mkEs,mkE,List.length_append,List.length_cons,cpos,Int.toNat_natCast,getD_mid]
  refine Ev.bind (mtZ_ev (by omega) (by omega)) ?_
  simp (disch:=omega) only [beqS_id,bne_self_eq_false,beq_self_eq_true,Bool.not_true,cond_false,wrap_in,cneg]
  refine Ev.bind (hN_ev x.authors (z+1+1) s1 s3 (by omega) (by omega)) ?_
  simp (disch:=omega) only [beqS_id,bne_self_eq_false,beq_self_eq_true,Bool.not_true,cond_false,wrap_in,cneg]
  refine Ev.bind (hN_ev x.editors (z+1+1+cntNs x.authors) s2 s4 (by omega) (by omega)) ?_
  simp (disch:=omega) only [beqS_id,bne_self_eq_false,beq_self_eq_true,Bool.not_true,cond_false,wrap_in,cneg]
  refine Ev.bind (mtZ_ev (by omega) (by omega)) ?_
  simp (disch:=omega) only [beqS_id,bne_self_eq_false,beq_self_eq_true,Bool.not_true,cond_false,wrap_in,cneg]
  refine Ev.bind (mtZ_ev (by omega) (by omega)) ?_
  simp (disch:=omega) only [beqS_id,bne_self_eq_false,beq_self_eq_true,Bool.not_true,cond_false,wrap_in,cneg]
  refine Ev.bind (mtZ_ev (by omega) (by omega)) ?_
  simp (disch:=omega) only [beqS_id,bne_self_eq_false,beq_self_eq_true,Bool.not_true,cond_false,wrap_in,cneg]
  rw [show ((3:Nat)==0)=false from rfl]
  simp (disch:=omega) only [beqS_id,bne_self_eq_false,beq_self_eq_true,Bool.not_true,cond_false,wrap_in,cneg]
  refine Ev.bind (mtZ_ev (by omega) (by omega)) ?_
  simp (disch:=omega) only [beqS_id,bne_self_eq_false,beq_self_eq_true,Bool.not_true,cond_false,wrap_in,cneg]
  refine Ev.bind (mtZ_ev (by omega) (by omega)) ?_
  simp (disch:=omega) only [beqS_id,bne_self_eq_false,beq_self_eq_true,Bool.not_true,cond_false,wrap_in,cneg]
  rw [app_one,len_one pre (mkE x z)]
  refine (hE_l0 xs (pre++[mkE x z]) (z+1+1+cntNs x.authors+cntNs x.editors+1+1+1+1+1+1+1+1+1+1) (fun y hy=>hs y (List.mem_cons_of_mem _ hy)) (by simp; omega) (by omega) (by omega)).eq ?_
  rw [cntEs_cons]
  congr 1; omega
theorem hE_ev (xs:List Entry) (z:Int) (hs:∀ x ∈ xs,smallE x) (h:xs.length<=1048576) (h0:0<=z) (h1:z+cntEs xs<=1099511627776):Ev (fun k=>laws_heldEntryS.F k (mkEs xs z) z) (z+cntEs xs):=by
 unfold laws_heldEntryS.F
 exact Ev.bind (hE_l0 xs [] z hs (by simpa using h) h0 h1) (Ev.pure _)
theorem xL_ev (l:Library) (hs:smallL l):∃ m:Int,0<=m/\Ev (fun k=>laws_markLibrary_x.F k l 1) (⟨mkEs l.entries 1⟩,m)/\Ev (fun k=>laws_heldLibrary.F k ⟨mkEs l.entries 1⟩ 1) m:=by
 have h1:=cntEs_le l.entries
 have h2:totEs l.entries<=1048576:=hs
 refine ⟨1+cntEs l.entries,by omega,?_,?_⟩
 ·unfold laws_markLibrary_x.F
  exact Ev.bind (xE_ev l.entries 1 (fun x hx=>smallL_at hs hx) (smallL_len hs) (by omega) (by omega)) (Ev.bind (Ev.pure _) (Ev.pure _))
 ·unfold laws_heldLibrary.F
  refine Ev.bind (hE_ev l.entries 1 (fun x hx=>smallL_at hs hx) (smallL_len hs) (by omega) (by omega)) ?_
  simp (disch:=omega) only [cneg]
  exact Ev.pure _
end Go.Proofs.YtehijcmhhkchiaaGreatDoor
end
section
/- Plain laws: resolved entries,whose answers are trees. -/
namespace Go.Proofs.YtehijcmhhkchiaaGreatDoor
open Go.Gx
theorem chainT_l0:∀ (k:Nat) (a:Int) (b:Library) (c:List Int),impl_chainOf_t.l0 k a b c=impl_chainOf.l0 k a b c
 | 0,_,_,_=>rfl
 | k+1,a,b,c=>by simp only [impl_chainOf_t.l0,impl_chainOf.l0,chainT_l0 k]
theorem chainT (k:Nat) (a:Library) (b:Int):impl_chainOf_t.F k a b=impl_chainOf.F k a b:=by
 simp only [impl_chainOf_t.F,impl_chainOf.F,chainT_l0]
theorem newNamesT_l0:∀ (k:Nat) (a b:List Name) (c d:Int),impl_newNames_t.l0 k a b c d=impl_newNames.l0 k a b c d
 | 0,_,_,_,_=>rfl
 | k+1,a,b,c,d=>by simp only [impl_newNames_t.l0,impl_newNames.l0,newNamesT_l0 k]
theorem newNamesT (k:Nat) (a:List Name):impl_newNames_t.F k a=impl_newNames.F k a:=by
 simp only [impl_newNames_t.F,impl_newNames.F,newNamesT_l0]
theorem newEntryT (k:Nat) (a:Entry):impl_newEntry_t.F k a=impl_newEntry.F k a:=by
 simp only [impl_newEntry_t.F,impl_newEntry.F,newNamesT]
theorem orNamesT (k:Nat) (a b:List Name):impl_orNames_t.F k a b=impl_orNames.F k a b:=by
 simp only [impl_orNames_t.F,impl_orNames.F,newNamesT]
theorem inheritT (k:Nat) (a b:Entry):impl_inherit_v.F k a b=impl_inherit.F k a b:=by
 simp only [impl_inherit_v.F,impl_inherit.F,orNamesT]
theorem newEntryT_ev (e:Entry) (h:okF e):Ev (fun k=>impl_newEntry_t.F k e) e:=(newEntry_ev e h).congr fun k=>newEntryT k e
theorem inheritT_ev (e p:Entry) (he:okF e) (hp:okF p):Ev (fun k=>impl_inherit_v.F k e p) (inhV e p):=(implInh_ev e p he hp).congr fun k=>inheritT k e p
theorem split_size (k:Nat):∀ s:ByteArray,s.size<=totS (Lib.splitB sp 0 k s)+(Lib.splitB sp 0 k s).length:=by
 induction k with
 | zero=>intro s; rw [Lib.splitB_zero]; simp [totS]
 | succ k ih=>
  intro s
  unfold Lib.splitB
  split
  ·simp [totS]
  ·have h:=ih (s.extract ((Lib.indexB s sp).toNat+sp.size) s.size)
   have h1:sp.size=1:=rfl
   simp only [totS,List.map_cons,List.sum_cons,List.length_cons,ByteArray.size_extract] at h ⊢
   omega
theorem part_size {s:ByteArray} (h:particleB s=true):s.size<=26:=by
 unfold particleB at h
 rw [Bool.or_eq_true,Bool.and_eq_true,decide_eq_true_eq,decide_eq_true_eq,List.all_eq_true] at h
 rcases h with h | ⟨h1,h2⟩
 ·omega
 ·have h3:=split_size (Lib.countB s sp) s
  have h4:∀ l:List ByteArray,(∀ x ∈ l,pw x=true)->totS l<=12 * l.length:=fun l=>by
   induction l with
   | nil=>intro _; simp [totS]
   | cons x l ih=>
    intro hl
    have h5:=ih fun y hy=>hl y (List.mem_cons_of_mem _ hy)
    have h6:=hl x List.mem_cons_self
    unfold pw at h6
    rw [Bool.and_eq_true] at h6
    have h7:=ins_le h6.1
    simp only [totS,List.map_cons,List.sum_cons,List.length_cons] at h5 ⊢
    omega
  have h5:=h4 (words s) h1
  unfold words at h5 h2
  omega
theorem wordB_size {s:ByteArray} (h:wordB s=true):s.size<=12:=by
 unfold wordB at h
 rw [Bool.and_eq_true] at h
 have:=ins_le h.1
 omega
theorem name_size {n:Name} (h:nameB n=true):totN n<=100:=by
 unfold nameB gw suffB at h
 simp only [Bool.and_eq_true,Bool.or_eq_true,decide_eq_true_eq,List.all_eq_true] at h
 obtain ⟨h1,h2,h3,h4,h5⟩:=h
 have k1:∀ l:List ByteArray,(∀ x ∈ l,wordB x=true)->totS l<=12 * l.length:=fun l=>by
  induction l with
  | nil=>intro _; simp [totS]
  | cons x l ih=>
   intro hl
   have h5:=ih fun y hy=>hl y (List.mem_cons_of_mem _ hy)
   have h6:=wordB_size (hl x List.mem_cons_self)
   simp only [totS,List.map_cons,List.sum_cons,List.length_cons] at h5 ⊢
   omega
 have k2:=k1 n.given fun x hx=>(h1 x hx).1
 have k3:=part_size h3
 have k4:=wordB_size h4.1
 have k5:n.suffix.size<=12:=by
  rcases h5 with h5 | h5
  ·omega
  ·exact wordB_size h5
 unfold totN
 omega
theorem names_size {l:List Name} (h:namesB l=true):totNs l<=404:=by
 unfold namesB at h
 simp only [Bool.and_eq_true,decide_eq_true_eq,List.all_eq_true] at h
 have k1:∀ l:List Name,(∀ x ∈ l,nameB x=true)->(l.map totN).sum<=100 * l.length:=fun l=>by
  induction l with
  | nil=>intro _; simp
  | cons x l ih=>
   intro hl
   have h5:=ih fun y hy=>hl y (List.mem_cons_of_mem _ hy)
   have h6:=name_size (hl x List.mem_cons_self)
   simp only [List.map_cons,List.sum_cons,List.length_cons]
   omega
 have:=k1 l h.1
 unfold totNs
 omega
def shortE (e:Entry):Prop:=e.key.size<=40/\e.title.size<=40/\e.container.size<=40/\e.publisher.size<=40/\e.pages.size<=40/\e.cross.size<=40
theorem short_tot {e:Entry} (h:shortE e) (ho:okF e):totE e<=1100:=by
 obtain ⟨h1,h2,h3,h4,h5,h6⟩:=h
 have h7:=names_size ho.1
 have h8:=names_size ho.2.1
 unfold totE
 omega
theorem orT_short {a b:ByteArray} (ha:a.size<=40) (hb:b.size<=40):(orT a b).size<=40:=by unfold orT; cases beqS a ⟨#[]⟩ <;> assumption
theorem inh_short {e p:Entry} (he:shortE e) (hp:shortE p):shortE (inhV e p):=by
 obtain ⟨h1,h2,h3,h4,h5,h6⟩:=he
 obtain ⟨k1,k2,k3,k4,k5,k6⟩:=hp
 unfold shortE inhV
 dsimp only
 refine ⟨h1,h2,?_,orT_short h4 k4,h5,h6⟩
 cases (e.kind==3) <;> cases (e.kind==2) <;> simp only [cond_true,cond_false]
 ·exact orT_short h3 k3
 ·exact orT_short h3 k2
 ·exact orT_short h3 k2
 ·exact orT_short h3 k2
theorem textB_size {s:ByteArray} (h:textB s=true):s.size<=40:=by
 unfold textB at h
 simp only [Bool.and_eq_true,decide_eq_true_eq] at h
 exact h.1
theorem keyB_size {s:ByteArray} (h:keyB s=true):s.size<=10:=by
 unfold keyB at h
 rw [Bool.and_eq_true] at h
 have:=ins_le h.1
 omega
theorem entry_short {e:Entry} (h:entryB e=true):shortE e:=by
 unfold entryB crossB at h
 simp only [Bool.and_eq_true,Bool.or_eq_true,decide_eq_true_eq] at h
 obtain ⟨h1,_,_,_,h2,h3,h4,h5,_,_,h6⟩:=h
 refine ⟨by have:=keyB_size h1; omega,textB_size h2,textB_size h3,textB_size h4,textB_size h5,?_⟩
 rcases h6 with h6 | h6
 ·omega
 ·have:=keyB_size h6.1; omega
theorem lib_short {l:Library} (h:libB l=true) {i:Nat} (hi:i<l.entries.length):shortE l.entries[i]:=by
 refine entry_short ?_
 unfold libB at h
 simp only [Bool.and_eq_true,List.all_eq_true] at h
 have:=h.1 i (by rw [List.mem_range'_1]; omega)
 unfold okL at this
 simp only [Bool.and_eq_true,getD_at hi] at this
 exact this.1
theorem resT_l (l:Library) (hs:smallL l) (hB:libB l=true) (x4:Entry) (c:List Int) (hc:∀ x ∈ c,0<=x/\x<l.entries.length) (hcl:c.length<=8):∀ n:Nat,n<=c.length->∀ out:Entry,okF out->shortE out ->
  ∃ r,okF r/\shortE r/\Ev (fun k=>spec_l21Resolve.l0 k l x4.key x4.kind x4.authors x4.editors x4.title x4.container x4.publisher x4.date x4.volume x4.pages x4.cross c out ((n:Int)-1)) (x4.key,x4.kind,x4.authors,x4.editors,x4.title,x4.container,x4.publisher,x4.date,x4.volume,x4.pages,x4.cross,r)/\Ev (fun k=>impl_resolveEntry_t.l0 k l x4.key x4.kind x4.title x4.container x4.publisher x4.date x4.volume x4.pages x4.cross c out ((n:Int)-1)) (x4.key,x4.kind,x4.title,x4.container,x4.publisher,x4.date,x4.volume,x4.pages,x4.cross,r)
 | 0,h,out,ho,ht=>by
  refine ⟨out,ho,ht,Ev.step (fun k=>by rw [spec_l21Resolve.l0]) ?_,Ev.step (fun k=>by rw [impl_resolveEntry_t.l0]) ?_⟩ <;>
   (simp (disch:=omega) only [cneg]; exact Ev.pure _)
 | n+1,h,out,ho,ht=>by
  have hn:n<c.length:=by omega
  obtain ⟨x0,x1⟩:=hc _ (List.getElem_mem hn)
  have hx:c[n].toNat<l.entries.length:=by omega
  have hk:=lib_ok hs hB hx
  obtain ⟨r,r1,r0,r2,r3⟩:=resT_l l hs hB x4 c hc hcl n (by omega) (inhV l.entries[c[n].toNat] out) (inh_ok _ _ hk ho) (inh_short (lib_short hB hx) ht)
  rw [show ((n+1:Nat):Int)-1=(n:Int) by omega]
  refine ⟨r,r1,r0,Ev.step (fun k=>by rw [spec_l21Resolve.l0]) ?_,Ev.step (fun k=>by rw [impl_resolveEntry_t.l0]) ?_⟩
  ·simp (disch:=omega) only [cpos,Int.toNat_natCast,getD_at hn,getD_at hx,wrap_in]
   exact Ev.bind (specInh_ev _ _ hk ho) r2
  ·simp (disch:=omega) only [cpos,Int.toNat_natCast,getD_at hn,getD_at hx,wrap_in]
   exact Ev.bind (newEntryT_ev _ hk) (Ev.bind (inheritT_ev _ _ hk ho) r3)
theorem resolveT_ev (l:Library) (hs:smallL l) (hB:libB l=true) (hl:l.entries.length<=8) (i:Int) (h0:0<=i) (h1:i<l.entries.length) :
  ∃ r b,Ev (fun k=>spec_l21Resolve.F k l i) (r,b)/\Ev (fun k=>impl_resolveEntry_t.F k l i) (r,b)/\totE r<=1100:=by
 obtain ⟨c,b,c1,c2,c3,c4,c5,c6⟩:=chain_ev1 l hl i h0 h1
 have c2:Ev (fun k=>impl_chainOf_t.F k l i) (c,b):=c2.congr fun k=>chainT k l i
 unfold spec_l21Resolve.F impl_resolveEntry_t.F
 cases b with
 | true=>exact ⟨_,false,Ev.bind c1 (Ev.pure _),Ev.bind c2 (Ev.pure _),by unfold totE; decide⟩
 | false=>
  have hn:c.length-1<c.length:=by omega
  obtain ⟨x0,x1⟩:=c4 _ (List.getElem_mem hn)
  have hx:c[c.length-1].toNat<l.entries.length:=by omega
  have hk:=lib_ok hs hB hx
  have e1:((c.length:Int)-1).toNat=c.length-1:=by omega
  obtain ⟨r,r1,r0,r2,r3⟩:=resT_l l hs hB (dflt .entry) c c4 (by omega) (c.length-1) (by omega) _ hk (lib_short hB hx)
  have e2:((c.length-1:Nat):Int)-1=(c.length:Int)-2:=by omega
  rw [e2] at r2 r3
  refine ⟨r,true,Ev.bind c1 ?_,Ev.bind c2 ?_,short_tot r0 r1⟩
  ·simp (disch:=omega) only [cond_false,wrap_in,e1,cpos,getD_at hn,getD_at hx]
   exact Ev.bind (copy_ev _ hk) (Ev.bind r2 (Ev.pure _))
  ·simp (disch:=omega) only [cond_false,wrap_in,e1,cpos,getD_at hn,getD_at hx]
   exact Ev.bind (newEntryT_ev _ hk) (Ev.bind r3 (Ev.pure _))
end Go.Proofs.YtehijcmhhkchiaaGreatDoor
end
section
/- The plain laws of CrossChain,ChildrenOf,BrokenCrosses and DependentsOf. -/
namespace Go.Proofs.YtehijcmhhkchiaaGreatDoor
open Go.Gx
end Go.Proofs.YtehijcmhhkchiaaGreatDoor
end
section
/- The plain laws of ResolveEntry and ResolveLibrary. -/
namespace Go.Proofs.YtehijcmhhkchiaaGreatDoor
open Go.Gx
theorem room_e {n:Nat} (h:n<=1000):room n .entry=true:=by
 have h2:nb .entry<=1000:=by decide
 have h3:n * nb .entry<=1000 * 1000:=Nat.mul_le_mul h h2
 exact Nat.ble_eq_true_of_le (Nat.le_trans h3 (by decide))
theorem resL_l (l:Library) (hs:smallL l) (hB:libB l=true) (hl:l.entries.length<=8) (x2:List Entry):∀ n i:Nat,i+n=l.entries.length->∀ acc:List Entry,acc.length=i->(∀ e ∈ acc,totE e<=1100) ->
  ∃ b:Bool,∃ out:List Entry,out.length<=8/\(∀ e ∈ out,totE e<=1100) /\
   Ev (fun k=>spec_ResolveLibrary.l0 k l x2 acc i) (bif b then .inr (x2,out) else .inl ([],false))/\Ev (fun k=>impl_ResolveLibrary_t.l0 k l acc l.entries.length i) (bif b then .inr out else .inl false)
 | 0,i,h,acc,ha,hsm=>by
  refine ⟨true,acc,by omega,hsm,Ev.step (fun k=>by rw [spec_ResolveLibrary.l0]) ?_,Ev.step (fun k=>by rw [impl_ResolveLibrary_t.l0]) ?_⟩ <;>
   (simp (disch:=omega) only [cneg,cond_true]; exact Ev.pure _)
 | n+1,i,h,acc,ha,hsm=>by
  obtain ⟨r,b,r1,r2,r3⟩:=resolveT_ev l hs hB hl i (by omega) (by omega)
  cases b with
  | false=>
   refine ⟨false,[],by simp,(fun _ h=>by cases h),Ev.step (fun k=>by rw [spec_ResolveLibrary.l0]) ?_,Ev.step (fun k=>by rw [impl_ResolveLibrary_t.l0]) ?_⟩
   ·simp (disch:=omega) only [cpos,cond_false]
    exact Ev.bind r1 (Ev.pure _)
   ·simp (disch:=omega) only [cpos,cond_false]
    exact Ev.bind r2 (Ev.pure _)
  | true=>
   obtain ⟨b',out,o1,o2,o3,o4⟩:=resL_l l hs hB hl x2 n (i+1) (by omega) (acc++[r]) (by simp [ha]) (fun e he=>by
    rcases List.mem_append.1 he with he | he
    ·exact hsm e he
    ·rw [List.mem_singleton.1 he]; exact r3)
   have hr:room (acc.length+([r]:List Entry).length) .entry=true:=room_e (by simp; omega)
   refine ⟨b',out,o1,o2,Ev.step (fun k=>by rw [spec_ResolveLibrary.l0]) ?_,Ev.step (fun k=>by rw [impl_ResolveLibrary_t.l0]) ?_⟩
   ·simp (disch:=omega) only [cpos]
    refine Ev.bind r1 ?_
    simp (disch:=omega) only [Bool.not_true,cond_false,hr,cond_true,wrap_in]
    exact o3
   ·simp (disch:=omega) only [cpos]
    refine Ev.bind r2 ?_
    simp (disch:=omega) only [Bool.not_true,cond_false,hr,cond_true,wrap_in]
    exact o4
theorem ents_small {out:List Entry} (h:out.length<=8) (hs:∀ e ∈ out,totE e<=1100):smallL ⟨out⟩:=by
 have k:∀ l:List Entry,(∀ e ∈ l,totE e<=1100)->(l.map totE).sum<=1100 * l.length:=fun l=>by
  induction l with
  | nil=>intro _; simp
  | cons x l ih=>
   intro hl
   have h1:=ih fun y hy=>hl y (List.mem_cons_of_mem _ hy)
   have h2:=hl x List.mem_cons_self
   simp only [List.map_cons,List.sum_cons,List.length_cons]
   omega
 have:=k out hs
 unfold smallL totEs
 dsimp only
 omega
theorem resolveLibraryT_ev (l:Library) (hs:smallL l):∃ r b,Ev (fun k=>spec_ResolveLibrary.F k l) (r,b)/\Ev (fun k=>impl_ResolveLibrary_t.F k l) (r,b)/\smallL r:=by
 have a1:=specLib_ev l hs
 have a2:=isLib_ev l hs
 unfold spec_ResolveLibrary.F impl_ResolveLibrary_t.F
 cases hB:libB l with
 | false=>
  rw [hB] at a1 a2
  exact ⟨⟨[]⟩,false,Ev.bind a1 (Ev.pure _),Ev.bind a2 (Ev.pure _),by unfold smallL totEs; decide⟩
 | true=>
  rw [hB] at a1 a2
  have hl:=libB_len hB
  obtain ⟨b,out,o1,o2,o3,o4⟩:=resL_l l hs hB hl [] l.entries.length 0 (by omega) [] rfl (fun _ h=>by cases h)
  cases b with
  | true=>exact ⟨⟨out⟩,true,Ev.bind a1 (Ev.bind o3 (Ev.pure _)),Ev.bind a2 (Ev.bind o4 (Ev.pure _)),ents_small o1 o2⟩
  | false=>exact ⟨⟨[]⟩,false,Ev.bind a1 (Ev.bind o3 (Ev.pure _)),Ev.bind a2 (Ev.bind o4 (Ev.pure _)),by unfold smallL totEs; decide⟩
theorem resolveLibrary_law (l:Library) (hw:WF .lib l):∃ k,laws_FnExactResolveLibrary.F k l=some true:=by
 refine Ev.get (?_:Ev (fun k=>laws_FnExactResolveLibrary.F k l) true)
 unfold laws_FnExactResolveLibrary.F
 obtain ⟨r,h1,h2⟩:=szL_ev l 1048576 (by omega) (by omega) hw
 refine Ev.bind h1 ?_
 by_cases c:r<0
 ·simp (disch:=omega) only [cpos]
  exact Ev.pure _
 simp (disch:=omega) only [cneg]
 have hs:smallL l:=by have:=h2 (by omega); unfold smallL; omega
 obtain ⟨v,b,v1,v2,v3⟩:=resolveLibraryT_ev l hs
 have tl:=toL_ev l hs
 have eqv:=eqL_ev v v3
 refine Ev.bind tl (Ev.bind v1 (Ev.bind tl (Ev.bind v2 (Ev.bind eqv ?_))))
 simp only [beq_self_eq_true,Bool.not_true,cond_false]
 refine Ev.bind tl (Ev.bind (eqL_ev l hs) ?_)
 simp only [Bool.not_true,cond_false]
 obtain ⟨m,m1,m2⟩:=dmL_ev l hs
 refine Ev.bind m1 ?_
 simp (disch:=omega) only [cneg]
 refine Ev.bind eqv ?_
 simp only [beq_self_eq_true,Bool.not_true,cond_false]
 obtain ⟨m',n0,n1,n2⟩:=xL_ev v v3
 refine Ev.bind n1 (Ev.bind n2 ?_)
 simp (disch:=omega) only [cneg,cbeq]
 refine Ev.bind tl (Ev.bind v2 (Ev.bind eqv ?_))
 simp only [beq_self_eq_true,Bool.not_true,cond_false]
 refine Ev.bind n2 ?_
 simp (disch:=omega) only [cneg,cbeq]
 exact Ev.pure _
end Go.Proofs.YtehijcmhhkchiaaGreatDoor
end
section
/- The law FnExactResolveLibrary returns true for every input,the listed package variables being as the program's text lays it: the card. -/
namespace Go.Proofs.YtehijcmhhkchiaaGreatDoor
open Go.Gx Go.RowKit Go.ChangeShapes Go.WideShapes Go.ChangeAt
theorem fnExactResolveLibrary_own:ownKnob Tryz.prog.godebug=none:=by kernel_rfl
set_option maxRecDepth 100000 in
theorem fnExactResolveLibrary_contract (H:Type) (enc:TypeId × Value->H) (W:World) (base:Nat) (args:Array Value) (ds gs:List (DataW H)) (before:List MemPlace)
  (hval:∀ (j:Nat) t v,Tryz.f6.params[j]? = some t->args[j]? = some v->Value.okWide Tryz.prog W .any base t v)
  (hW:DataW.Whole enc Tryz.prog Tryz.f6.params.toList Rows.fnExactResolveLibrarySpec.vars false W args.toList ds gs before) (hsh:W.ShapedOpen Tryz.prog) :
  Calls Tryz.prog 6 args W fun e W'=>∃ v,e = .returned v/\Rows.fnExactResolveLibrarySpec.post enc Tryz.prog Tryz.f6 false true false false W args v W':=by
 have hgs:gs=[]:=by
  obtain ⟨p,q,_,hV,_⟩:=hW
  exact (trodVars_none hV).1
 subst hgs
 have hds:∃ d1,ds=[d1]:=by
  obtain ⟨p,q,hA,_⟩:=hW
  obtain ⟨_,_,d1,e0,_,_,_,rfl,_,_,h0⟩:=trodAll_cons hA
  obtain ⟨_,rfl,_⟩:=trodAll_nil h0
  exact ⟨d1,rfl⟩
 obtain ⟨d1,rfl⟩:=hds
 have hgl:GlOk envX (fun _=>undef) (Lt W) W:=by
  refine GlOk.mk0 (fun g b h=>(by cases h)) (fun g hg=> ?_)
  have hg':giT g=true:=hg
  unfold giT at hg'
  split at hg'
  ·obtain ⟨m,hm⟩:=cell_of_shapedOpen_int (P:=Tryz.prog) (g:=2) (t:=3) (zero:=#[.int .i64 0]) hsh (of_decide_eq_true (by kernel_rfl)) (by kernel_rfl) rfl (by kernel_rfl) (by kernel_rfl) (by kernel_rfl)
   exact ⟨World.block_lt_of_cell? _ _ hm,m,hm⟩
  ·cases hg'
 refine law_contract (τs:=[.lib]) (r:=.t .bool true) envOk (by kernel_rfl) rfl (by kernel_rfl) (by kernel_rfl) rfl (by kernel_rfl) (by kernel_rfl) (fun t ht=> ?_) rfl (fun x hx=>by
   obtain ⟨k,hk⟩:=resolveLibrary_law x.1 hx.1
   exact laws_FnExactResolveLibrary.good envOk _ k _ hk) rfl hval hW hgl (fun q hq W' _=> ?_)
 ·have:t ∈ [40]:=ht
  simp only [List.mem_cons,List.not_mem_nil,or_false] at this
  rcases this with rfl <;> exact ⟨by kernel_rfl,Nat.le_of_ble_eq_true (by kernel_rfl)⟩
 ·obtain ⟨_,rfl⟩:=trodVars_none hq
  exact rfl
set_option maxRecDepth 100000 in
noncomputable def fnExactResolveLibrary_world (os:Os):World :=
 { World.holding Tryz.prog os ⟨#[],#[],[]⟩ with heap:=(((World.holding Tryz.prog os ⟨#[],#[],[]⟩).heap.modify 1 fun
   | .cells _ t frozen=> .cells #[.int .u8 128,.int .u8 191,.int .u8 160,.int .u8 191,.int .u8 128,.int .u8 159,.int .u8 144,.int .u8 191,.int .u8 128,.int .u8 143,.int .u8 0,.int .u8 0,.int .u8 0,.int .u8 0,.int .u8 0,.int .u8 0,.int .u8 0,.int .u8 0,.int .u8 0,.int .u8 0,.int .u8 0,.int .u8 0,.int .u8 0,.int .u8 0,.int .u8 0,.int .u8 0,.int .u8 0,.int .u8 0,.int .u8 0,.int .u8 0,.int .u8 0,.int .u8 0] t frozen
   | o=>o).modify 0 fun
   | .cells _ t frozen=> .cells (Pinned.utf8FirstZ.map fun (n:Nat)=>Value.int .u8 (n:Int)).toArray t frozen
   | o=>o) }
theorem fnExactResolveLibrary_met (os:Os):laidMet Tryz.prog Rows.fnExactResolveLibraryRow.laid ((fnExactResolveLibrary_world os).forCall (fun _ _=>0) ⟨#[],#[.agg #[.slice none 0 0]],[]⟩).memory :=
 laidMet_of_run' 8 (by kernel_rfl) (by kernel_rfl)
theorem fnExactResolveLibrary_reads (os:Os) {H:Type} (enc:TypeId × Value->H):∃ places,DataW.whole enc Tryz.prog ((fnExactResolveLibrary_world os).forCall (fun _ _=>0) ⟨#[],#[.agg #[.slice none 0 0]],[]⟩).memory Tryz.f6.params.toList Rows.fnExactResolveLibrarySpec.vars false #[.agg #[.slice none 0 0]].toList 8=some ([.agg [.nil]],[],places) :=
 ⟨[],by kernel_rfl⟩
set_option maxRecDepth 100000 in
theorem fnExactResolveLibrary_lifted (os:Os) (started:os.Started) (H:Type) (enc:TypeId × Value->H) (F:Stop.Interp) :
  ReturnsInHanded {} Tryz.checked os 6 .any ((OpenSpec.ofChange Rows.fnExactResolveLibrarySpec).preRow enc Tryz.prog Tryz.f6 Rows.fnExactResolveLibraryRow.domain false Rows.fnExactResolveLibraryRow.laid) (((OpenSpec.ofChange Rows.fnExactResolveLibrarySpec).at F).post enc Tryz.prog Tryz.f6 false true false false):=by
 obtain ⟨places,hx⟩:=fnExactResolveLibrary_reads os enc
 refine returnsInHanded_of_row (C:=Tryz.checked) (s:=OpenSpec.ofChange Rows.fnExactResolveLibrarySpec) fnExactResolveLibrary_own started (by kernel_rfl) (by kernel_rfl)
  (witness_row_at (enc:=enc) (C:=Tryz.checked) false (fnExactResolveLibrary_world os) #[.agg #[.slice none 0 0]] rfl (by kernel_rfl) (by kernel_rfl) (by kernel_rfl)
   (OpenSpec.preRow_of_cond 8 hx (by kernel_rfl) (fun k hk=>by cases hk) (by kernel_rfl) (fnExactResolveLibrary_met os))) ?_
 intro W base args ds gs before hval hW _ _ _ _ hsh _
 exact fnExactResolveLibrary_contract H enc W base args ds gs before hval hW hsh
theorem fnExactResolveLibrary_said:Rows.FnExactResolveLibrarySaid :=
 OpenClaim.holds_of_cond 6 Tryz.f6 rfl rfl rfl rfl rfl rfl rfl ⟨rfl,rfl,rfl,rfl,rfl⟩ rfl rfl rfl rfl rfl (by kernel_rfl) (by kernel_rfl) (by kernel_rfl)
  (of_decide_eq_true (by kernel_rfl)) (by unfold Func.isWrapper; first | (rw [if_pos (by decide +kernel)]; kernel_rfl) | (rw [if_neg (by decide +kernel)]; exact ⟨rfl,rfl⟩))
  (fun os started H enc _ F=>by rw [OpenClaim.pre_eq_preRow]; exact fnExactResolveLibrary_lifted os started H enc F)
theorem fnExactResolveLibrary_plain (f:FuncId) (fn:Func) (hf:Tryz.pinned.checked.prog.funcNamed "loop.example/g00896/laws.FnExactResolveLibrary" = some f) (hfn:Tryz.pinned.checked.prog.funcs[f]? = some fn) :
  false=Tryz.pinned.checked.prog.looks []/\∀ (j:Nat) t,fn.params[j]? = some t->Tryz.pinned.checked.prog.wantsStandIn t=false:=by
 obtain rfl:f=6:=(Option.some.inj ((show Tryz.prog.funcNamed "loop.example/g00896/laws.FnExactResolveLibrary" = some 6 by kernel_rfl).symm.trans hf)).symm
 obtain rfl:fn=Tryz.f6:=(Option.some.inj ((show Tryz.prog.funcs[6]? = some Tryz.f6 by kernel_rfl).symm.trans hfn)).symm
 refine ⟨by kernel_rfl,fun j t ht=> ?_⟩
 have ht':t ∈ [40]:=by simpa using Array.mem_of_getElem? (show (#[40]:Array Nat)[j]? = some t from ht)
 simp only [List.mem_cons,List.not_mem_nil,or_false] at ht'
 rcases ht' with rfl
 ·exact (show Tryz.prog.wantsStandIn 40=false by kernel_rfl)
theorem FnExactResolveLibrary_holds:Rows.FnExactResolveLibraryCardSaid :=
 Claim7.holds_tied_plain_at .later [] _ _ _ _ fnExactResolveLibrary_said (fun _ h=>by cases h) (by kernel_rfl) (fun _ h=>by cases h) fnExactResolveLibrary_row_tie rfl ⟨rfl,rfl⟩ (by kernel_rfl) rfl fnExactResolveLibrary_plain (by kernel_rfl)
#print axioms FnExactResolveLibrary_holds
end Go.Proofs.YtehijcmhhkchiaaGreatDoor
end
