/- The law FnExactDuplicateGroups returns true for every input,the listed package variables being as the program's text lays it: the card. -/
import Derived.Test.YtoojiikgbopeiaaGreatDoorMdg4
import Derived.Lib.IndexBytes
import Derived.Lib.IndexLaws
import Derived.Lib.CountLaws
import Derived.Lib.Split
import Derived.Lib.SplitLaws
import Derived.Lib.TrimByte
import Derived.Lib.Join
import Derived.Test.YtoojiikgbopeiaaGreatDoorMdg6
import Derived.Test.YtoojiikgbopeiaaGreatDoorCards
import Derived.Test.YtoojiikgbopeiaaGreatDoorTie
import Derived.Shelf.Vars
import Derived.WalkKit
import Derived.ProofKit
import Derived.OpenShut
import Derived.Deep.DeepHandedRow
import Derived.Lib.LaidTab
set_option linter.unusedVariables false
set_option linter.unusedSimpArgs false
set_option maxRecDepth 100000
section
namespace Go.Proofs.YtoojiikgbopeiaaGreatDoor
open Go.Gx
theorem getD_at {α:Type} {xs:List α} {i:Nat} (h:i<xs.length) (d:α):xs.getD i d=xs[i]:=by simp [List.getD,List.getElem?_eq_getElem h]
theorem wf_len {e:Ty} {xs:List (den e)} (h:WF (.sl e) xs):xs.length<=9223372036854775807:=by
 cases h with | sl _ _ h _=>exact maxLen_eq ▸ h
theorem size_pos {s:ByteArray}:(!beqS s ⟨#[]⟩)=decide (0<s.size):=by
 rw [beqS_eq]
 have:L ⟨#[]⟩=[]:=rfl
 rw [this,<- L_size]
 cases L s <;> rfl
theorem size_app (s t:ByteArray):(s++t).size=s.size+t.size:=by
 rw [<- L_size,L_append,List.length_append,L_size,L_size]
theorem bytesL_len (s:ByteArray):(bytesL s).length=s.size:=by
 simp only [bytesL,List.length_map,Array.length_toList]; rfl
theorem bytesL_map (s:ByteArray):bytesL s=(L s).map fun b=>(b.toNat:Int):=rfl
theorem bt_bytes (s:ByteArray) (i:Nat) (h:i<(bytesL s).length):bt s i=(bytesL s)[i]:=by
 rw [L_bt]
 have h':i<(L s).length:=by simpa [bytesL_map] using h
 simp [bytesL_map,List.getD,h']
theorem bytes_range (s:ByteArray) (i:Nat) (h:i<(bytesL s).length):0<=(bytesL s)[i]/\(bytesL s)[i]<=255:=by
 rw [<- bt_bytes s i h]; exact bt_range s i
theorem all_bytes {s:ByteArray} {i:Nat} (h:i<(bytesL s).length) (p:Int->Bool):((bytesL s).drop i).all p=(p (bytesL s)[i] && ((bytesL s).drop (i+1)).all p):=by
 rw [List.drop_eq_getElem_cons h]; rfl
theorem sub_tail (s:ByteArray) (st a:Nat):(s.extract st s.size).extract a (s.extract st s.size).size=s.extract (st+a) s.size:=by
 apply L_inj
 have e:(L s).take s.size=L s:=List.take_of_length_le (Nat.le_refl _)
 rw [L_extract,L_extract s (st+a),<- L_size (s.extract st s.size),L_extract,List.take_length,List.drop_drop,e]
theorem sub_head (s:ByteArray) (st i:Nat) (h:st<=i) (hi:i<=s.size):(s.extract st s.size).extract 0 (i-st)=s.extract st i:=by
 apply L_inj
 rw [L_extract,L_extract,L_extract,List.drop_zero,List.take_of_length_le (show (L s).length<=s.size from Nat.le_refl _),List.drop_take]
def sp:ByteArray:=⟨#[32]⟩
theorem ib_hit {l:List UInt8} {c:UInt8} {i:Nat} (h:l[i]? = some c) (hn:∀ j,j<i->l[j]? ≠ some c):Lib.indexByte l c=i:=by
 have hg:=Lib.indexByte_ge l c
 by_cases e:Lib.indexByte l c = -1
 ·exact absurd h (Lib.indexByte_none e i)
 ·obtain ⟨o,ho⟩:∃ o:Nat,Lib.indexByte l c=o:=⟨(Lib.indexByte l c).toNat,by omega⟩
  obtain ⟨h1,h2⟩:=Lib.indexByte_some ho
  rcases Nat.lt_trichotomy o i with h3 | h3 | h3
  ·exact absurd h1 (hn o h3)
  ·rw [ho,h3]
  ·exact absurd h (h2 i h3)
theorem ib_miss {l:List UInt8} {c:UInt8} (hn:∀ j:Nat,l[j]? ≠ some c):Lib.indexByte l c = -1:=by
 have hg:=Lib.indexByte_ge l c
 by_cases e:Lib.indexByte l c = -1
 ·exact e
 ·obtain ⟨o,ho⟩:∃ o:Nat,Lib.indexByte l c=o:=⟨(Lib.indexByte l c).toNat,by omega⟩
  exact absurd (Lib.indexByte_some ho).1 (hn o)
theorem indexB_sp (s:ByteArray):Lib.indexB s sp=Lib.indexByte (L s) 32:=Lib.one s sp rfl
theorem sub_at (s:ByteArray) (st j:Nat):(L (s.extract st s.size))[j]? = (L s)[st+j]?:=by
 rw [L_extract,List.take_of_length_le (show (L s).length<=s.size from Nat.le_refl _),List.getElem?_drop]
def wordsFrom (s:ByteArray) (st:Nat):List ByteArray:=Lib.splitB sp 0 (Lib.countB (s.extract st s.size) sp) (s.extract st s.size)
theorem words_end (s:ByteArray) (st:Nat) (h:∀ j,st<=j->(L s)[j]? ≠ some 32):wordsFrom s st=[s.extract st s.size]:=by
 unfold wordsFrom
 rw [Lib.countB_miss _ _ ((indexB_sp _).trans (ib_miss fun j=>by rw [sub_at]; exact h _ (by omega)))]
 rfl
theorem words_hit (s:ByteArray) (st i:Nat) (h1:st<=i) (hi:i<s.size) (hb:(L s)[i]? = some 32) (h:∀ j,st<=j->j<i->(L s)[j]? ≠ some 32):wordsFrom s st=s.extract st i :: wordsFrom s (i+1):=by
 have e:Lib.indexB (s.extract st s.size) sp=((i-st:Nat):Int):=(indexB_sp _).trans (ib_hit (by rw [sub_at,show st+(i-st)=i by omega]; exact hb) fun j hj=>by rw [sub_at]; exact h _ (by omega) (by omega))
 have e1:sp.size=1:=rfl
 unfold wordsFrom
 rw [Lib.countB_hit _ _ _ (by rw [e1]; exact Nat.le_refl _) e,Nat.add_comm 1,Lib.splitB_hit _ _ _ _ _ e,Nat.add_zero,sub_head s st i h1 (by omega),e1,sub_tail,show st+(i-st+1)=i+1 by omega]
theorem sub_self (s:ByteArray):s.extract 0 s.size=s:=by
 apply L_inj
 rw [L_extract,List.take_of_length_le (show (L s).length<=s.size from Nat.le_refl _),List.drop_zero]
def words (s:ByteArray):List ByteArray:=Lib.splitB sp 0 (Lib.countB s sp) s
theorem words_from (s:ByteArray):wordsFrom s 0=words s:=by unfold wordsFrom words; rw [sub_self]
theorem words_small:∀ (k:Nat) (s:ByteArray),∀ x ∈ Lib.splitB sp 0 k s,x.size<=s.size
 | 0,s,x,hx=>by
  rw [Lib.splitB_zero] at hx
  simp only [List.mem_singleton] at hx
  rw [hx]; exact Nat.le_refl _
 | k+1,s,x,hx=>by
  unfold Lib.splitB at hx
  split at hx
  ·simp only [List.mem_singleton] at hx
   rw [hx]; exact Nat.le_refl _
  ·rcases List.mem_cons.1 hx with rfl | hx
   ·rw [ByteArray.size_extract]; omega
   ·have:=words_small k _ x hx
    rw [ByteArray.size_extract] at this
    omega
theorem words_len (s:ByteArray):1<=(words s).length/\(words s).length<=s.size+1:=by
 unfold words
 have h1:1<=sp.size:=Nat.le_refl 1
 rw [Lib.splitB_all sp h1 0 _ s rfl]
 have:=Lib.countB_le sp h1 s.size s (Nat.le_refl _)
 omega
theorem dropWhile_self {α:Type} (p:α->Bool):∀ l:List α,l.dropWhile p=l ↔ (∀ a,l.head? = some a->p a=false)
 | []=>by simp
 | a :: l=>by
  have hl:(l.dropWhile p).length<=l.length:=(List.dropWhile_sublist p).length_le
  cases h:p a with
  | true=>
   rw [List.dropWhile_cons_of_pos h]
   constructor
   ·intro e
    have:=congrArg List.length e
    simp at this
    omega
   ·intro e
    have:=e a rfl
    rw [h] at this; cases this
  | false=>
   rw [List.dropWhile_cons_of_neg (by rw [h]; exact Bool.noConfusion)]
   simp [h]
theorem trimB_self (l:List UInt8) (c:UInt8):Lib.trimB l c=l ↔ l.head? ≠ some c/\l.getLast? ≠ some c:=by
 unfold Lib.trimB Lib.trimLeftB Lib.trimRightB
 have h1:∀ m:List UInt8,m.dropWhile (· == c)=m ↔ m.head? ≠ some c:=fun m=>by
  rw [dropWhile_self]
  constructor
  ·intro h e; have:=h c e; simp at this
  ·intro h a e
   have:a ≠ c:=fun e'=>h (e' ▸ e)
   simpa using this
 constructor
 ·intro h
  have h2:((l.reverse.dropWhile (· == c)).reverse).length<=l.length:=by
   have:=(List.dropWhile_sublist (p:=(· == c)) (l:=l.reverse)).length_le
   simpa using this
  have h3:=(List.dropWhile_sublist (p:=(· == c)) (l:=(l.reverse.dropWhile (· == c)).reverse))
  have h4:(l.reverse.dropWhile (· == c)).reverse=l:=by
   have h5:(l.reverse.dropWhile (· == c)).reverse.length=l.length:=by
    have:=h3.length_le
    rw [h] at this
    omega
   have h6:l.reverse.dropWhile (· == c)=l.reverse:=(List.dropWhile_sublist (p:=(· == c)) (l:=l.reverse)).eq_of_length (by simpa using h5)
   rw [h6,List.reverse_reverse]
  rw [h4] at h
  refine ⟨(h1 l).1 h,?_⟩
  have h6:l.reverse.dropWhile (· == c)=l.reverse:=by rw [<- List.reverse_inj,h4,List.reverse_reverse]
  have:=(h1 _).1 h6
  simpa using this
 ·rintro ⟨ha,hb⟩
  have h6:l.reverse.dropWhile (· == c)=l.reverse:=(h1 _).2 (by simpa using hb)
  rw [h6,List.reverse_reverse]
  exact (h1 l).2 ha
def vis (lo b:Int):Bool:=decide (lo<=b) && decide (b<=126)
theorem bt_sp {s:ByteArray} {i:Nat} (hi:i<s.size):bt s i=32 ↔ (L s)[i]? = some 32:=by
 have hi':i<(L s).length:=hi
 have hbt:bt s i=((L s)[i].toNat:Int):=by rw [L_bt,getD_at hi']
 rw [List.getElem?_eq_getElem hi',hbt]
 have:(32:UInt8).toNat=32:=rfl
 constructor
 ·intro h
  congr 1
  apply UInt8.toNat_inj.1
  omega
 ·intro h
  rw [Option.some.inj h]; rfl
def edge (s:ByteArray):Bool:=(decide (s.size=0)) || (bt s 0 != 32 && bt s (s.size-1) != 32)
theorem edge_eq (s:ByteArray):beqS ⟨(Lib.trimB (L s) 32).toArray⟩ s=edge s:=by
 rw [Bool.eq_iff_iff,beqS_iff]
 have h1:(⟨(Lib.trimB (L s) 32).toArray⟩:ByteArray)=s ↔ Lib.trimB (L s) 32=L s:=by
  constructor
  ·intro h
   have:=congrArg L h
   rwa [L_mk] at this
  ·intro h
   apply L_inj
   rw [L_mk,h]
 rw [h1,trimB_self]
 unfold edge
 by_cases hz:s.size=0
 ·have:L s=[]:=List.eq_nil_of_length_eq_zero hz
  rw [this]
  simp [hz]
 ·have h2:(L s).head? = (L s)[0]?:=List.head?_eq_getElem?
  have h3:(L s).getLast? = (L s)[s.size-1]?:=by rw [List.getLast?_eq_getElem?]; rfl
  rw [h2,h3,Bool.or_eq_true,decide_eq_true_eq,Bool.and_eq_true,bne_iff_ne,bne_iff_ne,Ne,Ne,Ne,Ne,bt_sp (by omega),bt_sp (by omega)]
  simp [hz]
def pos (s:ByteArray):Bool:=decide (0<s.size)
theorem ext_size {s:ByteArray} {a b:Nat} (h:a<=b) (hb:b<=s.size):(s.extract a b).size=b-a:=by
 rw [ByteArray.size_extract]; omega
theorem room_s {n:Nat} (h:n<=8192):room n .str=true:=by
 unfold room
 rw [Nat.ble_eq]
 have:nb .str=16:=rfl
 rw [this]
 omega
theorem fpos_one (s:ByteArray) (a b:Nat) (hab:a<=b) (hb:b<=s.size) (l:List ByteArray):(s.extract a b :: l).filter pos=(if a<b then [s.extract a b] else [])++l.filter pos:=by
 rw [List.filter_cons]
 unfold pos
 rw [ext_size hab hb]
 by_cases c:a<b
 ·rw [if_pos c,decide_eq_true (by omega)]; rfl
 ·rw [if_neg c,decide_eq_false (by omega)]; rfl
theorem tail_cons (x:List UInt8) (r:List (List UInt8)):Lib.joinTail [32] (x :: r)=32 :: (x++Lib.joinTail [32] r):=by simp [Lib.joinTail]
theorem e32:(⟨#[32]⟩:ByteArray).size=1:=rfl
theorem L32:L ⟨#[32]⟩=[32]:=rfl
def ms {α:Type} (f:α -> α) (W:List α) (i:Nat):List α:=(W.take i).map f++W.drop i
section
variable {α:Type} (f:α -> α) (W:List α)
end
end Go.Proofs.YtoojiikgbopeiaaGreatDoor
end
section
/- Plain laws: texts of an entry. -/
namespace Go.Proofs.YtoojiikgbopeiaaGreatDoor
open Go.Gx
theorem edge_trim (s:ByteArray) (hs:s.size<=1048576):Z111.F s ⟨#[32]⟩=some ⟨(Lib.trimB (L s) 32).toArray⟩:=by
 unfold Z111.F xTrim1
 rw [Nat.ble_eq_true_of_le (by omega)]
 rfl
theorem specText_l0 (s:ByteArray) (hs:s.size<=1048576):∀ n i:Nat,i+n=s.size->Ev (fun k=>Z18.l0 k s i) (if ((bytesL s).drop i).all (vis 32)=true then .inr s else .inl false)
 | 0,i,h=>by
  refine Ev.step (fun k=>by rw [Z18.l0]) ?_
  simp (disch:=omega) only [cneg]
  rw [List.drop_eq_nil_of_le (by rw [bytesL_len]; omega)]
  exact Ev.pure _
 | n+1,i,h=>by
  have hl:=bytesL_len s
  have hi:i<(bytesL s).length:=by omega
  refine Ev.step (fun k=>by rw [Z18.l0]) ?_
  simp (disch:=omega) only [cpos,Int.toNat_natCast,bt_bytes s i hi]
  rw [all_bytes hi]
  unfold vis
  by_cases c1:(bytesL s)[i]<32
  ·simp (disch:=omega) only [cpos,dneg,Bool.false_and]; exact Ev.pure _
  ·by_cases c2:(bytesL s)[i] > 126
   ·simp (disch:=omega) only [cpos,cneg,dneg,Bool.and_false,Bool.false_and]; exact Ev.pure _
   ·simp (disch:=omega) only [cpos,cneg,dpos,Bool.and_self,Bool.true_and,wrap_in]
    exact specText_l0 s hs n (i+1) (by omega)
theorem isPrint_l0 (s:ByteArray) (hs:s.size<=1048576):∀ n i:Nat,i+n=s.size->Ev (fun k=>Z36.l0 k s i) (if ((bytesL s).drop i).all (vis 32)=true then .inr s else .inl false)
 | 0,i,h=>by
  refine Ev.step (fun k=>by rw [Z36.l0]) ?_
  simp (disch:=omega) only [cneg]
  rw [List.drop_eq_nil_of_le (by rw [bytesL_len]; omega)]
  exact Ev.pure _
 | n+1,i,h=>by
  have hl:=bytesL_len s
  have hi:i<(bytesL s).length:=by omega
  refine Ev.step (fun k=>by rw [Z36.l0]) ?_
  simp (disch:=omega) only [cpos,Int.toNat_natCast,bt_bytes s i hi]
  rw [all_bytes hi]
  unfold vis
  by_cases c1:(bytesL s)[i]<32
  ·simp (disch:=omega) only [cpos,dneg,Bool.false_and]; exact Ev.pure _
  ·by_cases c2:(bytesL s)[i] > 126
   ·simp (disch:=omega) only [cpos,cneg,dneg,Bool.and_false,Bool.false_and]; exact Ev.pure _
   ·simp (disch:=omega) only [cpos,cneg,dpos,Bool.and_self,Bool.true_and,wrap_in]
    exact isPrint_l0 s hs n (i+1) (by omega)
def textB (s:ByteArray):Bool:=decide (s.size<=40) && ((bytesL s).all (vis 32) && edge s)
theorem specText_ev (s:ByteArray):Ev (fun k=>Z18.F k s) (textB s):=by
 unfold Z18.F textB
 by_cases c:(s.size:Int) > 40
 ·simp (disch:=omega) only [cpos,dneg,Bool.false_and]
  exact Ev.pure _
 ·simp (disch:=omega) only [cneg,dpos,Bool.true_and]
  have:=specText_l0 s (by omega) s.size 0 (by omega)
  rw [List.drop_zero] at this
  cases h:(bytesL s).all (vis 32) with
  | false=>rw [h] at this; exact Ev.bind this (Ev.pure _)
  | true=>
   rw [h] at this
   refine Ev.bind (a:=.inr s) this ?_
   dsimp only
   have he:beqS s ⟨#[]⟩=decide (s.size=0):=by
    rw [<- Bool.not_not (b:=beqS s ⟨#[]⟩),size_pos]
    by_cases hz:s.size=0
    ·simp [hz]
    ·rw [decide_eq_true (by omega:0<s.size),decide_eq_false hz]; rfl
   rw [he]
   unfold edge
   by_cases hz:s.size=0
   ·rw [decide_eq_true hz]; exact Ev.pure _
   ·rw [decide_eq_false hz]
    simp (disch:=omega) only [cond_false,cond_true,cpos,wrap_in]
    rw [show ((s.size:Int)-1).toNat=s.size-1 by omega,show (0:Int).toNat=0 from rfl,Bool.false_or,Bool.true_and]
    cases (bt s 0 != 32) with
    | true=>exact Ev.pure _
    | false=>exact Ev.pure _
theorem isText_ev (s:ByteArray):Ev (fun k=>Z61.F k s) (textB s):=by
 unfold Z61.F textB
 by_cases c:(s.size:Int)<=40
 ·simp (disch:=omega) only [cpos,dpos,Bool.true_and]
  refine Ev.bind ?_ (Ev.pure _)
  unfold Z36.F
  have:=isPrint_l0 s (by omega) s.size 0 (by omega)
  rw [List.drop_zero] at this
  cases h:(bytesL s).all (vis 32) with
  | false=>rw [h] at this; exact Ev.bind this (Ev.pure _)
  | true=>
   rw [h] at this
   refine Ev.bind (a:=.inr s) this ?_
   dsimp only
   refine Ev.bind0 (edge_trim s (by omega)) ?_
   simp only [edge_eq,Bool.true_and]
   exact Ev.pure _
 ·simp (disch:=omega) only [cneg,dneg,Bool.false_and]
  exact Ev.pure _
end Go.Proofs.YtoojiikgbopeiaaGreatDoor
end
section
/- Plain laws: a text split at its spaces. -/
namespace Go.Proofs.YtoojiikgbopeiaaGreatDoor
open Go.Gx
theorem split_ev (s:ByteArray) (hs:s.size<=1048576):Z109.F s ⟨#[32]⟩=some (words s):=by
 unfold Z109.F xSplit
 rw [Nat.ble_eq_true_of_le (by omega)]
 rfl
end Go.Proofs.YtoojiikgbopeiaaGreatDoor
end
section
/- Plain laws: a text split at its spaces,the other way. -/
namespace Go.Proofs.YtoojiikgbopeiaaGreatDoor
open Go.Gx
theorem split_l0 (s:ByteArray) (hs:s.size<=1048576):∀ n i:Nat,i+n=s.size->∀ st:Nat,st<=i->(∀ j,st<=j->j<i->(L s)[j]? ≠ some 32)->∀ acc:List ByteArray,acc.length<=i ->
  ∃ acc' st',Ev (fun k=>Z31.l0 k s 32 acc st i) (s,acc',((st':Nat):Int))/\st'<=s.size/\acc'.length<=s.size/\acc'++[s.extract st' s.size]=acc++wordsFrom s st
 | 0,i,h,st,h1,hn,acc,ha=>by
  refine ⟨acc,st,Ev.step (fun k=>by rw [Z31.l0]) ?_,by omega,by omega,?_⟩
  ·simp (disch:=omega) only [cneg]
   exact Ev.pure _
  ·rw [words_end s st fun j hj=> ?_]
   by_cases hj2:j<i
   ·exact hn j hj hj2
   ·rw [List.getElem?_eq_none (by rw [L_size]; omega)]; exact fun h=>by cases h
 | n+1,i,h,st,h1,hn,acc,ha=>by
  have hi:i<(L s).length:=by rw [L_size]; omega
  have hbt:bt s i=((L s)[i].toNat:Int):=by rw [L_bt,getD_at hi]
  by_cases c:bt s i=32
  ·have hb:(L s)[i]? = some 32:=by
    rw [List.getElem?_eq_getElem hi]
    congr 1
    apply UInt8.toNat_inj.1
    have:(32:UInt8).toNat=32:=rfl
    omega
   obtain ⟨acc',st',r1,r2,r3,r4⟩:=split_l0 s hs n (i+1) (by omega) (i+1) (Nat.le_refl _) (fun j h1 h2=>by omega) (acc++[s.extract st i]) (by simp; omega)
   refine ⟨acc',st',Ev.step (fun k=>by rw [Z31.l0]) ?_,r2,r3,?_⟩
   ·have hr:room (acc.length+([s.extract st i]:List ByteArray).length) .str=true:=by
     unfold room
     rw [Nat.ble_eq]
     have:nb .str=16:=rfl
     rw [this]
     simp; omega
    simp (disch:=omega) only [cpos,Int.toNat_natCast,ceq,hr,cond_true,wrap_in]
    exact r1
   ·rw [r4,words_hit s st i h1 (by omega) hb hn]; simp
  ·obtain ⟨acc',st',r1,r2,r3,r4⟩:=split_l0 s hs n (i+1) (by omega) st (by omega) (fun j h1 h2=>by
    rcases Nat.lt_or_ge j i with h3 | h3
    ·exact hn j h1 h3
    ·obtain rfl:j=i:=by omega
     rw [List.getElem?_eq_getElem hi]
     intro e
     apply c
     rw [hbt,Option.some.inj e]; rfl) acc (by omega)
   refine ⟨acc',st',Ev.step (fun k=>by rw [Z31.l0]) ?_,r2,r3,r4⟩
   simp (disch:=omega) only [cpos,Int.toNat_natCast,cne,wrap_in]
   exact r1
theorem specSplit_ev (s:ByteArray) (hs:s.size<=1048576):Ev (fun k=>Z31.F k s 32) (words s):=by
 unfold Z31.F
 obtain ⟨acc',st',r1,r2,r3,r4⟩:=split_l0 s hs s.size 0 (by omega) 0 (Nat.le_refl _) (fun j h1 h2=>by omega) [] (Nat.le_refl _)
 refine Ev.bind r1 ?_
 have hr:room (acc'.length+([s.extract st' s.size]:List ByteArray).length) .str=true:=by
  unfold room
  rw [Nat.ble_eq]
  have:nb .str=16:=rfl
  rw [this]
  simp; omega
 simp (disch:=omega) only [cpos,Int.toNat_natCast,hr,cond_true,r4,words_from,List.nil_append]
 exact Ev.pure _
end Go.Proofs.YtoojiikgbopeiaaGreatDoor
end
section
/- Plain laws: lists of texts: size,copy,equality. -/
namespace Go.Proofs.YtoojiikgbopeiaaGreatDoor
open Go.Gx
def totS (xs:List ByteArray):Nat:=(xs.map ByteArray.size).sum
theorem szS_l0 (xs:List ByteArray) (hw:WF (.sl .str) xs) (hlen:xs.length<=1048576):∀ n i:Nat,i+n=xs.length->∀ l:Int,0<=l->l<=1048576 ->
  Ev (fun k=>Z29.l0 k xs l i) (if l-totS (xs.drop i)<0 then .inl (-1) else .inr (l-totS (xs.drop i)))
 | 0,i,h,l,h0,h1=>by
  refine Ev.step (fun k=>by rw [Z29.l0]) ?_
  simp (disch:=omega) only [cneg]
  rw [List.drop_eq_nil_of_le (by omega)]
  simp only [totS,List.map_nil,List.sum_nil]
  rw [if_neg (by omega)]
  exact (Ev.pure _).eq (by congr 1; omega)
 | n+1,i,h,l,h0,h1=>by
  have hi:i<xs.length:=by omega
  have hwi:xs[i].size<=9223372036854775807:=by cases hw with | sl _ _ _ h=>exact wf_str (h i hi)
  have hd:totS (xs.drop i)=xs[i].size+totS (xs.drop (i+1)):=by
   rw [List.drop_eq_getElem_cons hi]; unfold totS; rw [List.map_cons,List.sum_cons]
  refine Ev.step (fun k=>by rw [Z29.l0]) ?_
  simp (disch:=omega) only [cpos,Int.toNat_natCast,getD_at hi]
  by_cases c:l-(xs[i].size:Int)<0
  ·simp (disch:=omega) only [wrap_in,cpos]
   rw [if_pos (by omega)]
   exact Ev.pure _
  ·simp (disch:=omega) only [wrap_in,cneg]
   have:=szS_l0 xs hw hlen n (i+1) (by omega) (l-xs[i].size) (by omega) (by omega)
   refine this.eq ?_
   rw [hd]
   by_cases c2:l-(xs[i].size:Int)-(totS (xs.drop (i+1)):Int)<0
   ·rw [if_pos c2,if_pos (by omega)]
   ·rw [if_neg c2,if_neg (by omega)]; congr 1; omega
theorem szS_ev (xs:List ByteArray) (l:Int) (h0:0<=l) (h1:l<=1048576) (hw:WF (.sl .str) xs):∃ r,Ev (fun k=>Z29.F k xs l) r/\(0<=r->(xs.length:Int)+totS xs+r=l):=by
 have hl:xs.length<=9223372036854775807:=wf_len hw
 unfold Z29.F
 by_cases c:l-(xs.length:Int)<0
 ·simp (disch:=omega) only [wrap_in,cpos]
  exact ⟨-1,Ev.pure _,fun h=>by omega⟩
 ·simp (disch:=omega) only [wrap_in,cneg]
  have:=szS_l0 xs hw (by omega) xs.length 0 (by omega) (l-xs.length) (by omega) (by omega)
  simp only [List.drop_zero] at this
  by_cases c2:l-(xs.length:Int)-(totS xs:Int)<0
  ·rw [if_pos c2] at this
   exact ⟨-1,Ev.bind this (Ev.pure _),fun h=>by omega⟩
  ·rw [if_neg c2] at this
   exact ⟨l-(xs.length:Int)-(totS xs:Int),Ev.bind this (Ev.pure _),fun h=>by omega⟩
theorem toS_l0 (xs:List ByteArray) (hlen:xs.length<=1048576):∀ n i:Nat,i+n=xs.length->∀ ys:List ByteArray,ys.length=xs.length->ys.take i=xs.take i->Ev (fun k=>Z110.l0 k xs ys i) xs
 | 0,i,h,ys,hy,ht=>by
  refine Ev.step (fun k=>by rw [Z110.l0]) ?_
  simp (disch:=omega) only [cneg]
  have:ys=xs:=by
   rw [List.take_of_length_le (by omega),List.take_of_length_le (by omega)] at ht
   exact ht
  rw [this]; exact Ev.pure _
 | n+1,i,h,ys,hy,ht=>by
  have hi:i<xs.length:=by omega
  refine Ev.step (fun k=>by rw [Z110.l0]) ?_
  simp (disch:=omega) only [cpos,Int.toNat_natCast,getD_at hi,wrap_in]
  exact toS_l0 xs hlen n (i+1) (by omega) (ys.set i xs[i]) (by simpa using hy) (by
   rw [List.take_add_one,List.take_add_one,List.take_set_of_le (Nat.le_refl i),ht]
   simp [show i<ys.length by omega,hi])
theorem toS_ev (xs:List ByteArray) (hlen:xs.length<=1048576):Ev (fun k=>Z110.F k xs) xs:=by
 unfold Z110.F
 have hn:nb .str=16:=rfl
 simp (disch:=first | omega | (simp only [hn,Int.toNat_natCast]; omega)) only [ceq,cpos,cble]
 exact Ev.bind (a:=xs) (toS_l0 xs hlen xs.length 0 (by omega) _ (by simp) (by simp)) (Ev.pure _)
theorem eqS_l0 (xs:List ByteArray) (hlen:xs.length<=1048576):∀ n i:Nat,i+n=xs.length->Ev (fun k=>Z21.l0 k xs xs i) (.inr ())
 | 0,i,h=>by
  refine Ev.step (fun k=>by rw [Z21.l0]) ?_
  simp (disch:=omega) only [cneg]
  exact Ev.pure _
 | n+1,i,h=>by
  refine Ev.step (fun k=>by rw [Z21.l0]) ?_
  simp (disch:=omega) only [cpos,Int.toNat_natCast,beqS_self,Bool.not_true,cond_false,wrap_in]
  exact eqS_l0 xs hlen n (i+1) (by omega)
theorem eqS_ev (xs:List ByteArray) (hlen:xs.length<=1048576):Ev (fun k=>Z21.F k xs xs) true:=by
 unfold Z21.F
 simp (disch:=omega) only [cbeq]
 exact Ev.bind (eqS_l0 xs hlen xs.length 0 (by omega)) (Ev.pure _)
end Go.Proofs.YtoojiikgbopeiaaGreatDoor
end
section
/- Plain laws: names,entries,libraries: size,copy,equality. -/
namespace Go.Proofs.YtoojiikgbopeiaaGreatDoor
open Go.Gx
def totN (n:Name):Nat:=n.given.length+totS n.given+n.particle.size+n.family.size+n.suffix.size
def totNs (xs:List Name):Nat:=xs.length+(xs.map totN).sum
def totE (e:Entry):Nat:=e.key.size+totNs e.authors+totNs e.editors+e.title.size+e.container.size+e.publisher.size+e.pages.size+e.cross.size
def totEs (xs:List Entry):Nat:=xs.length+(xs.map totE).sum
theorem sum_mem {α:Type} (f:α->Nat) {xs:List α} {x:α} (h:x ∈ xs):f x<=(xs.map f).sum:=by
 induction xs with
 | nil=>cases h
 | cons b l ih=>
  simp only [List.map_cons,List.sum_cons]
  rcases List.mem_cons.1 h with rfl | h
  ·omega
  ·have:=ih h; omega
def smallN (n:Name):Prop:=totN n<=1048576
def smallE (e:Entry):Prop:=totE e<=1048576
def smallL (l:Library):Prop:=totEs l.entries<=1048576
theorem smallL_at {l:Library} (h:smallL l) {e:Entry} (he:e ∈ l.entries):smallE e:=by
 have:=sum_mem totE he
 unfold smallL totEs at h
 unfold smallE
 omega
theorem smallNs_at {xs:List Name} (h:totNs xs<=1048576) {n:Name} (hn:n ∈ xs):smallN n:=by
 have:=sum_mem totN hn
 unfold totNs at h
 unfold smallN
 omega
theorem smallE_a {e:Entry} (h:smallE e):totNs e.authors<=1048576:=by unfold smallE totE at h; omega
theorem smallE_e {e:Entry} (h:smallE e):totNs e.editors<=1048576:=by unfold smallE totE at h; omega
theorem smallNs_len {xs:List Name} (h:totNs xs<=1048576):xs.length<=1048576:=by unfold totNs at h; omega
theorem smallL_len {l:Library} (h:smallL l):l.entries.length<=1048576:=by unfold smallL totEs at h; omega
theorem szN_ev (a:Name) (l:Int) (h0:0<=l) (h1:l<=1048576) (hw:WF .name a):EvP (fun k=>Z80.F k a l) fun r=>0<=r->(totN a:Int)+r=l:=by
 obtain ⟨w1,w2,w3,w4⟩:WF (.sl .str) a.given/\a.particle.size<=9223372036854775807/\a.family.size<=9223372036854775807/\a.suffix.size<=9223372036854775807:=by
  cases hw with | name _ h1 h2 h3 h4=>exact ⟨h1,wf_str h2,wf_str h3,wf_str h4⟩
 unfold Z80.F totN
 obtain ⟨r,r1,r2⟩:=szS_ev a.given l h0 h1 w1
 refine EvP.of r1 ?_
 by_cases c:r<0
 ·simp (disch:=omega) only [cpos]
  exact EvP.pure _ (fun h=>by omega)
 simp (disch:=omega) only [cneg]
 have r3:=r2 (by omega)
 by_cases c1:r-(a.particle.size:Int)<0
 ·simp (disch:=omega) only [wrap_in,cpos]
  exact EvP.pure _ (fun h=>by omega)
 simp (disch:=omega) only [wrap_in,cneg]
 by_cases c2:r-(a.particle.size:Int)-(a.family.size:Int)<0
 ·simp (disch:=omega) only [wrap_in,cpos]
  exact EvP.pure _ (fun h=>by omega)
 simp (disch:=omega) only [wrap_in,cneg]
 by_cases c3:r-(a.particle.size:Int)-(a.family.size:Int)-(a.suffix.size:Int)<0
 ·simp (disch:=omega) only [wrap_in,cpos]
  exact EvP.pure _ (fun h=>by omega)
 simp (disch:=omega) only [wrap_in,cneg]
 exact EvP.pure _ (fun h=>by omega)
theorem szNs_l0 (xs:List Name) (hw:WF (.sl .name) xs) (hlen:xs.length<=1048576):∀ n i:Nat,i+n=xs.length->∀ l:Int,0<=l->l<=1048576 ->
  EvP (fun k=>Z26.l0 k xs l i) fun r=>r = .inl (-1)\/∃ q:Int,r = .inr q/\0<=q/\(((xs.drop i).map totN).sum:Int)+q=l
 | 0,i,h,l,h0,h1=>by
  refine EvP.step (fun k=>by rw [Z26.l0]) ?_
  simp (disch:=omega) only [cneg]
  rw [List.drop_eq_nil_of_le (by omega)]
  exact EvP.pure _ (.inr ⟨l,rfl,h0,by simp⟩)
 | n+1,i,h,l,h0,h1=>by
  have hi:i<xs.length:=by omega
  have hwi:WF .name xs[i]:=by cases hw with | sl _ _ _ h=>exact h i hi
  refine EvP.step (fun k=>by rw [Z26.l0]) ?_
  simp (disch:=omega) only [cpos,Int.toNat_natCast,getD_at hi]
  refine EvP.bind (szN_ev _ l h0 h1 hwi) fun r hr=> ?_
  by_cases c:r<0
  ·simp (disch:=omega) only [cpos]
   exact EvP.pure _ (.inl rfl)
  ·have hr:=hr (by omega)
   simp (disch:=omega) only [cneg,wrap_in]
   refine EvP.mono (szNs_l0 xs hw hlen n (i+1) (by omega) r (by omega) (by omega)) fun q hq=> ?_
   rcases hq with rfl | ⟨q,rfl,h2,h3⟩
   ·exact .inl rfl
   ·refine .inr ⟨q,rfl,h2,?_⟩
    rw [List.drop_eq_getElem_cons hi,List.map_cons,List.sum_cons]
    omega
theorem szNs_ev (xs:List Name) (l:Int) (h0:0<=l) (h1:l<=1048576) (hw:WF (.sl .name) xs):EvP (fun k=>Z26.F k xs l) fun r=>0<=r->(totNs xs:Int)+r=l:=by
 have hl:xs.length<=9223372036854775807:=wf_len hw
 unfold Z26.F totNs
 by_cases c:l-(xs.length:Int)<0
 ·simp (disch:=omega) only [wrap_in,cpos]
  exact EvP.pure _ fun h=>by omega
 ·simp (disch:=omega) only [wrap_in,cneg]
  refine EvP.bind (szNs_l0 xs hw (by omega) xs.length 0 (by omega) (l-xs.length) (by omega) (by omega)) fun r hr=> ?_
  rcases hr with rfl | ⟨q,rfl,h2,h3⟩
  ·exact EvP.pure _ fun h=>by omega
  ·rw [List.drop_zero] at h3
   exact EvP.pure _ fun h=>by omega
theorem szE_ev (a:Entry) (l:Int) (h0:0<=l) (h1:l<=1048576) (hw:WF .entry a):EvP (fun k=>Z81.F k a l) fun r=>0<=r->(totE a:Int)+r=l:=by
 obtain ⟨w1,w2,w3,w4,w5,w6,w7,w8⟩:a.key.size<=9223372036854775807/\WF (.sl .name) a.authors/\WF (.sl .name) a.editors/\a.title.size<=9223372036854775807/\a.container.size<=9223372036854775807/\a.publisher.size<=9223372036854775807/\a.pages.size<=9223372036854775807/\a.cross.size<=9223372036854775807:=by
  cases hw with | entry _ h1 h2 h3 h4 h5 h6 h7 h8 h9 h10 h11=>exact ⟨wf_str h1,h3,h4,wf_str h5,wf_str h6,wf_str h7,wf_str h10,wf_str h11⟩
 unfold Z81.F totE
 by_cases c0:l-(a.key.size:Int)<0
 ·simp (disch:=omega) only [wrap_in,cpos]
  exact EvP.pure _ (fun h=>by omega)
 simp (disch:=omega) only [wrap_in,cneg]
 refine EvP.bind (szNs_ev a.authors _ (by omega) (by omega) w2) fun r hr=> ?_
 by_cases c:r<0
 ·simp (disch:=omega) only [cpos]
  exact EvP.pure _ (fun h=>by omega)
 simp (disch:=omega) only [cneg]
 have hr:=hr (by omega)
 refine EvP.bind (szNs_ev a.editors r (by omega) (by omega) w3) fun q hq=> ?_
 by_cases c':q<0
 ·simp (disch:=omega) only [cpos]
  exact EvP.pure _ (fun h=>by omega)
 simp (disch:=omega) only [cneg]
 have hq:=hq (by omega)
 by_cases c1:q-(a.title.size:Int)<0
 ·simp (disch:=omega) only [wrap_in,cpos]
  exact EvP.pure _ (fun h=>by omega)
 simp (disch:=omega) only [wrap_in,cneg]
 by_cases c2:q-(a.title.size:Int)-(a.container.size:Int)<0
 ·simp (disch:=omega) only [wrap_in,cpos]
  exact EvP.pure _ (fun h=>by omega)
 simp (disch:=omega) only [wrap_in,cneg]
 by_cases c3:q-(a.title.size:Int)-(a.container.size:Int)-(a.publisher.size:Int)<0
 ·simp (disch:=omega) only [wrap_in,cpos]
  exact EvP.pure _ (fun h=>by omega)
 simp (disch:=omega) only [wrap_in,cneg]
 by_cases c4:q-(a.title.size:Int)-(a.container.size:Int)-(a.publisher.size:Int)-(a.pages.size:Int)<0
 ·simp (disch:=omega) only [wrap_in,cpos]
  exact EvP.pure _ (fun h=>by omega)
 simp (disch:=omega) only [wrap_in,cneg]
 by_cases c5:q-(a.title.size:Int)-(a.container.size:Int)-(a.publisher.size:Int)-(a.pages.size:Int)-(a.cross.size:Int)<0
 ·simp (disch:=omega) only [wrap_in,cpos]
  exact EvP.pure _ (fun h=>by omega)
 simp (disch:=omega) only [wrap_in,cneg]
 exact EvP.pure _ (fun h=>by omega)
theorem szEs_l0 (xs:List Entry) (hw:WF (.sl .entry) xs) (hlen:xs.length<=1048576):∀ n i:Nat,i+n=xs.length->∀ l:Int,0<=l->l<=1048576 ->
  EvP (fun k=>Z30.l0 k xs l i) fun r=>r = .inl (-1)\/∃ q:Int,r = .inr q/\0<=q/\(((xs.drop i).map totE).sum:Int)+q=l
 | 0,i,h,l,h0,h1=>by
  refine EvP.step (fun k=>by rw [Z30.l0]) ?_
  simp (disch:=omega) only [cneg]
  rw [List.drop_eq_nil_of_le (by omega)]
  exact EvP.pure _ (.inr ⟨l,rfl,h0,by simp⟩)
 | n+1,i,h,l,h0,h1=>by
  have hi:i<xs.length:=by omega
  have hwi:WF .entry xs[i]:=by cases hw with | sl _ _ _ h=>exact h i hi
  refine EvP.step (fun k=>by rw [Z30.l0]) ?_
  simp (disch:=omega) only [cpos,Int.toNat_natCast,getD_at hi]
  refine EvP.bind (szE_ev _ l h0 h1 hwi) fun r hr=> ?_
  by_cases c:r<0
  ·simp (disch:=omega) only [cpos]
   exact EvP.pure _ (.inl rfl)
  ·have hr:=hr (by omega)
   simp (disch:=omega) only [cneg,wrap_in]
   refine EvP.mono (szEs_l0 xs hw hlen n (i+1) (by omega) r (by omega) (by omega)) fun q hq=> ?_
   rcases hq with rfl | ⟨q,rfl,h2,h3⟩
   ·exact .inl rfl
   ·refine .inr ⟨q,rfl,h2,?_⟩
    rw [List.drop_eq_getElem_cons hi,List.map_cons,List.sum_cons]
    omega
theorem szEs_ev (xs:List Entry) (l:Int) (h0:0<=l) (h1:l<=1048576) (hw:WF (.sl .entry) xs):EvP (fun k=>Z30.F k xs l) fun r=>0<=r->(totEs xs:Int)+r=l:=by
 have hl:xs.length<=9223372036854775807:=wf_len hw
 unfold Z30.F totEs
 by_cases c:l-(xs.length:Int)<0
 ·simp (disch:=omega) only [wrap_in,cpos]
  exact EvP.pure _ fun h=>by omega
 ·simp (disch:=omega) only [wrap_in,cneg]
  refine EvP.bind (szEs_l0 xs hw (by omega) xs.length 0 (by omega) (l-xs.length) (by omega) (by omega)) fun r hr=> ?_
  rcases hr with rfl | ⟨q,rfl,h2,h3⟩
  ·exact EvP.pure _ fun h=>by omega
  ·rw [List.drop_zero] at h3
   exact EvP.pure _ fun h=>by omega
theorem szL_ev (a:Library) (l:Int) (h0:0<=l) (h1:l<=1048576) (hw:WF .lib a):EvP (fun k=>Z82.F k a l) fun r=>0<=r->(totEs a.entries:Int)+r=l:=by
 have w1:WF (.sl .entry) a.entries:=by cases hw with | lib _ h=>exact h
 unfold Z82.F
 refine EvP.bind (szEs_ev a.entries l h0 h1 w1) fun r hr=> ?_
 by_cases c:r<0
 ·simp (disch:=omega) only [cpos]
  exact EvP.pure _ (fun h=>by omega)
 simp (disch:=omega) only [cneg]
 exact EvP.pure _ hr
theorem toSp_l0 (xs:List ByteArray) (hlen:xs.length<=1048576):∀ n i:Nat,i+n=xs.length->∀ ys:List ByteArray,ys.length=xs.length->ys.take i=xs.take i->Ev (fun k=>Z39.l0 k xs ys i) xs
 | 0,i,h,ys,hy,ht=>by
  refine Ev.step (fun k=>by rw [Z39.l0]) ?_
  simp (disch:=omega) only [cneg]
  have:ys=xs:=by
   rw [List.take_of_length_le (by omega),List.take_of_length_le (by omega)] at ht
   exact ht
  rw [this]; exact Ev.pure _
 | n+1,i,h,ys,hy,ht=>by
  have hi:i<xs.length:=by omega
  refine Ev.step (fun k=>by rw [Z39.l0]) ?_
  simp (disch:=omega) only [cpos,Int.toNat_natCast,getD_at hi,wrap_in]
  exact toSp_l0 xs hlen n (i+1) (by omega) (ys.set i xs[i]) (by simpa using hy) (by
   rw [List.take_add_one,List.take_add_one,List.take_set_of_le (Nat.le_refl i),ht]
   simp [show i<ys.length by omega,hi])
theorem toSp_ev (xs:List ByteArray) (hlen:xs.length<=1048576):Ev (fun k=>Z39.F k xs) xs:=by
 unfold Z39.F
 have hn:nb .str=16:=rfl
 simp (disch:=first | omega | (simp only [hn,Int.toNat_natCast]; omega)) only [ceq,cpos,cble]
 exact Ev.bind (a:=xs) (toSp_l0 xs hlen xs.length 0 (by omega) _ (by simp) (by simp)) (Ev.pure _)
theorem toN_ev (a:Name) (hs:smallN a):Ev (fun k=>Z68.F k a) a:=by
 unfold Z68.F
 exact Ev.bind (toSp_ev a.given (by unfold smallN totN at hs; omega)) (Ev.pure _)
theorem toNs_l0 (xs:List Name) (hs:∀ x ∈ xs,smallN x) (hlen:xs.length<=1048576):∀ n i:Nat,i+n=xs.length->∀ ys:List Name,ys.length=xs.length->ys.take i=xs.take i->Ev (fun k=>Z35.l0 k xs ys i) xs
 | 0,i,h,ys,hy,ht=>by
  refine Ev.step (fun k=>by rw [Z35.l0]) ?_
  simp (disch:=omega) only [cneg]
  have:ys=xs:=by
   rw [List.take_of_length_le (by omega),List.take_of_length_le (by omega)] at ht
   exact ht
  rw [this]; exact Ev.pure _
 | n+1,i,h,ys,hy,ht=>by
  have hi:i<xs.length:=by omega
  refine Ev.step (fun k=>by rw [Z35.l0]) ?_
  simp (disch:=omega) only [cpos,Int.toNat_natCast,getD_at hi]
  refine Ev.bind (toN_ev _ (hs _ (List.getElem_mem hi))) ?_
  simp (disch:=omega) only [cpos,wrap_in]
  exact toNs_l0 xs hs hlen n (i+1) (by omega) (ys.set i xs[i]) (by simpa using hy) (by
   rw [List.take_add_one,List.take_add_one,List.take_set_of_le (Nat.le_refl i),ht]
   simp [show i<ys.length by omega,hi])
theorem toNs_ev (xs:List Name) (hs:∀ x ∈ xs,smallN x) (hlen:xs.length<=1048576):Ev (fun k=>Z35.F k xs) xs:=by
 unfold Z35.F
 have hn:nb .name=72:=rfl
 simp (disch:=first | omega | (simp only [hn,Int.toNat_natCast]; omega)) only [ceq,cpos,cble]
 exact Ev.bind (a:=xs) (toNs_l0 xs hs hlen xs.length 0 (by omega) _ (by simp) (by simp)) (Ev.pure _)
theorem toE_ev (a:Entry) (hs:smallE a):Ev (fun k=>Z91.F k a) a:=by
 unfold Z91.F
 have ha:=smallE_a hs
 have he:=smallE_e hs
 exact Ev.bind (toNs_ev a.authors (fun x hx=>smallNs_at ha hx) (smallNs_len ha)) (Ev.bind (toNs_ev a.editors (fun x hx=>smallNs_at he hx) (smallNs_len he)) (Ev.pure _))
theorem toEs_l0 (xs:List Entry) (hs:∀ x ∈ xs,smallE x) (hlen:xs.length<=1048576):∀ n i:Nat,i+n=xs.length->∀ ys:List Entry,ys.length=xs.length->ys.take i=xs.take i->Ev (fun k=>Z43.l0 k xs ys i) xs
 | 0,i,h,ys,hy,ht=>by
  refine Ev.step (fun k=>by rw [Z43.l0]) ?_
  simp (disch:=omega) only [cneg]
  have:ys=xs:=by
   rw [List.take_of_length_le (by omega),List.take_of_length_le (by omega)] at ht
   exact ht
  rw [this]; exact Ev.pure _
 | n+1,i,h,ys,hy,ht=>by
  have hi:i<xs.length:=by omega
  refine Ev.step (fun k=>by rw [Z43.l0]) ?_
  simp (disch:=omega) only [cpos,Int.toNat_natCast,getD_at hi]
  refine Ev.bind (toE_ev _ (hs _ (List.getElem_mem hi))) ?_
  simp (disch:=omega) only [cpos,wrap_in]
  exact toEs_l0 xs hs hlen n (i+1) (by omega) (ys.set i xs[i]) (by simpa using hy) (by
   rw [List.take_add_one,List.take_add_one,List.take_set_of_le (Nat.le_refl i),ht]
   simp [show i<ys.length by omega,hi])
theorem toEs_ev (xs:List Entry) (hs:∀ x ∈ xs,smallE x) (hlen:xs.length<=1048576):Ev (fun k=>Z43.F k xs) xs:=by
 unfold Z43.F
 have hn:nb .entry=192:=rfl
 simp (disch:=first | omega | (simp only [hn,Int.toNat_natCast]; omega)) only [ceq,cpos,cble]
 exact Ev.bind (a:=xs) (toEs_l0 xs hs hlen xs.length 0 (by omega) _ (by simp) (by simp)) (Ev.pure _)
theorem toL_ev (a:Library) (hs:smallL a):Ev (fun k=>Z65.F k a) a:=by
 unfold Z65.F
 exact Ev.bind (toEs_ev a.entries (fun x hx=>smallL_at hs hx) (smallL_len hs)) (Ev.pure _)
theorem eqN_ev (a:Name) (hs:smallN a):Ev (fun k=>Z97.F k a a) true:=by
 unfold Z97.F
 refine Ev.bind (eqS_ev a.given (by unfold smallN totN at hs; omega)) ?_
 simp only [beqS_self,Bool.not_true,cond_false]
 exact Ev.pure _
theorem eqD_ev (a:Date):Z98.F a a=some true:=by
 unfold Z98.F
 simp only [bne_self_eq_false,beq_self_eq_true,Bool.not_true,cond_false]
theorem eqNs_l0 (xs:List Name) (hs:∀ x ∈ xs,smallN x) (hlen:xs.length<=1048576):∀ n i:Nat,i+n=xs.length->Ev (fun k=>Z27.l0 k xs xs i) (.inr ())
 | 0,i,h=>by
  refine Ev.step (fun k=>by rw [Z27.l0]) ?_
  simp (disch:=omega) only [cneg]
  exact Ev.pure _
 | n+1,i,h=>by
  have hi:i<xs.length:=by omega
  refine Ev.step (fun k=>by rw [Z27.l0]) ?_
  simp (disch:=omega) only [cpos,Int.toNat_natCast,getD_at hi]
  refine Ev.bind (eqN_ev _ (hs _ (List.getElem_mem hi))) ?_
  simp (disch:=omega) only [Bool.not_true,cond_false,wrap_in]
  exact eqNs_l0 xs hs hlen n (i+1) (by omega)
theorem eqNs_ev (xs:List Name) (hs:∀ x ∈ xs,smallN x) (hlen:xs.length<=1048576):Ev (fun k=>Z27.F k xs xs) true:=by
 unfold Z27.F
 simp (disch:=omega) only [cbeq]
 exact Ev.bind (eqNs_l0 xs hs hlen xs.length 0 (by omega)) (Ev.pure _)
theorem eqE_ev (a:Entry) (hs:smallE a):Ev (fun k=>Z99.F k a a) true:=by
 unfold Z99.F
 have ha:=smallE_a hs
 have he:=smallE_e hs
 simp only [beqS_self,bne_self_eq_false,Bool.not_true,cond_false]
 refine Ev.bind (eqNs_ev a.authors (fun x hx=>smallNs_at ha hx) (smallNs_len ha)) ?_
 simp only [Bool.not_true,cond_false]
 refine Ev.bind (eqNs_ev a.editors (fun x hx=>smallNs_at he hx) (smallNs_len he)) ?_
 simp only [Bool.not_true,cond_false]
 refine Ev.bind0 (eqD_ev _) ?_
 simp only [Bool.not_true,cond_false]
 exact Ev.pure _
theorem eqEs_l0 (xs:List Entry) (hs:∀ x ∈ xs,smallE x) (hlen:xs.length<=1048576):∀ n i:Nat,i+n=xs.length->Ev (fun k=>Z33.l0 k xs xs i) (.inr ())
 | 0,i,h=>by
  refine Ev.step (fun k=>by rw [Z33.l0]) ?_
  simp (disch:=omega) only [cneg]
  exact Ev.pure _
 | n+1,i,h=>by
  have hi:i<xs.length:=by omega
  refine Ev.step (fun k=>by rw [Z33.l0]) ?_
  simp (disch:=omega) only [cpos,Int.toNat_natCast,getD_at hi]
  refine Ev.bind (eqE_ev _ (hs _ (List.getElem_mem hi))) ?_
  simp (disch:=omega) only [Bool.not_true,cond_false,wrap_in]
  exact eqEs_l0 xs hs hlen n (i+1) (by omega)
theorem eqEs_ev (xs:List Entry) (hs:∀ x ∈ xs,smallE x) (hlen:xs.length<=1048576):Ev (fun k=>Z33.F k xs xs) true:=by
 unfold Z33.F
 simp (disch:=omega) only [cbeq]
 exact Ev.bind (eqEs_l0 xs hs hlen xs.length 0 (by omega)) (Ev.pure _)
theorem eqL_ev (a:Library) (hs:smallL a):Ev (fun k=>Z100.F k a a) true:=by
 unfold Z100.F
 refine Ev.bind (eqEs_ev a.entries (fun x hx=>smallL_at hs hx) (smallL_len hs)) ?_
 simp only [Bool.not_true,cond_false]
 exact Ev.pure _
end Go.Proofs.YtoojiikgbopeiaaGreatDoor
end
section
/- Plain laws: slices.IndexFunc,slices.DeleteFunc,as they are printed for a function value. -/
namespace Go.Gx
section
variable {α:Type} {d:α} {p:α->Bool} {q:Nat -> α->Option Bool} {xs:List α}
theorem getDat {α:Type} {xs:List α} {i:Nat} (h:i<xs.length) (d:α):xs.getD i d=xs[i]:=by simp [List.getD,List.getElem?_eq_getElem h]
theorem idx_l0 {l0:Nat->List α->Int->Int->Option (Sum Int Unit)} (H:∀ k x0 x7 x8,l0 (k+1) x0 x7 x8=bif (decide (x8<x7)) then (bif decide (0<=x8) then (bif decide (x8<(x0.length:Int)) then ((q k (x0.getD (x8:Int).toNat d)).bind fun r1=>bif r1 then (some (.inl x8)) else (l0 k x0 x7 (IntKind.wrap .i64 (x8+1)))) else none) else none) else (some (.inr ())))
  (hq:∀ x,x ∈ xs->Ev (fun k=>q k x) (p x)) (hl:xs.length<=4611686018427387904):∀ n i:Nat,i+n=xs.length->(∀ x ∈ xs.take i,p x=false) ->
  ∃ r,Ev (fun k=>l0 k xs xs.length i) r/\((r = .inr ()/\∀ x ∈ xs,p x=false)\/∃ j:Nat,r = .inl j/\j<xs.length/\p (xs.getD j d)=true/\∀ x ∈ xs.take j,p x=false)
 | 0,i,h,ht=>by
  refine ⟨.inr (),Ev.step (fun k=>by rw [H]) ?_,.inl ⟨rfl,by rw [List.take_of_length_le (by omega)] at ht; exact ht⟩⟩
  simp (disch:=omega) only [cneg]
  exact Ev.pure _
 | n+1,i,h,ht=>by
  have hi:i<xs.length:=by omega
  cases hp:p xs[i] with
  | true=>
   refine ⟨.inl i,Ev.step (fun k=>by rw [H]) ?_,.inr ⟨i,rfl,hi,by rw [getDat hi,hp],ht⟩⟩
   simp (disch:=omega) only [cpos,Int.toNat_natCast,getDat hi]
   refine Ev.bind (hq _ (List.getElem_mem hi)) ?_
   rw [hp]
   exact Ev.pure _
  | false=>
   obtain ⟨r,h1,h2⟩:=idx_l0 H hq hl n (i+1) (by omega) (by
    intro x hx
    rw [List.take_add_one,List.getElem?_eq_getElem hi] at hx
    rcases List.mem_append.1 hx with hx | hx
    ·exact ht x hx
    ·simp only [Option.toList_some,List.mem_singleton] at hx
     rw [hx,hp])
   refine ⟨r,Ev.step (fun k=>by rw [H]) ?_,h2⟩
   simp (disch:=omega) only [cpos,Int.toNat_natCast,getDat hi]
   refine Ev.bind (hq _ (List.getElem_mem hi)) ?_
   rw [hp]
   simp (disch:=omega) only [cond_false,wrap_in]
   exact h1
theorem idx_ev {l0:Nat->List α->Int->Int->Option (Sum Int Unit)} (H:∀ k x0 x7 x8,l0 (k+1) x0 x7 x8=bif (decide (x8<x7)) then (bif decide (0<=x8) then (bif decide (x8<(x0.length:Int)) then ((q k (x0.getD (x8:Int).toNat d)).bind fun r1=>bif r1 then (some (.inl x8)) else (l0 k x0 x7 (IntKind.wrap .i64 (x8+1)))) else none) else none) else (some (.inr ())))
  (hq:∀ x,x ∈ xs->Ev (fun k=>q k x) (p x)) (hl:xs.length<=4611686018427387904) {F:Nat->List α->Option Int} (HF:∀ k a0,F k a0=(l0 k a0 (a0.length:Int) 0).bind fun y2=>match y2 with | .inl z3=>some z3 | .inr z3=>some (-1)) :
  ∃ r,Ev (fun k=>F k xs) r/\((r = -1/\∀ x ∈ xs,p x=false)\/∃ j:Nat,r=j/\j<xs.length/\p (xs.getD j d)=true/\∀ x ∈ xs.take j,p x=false):=by
 obtain ⟨r,h1,h2⟩:=idx_l0 H hq hl xs.length 0 (by omega) (fun x hx=>by simp at hx)
 rcases h2 with ⟨rfl,h2⟩ | ⟨j,rfl,h2⟩
 ·exact ⟨-1,Ev.congr (Ev.bind h1 (Ev.pure _)) (fun k=>HF k xs),.inl ⟨rfl,h2⟩⟩
 ·exact ⟨j,Ev.congr (Ev.bind h1 (Ev.pure _)) (fun k=>HF k xs),.inr ⟨j,rfl,h2⟩⟩
theorem del_l0 {l0:Nat->List α->Int->Int->Option (List α × Int)} (H:∀ k x0 x5 x6,l0 (k+1) x0 x5 x6=bif (decide (x6<(x0.length:Int))) then (bif decide (0<=x6) then (bif decide (x6<(x0.length:Int)) then ((q k (x0.getD ((x6:Int).toNat) d)).bind fun r2=>bif (!r2) then (bif decide (0<=x5) then (bif decide (x5<(x0.length:Int)) then (l0 k (x0.set ((x5:Int).toNat) (x0.getD ((x6:Int).toNat) d)) (IntKind.wrap .i64 (x5+1)) (IntKind.wrap .i64 (x6+1))) else none) else none) else (l0 k x0 x5 (IntKind.wrap .i64 (x6+1)))) else none) else none) else (some (x0,x5)))
  (hq:∀ x,x ∈ xs->Ev (fun k=>q k x) (p x)) (hl:xs.length<=4611686018427387904):∀ n j:Nat,j+n=xs.length->∀ (ys:List α) (i:Nat),ys.length=xs.length->i<=j->ys.drop j=xs.drop j ->
  ∃ zs,∃ i':Nat,Ev (fun k=>l0 k ys i j) (zs,(i':Int))/\i'<=xs.length/\zs.length=xs.length/\zs.take i'=ys.take i++(xs.drop j).filter fun x=> !p x
 | 0,j,h,ys,i,hy,hij,hd=>by
  refine ⟨ys,i,Ev.step (fun k=>by rw [H]) ?_,by omega,hy,?_⟩
  ·simp (disch:=omega) only [cneg]
   exact Ev.pure _
  ·rw [List.drop_eq_nil_of_le (by omega),List.filter_nil,List.append_nil]
 | n+1,j,h,ys,i,hy,hij,hd=>by
  have hj:j<xs.length:=by omega
  have hj':j<ys.length:=by omega
  have hx:ys[j]=xs[j]:=by
   have h0:=congrArg (·[0]?) hd
   simpa [hj,hj'] using h0
  have hd1:ys.drop (j+1)=xs.drop (j+1):=by
   have:=congrArg (List.drop 1) hd
   simpa [List.drop_drop] using this
  cases hp:p xs[j] with
  | true=>
   obtain ⟨zs,i',h1,h2,h3,h4⟩:=del_l0 H hq hl n (j+1) (by omega) ys i hy (by omega) hd1
   refine ⟨zs,i',Ev.step (fun k=>by rw [H]) ?_,h2,h3,?_⟩
   ·simp (disch:=omega) only [cpos,Int.toNat_natCast,getDat hj',hx]
    refine Ev.bind (hq _ (List.getElem_mem hj)) ?_
    rw [hp]
    simp (disch:=omega) only [Bool.not_true,cond_false,wrap_in]
    exact h1
   ·rw [h4,List.drop_eq_getElem_cons hj,List.filter_cons_of_neg (by rw [hp]; decide)]
  | false=>
   obtain ⟨zs,i',h1,h2,h3,h4⟩:=del_l0 H hq hl n (j+1) (by omega) (ys.set i xs[j]) (i+1) (by simpa using hy) (by omega) (by rw [List.drop_set_of_lt (by omega)]; exact hd1)
   refine ⟨zs,i',Ev.step (fun k=>by rw [H]) ?_,h2,h3,?_⟩
   ·simp (disch:=omega) only [cpos,Int.toNat_natCast,getDat hj',hx]
    refine Ev.bind (hq _ (List.getElem_mem hj)) ?_
    rw [hp]
    simp (disch:=omega) only [Bool.not_false,cond_true,cpos,Int.toNat_natCast,wrap_in]
    exact h1
   ·rw [h4,List.drop_eq_getElem_cons hj,List.filter_cons_of_pos (by rw [hp]; decide),List.take_add_one,List.take_set_of_le (Nat.le_refl i)]
    have:(ys.set i xs[j])[i]? = some xs[j]:=by rw [List.getElem?_set_self (by omega)]
    rw [this]
    simp
theorem delete_ev {l0:Nat->List α->Int->Int->Option (List α × Int)} (H:∀ k x0 x5 x6,l0 (k+1) x0 x5 x6=bif (decide (x6<(x0.length:Int))) then (bif decide (0<=x6) then (bif decide (x6<(x0.length:Int)) then ((q k (x0.getD ((x6:Int).toNat) d)).bind fun r2=>bif (!r2) then (bif decide (0<=x5) then (bif decide (x5<(x0.length:Int)) then (l0 k (x0.set ((x5:Int).toNat) (x0.getD ((x6:Int).toNat) d)) (IntKind.wrap .i64 (x5+1)) (IntKind.wrap .i64 (x6+1))) else none) else none) else (l0 k x0 x5 (IntKind.wrap .i64 (x6+1)))) else none) else none) else (some (x0,x5)))
  (hq:∀ x,x ∈ xs->Ev (fun k=>q k x) (p x)) (hl:xs.length<=4611686018427387904) {I F:Nat->List α->Option _} {e:α}
  (hI:∃ r:Int,Ev (fun k=>I k xs) r/\((r = -1/\∀ x ∈ xs,p x=false)\/∃ j:Nat,r=j/\j<xs.length/\p (xs.getD j d)=true/\∀ x ∈ xs.take j,p x=false))
  (HF:∀ k a0,F k a0=(I k a0).bind fun r1=>bif (r1==(-1)) then (some a0) else ((l0 k a0 r1 (IntKind.wrap .i64 (r1+1))).bind fun y3=>bif decide (0<=y3.2) then (bif decide (y3.2<=(y3.1.length:Int)) then (bif decide (0<=y3.2) then (bif decide (y3.2<=((y3.1.take ((y3.2:Int).toNat)++List.replicate (y3.1.length-((y3.2:Int).toNat)) e).length:Int)) then (some ((y3.1.take ((y3.2:Int).toNat)++List.replicate (y3.1.length-((y3.2:Int).toNat)) e).take (y3.2:Int).toNat)) else none) else none) else none) else none)) :
  Ev (fun k=>F k xs) (xs.filter fun x=> !p x):=by
 obtain ⟨r,h1,h2⟩:=hI
 refine Ev.congr (?_:Ev _ _) (fun k=>HF k xs)
 refine Ev.bind h1 ?_
 rcases h2 with ⟨rfl,h2⟩ | ⟨j,rfl,hj,hp,h2⟩
 ·have:(xs.filter fun x=> !p x)=xs:=List.filter_eq_self.2 fun x hx=>by rw [h2 x hx]; rfl
  rw [this]
  exact Ev.pure _
 ·obtain ⟨zs,i',h3,h4,h5,h6⟩:=del_l0 H hq hl (xs.length-(j+1)) (j+1) (by omega) xs j rfl (by omega) rfl
  rw [getDat hj] at hp
  have hz:zs.take i'=xs.filter fun x=> !p x:=by
   rw [h6]
   conv=>rhs; rw [<- List.take_append_drop j xs,List.filter_append,List.drop_eq_getElem_cons hj,List.filter_cons_of_neg (by rw [hp]; decide)]
   congr 1
   exact (List.filter_eq_self.2 fun x hx=>by rw [h2 x hx]; rfl).symm
  simp (disch:=omega) only [cne,wrap_in]
  refine Ev.bind h3 ?_
  have e1:((zs.take i'++List.replicate (zs.length-i') e)).length=zs.length:=by simp; omega
  simp (disch:=(try simp only [Int.toNat_natCast,e1]); omega) only [cpos,Int.toNat_natCast,e1]
  rw [List.take_append_of_le_length (by simp; omega),List.take_take,Nat.min_self,hz]
  exact Ev.pure _
end
end Go.Gx
end
section
/- Plain laws: keys,names,dates,entries,libraries: are they valid? -/
namespace Go.Proofs.YtoojiikgbopeiaaGreatDoor
open Go.Gx
theorem in_ev (a b c:Int):Z51.F a b c=some (decide (a ≥ b) && decide (a<=c)):=by
 unfold Z51.F
 cases decide (a ≥ b) <;> rfl
theorem inside_ev (a b c:Int):Z49.F a b c=some (decide (a ≥ b) && decide (a<=c)):=by
 unfold Z49.F
 cases decide (a ≥ b) <;> rfl
theorem and_step {f:Nat->Option Bool} {b c:Bool} (h:b=true->Ev f c):Ev (fun k=>bif (!b) then some false else f k) (b && c):=by
 cases b with
 | false=>exact Ev.pure _
 | true=>exact h rfl
theorem and_step' {f:Nat->Option Bool} {b c:Bool} (h:b=true->Ev f c):Ev (fun k=>bif b then f k else some false) (b && c):=by
 cases b with
 | false=>exact Ev.pure _
 | true=>exact h rfl
def lowc (b:Int):Bool:=decide (97<=b) && decide (b<=122)
def upc (b:Int):Bool:=decide (65<=b) && decide (b<=90)
def ltr (b:Int):Bool:=upc b || lowc b
def dig (b:Int):Bool:=decide (48<=b) && decide (b<=57)
theorem sLower (b:Int):Z54.F b=some (lowc b):=by
 unfold Z54.F lowc
 simp only [ge_iff_le]
 cases decide (97<=b) <;> rfl
theorem sUpper (b:Int):Z59.F b=some (upc b):=by
 unfold Z59.F upc
 simp only [ge_iff_le]
 cases decide (65<=b) <;> rfl
theorem sLetter (b:Int):Z56.F b=some (ltr b):=by
 unfold Z56.F ltr
 rw [sUpper,sLower]
 cases upc b <;> rfl
theorem iLower (b:Int):Z52.F b=some (lowc b):=by
 unfold Z52.F lowc
 simp only [ge_iff_le]
 cases decide (97<=b) <;> rfl
theorem iUpper (b:Int):Z53.F b=some (upc b):=by
 unfold Z53.F upc
 simp only [ge_iff_le]
 cases decide (65<=b) <;> rfl
theorem iLetter (b:Int):Z58.F b=some (ltr b):=by
 unfold Z58.F ltr
 rw [iUpper,iLower]
 cases upc b <;> rfl
theorem iDigit (b:Int):Z57.F b=some (dig b):=by
 unfold Z57.F dig
 simp only [ge_iff_le]
 cases decide (48<=b) <;> rfl
def ins (n:Nat) (lo hi:Int):Bool:=decide ((n:Int) ≥ lo) && decide ((n:Int)<=hi)
theorem ins_le {n:Nat} {lo hi:Int} (h:ins n lo hi=true):lo<=n/\(n:Int)<=hi:=by
 unfold ins at h
 simp only [Bool.and_eq_true,decide_eq_true_eq] at h
 exact h
def kb (s:ByteArray) (i:Nat):Bool:=lowc (bt s i) || dig (bt s i)
def keyB (s:ByteArray):Bool:=ins s.size 1 10 && (lowc (bt s 0) && (List.range' 0 s.size).all (kb s))
theorem specKey_l0 (s:ByteArray) (hs:s.size<=10):Ev (fun k=>Z12.l0 k s ((0:Nat):Int)) (if (List.range' 0 s.size).all (kb s)=true then .inr () else .inl false):=by
 refine loop_all (f:=fun k i=>Z12.l0 k s i) (n:=s.size) (fun i hi hp=> ?_) (fun i r hi hp ih=> ?_) ?_ s.size 0 (by omega)
 ·refine Ev.step (fun k=>by rw [Z12.l0]) ?_
  unfold kb at hp
  rw [Bool.or_eq_false_iff] at hp
  simp (disch:=omega) only [cpos,Int.toNat_natCast]
  refine Ev.bind0 (sLower _) ?_
  rw [hp.1]
  have h2:=hp.2
  unfold dig at h2
  by_cases c:bt s i<48
  ·simp (disch:=omega) only [cpos,Bool.not_false,cond_true]
   exact Ev.pure _
  ·have c2:bt s i > 57:=by
    rw [decide_eq_true (show 48<=bt s i by omega),Bool.true_and,decide_eq_false_iff_not] at h2
    omega
   simp (disch:=omega) only [cpos,cneg,Bool.not_false,cond_true]
   exact Ev.pure _
 ·refine Ev.step (fun k=>by rw [Z12.l0]) ?_
  simp (disch:=omega) only [cpos,Int.toNat_natCast]
  refine Ev.bind0 (sLower _) ?_
  cases hl:lowc (bt s i) with
  | true=>
   simp (disch:=omega) only [Bool.not_true,cond_false,wrap_in]
   exact ih
  | false=>
   unfold kb at hp
   rw [hl,Bool.false_or] at hp
   unfold dig at hp
   simp only [Bool.and_eq_true,decide_eq_true_eq] at hp
   simp (disch:=omega) only [Bool.not_false,cond_true,cpos,cneg,wrap_in]
   exact ih
 ·refine Ev.step (fun k=>by rw [Z12.l0]) ?_
  simp (disch:=omega) only [cneg]
  exact Ev.pure _
theorem isKey_l0 (s:ByteArray) (hs:s.size<=10):Ev (fun k=>Z13.l0 k s ((0:Nat):Int)) (if (List.range' 0 s.size).all (kb s)=true then .inr () else .inl false):=by
 refine loop_all (f:=fun k i=>Z13.l0 k s i) (n:=s.size) (fun i hi hp=> ?_) (fun i r hi hp ih=> ?_) ?_ s.size 0 (by omega)
 ·refine Ev.step (fun k=>by rw [Z13.l0]) ?_
  unfold kb at hp
  rw [Bool.or_eq_false_iff] at hp
  simp (disch:=omega) only [cpos,Int.toNat_natCast]
  refine Ev.bind0 (iLower _) ?_
  rw [hp.1]
  simp (disch:=omega) only [Bool.not_false,cond_true,cpos]
  refine Ev.bind0 (iDigit _) ?_
  rw [hp.2]
  exact Ev.pure _
 ·refine Ev.step (fun k=>by rw [Z13.l0]) ?_
  simp (disch:=omega) only [cpos,Int.toNat_natCast]
  refine Ev.bind0 (iLower _) ?_
  cases hl:lowc (bt s i) with
  | true=>
   simp (disch:=omega) only [Bool.not_true,cond_false,wrap_in]
   exact ih
  | false=>
   unfold kb at hp
   rw [hl,Bool.false_or] at hp
   simp (disch:=omega) only [Bool.not_false,cond_true,cpos]
   refine Ev.bind0 (iDigit _) ?_
   rw [hp]
   simp (disch:=omega) only [Bool.not_true,cond_false,wrap_in]
   exact ih
 ·refine Ev.step (fun k=>by rw [Z13.l0]) ?_
  simp (disch:=omega) only [cneg]
  exact Ev.pure _
theorem specKey_ev (s:ByteArray):Ev (fun k=>Z12.F k s) (keyB s):=by
 unfold Z12.F keyB
 refine Ev.bind0 (in_ev _ _ _) (and_step fun h=> ?_)
 obtain ⟨h1,h2⟩:=ins_le h
 simp (disch:=omega) only [cpos,show (0:Int).toNat=0 from rfl]
 refine Ev.bind0 (sLower _) (and_step fun _=> ?_)
 have:=specKey_l0 s (by omega)
 cases ha:(List.range' 0 s.size).all (kb s) with
 | true=>rw [ha] at this; exact Ev.bind this (Ev.pure _)
 | false=>rw [ha] at this; exact Ev.bind this (Ev.pure _)
theorem isKey_ev (s:ByteArray):Ev (fun k=>Z13.F k s) (keyB s):=by
 unfold Z13.F keyB
 refine Ev.bind0 (inside_ev _ _ _) (and_step fun h=> ?_)
 obtain ⟨h1,h2⟩:=ins_le h
 simp (disch:=omega) only [cpos,show (0:Int).toNat=0 from rfl]
 refine Ev.bind0 (iLower _) (and_step fun _=> ?_)
 have:=isKey_l0 s (by omega)
 cases ha:(List.range' 0 s.size).all (kb s) with
 | true=>rw [ha] at this; exact Ev.bind this (Ev.pure _)
 | false=>rw [ha] at this; exact Ev.bind this (Ev.pure _)
def wp (s:ByteArray) (i:Nat):Bool:=ltr (bt s i) || ((bt s i==45 || bt s i==39) && ltr (bt s (i-1)))
def wordB (s:ByteArray):Bool:=ins s.size 1 12 && (ltr (bt s 0) && (ltr (bt s (s.size-1)) && (List.range' 1 (s.size-1)).all (wp s)))
theorem wcase {s:ByteArray} {i:Nat} (h:ltr (bt s i)=false) (h1:bt s i ≠ 45) (h2:bt s i ≠ 39):wp s i=false:=by
 unfold wp
 rw [h,show (bt s i==45)=false by simpa using h1,show (bt s i==39)=false by simpa using h2]; rfl
theorem wcase' {s:ByteArray} {i:Nat} (h:ltr (bt s i)=false) (h1:bt s i=45\/bt s i=39):wp s i=ltr (bt s (i-1)):=by
 unfold wp
 rw [h]
 rcases h1 with h1 | h1 <;> rw [h1] <;> simp
theorem specWord_l0 (s:ByteArray) (hs:s.size<=12):∀ m i:Nat,i+m=s.size->1<=i->Ev (fun k=>Z10.l0 k s i) (if (List.range' i m).all (wp s)=true then .inr () else .inl false)
 | 0,i,h,h1=>by
  refine Ev.step (fun k=>by rw [Z10.l0]) ?_
  simp (disch:=omega) only [cneg]
  exact Ev.pure _
 | m+1,i,h,h1=>by
  have ih:=specWord_l0 s hs m (i+1) (by omega) (by omega)
  have et:((i:Int)-1).toNat=i-1:=by omega
  refine Ev.step (fun k=>by rw [Z10.l0]) ?_
  rw [List.range'_succ,List.all_cons]
  simp (disch:=omega) only [cpos,Int.toNat_natCast]
  refine Ev.bind0 (sLetter _) ?_
  cases hl:ltr (bt s i) with
  | true=>
   have:wp s i=true:=by unfold wp; rw [hl]; rfl
   rw [this]
   simp (disch:=omega) only [Bool.not_true,cond_false,Bool.true_and,wrap_in]
   exact ih
  | false=>
   have fin:(bt s i=45\/bt s i=39)->Ev (fun k=>(Z56.F (bt s (i-1))).bind fun r5=>bif (!r5) then (some (.inl false)) else (Z10.l0 k s ((i:Int)+1))) (if (wp s i && (List.range' (i+1) m).all (wp s))=true then .inr () else .inl false):=fun hh=>by
    refine Ev.bind0 (sLetter _) ?_
    rw [wcase' hl hh]
    cases ltr (bt s (i-1)) with
    | true=>exact ih
    | false=>exact Ev.pure _
   by_cases c1:bt s i=45
   ·simp (disch:=first | exact c1 | omega) only [Bool.not_false,cond_true,cpos,cbeq,wrap_in,et]
    exact fin (.inl c1)
   ·by_cases c2:bt s i=39
    ·simp (disch:=first | exact c1 | exact c2 | omega) only [Bool.not_false,cond_true,cpos,cbne,cbeq,wrap_in,et]
     exact fin (.inr c2)
    ·rw [wcase hl c1 c2]
     simp (disch:=first | exact c1 | exact c2 | omega) only [Bool.not_false,cond_true,cpos,cbne]
     exact Ev.pure _
theorem isWord_l0 (s:ByteArray) (hs:s.size<=12):∀ m i:Nat,i+m=s.size->1<=i->Ev (fun k=>Z11.l0 k s i) (if (List.range' i m).all (wp s)=true then .inr () else .inl false)
 | 0,i,h,h1=>by
  refine Ev.step (fun k=>by rw [Z11.l0]) ?_
  simp (disch:=omega) only [cneg]
  exact Ev.pure _
 | m+1,i,h,h1=>by
  have ih:=isWord_l0 s hs m (i+1) (by omega) (by omega)
  have et:((i:Int)-1).toNat=i-1:=by omega
  refine Ev.step (fun k=>by rw [Z11.l0]) ?_
  rw [List.range'_succ,List.all_cons]
  simp (disch:=omega) only [cpos,Int.toNat_natCast]
  refine Ev.bind0 (iLetter _) ?_
  cases hl:ltr (bt s i) with
  | true=>
   have:wp s i=true:=by unfold wp; rw [hl]; rfl
   rw [this]
   simp (disch:=omega) only [Bool.not_true,cond_false,Bool.true_and,wrap_in]
   exact ih
  | false=>
   have fin:(bt s i=45\/bt s i=39)->Ev (fun k=>(Z58.F (bt s (i-1))).bind fun r5=>bif (!r5) then (some (.inl false)) else (Z11.l0 k s ((i:Int)+1))) (if (wp s i && (List.range' (i+1) m).all (wp s))=true then .inr () else .inl false):=fun hh=>by
    refine Ev.bind0 (iLetter _) ?_
    rw [wcase' hl hh]
    cases ltr (bt s (i-1)) with
    | true=>exact ih
    | false=>exact Ev.pure _
   by_cases c1:bt s i=45
   ·simp (disch:=first | exact c1 | omega) only [Bool.not_false,cond_true,cpos,cbeq,wrap_in,et]
    exact fin (.inl c1)
   ·by_cases c2:bt s i=39
    ·simp (disch:=first | exact c1 | exact c2 | omega) only [Bool.not_false,cond_true,cpos,cbne,cbeq,wrap_in,et]
     exact fin (.inr c2)
    ·rw [wcase hl c1 c2]
     simp (disch:=first | exact c1 | exact c2 | omega) only [Bool.not_false,cond_true,cpos,cbne]
     exact Ev.pure _
theorem specWord_ev (s:ByteArray):Ev (fun k=>Z10.F k s) (wordB s):=by
 unfold Z10.F wordB
 refine Ev.bind0 (in_ev _ _ _) (and_step fun h=> ?_)
 obtain ⟨h1,h2⟩:=ins_le h
 have et:((s.size:Int)-1).toNat=s.size-1:=by omega
 simp (disch:=omega) only [cpos,show (0:Int).toNat=0 from rfl,wrap_in,et]
 refine Ev.bind0 (sLetter _) (and_step fun _=> ?_)
 refine Ev.bind0 (sLetter _) (and_step fun _=> ?_)
 have:=specWord_l0 s (by omega) (s.size-1) 1 (by omega) (Nat.le_refl _)
 cases ha:(List.range' 1 (s.size-1)).all (wp s) with
 | true=>rw [ha] at this; exact Ev.bind this (Ev.pure _)
 | false=>rw [ha] at this; exact Ev.bind this (Ev.pure _)
theorem isWord_ev (s:ByteArray):Ev (fun k=>Z11.F k s) (wordB s):=by
 unfold Z11.F wordB
 refine Ev.bind0 (inside_ev _ _ _) (and_step fun h=> ?_)
 obtain ⟨h1,h2⟩:=ins_le h
 have et:((s.size:Int)-1).toNat=s.size-1:=by omega
 simp (disch:=omega) only [cpos,show (0:Int).toNat=0 from rfl,wrap_in,et]
 refine (Ev.bind0 (iLetter _) (and_step (c:=ltr (bt s 0) && (List.range' 1 (s.size-1)).all (wp s)) fun _=> ?_)).eq (Bool.and_left_comm _ _ _)
 refine Ev.bind0 (iLetter _) (and_step fun h0=> ?_)
 have:=isWord_l0 s (by omega) (s.size-1) 1 (by omega) (Nat.le_refl _)
 refine Ev.bind (a:=if (List.range' 1 (s.size-1)).all (wp s)=true then .inr () else .inl false) ?_ ?_
 ·refine Ev.step (fun k=>by rw [Z11.l0]) ?_
  simp (disch:=omega) only [cpos,show (0:Int).toNat=0 from rfl]
  refine Ev.bind0 (iLetter _) ?_
  rw [h0]
  simp (disch:=omega) only [Bool.not_true,cond_false,wrap_in]
  exact this
 ·cases (List.range' 1 (s.size-1)).all (wp s) <;> exact Ev.pure _
def lowA (s:ByteArray):Bool:=(List.range' 0 s.size).all fun i=>lowc (bt s i)
theorem lowA_word {s:ByteArray} (h:lowA s=true):wordB s=ins s.size 1 12:=by
 unfold lowA at h
 rw [List.all_eq_true] at h
 have hl:∀ i,i<s.size->ltr (bt s i)=true:=fun i hi=>by
  unfold ltr
  rw [h i (by rw [List.mem_range'_1]; omega),Bool.or_true]
 unfold wordB
 cases hi:ins s.size 1 12 with
 | false=>rfl
 | true=>
  obtain ⟨h1,h2⟩:=ins_le hi
  rw [hl 0 (by omega),hl (s.size-1) (by omega)]
  have:(List.range' 1 (s.size-1)).all (wp s)=true:=by
   rw [List.all_eq_true]
   intro i hi
   rw [List.mem_range'_1] at hi
   unfold wp
   rw [hl i (by omega)]; rfl
  rw [this]; rfl
def pw (s:ByteArray):Bool:=ins s.size 1 12 && lowA s
theorem pw_eq (s:ByteArray):(wordB s && lowA s)=pw s:=by
 unfold pw
 cases h:lowA s with
 | false=>rw [Bool.and_false,Bool.and_false]
 | true=>rw [lowA_word h]
def particleB (s:ByteArray):Bool:=decide (s.size=0) || ((words s).all pw && decide ((words s).length<=2))
theorem empty_eq (s:ByteArray):beqS s ⟨#[]⟩=decide (s.size=0):=by
 rw [<- Bool.not_not (b:=beqS s ⟨#[]⟩),size_pos]
 by_cases hz:s.size=0
 ·simp [hz]
 ·rw [decide_eq_true (by omega:0<s.size),decide_eq_false hz]; rfl
theorem specPart_l2 (W:List ByteArray) (i:Nat) (hi:i<W.length) (hs:W[i].size<=1048576):Ev (fun k=>Z4.l2 k W i ((0:Nat):Int)) (if lowA W[i]=true then .inr (W,(i:Int)) else .inl false):=by
 refine loop_all (f:=fun k j=>Z4.l2 k W i j) (n:=W[i].size) (p:=fun j=>lowc (bt W[i] j)) (fun j hj hp=> ?_) (fun j r hj hp ih=> ?_) ?_ W[i].size 0 (by omega)
 ·refine Ev.step (fun k=>by rw [Z4.l2]) ?_
  simp (disch:=omega) only [cpos,Int.toNat_natCast,getD_at hi]
  refine Ev.bind0 (sLower _) ?_
  rw [hp]
  exact Ev.pure _
 ·refine Ev.step (fun k=>by rw [Z4.l2]) ?_
  simp (disch:=omega) only [cpos,Int.toNat_natCast,getD_at hi]
  refine Ev.bind0 (sLower _) ?_
  rw [hp]
  simp (disch:=omega) only [Bool.not_true,cond_false,wrap_in]
  exact ih
 ·refine Ev.step (fun k=>by rw [Z4.l2]) ?_
  simp (disch:=omega) only [cpos,cneg,Int.toNat_natCast,getD_at hi]
  exact Ev.pure _
theorem isPart_l2 (W:List ByteArray) (w:ByteArray) (n i:Int) (hs:w.size<=1048576):Ev (fun k=>Z5.l2 k W w ((0:Nat):Int) n i) (if lowA w=true then .inr (W,n,i) else .inl false):=by
 refine loop_all (f:=fun k j=>Z5.l2 k W w j n i) (n:=w.size) (p:=fun j=>lowc (bt w j)) (fun j hj hp=> ?_) (fun j r hj hp ih=> ?_) ?_ w.size 0 (by omega)
 ·refine Ev.step (fun k=>by rw [Z5.l2]) ?_
  simp (disch:=omega) only [cpos,Int.toNat_natCast]
  refine Ev.bind0 (iLower _) ?_
  rw [hp]
  exact Ev.pure _
 ·refine Ev.step (fun k=>by rw [Z5.l2]) ?_
  simp (disch:=omega) only [cpos,Int.toNat_natCast]
  refine Ev.bind0 (iLower _) ?_
  rw [hp]
  simp (disch:=omega) only [Bool.not_true,cond_false,wrap_in]
  exact ih
 ·refine Ev.step (fun k=>by rw [Z5.l2]) ?_
  simp (disch:=omega) only [cneg]
  exact Ev.pure _
theorem specPart_l0 (W:List ByteArray) (hl:W.length<=1048577) (hW:∀ x ∈ W,x.size<=1048576):Ev (fun k=>Z4.l0 k W ((0:Nat):Int)) (if (List.range' 0 W.length).all (fun i=>pw (W.getD i ⟨#[]⟩))=true then .inr W else .inl false):=by
 refine loop_all (f:=fun k j=>Z4.l0 k W j) (n:=W.length) (p:=fun i=>pw (W.getD i ⟨#[]⟩)) (fun j hj hp=> ?_) (fun j r hj hp ih=> ?_) ?_ W.length 0 (by omega)
 ·rw [getD_at hj,<- pw_eq] at hp
  refine Ev.step (fun k=>by rw [Z4.l0]) ?_
  simp (disch:=omega) only [cpos,Int.toNat_natCast,getD_at hj]
  refine Ev.bind (specWord_ev _) ?_
  cases hw:wordB W[j] with
  | false=>exact Ev.pure _
  | true=>
   rw [hw,Bool.true_and] at hp
   have:=specPart_l2 W j hj (hW _ (List.getElem_mem hj))
   rw [hp] at this
   exact Ev.bind this (Ev.pure _)
 ·rw [getD_at hj,<- pw_eq,Bool.and_eq_true] at hp
  refine Ev.step (fun k=>by rw [Z4.l0]) ?_
  simp (disch:=omega) only [cpos,Int.toNat_natCast,getD_at hj]
  refine Ev.bind (specWord_ev _) ?_
  rw [hp.1]
  have:=specPart_l2 W j hj (hW _ (List.getElem_mem hj))
  rw [hp.2] at this
  refine Ev.bind (a:=.inr (W,(j:Int))) this ?_
  simp (disch:=omega) only [wrap_in]
  exact ih
 ·refine Ev.step (fun k=>by rw [Z4.l0]) ?_
  simp (disch:=omega) only [cneg]
  exact Ev.pure _
theorem isPart_l0 (W:List ByteArray) (hl:W.length<=1048577) (hW:∀ x ∈ W,x.size<=1048576):Ev (fun k=>Z5.l0 k W W.length ((0:Nat):Int)) (if (List.range' 0 W.length).all (fun i=>pw (W.getD i ⟨#[]⟩))=true then .inr W else .inl false):=by
 refine loop_all (f:=fun k j=>Z5.l0 k W W.length j) (n:=W.length) (p:=fun i=>pw (W.getD i ⟨#[]⟩)) (fun j hj hp=> ?_) (fun j r hj hp ih=> ?_) ?_ W.length 0 (by omega)
 ·rw [getD_at hj] at hp
  unfold pw at hp
  refine Ev.step (fun k=>by rw [Z5.l0]) ?_
  simp (disch:=omega) only [cpos,Int.toNat_natCast,getD_at hj]
  refine Ev.bind0 (inside_ev _ _ _) ?_
  cases hw:ins W[j].size 1 12 with
  | false=>
   unfold ins at hw
   rw [hw]
   exact Ev.pure _
  | true=>
   rw [hw,Bool.true_and] at hp
   unfold ins at hw
   rw [hw]
   have:=isPart_l2 W W[j] W.length j (hW _ (List.getElem_mem hj))
   rw [hp] at this
   exact Ev.bind this (Ev.pure _)
 ·rw [getD_at hj] at hp
  unfold pw at hp
  rw [Bool.and_eq_true] at hp
  obtain ⟨hp1,hp2⟩:=hp
  unfold ins at hp1
  refine Ev.step (fun k=>by rw [Z5.l0]) ?_
  simp (disch:=omega) only [cpos,Int.toNat_natCast,getD_at hj]
  refine Ev.bind0 (inside_ev _ _ _) ?_
  rw [hp1]
  have:=isPart_l2 W W[j] W.length j (hW _ (List.getElem_mem hj))
  rw [hp2] at this
  refine Ev.bind (a:=.inr (W,(W.length:Int),(j:Int))) this ?_
  simp (disch:=omega) only [wrap_in]
  exact ih
 ·refine Ev.step (fun k=>by rw [Z5.l0]) ?_
  simp (disch:=omega) only [cneg]
  exact Ev.pure _
theorem specPart_ev (s:ByteArray) (hs:s.size<=1048576):Ev (fun k=>Z4.F k s) (particleB s):=by
 unfold Z4.F particleB
 rw [empty_eq]
 cases decide (s.size=0) with
 | true=>exact Ev.pure _
 | false=>
  refine Ev.bind (specSplit_ev s hs) ?_
  have:=specPart_l0 (words s) (by have:=(words_len s).2; omega) (fun x hx=>by have:=words_small _ _ x hx; omega)
  rw [range_all (words s) ⟨#[]⟩ pw] at this
  rw [Bool.false_or]
  cases ha:(words s).all pw with
  | true=>
   rw [ha] at this
   refine Ev.bind this ((Ev.pure _).eq ?_)
   rw [Bool.true_and]; exact decide_eq_decide.2 (by omega)
  | false=>rw [ha] at this; exact Ev.bind this (Ev.pure _)
theorem isPart_ev (s:ByteArray) (hs:s.size<=1048576):Ev (fun k=>Z5.F k s) (particleB s):=by
 unfold Z5.F particleB
 rw [empty_eq]
 cases decide (s.size=0) with
 | true=>exact Ev.pure _
 | false=>
  refine Ev.bind0 (split_ev s hs) ?_
  have:=isPart_l0 (words s) (by have:=(words_len s).2; omega) (fun x hx=>by have:=words_small _ _ x hx; omega)
  rw [range_all (words s) ⟨#[]⟩ pw] at this
  rw [Bool.false_or]
  cases ha:(words s).all pw with
  | true=>
   rw [ha] at this
   refine Ev.bind this ((Ev.pure _).eq ?_)
   rw [Bool.true_and]; exact decide_eq_decide.2 (by omega)
  | false=>rw [ha] at this; exact Ev.bind this (Ev.pure _)
def gw (s:ByteArray):Bool:=wordB s && upc (bt s 0)
theorem word_size {s:ByteArray} (h:wordB s=true):1<=s.size:=by
 unfold wordB at h
 rw [Bool.and_eq_true] at h
 have:=(ins_le h.1).1
 omega
theorem isGreat_ev (s:ByteArray):Ev (fun k=>Z62.F k s) (gw s):=by
 unfold Z62.F gw
 refine Ev.bind (isWord_ev s) (and_step' fun h=> ?_)
 have:=word_size h
 simp (disch:=omega) only [cpos,show (0:Int).toNat=0 from rfl]
 exact Ev.bind0 (iUpper _) (Ev.pure _)
def suffB (s:ByteArray):Bool:=decide (s.size=0) || wordB s
def nameB (n:Name):Bool:=n.given.all gw && (decide (n.given.length<=3) && (particleB n.particle && (gw n.family && suffB n.suffix)))
theorem specGood_l0 (n:Name) (hn:n.given.length<=1048576):Ev (fun k=>Z22.l0 k n ((0:Nat):Int)) (if (List.range' 0 n.given.length).all (fun i=>gw (n.given.getD i ⟨#[]⟩))=true then .inr n else .inl false):=by
 refine loop_all (f:=fun k j=>Z22.l0 k n j) (n:=n.given.length) (p:=fun i=>gw (n.given.getD i ⟨#[]⟩)) (fun j hj hp=> ?_) (fun j r hj hp ih=> ?_) ?_ n.given.length 0 (by omega)
 ·rw [getD_at hj] at hp
  unfold gw at hp
  refine Ev.step (fun k=>by rw [Z22.l0]) ?_
  simp (disch:=omega) only [cpos,Int.toNat_natCast,getD_at hj]
  refine Ev.bind (specWord_ev _) ?_
  cases hw:wordB n.given[j] with
  | false=>exact Ev.pure _
  | true=>
   rw [hw,Bool.true_and] at hp
   have:=word_size hw
   simp (disch:=omega) only [cpos,show (0:Int).toNat=0 from rfl,Bool.not_true,cond_false]
   refine Ev.bind0 (sUpper _) ?_
   rw [hp]
   exact Ev.pure _
 ·rw [getD_at hj] at hp
  unfold gw at hp
  rw [Bool.and_eq_true] at hp
  have:=word_size hp.1
  refine Ev.step (fun k=>by rw [Z22.l0]) ?_
  simp (disch:=omega) only [cpos,Int.toNat_natCast,getD_at hj]
  refine Ev.bind (specWord_ev _) ?_
  rw [hp.1]
  simp (disch:=omega) only [cpos,show (0:Int).toNat=0 from rfl,Bool.not_true,cond_false]
  refine Ev.bind0 (sUpper _) ?_
  rw [hp.2]
  simp (disch:=omega) only [Bool.not_true,cond_false,wrap_in]
  exact ih
 ·refine Ev.step (fun k=>by rw [Z22.l0]) ?_
  simp (disch:=omega) only [cneg]
  exact Ev.pure _
theorem specName_ev (n:Name) (hs:smallN n):Ev (fun k=>Z22.F k n) (nameB n):=by
 have hg:n.given.length<=1048576:=by unfold smallN totN at hs; omega
 have hp:n.particle.size<=1048576:=by unfold smallN totN at hs; omega
 unfold Z22.F nameB
 have:=specGood_l0 n hg
 rw [range_all n.given ⟨#[]⟩ gw] at this
 cases ha:n.given.all gw with
 | false=>rw [ha] at this; exact Ev.bind this (Ev.pure _)
 | true=>
  rw [ha] at this
  refine Ev.bind (a:=.inr n) this ?_
  dsimp only
  rw [Bool.true_and,show decide (n.given.length<=3)=decide ((n.given.length:Int)<=3) from decide_eq_decide.2 (by omega)]
  refine and_step' fun _=> ?_
  refine Ev.bind (specPart_ev _ hp) (and_step' fun _=> ?_)
  unfold gw
  rw [Bool.and_assoc]
  refine Ev.bind (specWord_ev _) (and_step' fun h=> ?_)
  have:=word_size h
  simp (disch:=omega) only [cpos,show (0:Int).toNat=0 from rfl]
  refine Ev.bind0 (sUpper _) (and_step' fun _=> ?_)
  unfold suffB
  rw [empty_eq]
  cases decide (n.suffix.size=0) with
  | true=>exact Ev.pure _
  | false=>exact Ev.bind (specWord_ev _) (Ev.pure _)
theorem isName_ev (n:Name) (hs:smallN n):Ev (fun k=>Z92.F k n) (nameB n):=by
 have hg:n.given.length<=1048576:=by unfold smallN totN at hs; omega
 have hp:n.particle.size<=1048576:=by unfold smallN totN at hs; omega
 unfold Z92.F nameB
 by_cases c:n.given.length<=3
 ·simp (disch:=omega) only [cneg,dpos,Bool.true_and]
  have hq:∀ x,x ∈ n.given->Ev (fun k=>Z73.F k x) (!gw x):=fun x _=>by
   unfold Z73.F
   exact Ev.bind (isGreat_ev x) (Ev.pure _)
  obtain ⟨r,h1,h2⟩:=idx_ev (d:=(⟨#[]⟩:ByteArray)) (p:=fun x=> !gw x) (q:=Z73.F) (xs:=n.given) (l0:=Z40.l0) (fun k x0 x7 x8=>by rw [Z40.l0]) hq (by omega) (F:=Z40.F) (fun k a0=>rfl)
  refine Ev.bind (a:=!n.given.all gw) ?_ ?_
  ·unfold Z103.F
   refine Ev.bind h1 ((Ev.pure _).eq ?_)
   rcases h2 with ⟨rfl,h2⟩ | ⟨j,rfl,hj,hp,_⟩
   ·have:n.given.all gw=true:=List.all_eq_true.2 fun x hx=>by have:=h2 x hx; simpa using this
    rw [this]; rfl
   ·have:n.given.all gw=false:=by
     rw [List.all_eq_false]
     refine ⟨n.given[j],List.getElem_mem hj,?_⟩
     rw [getD_at hj] at hp
     simpa using hp
    rw [this,decide_eq_true (by omega)]; rfl
  ·cases n.given.all gw with
   | false=>exact Ev.pure _
   | true=>
    rw [Bool.true_and]
    refine Ev.bind (isPart_ev _ hp) (and_step' fun _=> ?_)
    refine Ev.bind (isGreat_ev _) (and_step' fun _=> ?_)
    unfold suffB
    rw [empty_eq]
    cases decide (n.suffix.size=0) with
    | true=>exact Ev.pure _
    | false=>exact Ev.bind (isWord_ev _) (Ev.pure _)
 ·simp (disch:=omega) only [cpos,dneg,Bool.false_and,Bool.and_false]
  exact Ev.pure _
def namesB (l:List Name):Bool:=l.all nameB && decide (l.length<=4)
theorem specList_l0 (l:List Name) (hl:l.length<=1048576) (hs:∀ n ∈ l,smallN n):∀ m i:Nat,i+m=l.length->∃ r,Ev (fun k=>Z17.l0 k l i) r/\(r = .inl false\/r = .inr l)/\(l.length<=4->r=if (l.drop i).all nameB=true then .inr l else .inl false)
 | 0,i,h=>by
  refine ⟨.inr l,Ev.step (fun k=>by rw [Z17.l0]) ?_,.inr rfl,fun _=>by rw [List.drop_eq_nil_of_le (by omega)]; rfl⟩
  simp (disch:=omega) only [cneg]
  exact Ev.pure _
 | m+1,i,h=>by
  have hi:i<l.length:=by omega
  by_cases c4:(i:Int)<=4
  ·cases hn:nameB l[i] with
   | false=>
    refine ⟨.inl false,Ev.step (fun k=>by rw [Z17.l0]) ?_,.inl rfl,fun _=>by rw [List.drop_eq_getElem_cons hi,List.all_cons,hn]; rfl⟩
    simp (disch:=omega) only [cpos,Int.toNat_natCast,getD_at hi]
    refine Ev.bind (specName_ev _ (hs _ (List.getElem_mem hi))) ?_
    rw [hn]
    exact Ev.pure _
   | true=>
    obtain ⟨r,h1,h2,h3⟩:=specList_l0 l hl hs m (i+1) (by omega)
    refine ⟨r,Ev.step (fun k=>by rw [Z17.l0]) ?_,h2,fun h4=>by rw [h3 h4,List.drop_eq_getElem_cons hi,List.all_cons,hn,Bool.true_and]⟩
    simp (disch:=omega) only [cpos,Int.toNat_natCast,getD_at hi]
    refine Ev.bind (specName_ev _ (hs _ (List.getElem_mem hi))) ?_
    rw [hn]
    simp (disch:=omega) only [Bool.not_true,cond_false,wrap_in]
    exact h1
  ·refine ⟨.inr l,Ev.step (fun k=>by rw [Z17.l0]) ?_,.inr rfl,fun h4=>by omega⟩
   simp (disch:=omega) only [cpos,cneg]
   exact Ev.pure _
theorem specNames_ev (l:List Name) (hl:totNs l<=1048576):Ev (fun k=>Z17.F k l) (namesB l):=by
 unfold Z17.F namesB
 obtain ⟨r,h1,h2,h3⟩:=specList_l0 l (smallNs_len hl) (fun n hn=>smallNs_at hl hn) l.length 0 (by omega)
 rw [List.drop_zero] at h3
 have e:decide (l.length<=4)=decide ((l.length:Int)<=4):=decide_eq_decide.2 (by omega)
 rw [e]
 by_cases c:l.length<=4
 ·rw [h3 c] at h1
  cases ha:l.all nameB with
  | true=>rw [ha] at h1; exact Ev.bind h1 (Ev.pure _)
  | false=>rw [ha] at h1; exact Ev.bind h1 (Ev.pure _)
 ·rw [decide_eq_false (show ¬ (l.length:Int)<=4 by omega),Bool.and_false]
  rcases h2 with rfl | rfl
  ·exact Ev.bind h1 (Ev.pure _)
  ·exact Ev.bind h1 ((Ev.pure _).eq (decide_eq_false (by omega)))
theorem areNames_ev (l:List Name) (hl:totNs l<=1048576):Ev (fun k=>Z75.F k l) (namesB l):=by
 have hlen:=smallNs_len hl
 unfold Z75.F namesB
 by_cases c:l.length<=4
 ·simp (disch:=omega) only [cpos,dpos,Bool.and_true]
  have hq:∀ x,x ∈ l->Ev (fun k=>Z74.F k x) (!nameB x):=fun x hx=>by
   unfold Z74.F
   exact Ev.bind (isName_ev x (smallNs_at hl hx)) (Ev.pure _)
  obtain ⟨r,h1,h2⟩:=idx_ev (d:=(dflt .name:Name)) (p:=fun x=> !nameB x) (q:=Z74.F) (xs:=l) (l0:=Z41.l0) (fun k x0 x7 x8=>by rw [Z41.l0]) hq (by omega) (F:=Z41.F) (fun k a0=>rfl)
  refine Ev.bind (a:=!l.all nameB) ?_ ?_
  ·unfold Z104.F
   refine Ev.bind h1 ((Ev.pure _).eq ?_)
   rcases h2 with ⟨rfl,h2⟩ | ⟨j,rfl,hj,hp,_⟩
   ·have:l.all nameB=true:=List.all_eq_true.2 fun x hx=>by have:=h2 x hx; simpa using this
    rw [this]; rfl
   ·have:l.all nameB=false:=by
     rw [List.all_eq_false]
     refine ⟨l[j],List.getElem_mem hj,?_⟩
     rw [getD_at hj] at hp
     simpa using hp
    rw [this,decide_eq_true (by omega)]; rfl
  ·rw [Bool.not_not]; exact Ev.pure _
 ·simp (disch:=omega) only [cneg,dneg,Bool.and_false]
  exact Ev.pure _
theorem days_eq (y m:Int) (hy:0<=y):∃ r,Z83.F y m=some r/\Z76.F y m=some r:=by
 have e1:Int.tmod y 4=y % 4:=Int.tmod_eq_emod_of_nonneg hy
 have e2:Int.tmod y 100=y % 100:=Int.tmod_eq_emod_of_nonneg hy
 have e3:Int.tmod y 400=y % 400:=Int.tmod_eq_emod_of_nonneg hy
 have z1:((4:Nat)==0)=false:=rfl
 have z2:((100:Nat)==0)=false:=rfl
 have z3:((400:Nat)==0)=false:=rfl
 unfold Z83.F Z76.F
 rw [e1,e2,e3]
 by_cases c2:m=2
 ·by_cases d1:y % 4=0
  ·by_cases d2:y % 100=0
   ·by_cases d3:y % 400=0
    ·exact ⟨29,by simp (disch:=first | assumption | omega) only [ceq,cbeq,z1,z2,z3,cond_false],by simp (disch:=first | assumption | omega) only [ceq,cbeq,z1,z2,z3,cond_false]⟩
    ·exact ⟨28,by simp (disch:=first | assumption | omega) only [ceq,cne,cbeq,z1,z2,z3,cond_false],by simp (disch:=first | assumption | omega) only [ceq,cne,cbeq,z1,z2,z3,cond_false]⟩
   ·exact ⟨29,by simp (disch:=first | assumption | omega) only [ceq,cbne,z1,z2,z3,cond_false],by simp (disch:=first | assumption | omega) only [ceq,cbne,z1,z2,z3,cond_false]⟩
  ·have d3:y % 400 ≠ 0:=by omega
   exact ⟨28,by simp (disch:=first | assumption | omega) only [ceq,cne,z1,z2,z3,cond_false],by simp (disch:=first | assumption | omega) only [ceq,cne,z1,z2,z3,cond_false]⟩
 ·by_cases a:m=4
  ·exact ⟨30,by simp (disch:=first | assumption | omega) only [ceq,cne],by simp (disch:=first | assumption | omega) only [ceq,cne]⟩
  ·by_cases b:m=6
   ·exact ⟨30,by simp (disch:=first | assumption | omega) only [ceq,cne],by simp (disch:=first | assumption | omega) only [ceq,cne]⟩
   ·by_cases c:m=9
    ·exact ⟨30,by simp (disch:=first | assumption | omega) only [ceq,cne],by simp (disch:=first | assumption | omega) only [ceq,cne]⟩
    ·by_cases d:m=11
     ·exact ⟨30,by simp (disch:=first | assumption | omega) only [ceq,cne],by simp (disch:=first | assumption | omega) only [ceq,cne]⟩
     ·exact ⟨31,by simp (disch:=first | assumption | omega) only [cne],by simp (disch:=first | assumption | omega) only [cne]⟩
theorem date_eq2 (d:Date):∃ b,Z71.F d=some b/\Z77.F d=some b:=by
 unfold Z71.F Z77.F
 cases (d.y==0 && (d.m==0 && (d.d==0 && d.c==false))) with
 | true=>exact ⟨true,rfl,rfl⟩
 | false=>
  rw [in_ev,inside_ev]
  simp only [Option.bind_some,cond_false]
  cases h1:(decide (d.y ≥ 1) && decide (d.y<=2999)) with
  | false=>exact ⟨false,rfl,rfl⟩
  | true=>
   have hy:0<=d.y:=by
    simp only [Bool.and_eq_true,decide_eq_true_eq] at h1; omega
   rw [in_ev,inside_ev]
   simp only [Option.bind_some,Bool.not_true,cond_false]
   cases h2:(decide (d.m ≥ 0) && decide (d.m<=12)) with
   | false=>exact ⟨false,rfl,rfl⟩
   | true=>
    obtain ⟨r,r1,r2⟩:=days_eq d.y d.m hy
    rw [r1,r2]
    simp only [Option.bind_some,Bool.not_true,cond_false,in_ev,inside_ev]
    cases d.c with
    | true=>
     by_cases c:d.m=0
     ·exact ⟨d.d==0,by simp (disch:=first | assumption | omega) only [cond_true,ceq],by simp (disch:=first | assumption | omega) only [cond_true,ceq,cbeq]⟩
     ·exact ⟨false,by simp (disch:=first | assumption | omega) only [cond_true,cne],by simp (disch:=first | assumption | omega) only [cond_true,cbne]⟩
    | false=>exact ⟨bif d.m==0 then (d.d==0) else (decide (d.d ≥ 0) && decide (d.d<=r)),by cases (d.m==0) <;> rfl,by cases (d.m==0) <;> rfl⟩
open Classical in
noncomputable def dateB (d:Date):Bool:=(date_eq2 d).choose
theorem specDate_ev (d:Date):Z71.F d=some (dateB d):=(date_eq2 d).choose_spec.1
theorem isDate_ev (d:Date):Z77.F d=some (dateB d):=(date_eq2 d).choose_spec.2
def insI (n lo hi:Int):Bool:=decide (n ≥ lo) && decide (n<=hi)
def crossB (e:Entry):Bool:=decide (e.cross.size=0) || (keyB e.cross && !beqS e.cross e.key)
noncomputable def entryB (e:Entry):Bool:=keyB e.key && (insI e.kind 1 4 && (namesB e.authors && (namesB e.editors && (textB e.title && (textB e.container && (textB e.publisher && (textB e.pages && (dateB e.date && (insI e.volume 0 9999 && crossB e)))))))))
theorem specEntry_ev (e:Entry) (hs:smallE e):Ev (fun k=>Z84.F k e) (entryB e):=by
 unfold Z84.F entryB
 refine Ev.bind (specKey_ev _) (and_step fun _=> ?_)
 refine Ev.bind0 (in_ev _ _ _) (and_step fun _=> ?_)
 refine Ev.bind (specNames_ev _ (smallE_a hs)) (and_step fun _=> ?_)
 refine Ev.bind (specNames_ev _ (smallE_e hs)) (and_step fun _=> ?_)
 refine Ev.bind (specText_ev _) (and_step fun _=> ?_)
 refine Ev.bind (specText_ev _) (and_step fun _=> ?_)
 refine Ev.bind (specText_ev _) (and_step fun _=> ?_)
 refine Ev.bind (specText_ev _) (and_step fun _=> ?_)
 refine Ev.bind0 (specDate_ev _) (and_step' fun _=> ?_)
 refine Ev.bind0 (in_ev _ _ _) (and_step' fun _=> ?_)
 unfold crossB
 rw [empty_eq]
 cases decide (e.cross.size=0) with
 | true=>exact Ev.pure _
 | false=>
  refine (Ev.bind (specKey_ev _) (and_step' fun _=> ?_)).eq (Bool.false_or _).symm
  exact Ev.pure _
theorem isEntry_ev (e:Entry) (hs:smallE e):Ev (fun k=>Z78.F k e) (entryB e):=by
 have key:Ev (fun k=>Z78.F k e) (keyB e.key && (insI e.kind 1 4 && (namesB e.authors && (namesB e.editors && (dateB e.date && (insI e.volume 0 9999 && (textB e.title && (textB e.container && (textB e.publisher && (textB e.pages && crossB e)))))))))):=by
  unfold Z78.F
  refine Ev.bind (isKey_ev _) (and_step fun _=> ?_)
  refine Ev.bind0 (a:=insI e.kind 1 4) ?_ (and_step fun _=> ?_)
  ·unfold Z102.F; rw [inside_ev]; rfl
  refine Ev.bind (areNames_ev _ (smallE_a hs)) (and_step fun _=> ?_)
  refine Ev.bind (areNames_ev _ (smallE_e hs)) (and_step fun _=> ?_)
  refine Ev.bind0 (isDate_ev _) (and_step fun _=> ?_)
  refine Ev.bind0 (inside_ev _ _ _) (and_step fun _=> ?_)
  refine Ev.bind (isText_ev _) (and_step' fun _=> ?_)
  refine Ev.bind (isText_ev _) (and_step' fun _=> ?_)
  refine Ev.bind (isText_ev _) (and_step' fun _=> ?_)
  refine Ev.bind (isText_ev _) (and_step' fun _=> ?_)
  unfold crossB
  rw [empty_eq]
  cases decide (e.cross.size=0) with
  | true=>exact Ev.pure _
  | false=>
   refine (Ev.bind (isKey_ev _) (and_step' fun _=> ?_)).eq (Bool.false_or _).symm
   exact Ev.pure _
 refine key.eq ?_
 unfold entryB
 ac_rfl
noncomputable def okL (l:Library) (i:Nat):Bool:=entryB (l.entries.getD i (dflt .entry)) && (decide (i=0) || ltS (l.entries.getD (i-1) (dflt .entry)).key (l.entries.getD i (dflt .entry)).key)
noncomputable def libB (l:Library):Bool:=(List.range' 0 l.entries.length).all (okL l) && decide (l.entries.length<=8)
theorem specGoodL_l0 (l:Library) (hs:smallL l):Ev (fun k=>Z19.l0 k l ((0:Nat):Int)) (if (List.range' 0 l.entries.length).all (okL l)=true then .inr () else .inl false):=by
 have hlen:=smallL_len hs
 refine loop_all (f:=fun k i=>Z19.l0 k l i) (n:=l.entries.length) (fun i hi hp=> ?_) (fun i r hi hp ih=> ?_) ?_ l.entries.length 0 (by omega)
 ·unfold okL at hp
  refine Ev.step (fun k=>by rw [Z19.l0]) ?_
  have hsm:smallE (l.entries.getD i (dflt .entry)):=by rw [getD_at hi]; exact smallL_at hs (List.getElem_mem hi)
  simp (disch:=omega) only [cpos,Int.toNat_natCast]
  refine Ev.bind (specEntry_ev _ hsm) ?_
  cases he:entryB (l.entries.getD i (dflt .entry)) with
  | false=>exact Ev.pure _
  | true=>
   rw [he,Bool.true_and,Bool.or_eq_false_iff,decide_eq_false_iff_not] at hp
   have et:((i:Int)-1).toNat=i-1:=by omega
   simp (disch:=omega) only [Bool.not_true,cond_false,cpos,wrap_in,et,hp.2,Bool.not_false,cond_true]
   exact Ev.pure _
 ·unfold okL at hp
  rw [Bool.and_eq_true] at hp
  refine Ev.step (fun k=>by rw [Z19.l0]) ?_
  have hsm:smallE (l.entries.getD i (dflt .entry)):=by rw [getD_at hi]; exact smallL_at hs (List.getElem_mem hi)
  simp (disch:=omega) only [cpos,Int.toNat_natCast]
  refine Ev.bind (specEntry_ev _ hsm) ?_
  rw [hp.1]
  by_cases c:i=0
  ·simp (disch:=omega) only [Bool.not_true,cond_false,cneg,wrap_in]
   exact ih
  ·have et:((i:Int)-1).toNat=i-1:=by omega
   have h2:=hp.2
   rw [decide_eq_false c,Bool.false_or] at h2
   simp (disch:=omega) only [Bool.not_true,cond_false,cpos,wrap_in,et,h2]
   exact ih
 ·refine Ev.step (fun k=>by rw [Z19.l0]) ?_
  simp (disch:=omega) only [cneg]
  exact Ev.pure _
theorem isLib_l0 (l:Library) (hs:smallL l):Ev (fun k=>Z14.l0 k l l.entries l.entries.length ((0:Nat):Int)) (if (List.range' 0 l.entries.length).all (okL l)=true then .inr l else .inl false):=by
 have hlen:=smallL_len hs
 refine loop_all (f:=fun k i=>Z14.l0 k l l.entries l.entries.length i) (n:=l.entries.length) (fun i hi hp=> ?_) (fun i r hi hp ih=> ?_) ?_ l.entries.length 0 (by omega)
 ·unfold okL at hp
  refine Ev.step (fun k=>by rw [Z14.l0]) ?_
  have hsm:smallE (l.entries.getD i (dflt .entry)):=by rw [getD_at hi]; exact smallL_at hs (List.getElem_mem hi)
  simp (disch:=omega) only [cpos,Int.toNat_natCast]
  refine Ev.bind (isEntry_ev _ hsm) ?_
  cases he:entryB (l.entries.getD i (dflt .entry)) with
  | false=>exact Ev.pure _
  | true=>
   rw [he,Bool.true_and,Bool.or_eq_false_iff,decide_eq_false_iff_not] at hp
   have et:((i:Int)-1).toNat=i-1:=by omega
   simp (disch:=omega) only [Bool.not_true,cond_false,cpos,wrap_in,et,hp.2,Bool.not_false,cond_true]
   exact Ev.pure _
 ·unfold okL at hp
  rw [Bool.and_eq_true] at hp
  refine Ev.step (fun k=>by rw [Z14.l0]) ?_
  have hsm:smallE (l.entries.getD i (dflt .entry)):=by rw [getD_at hi]; exact smallL_at hs (List.getElem_mem hi)
  simp (disch:=omega) only [cpos,Int.toNat_natCast]
  refine Ev.bind (isEntry_ev _ hsm) ?_
  rw [hp.1]
  by_cases c:i=0
  ·simp (disch:=omega) only [Bool.not_true,cond_false,cneg,wrap_in]
   exact ih
  ·have et:((i:Int)-1).toNat=i-1:=by omega
   have h2:=hp.2
   rw [decide_eq_false c,Bool.false_or] at h2
   simp (disch:=omega) only [Bool.not_true,cond_false,cpos,wrap_in,et,h2]
   exact ih
 ·refine Ev.step (fun k=>by rw [Z14.l0]) ?_
  simp (disch:=omega) only [cneg]
  exact Ev.pure _
theorem specLib_ev (l:Library) (hs:smallL l):Ev (fun k=>Z19.F k l) (libB l):=by
 unfold Z19.F libB
 by_cases c:l.entries.length<=8
 ·simp (disch:=omega) only [cneg,dpos,Bool.and_true]
  have:=specGoodL_l0 l hs
  cases ha:(List.range' 0 l.entries.length).all (okL l) with
  | true=>rw [ha] at this; exact Ev.bind this (Ev.pure _)
  | false=>rw [ha] at this; exact Ev.bind this (Ev.pure _)
 ·simp (disch:=omega) only [cpos,dneg,Bool.and_false]
  exact Ev.pure _
theorem isLib_ev (l:Library) (hs:smallL l):Ev (fun k=>Z14.F k l) (libB l):=by
 unfold Z14.F libB
 have:=isLib_l0 l hs
 cases ha:(List.range' 0 l.entries.length).all (okL l) with
 | true=>
  rw [ha] at this
  refine Ev.bind this ((Ev.pure _).eq ?_)
  rw [Bool.true_and]; exact decide_eq_decide.2 (by omega)
 | false=>rw [ha] at this; exact Ev.bind this (Ev.pure _)
theorem libB_len {l:Library} (h:libB l=true):l.entries.length<=8:=by
 unfold libB at h
 rw [Bool.and_eq_true,decide_eq_true_eq] at h
 exact h.2
end Go.Proofs.YtoojiikgbopeiaaGreatDoor
end
section
/- Plain laws: lower case. -/
namespace Go.Proofs.YtoojiikgbopeiaaGreatDoor
open Go.Gx
theorem L_strL (ys:List Int):L (strL ys)=ys.map fun n=>UInt8.ofNat n.toNat:=L_mk _
theorem strL_size (ys:List Int):(strL ys).size=ys.length:=by
 rw [<- L_size,L_strL,List.length_map]
def ltrI (b:Int):Bool:=(decide (65<=b) && decide (b<=90)) || (decide (97<=b) && decide (b<=122))
theorem specLetter_ev (b:Int):Z85.F b=some (ltrI b):=by
 unfold Z85.F ltrI
 simp only [ge_iff_le]
 cases decide (65<=b) <;> cases decide (b<=90) <;> cases decide (97<=b) <;> cases decide (b<=122) <;> rfl
theorem isUpper_ev (b:Int):Z53.F b=some (decide (65<=b) && decide (b<=90)):=by
 unfold Z53.F
 simp only [ge_iff_le]
 cases decide (65<=b) <;> rfl
def lowI (b:Int):Int:=bif decide (65<=b) && decide (b<=90) then b+32 else b
theorem specLowerByte_ev (b:Int):Z66.F b=some (lowI b):=by
 unfold Z66.F lowI
 simp only [ge_iff_le]
 by_cases h1:65<=b
 ·by_cases h2:b<=90
  ·have:IntKind.wrap .u8 (b+32)=b+32:=by rw [IntKind.wrap_u8]; omega
   simp only [dpos h1,dpos h2,cond_true,Bool.and_self,this]
  ·simp only [dpos h1,dneg h2,cond_true,cond_false,Bool.and_false]
 ·simp only [dneg h1,cond_false,Bool.false_and]
def mix (s:ByteArray) (i:Nat):List Int:=((bytesL s).take i).map lowI++(bytesL s).drop i
theorem mix_len (s:ByteArray) (i:Nat):(mix s i).length=(bytesL s).length:=by
 unfold mix; simp; omega
theorem mix_at (s:ByteArray) (i:Nat) (h:i<(bytesL s).length):(mix s i).getD i 0=(bytesL s)[i]:=by
 unfold mix
 rw [List.getD_eq_getElem?_getD,List.getElem?_append_right (by simp; omega)]
 simp [Nat.min_eq_left (Nat.le_of_lt h),h]
theorem mix_set (s:ByteArray) (i:Nat) (h:i<(bytesL s).length):(mix s i).set i (lowI (bytesL s)[i])=mix s (i+1):=by
 unfold mix
 rw [List.set_append_right _ _ (by simp; omega)]
 simp only [List.length_map,List.length_take,Nat.min_eq_left (Nat.le_of_lt h),Nat.sub_self]
 rw [List.drop_eq_getElem_cons h,List.set_cons_zero,List.take_add_one,List.getElem?_eq_getElem h]
 simp only [Option.toList_some,List.map_append,List.map_cons,List.map_nil,List.append_assoc,List.cons_append,List.nil_append]
theorem mix_same (s:ByteArray) (i:Nat) (h:i<(bytesL s).length) (e:lowI (bytesL s)[i]=(bytesL s)[i]):mix s (i+1)=mix s i:=by
 rw [<- mix_set s i h,e]
 apply List.ext_getElem?
 intro j
 by_cases hj:i=j
 ·subst hj
  have:=mix_at s i h
  rw [List.getD_eq_getElem?_getD] at this
  rw [List.getElem?_set_self (by rw [mix_len]; exact h)]
  rw [List.getElem?_eq_getElem (by rw [mix_len]; exact h)] at this ⊢
  rw [<- this]; rfl
 ·rw [List.getElem?_set_ne hj]
theorem lower_l0 (s:ByteArray) (hs:s.size<=1048576):∀ n i:Nat,i+n=s.size->Ev (fun k=>Z37.l0 k (mix s i) s.size i) ((bytesL s).map lowI)
 | 0,i,h=>by
  refine Ev.step (fun k=>by rw [Z37.l0]) ?_
  simp (disch:=omega) only [cneg]
  unfold mix
  rw [List.take_of_length_le (by rw [bytesL_len]; omega),List.drop_eq_nil_of_le (by rw [bytesL_len]; omega),List.append_nil]
  exact Ev.pure _
 | n+1,i,h=>by
  have hl:=bytesL_len s
  have hi:i<(bytesL s).length:=by omega
  have hm:=mix_len s i
  have ih:=lower_l0 s hs n (i+1) (by omega)
  have hb:=bytes_range s i hi
  refine Ev.step (fun k=>by rw [Z37.l0]) ?_
  simp (disch:=omega) only [cpos,Int.toNat_natCast,mix_at s i hi]
  refine Ev.bind0 (isUpper_ev _) ?_
  cases hu:decide (65<=(bytesL s)[i]) && decide ((bytesL s)[i]<=90) with
  | true=>
   have hu':=hu
   simp only [Bool.and_eq_true,decide_eq_true_eq] at hu'
   have e:IntKind.wrap .u8 (IntKind.wrap .u8 ((bytesL s)[i]+97)-65)=lowI (bytesL s)[i]:=by
    unfold lowI
    rw [hu,cond_true,IntKind.wrap_u8,IntKind.wrap_u8]; omega
   simp (disch:=omega) only [cond_true,cpos,e,mix_set s i hi,wrap_in]
   exact ih
  | false=>
   have e:lowI (bytesL s)[i]=(bytesL s)[i]:=by unfold lowI; rw [hu,cond_false]
   rw [mix_same s i hi e] at ih
   simp (disch:=omega) only [cond_false,wrap_in]
   exact ih
def lowS (s:ByteArray):ByteArray:=strL ((bytesL s).map lowI)
theorem lowS_size (s:ByteArray):(lowS s).size=s.size:=by unfold lowS; rw [strL_size,List.length_map,bytesL_len]
theorem lower_ev (s:ByteArray) (hs:s.size<=1048576):Ev (fun k=>Z37.F k s) (lowS s):=by
 unfold Z37.F
 rw [bytesL_len]
 simp (disch:=omega) only [cble]
 have:=lower_l0 s hs s.size 0 (by omega)
 unfold mix at this
 rw [List.take_zero,List.map_nil,List.nil_append,List.drop_zero] at this
 exact Ev.bind this (Ev.pure _)
end Go.Proofs.YtoojiikgbopeiaaGreatDoor
end
section
/- Plain laws: the words of a text; words put together. -/
namespace Go.Proofs.YtoojiikgbopeiaaGreatDoor
open Go.Gx
def kw (s:ByteArray):List ByteArray:=(words s).filter pos
theorem notEmpty:(fun x:ByteArray=> !beqS x ⟨#[]⟩)=pos:=by
 funext x
 rw [size_pos]; rfl
theorem wordsOf_ev (s:ByteArray) (hs:s.size<=1048576):Ev (fun k=>Z93.F k s) (kw s):=by
 unfold Z93.F
 refine Ev.bind0 (split_ev s hs) (Ev.bind (a:=kw s) ?_ (Ev.pure _))
 have hlen:=(words_len s).2
 have hq:∀ x,x ∈ words s->Ev (fun k=>(fun (_:Nat) (x:ByteArray)=>Z60.F x) k x) (beqS x ⟨#[]⟩):=fun x _=>Ev.const rfl
 have:=delete_ev (d:=(⟨#[]⟩:ByteArray)) (p:=fun x=>beqS x ⟨#[]⟩) (q:=fun _ x=>Z60.F x) (xs:=words s) (l0:=Z47.l0) (fun k x0 x5 x6=>by rw [Z47.l0]) hq (by omega) (I:=Z42.F) (F:=Z47.F)
  (idx_ev (d:=(⟨#[]⟩:ByteArray)) (p:=fun x=>beqS x ⟨#[]⟩) (q:=fun _ x=>Z60.F x) (l0:=Z42.l0) (fun k x0 x7 x8=>by rw [Z42.l0]) hq (by omega) (fun k a0=>rfl)) (fun k a0=>rfl)
 rw [notEmpty] at this
 exact this
theorem kw_small (s:ByteArray):∀ x ∈ kw s,0<x.size/\x.size<=s.size:=fun x hx=>by
 obtain ⟨h1,h2⟩:=List.mem_filter.1 hx
 exact ⟨by simpa [pos] using h2,words_small _ _ x h1⟩
theorem kw_len (s:ByteArray):(kw s).length<=s.size+1:=Nat.le_trans (List.length_filter_le _ _) (words_len s).2
theorem join_l0 (W:List ByteArray) (hW:∀ x ∈ W,x.size<=1048576) (hl:W.length<=8192):∀ n i:Nat,i+n=W.length->1<=i->∀ acc:ByteArray,acc.size<=1048577 * i ->
  ∃ r,Ev (fun k=>Z20.l0 k W acc i) r/\L r=L acc++Lib.joinTail [32] ((W.drop i).map L)/\r.size<=1048577 * W.length
 | 0,i,h,h0,acc,ha=>by
  refine ⟨acc,Ev.step (fun k=>by rw [Z20.l0]) ?_,?_,by rw [show W.length=i by omega]; exact ha⟩
  ·simp (disch:=omega) only [cneg]; exact Ev.pure _
  ·rw [List.drop_eq_nil_of_le (by omega)]; simp [Lib.joinTail]
 | n+1,i,h,h0,acc,ha=>by
  have hi:i<W.length:=by omega
  have hx:=hW _ (List.getElem_mem hi)
  obtain ⟨r,r1,r2,r3⟩:=join_l0 W hW hl n (i+1) (by omega) (by omega) (acc++⟨#[32]⟩++W[i]) (by rw [size_app,size_app,e32]; omega)
  refine ⟨r,Ev.step (fun k=>by rw [Z20.l0]) ?_,?_,r3⟩
  ·simp (disch:=(try simp only [size_app,e32]); omega) only [cpos,Int.toNat_natCast,getD_at hi,cble,wrap_in]
   exact r1
  ·rw [r2,List.drop_eq_getElem_cons hi,List.map_cons,tail_cons,L_append,L_append,L32]
   simp
theorem join_ev (W:List ByteArray) (hW:∀ x ∈ W,x.size<=1048576) (hl:W.length<=8192):∃ r,Ev (fun k=>Z20.F k W) r/\Z112.F W ⟨#[32]⟩=some r/\L r=Lib.join (W.map L) [32]/\r.size<=1048577 * W.length:=by
 have key:∃ r,Ev (fun k=>Z20.F k W) r/\L r=Lib.join (W.map L) [32]/\r.size<=1048577 * W.length:=by
  unfold Z20.F
  match W,hW,hl with
  | [],_,_=>
   refine ⟨⟨#[]⟩,Ev.bind (a:=⟨#[]⟩) ?_ (Ev.pure _),rfl,Nat.zero_le _⟩
   refine Ev.step (fun k=>by rw [Z20.l0]) ?_
   exact Ev.pure _
  | x :: W,hW,hl=>
   have hx:=hW x List.mem_cons_self
   have e00:∀ t:ByteArray,(⟨#[]⟩:ByteArray)++t=t:=fun t=>L_inj (by rw [L_append]; rfl)
   have e0:(⟨#[]⟩:ByteArray).size=0:=rfl
   obtain ⟨r,r1,r2,r3⟩:=join_l0 (x :: W) hW hl W.length 1 (by rw [List.length_cons]; omega) (Nat.le_refl _) x (by omega)
   refine ⟨r,Ev.bind (a:=r) ?_ (Ev.pure _),?_,r3⟩
   ·refine Ev.step (fun k=>by rw [Z20.l0]) ?_
    have r1':Ev (fun k=>Z20.l0 k (x :: W) x (0+1)) r:=r1
    have hlen:(0:Int)<((x :: W).length:Int):=by rw [List.length_cons]; omega
    have hg:(x :: W).getD (0:Int).toNat (⟨#[]⟩:ByteArray)=x:=rfl
    simp (disch:=(try simp only [e0]); omega) only [cpos,cneg,hg,e00,cble,wrap_in]
    exact r1'
   ·rw [r2,List.map_cons,Lib.join_cons]; rfl
 obtain ⟨r,r1,r2,r3⟩:=key
 refine ⟨r,r1,?_,r2,r3⟩
 unfold Z112.F xJoin
 have e1:Lib.join (W.map (·.data.toList)) (⟨#[32]⟩:ByteArray).data.toList=L r:=by rw [r2]; rfl
 rw [e1,Nat.ble_eq_true_of_le (by omega),Nat.ble_eq_true_of_le (by rw [L_size]; omega)]
 show some _=some r
 congr 1
end Go.Proofs.YtoojiikgbopeiaaGreatDoor
end
section
/- Plain laws: the plain form of a text,two ways. -/
namespace Go.Proofs.YtoojiikgbopeiaaGreatDoor
open Go.Gx
def bit1 (cur:List Int):List (List Int):=if cur=[] then [] else [cur]
def grp:List Int->List Int->List (List Int)
 | cur,[]=>bit1 cur
 | cur,b :: l=>if b=32 then bit1 cur++grp [] l else grp (cur++[b]) l
def kpI (b:Int):Bool:=ltrI b || (decide (48<=b) && decide (b<=57))
def spW:List Int->List Int->List (List Int)
 | cur,[]=>bit1 cur
 | cur,b :: l=>if b=32 then bit1 cur++spW [] l else if kpI b=true then spW (cur++[lowI b]) l else spW cur l
def kpL (b:Int):Bool:=(decide (97<=b) && decide (b<=122)) || ((decide (48<=b) && decide (b<=57)) || (b==32))
theorem kpL_low (b:Int):kpL (lowI b)=(kpI b || (b==32)):=by
 rw [Bool.eq_iff_iff]
 unfold kpL kpI ltrI lowI
 cases h:decide (65<=b) && decide (b<=90) with
 | true=>
  simp only [Bool.and_eq_true,decide_eq_true_eq] at h
  simp only [cond_true,Bool.true_or,Bool.or_eq_true,Bool.and_eq_true,decide_eq_true_eq,beq_iff_eq,true_or,iff_true]
  omega
 | false=>
  simp only [cond_false,Bool.false_or,Bool.or_eq_true,Bool.and_eq_true,decide_eq_true_eq,beq_iff_eq,or_assoc]
theorem lowI_sp (b:Int):lowI b=32 ↔ b=32:=by
 unfold lowI
 cases h:decide (65<=b) && decide (b<=90) with
 | true=>
  simp only [Bool.and_eq_true,decide_eq_true_eq] at h
  simp only [cond_true]
  omega
 | false=>simp only [cond_false]
theorem grp_spW:∀ (l cur:List Int),grp cur ((l.map lowI).filter kpL)=spW cur l
 | [],cur=>rfl
 | b :: l,cur=>by
  rw [List.map_cons,List.filter_cons,kpL_low]
  unfold spW
  by_cases h:b=32
  ·subst h
   rw [if_pos rfl]
   have e:(kpI 32 || ((32:Int)==32))=true:=by decide
   rw [if_pos e]
   have e2:lowI 32=32:=by decide
   rw [e2]
   unfold grp
   rw [if_pos rfl,grp_spW l []]
  ·rw [if_neg h]
   have e:(b==32)=false:=by simpa using h
   rw [e,Bool.or_false]
   cases hk:kpI b with
   | true=>
    rw [if_pos rfl,if_pos rfl]
    conv=>lhs; unfold grp
    rw [if_neg (fun e=>h ((lowI_sp b).1 e)),grp_spW l _]
   | false=>
    rw [if_neg (by decide),if_neg (by decide)]
    exact grp_spW l cur
theorem strL_sub (s:ByteArray) (st i:Nat):strL (((bytesL s).take i).drop st)=s.extract st i:=by
 apply L_inj
 rw [L_strL,L_extract,bytesL_map,List.map_drop,List.map_take,List.map_map]
 have:((fun n:Int=>UInt8.ofNat n.toNat) ∘ fun b:UInt8=>(b.toNat:Int))=id:=by
  funext b; simp
 rw [this,List.map_id]
theorem bit1_pos (s:ByteArray) (st i:Nat) (h:st<=i) (hi:i<=s.size):(if st<i then [s.extract st i] else [])=(bit1 (((bytesL s).take i).drop st)).map strL:=by
 have hl:=bytesL_len s
 unfold bit1
 by_cases c:st<i
 ·have hne:¬ ((bytesL s).take i).drop st=[]:=fun e=>by
   have:=congrArg List.length e
   simp at this
   omega
  rw [if_pos c,if_neg hne,List.map_cons,List.map_nil,strL_sub]
 ·have he:((bytesL s).take i).drop st=[]:=List.drop_eq_nil_of_le (by simp; omega)
  rw [if_neg c,if_pos he]; rfl
theorem kw_grp_l (s:ByteArray):∀ n i:Nat,i+n=s.size->∀ st:Nat,st<=i->(∀ j,st<=j->j<i->(L s)[j]? ≠ some 32)->(wordsFrom s st).filter pos=(grp (((bytesL s).take i).drop st) ((bytesL s).drop i)).map strL
 | 0,i,h,st,h1,hn=>by
  have hl:=bytesL_len s
  rw [words_end s st fun j hj=>by
   by_cases hj2:j<i
   ·exact hn j hj hj2
   ·rw [List.getElem?_eq_none (by rw [L_size]; omega)]; exact fun h=>by cases h]
  have e0:(bytesL s).drop s.size=[]:=List.drop_eq_nil_of_le (by omega)
  rw [fpos_one s st s.size (by omega) (Nat.le_refl _),List.filter_nil,List.append_nil,show i=s.size by omega,e0]
  exact bit1_pos s st s.size (by omega) (Nat.le_refl _)
 | n+1,i,h,st,h1,hn=>by
  have hl:=bytesL_len s
  have hi:i<s.size:=by omega
  have hib:i<(bytesL s).length:=by omega
  rw [List.drop_eq_getElem_cons hib]
  unfold grp
  have hbt:(bytesL s)[i]=bt s i:=(bt_bytes s i hib).symm
  by_cases c:bt s i=32
  ·have e1:(bytesL s)[i]=32:=hbt.trans c
   rw [words_hit s st i h1 hi ((bt_sp hi).1 c) hn,fpos_one s st i h1 (by omega),if_pos e1,List.map_append,bit1_pos s st i h1 (by omega)]
   congr 1
   have:=kw_grp_l s n (i+1) (by omega) (i+1) (Nat.le_refl _) (fun j h1 h2=>by omega)
   have e2:((bytesL s).take (i+1)).drop (i+1)=[]:=List.drop_eq_nil_of_le (by simp; omega)
   rw [this,e2]
  ·rw [if_neg (by rw [hbt]; exact c)]
   have:=kw_grp_l s n (i+1) (by omega) st (by omega) (fun j h3 h4=>by
    rcases Nat.lt_or_ge j i with h5 | h5
    ·exact hn j h3 h5
    ·obtain rfl:j=i:=by omega
     exact fun e=>c ((bt_sp hi).2 e))
   rw [this,List.take_add_one,List.getElem?_eq_getElem hib,List.drop_append_of_le_length (by simp; omega)]
   rfl
theorem kw_grp (s:ByteArray):kw s=(grp [] (bytesL s)).map strL:=by
 have:=kw_grp_l s s.size 0 (by omega) 0 (Nat.le_refl _) (fun j h1 h2=>by omega)
 rw [words_from] at this
 simpa [kw] using this
theorem bytes_str (ys:List Int) (h:∀ y ∈ ys,0<=y/\y<=255):bytesL (strL ys)=ys:=by
 rw [bytesL_map,L_strL,List.map_map]
 conv=>rhs; rw [<- List.map_id ys]
 refine List.map_congr_left fun y hy=> ?_
 have:=h y hy
 simp only [Function.comp,id]
 rw [UInt8.toNat_ofNat_of_lt' (show y.toNat<UInt8.size by have:UInt8.size=256:=rfl; omega)]
 omega
theorem lowI_range {b:Int} (h:0<=b/\b<=255):0<=lowI b/\lowI b<=255:=by
 unfold lowI
 cases h2:decide (65<=b) && decide (b<=90) with
 | true=>
  simp only [Bool.and_eq_true,decide_eq_true_eq] at h2
  simp only [cond_true]; omega
 | false=>simp only [cond_false]; exact h
theorem bytes_mem {s:ByteArray} {b:Int} (h:b ∈ bytesL s):0<=b/\b<=255:=by
 obtain ⟨i,hi,rfl⟩:=List.getElem_of_mem h
 exact bytes_range s i hi
def plT (s:ByteArray):ByteArray:=strL (((bytesL s).map lowI).filter kpL)
theorem plT_words (s:ByteArray):kw (plT s)=(spW [] (bytesL s)).map strL:=by
 rw [kw_grp,<- grp_spW]
 unfold plT
 rw [bytes_str]
 intro y hy
 obtain ⟨b,hb,rfl⟩:=List.mem_map.1 (List.mem_filter.1 hy).1
 exact lowI_range (bytes_mem hb)
theorem plT_size (s:ByteArray):(plT s).size<=s.size:=by
 unfold plT
 rw [strL_size]
 refine Nat.le_trans (List.length_filter_le _ _) ?_
 rw [List.length_map,bytesL_len]
 exact Nat.le_refl _
end Go.Proofs.YtoojiikgbopeiaaGreatDoor
end
section
/- Edit distances: symmetric,zero from a text to itself,and no shorter by a way round. -/
namespace Go.Proofs.YtoojiikgbopeiaaGreatDoor
open Go.Gx
def lv (a b:Nat->Int):Nat->Nat->Nat
 | 0,j=>j
 | i+1,0=>i+1
 | i+1,j+1=>min (min (lv a b i (j+1)) (lv a b (i+1) j)+1) (lv a b i j+if a i=b j then 0 else 1)
termination_by i j=>i+j
theorem lv_0 (a b:Nat->Int) (j:Nat):lv a b 0 j=j:=by rw [lv]
theorem lv_s0 (a b:Nat->Int) (i:Nat):lv a b i 0=i:=by cases i <;> rw [lv]
theorem lv_ss (a b:Nat->Int) (i j:Nat):lv a b (i+1) (j+1)=min (min (lv a b i (j+1)) (lv a b (i+1) j)+1) (lv a b i j+if a i=b j then 0 else 1):=by rw [lv]
theorem lv_symm (a b:Nat->Int):∀ s i j:Nat,i+j<=s->lv a b i j=lv b a j i
 | s,0,j,_=>by rw [lv_0,lv_s0]
 | s,i+1,0,_=>by rw [lv_0,lv_s0]
 | 0,i+1,j+1,h=>by omega
 | s+1,i+1,j+1,h=>by
  rw [lv_ss,lv_ss,lv_symm a b s i (j+1) (by omega),lv_symm a b s (i+1) j (by omega),lv_symm a b s i j (by omega)]
  have e:(if a i=b j then 0 else 1)=(if b j=a i then 0 else (1:Nat)):=by
   by_cases c:a i=b j
   ·rw [if_pos c,if_pos c.symm]
   ·rw [if_neg c,if_neg fun h=>c h.symm]
  rw [e,Nat.min_comm (lv b a (j+1) i)]
end Go.Proofs.YtoojiikgbopeiaaGreatDoor
end
section
/- Plain laws: the distance of two texts,two ways. -/
namespace Go.Proofs.YtoojiikgbopeiaaGreatDoor
open Go.Gx
theorem dLower (b:Int):Z52.F b=some (decide (97<=b) && decide (b<=122)):=by
 unfold Z52.F
 simp only [ge_iff_le]
 cases decide (97<=b) <;> rfl
theorem dDigit (b:Int):Z57.F b=some (decide (48<=b) && decide (b<=57)):=by
 unfold Z57.F
 simp only [ge_iff_le]
 cases decide (48<=b) <;> rfl
theorem sDigit (b:Int):Z86.F b=some (decide (48<=b) && decide (b<=57)):=by
 unfold Z86.F
 simp only [ge_iff_le]
 cases decide (48<=b) <;> rfl
theorem roomT {n:Nat} (h:n<=8388608):room n .str=true:=by
 unfold room
 rw [Nat.ble_eq]
 have:nb .str=16:=rfl
 rw [this]; omega
theorem roomB {n:Nat} (h:n<=8388608):room n (.int .u8)=true:=by
 unfold room
 rw [Nat.ble_eq]
 have:nb (.int .u8)=1:=rfl
 rw [this]; omega
theorem roomI {n:Nat} (h:n<=1000000000):room n (.int .i64)=true:=by
 unfold room
 rw [Nat.ble_eq]
 have:nb (.int .i64)=8:=rfl
 rw [this]; omega
theorem simple_cut (s:ByteArray) (acc:List ByteArray) (cur:List Int) (i:Int) (h0:0<=i) (h1:i<=1048576) (ha:acc.length<=1048576) {r:List ByteArray} (ih:Ev (fun k=>Z8.l0 k s (acc++(bit1 cur).map strL) [] (i+1)) r) :
  Ev (fun k=>bif (decide ((cur.length:Int) > 0)) then (bif room (acc.length+([(strL cur)]:List ByteArray).length) .str then (Z8.l0 k s (acc++([(strL cur)]:List ByteArray)) ([]:List Int) (IntKind.wrap .i64 (i+1))) else none) else (Z8.l0 k s acc ([]:List Int) (IntKind.wrap .i64 (i+1)))) r:=by
 by_cases c:cur=[]
 ·subst c
  have:¬ (([]:List Int).length:Int) > 0:=by simp
  simp (disch:=first | exact this | omega) only [cneg,wrap_in]
  unfold bit1 at ih
  rw [if_pos rfl,List.map_nil,List.append_nil] at ih
  exact ih
 ·have:(cur.length:Int) > 0:=by
   have:=List.length_pos_iff.2 c
   omega
  have hr:room (acc.length+([strL cur]:List ByteArray).length) .str=true:=roomT (by simp; omega)
  simp (disch:=first | exact this | omega) only [cpos,hr,cond_true,wrap_in]
  unfold bit1 at ih
  rw [if_neg c] at ih
  exact ih
theorem simple_l0 (s:ByteArray) (hs:s.size<=1048575):∀ n i:Nat,i+n=s.size->∀ (acc:List ByteArray) (cur:List Int),acc.length<=i->cur.length<=i->Ev (fun k=>Z8.l0 k s acc cur i) (acc++(spW cur ((bytesL s).drop i)).map strL)
 | 0,i,h,acc,cur,ha,hc=>by
  have hl:=bytesL_len s
  have e0:(bytesL s).drop i=[]:=List.drop_eq_nil_of_le (by omega)
  refine Ev.step (fun k=>by rw [Z8.l0]) ?_
  rw [e0]
  simp (disch:=omega) only [cpos,ceq]
  refine simple_cut s acc cur i (by omega) (by omega) (by omega) ?_
  refine Ev.step (fun k=>by rw [Z8.l0]) ?_
  simp (disch:=omega) only [cneg]
  exact Ev.pure _
 | n+1,i,h,acc,cur,ha,hc=>by
  have hl:=bytesL_len s
  have hi:i<(bytesL s).length:=by omega
  refine Ev.step (fun k=>by rw [Z8.l0]) ?_
  rw [List.drop_eq_getElem_cons hi]
  simp (disch:=omega) only [cpos,cne,Int.toNat_natCast,bt_bytes s i hi]
  by_cases c:(bytesL s)[i]=32
  ·simp (disch:=first | exact c | omega) only [ceq]
   unfold spW
   rw [if_pos c,List.map_append,<- List.append_assoc]
   refine simple_cut s acc cur i (by omega) (by omega) (by omega) ?_
   exact simple_l0 s hs n (i+1) (by omega) _ [] (by unfold bit1; split <;> simp <;> omega) (by simp)
  ·simp (disch:=first | exact c | omega) only [cne]
   conv=>rhs; unfold spW
   rw [if_neg c]
   refine Ev.bind0 (specLetter_ev _) ?_
   have put:kpI (bytesL s)[i]=true->Ev (fun k=>(Z66.F (bytesL s)[i]).bind fun r2=>bif room (cur.length+([r2]:List Int).length) (.int .u8) then (Z8.l0 k s acc (cur++([r2]:List Int)) (IntKind.wrap .i64 ((i:Int)+1))) else none) (acc++(if kpI (bytesL s)[i]=true then spW (cur++[lowI (bytesL s)[i]]) ((bytesL s).drop (i+1)) else spW cur ((bytesL s).drop (i+1))).map strL):=fun hk=>by
    rw [if_pos hk]
    refine Ev.bind0 (specLowerByte_ev _) ?_
    have hr:room (cur.length+([lowI (bytesL s)[i]]:List Int).length) (.int .u8)=true:=roomB (by simp; omega)
    simp (disch:=omega) only [hr,cond_true,wrap_in]
    exact simple_l0 s hs n (i+1) (by omega) acc _ (by omega) (by simp; omega)
   cases hlt:ltrI (bytesL s)[i] with
   | true=>
    simp only [cond_true]
    exact put (by unfold kpI; rw [hlt]; rfl)
   | false=>
    simp only [cond_false]
    refine Ev.bind0 (sDigit _) ?_
    cases hd:decide (48<=(bytesL s)[i]) && decide ((bytesL s)[i]<=57) with
    | true=>
     simp only [cond_true]
     exact put (by unfold kpI; rw [hlt,hd]; rfl)
    | false=>
     have hk:¬ kpI (bytesL s)[i]=true:=by unfold kpI; rw [hlt,hd]; decide
     rw [if_neg hk]
     simp (disch:=omega) only [cond_false,wrap_in]
     exact simple_l0 s hs n (i+1) (by omega) acc cur (by omega) (by omega)
theorem simple_ev (s:ByteArray) (hs:s.size<=1048575):Ev (fun k=>Z8.F k s) (kw (plT s)):=by
 unfold Z8.F
 have:=simple_l0 s hs s.size 0 (by omega) [] [] (Nat.le_refl _) (Nat.le_refl _)
 rw [List.drop_zero,List.nil_append,<- plT_words] at this
 exact Ev.bind this (Ev.pure _)
theorem pf_l0 (ys:List Int) (hl:ys.length<=1048576):∀ n i:Nat,i+n=ys.length->∀ acc:List Int,acc.length<=i->Ev (fun k=>Z15.l0 k acc ys ys.length i) (acc++(ys.drop i).filter kpL)
 | 0,i,h,acc,ha=>by
  refine Ev.step (fun k=>by rw [Z15.l0]) ?_
  simp (disch:=omega) only [cneg]
  rw [List.drop_eq_nil_of_le (by omega),List.filter_nil,List.append_nil]
  exact Ev.pure _
 | n+1,i,h,acc,ha=>by
  have hi:i<ys.length:=by omega
  refine Ev.step (fun k=>by rw [Z15.l0]) ?_
  rw [List.drop_eq_getElem_cons hi,List.filter_cons]
  simp (disch:=omega) only [cpos,Int.toNat_natCast,getD_at hi]
  have hr:room (acc.length+([ys[i]]:List Int).length) (.int .u8)=true:=roomB (by simp; omega)
  have put:Ev (fun k=>Z15.l0 k (acc++[ys[i]]) ys ys.length ((i:Int)+1)) (acc++ys[i] :: (ys.drop (i+1)).filter kpL):=by
   have:=pf_l0 ys hl n (i+1) (by omega) (acc++[ys[i]]) (by simp; omega)
   rw [List.append_assoc] at this
   exact this
  refine Ev.bind0 (dLower _) ?_
  cases h1:decide (97<=ys[i]) && decide (ys[i]<=122) with
  | true=>
   have hk:kpL ys[i]=true:=by unfold kpL; rw [h1]; rfl
   rw [if_pos hk]
   simp (disch:=omega) only [cond_true,hr,wrap_in]
   exact put
  | false=>
   simp only [cond_false]
   refine Ev.bind0 (dDigit _) ?_
   cases h2:decide (48<=ys[i]) && decide (ys[i]<=57) with
   | true=>
    have hk:kpL ys[i]=true:=by unfold kpL; rw [h1,h2]; rfl
    rw [if_pos hk]
    simp (disch:=omega) only [cond_true,hr,wrap_in]
    exact put
   | false=>
    by_cases c:ys[i]=32
    ·have hk:kpL ys[i]=true:=by unfold kpL; rw [h1,h2,c]; rfl
     rw [if_pos hk]
     simp (disch:=first | exact c | omega) only [cond_false,ceq,hr,cond_true,wrap_in]
     exact put
    ·have hk:¬ kpL ys[i]=true:=by
      unfold kpL
      rw [h1,h2,show (ys[i]==32)=false by simpa using c]; decide
     rw [if_neg hk]
     simp (disch:=first | exact c | omega) only [cond_false,cne,wrap_in]
     exact pf_l0 ys hl n (i+1) (by omega) acc (by omega)
theorem plain_ev (s:ByteArray) (hs:s.size<=40):∃ t,Ev (fun k=>Z67.F k s) t/\Ev (fun k=>Z15.F k s) t/\t.size<=100000000:=by
 have hw:=kw_small (plT s)
 have hl:=kw_len (plT s)
 have hp:=plT_size s
 obtain ⟨t,t1,t2,_,t3⟩:=join_ev (kw (plT s)) (fun x hx=>by have:=(hw x hx).2; omega) (by omega)
 have hlow:=lowS_size s
 have eb:bytesL (lowS s)=(bytesL s).map lowI:=by
  unfold lowS
  exact bytes_str _ fun y hy=>by
   obtain ⟨b,hb,rfl⟩:=List.mem_map.1 hy
   exact lowI_range (bytes_mem hb)
 refine ⟨t,?_,?_,?_⟩
 ·unfold Z67.F
  exact Ev.bind (simple_ev s (by omega)) (Ev.bind t1 (Ev.pure _))
 ·unfold Z15.F
  refine Ev.bind (lower_ev s (by omega)) ?_
  simp (disch:=omega) only [cble]
  have hlen:(bytesL (lowS s)).length<=1048576:=by rw [bytesL_len]; omega
  have:=pf_l0 (bytesL (lowS s)) hlen _ 0 (Nat.zero_add _) [] (Nat.le_refl _)
  rw [List.drop_zero,List.nil_append,eb] at this
  rw [eb]
  refine Ev.bind this (Ev.bind (a:=kw (plT s)) (wordsOf_ev (plT s) (by omega)) (Ev.bind0 t2 (Ev.pure _)))
 ·refine Nat.le_trans t3 ?_
  have:(kw (plT s)).length<=41:=by omega
  calc 1048577 * (kw (plT s)).length<=1048577 * 41:=Nat.mul_le_mul_left _ this
   _<=100000000:=by decide
def rowI (n:Nat):List Int:=(List.range n).map fun (j:Nat)=>(j:Int)
theorem rowI_len (n:Nat):(rowI n).length=n:=by simp [rowI]
theorem rowI_next (n:Nat):rowI n++[(n:Int)]=rowI (n+1):=by
 unfold rowI
 rw [List.range_succ,List.map_append]; rfl
theorem rowI_get {n j:Nat} (h:j<n):(rowI n).getD j 0=j:=by
 simp [rowI,List.getD,h]
theorem specRow (a b:ByteArray) (hb:b.size<=100000000):∀ m i:Nat,i+m=b.size+1->Ev (fun k=>Z3.l0 k a b (rowI i) i) (a,b,rowI (b.size+1))
 | 0,i,h=>by
  refine Ev.step (fun k=>by rw [Z3.l0]) ?_
  simp (disch:=omega) only [cneg]
  rw [show i=b.size+1 by omega]
  exact Ev.pure _
 | m+1,i,h=>by
  refine Ev.step (fun k=>by rw [Z3.l0]) ?_
  have hr:room ((rowI i).length+([(i:Int)]:List Int).length) (.int .i64)=true:=roomI (by rw [rowI_len]; simp; omega)
  simp (disch:=omega) only [cpos,hr,cond_true,wrap_in,rowI_next]
  exact specRow a b hb m (i+1) (by omega)
theorem implRow (a b:ByteArray) (hb:b.size<=100000000):∀ m i:Nat,i+m=b.size+1->Ev (fun k=>Z2.l0 k a b (rowI i) ((b.size:Int)+1) i) (a,b,rowI (b.size+1))
 | 0,i,h=>by
  refine Ev.step (fun k=>by rw [Z2.l0]) ?_
  simp (disch:=omega) only [cneg]
  rw [show i=b.size+1 by omega]
  exact Ev.pure _
 | m+1,i,h=>by
  refine Ev.step (fun k=>by rw [Z2.l0]) ?_
  have hr:room ((rowI i).length+([(i:Int)]:List Int).length) (.int .i64)=true:=roomI (by rw [rowI_len]; simp; omega)
  simp (disch:=omega) only [cpos,hr,cond_true,wrap_in,rowI_next]
  exact implRow a b hb m (i+1) (by omega)
theorem least_ev (a b:Int):Z55.F a b=some (if a<b then a else b):=by
 unfold Z55.F
 by_cases c:a<b
 ·simp (disch:=omega) only [cpos]; rw [if_pos c]
 ·simp (disch:=omega) only [cneg]; rw [if_neg c]
def Bd (row:List Int) (n:Nat) (c:Int):Prop:=row.length=n/\∀ j,j<n->0<=row.getD j 0/\row.getD j 0<=c
theorem bd_put {row:List Int} {n:Nat} {c x:Int} (h:Bd row n c) (h0:0<=x) (h1:x<=c):Bd (row++[x]) (n+1) c:=by
 refine ⟨by simp [h.1],fun j hj=> ?_⟩
 have hl:=h.1
 by_cases c1:j<n
 ·have e:(row++[x]).getD j 0=row.getD j 0:=by
   rw [List.getD_eq_getElem?_getD,List.getElem?_append_left (by omega),<- List.getD_eq_getElem?_getD]
  rw [e]; exact h.2 j c1
 ·have e:(row++[x]).getD j 0=x:=by
   rw [List.getD_eq_getElem?_getD,List.getElem?_append_right (by omega),show j-row.length=0 by omega]; rfl
  rw [e]; exact ⟨h0,h1⟩
def Rv (a b:ByteArray) (row:List Int) (n i:Nat):Prop:=∀ j,j<n->row.getD j 0=((lv (bt a) (bt b) i j:Nat):Int)
theorem rv_put {a b:ByteArray} {row:List Int} {n i:Nat} {x:Int} (hl:row.length=n) (h:Rv a b row n i) (hx:x=((lv (bt a) (bt b) i n:Nat):Int)):Rv a b (row++[x]) (n+1) i:=fun j hj=>by
 by_cases c1:j<n
 ·have e:(row++[x]).getD j 0=row.getD j 0:=by
   rw [List.getD_eq_getElem?_getD,List.getElem?_append_left (by omega),<- List.getD_eq_getElem?_getD]
  rw [e]; exact h j c1
 ·have e:(row++[x]).getD j 0=x:=by
   rw [List.getD_eq_getElem?_getD,List.getElem?_append_right (by omega),show j-row.length=0 by omega]; rfl
  rw [e,hx,show j=n by omega]
theorem dp_l4 (a b:ByteArray) (hb:b.size<=100000000) (row:List Int) (c:Int) (hc:0<=c) (hc2:c<=10000000000) (hrow:Bd row (b.size+1) c) (i:Nat) (hi:1<=i) (hi2:i<=a.size) (ha:a.size<=4200000000) (hv:Rv a b row (b.size+1) (i-1)):∀ m q:Nat,q+m=b.size+1->1<=q->∀ nx:List Int,Bd nx q (c+1)->Rv a b nx q i ->
  ∃ r,Ev (fun k=>Z3.l4 k a b row i nx q) (a,b,(i:Int),r)/\Ev (fun k=>Z2.l4 k a b row i nx q) (a,b,(i:Int),r)/\Bd r (b.size+1) (c+1)/\Rv a b r (b.size+1) i
 | 0,q,h,h1,nx,hn,hnv=>by
  refine ⟨nx,Ev.step (fun k=>by rw [Z3.l4]) ?_,Ev.step (fun k=>by rw [Z2.l4]) ?_,by rw [<- h]; exact hn,by rw [<- h]; exact hnv⟩
  ·simp (disch:=omega) only [cneg]; exact Ev.pure _
  ·simp (disch:=omega) only [cneg]; exact Ev.pure _
 | m+1,q,h,h1,nx,hn,hnv=>by
  have v1:=hv q (by omega)
  have v2:=hv (q-1) (by omega)
  have v3:=hnv (q-1) (by omega)
  have v4:=lv_ss (bt a) (bt b) (i-1) (q-1)
  rw [show i-1+1=i by omega,show q-1+1=q by omega] at v4
  have hrl:=hrow.1
  have hnl:=hn.1
  obtain ⟨p1,p2⟩:=hrow.2 q (by omega)
  obtain ⟨r1,r2⟩:=hrow.2 (q-1) (by omega)
  obtain ⟨n1,n2⟩:=hn.2 (q-1) (by omega)
  have eq1:((q:Int)-1).toNat=q-1:=by omega
  have ei1:((i:Int)-1).toNat=i-1:=by omega
  have hr:∀ x:Int,room (nx.length+([x]:List Int).length) (.int .i64)=true:=fun x=>roomI (by simp; omega)
  by_cases cb:bt a (i-1)=bt b (q-1)
  ·obtain ⟨x,x1,x2,x3,x4,x5⟩:∃ x:Int,(if (if row.getD q 0<nx.getD (q-1) 0 then row.getD q 0 else nx.getD (q-1) 0)+1<row.getD (q-1) 0 then (if row.getD q 0<nx.getD (q-1) 0 then row.getD q 0 else nx.getD (q-1) 0)+1 else row.getD (q-1) 0)=x /\
     (if row.getD (q-1) 0+0<(if nx.getD (q-1) 0+1<row.getD q 0+1 then nx.getD (q-1) 0+1 else row.getD q 0+1) then row.getD (q-1) 0+0 else (if nx.getD (q-1) 0+1<row.getD q 0+1 then nx.getD (q-1) 0+1 else row.getD q 0+1))=x/\0<=x/\x<=c+1/\x=((lv (bt a) (bt b) i q:Nat):Int):=by
    first
     | rw [if_pos cb] at v4
     | rw [if_neg cb] at v4
    refine ⟨_,rfl,?_,?_,?_,?_⟩
    ·repeat' split
     all_goals omega
    ·repeat' split
     all_goals omega
    ·repeat' split
     all_goals omega
    ·repeat' split
     all_goals omega
   obtain ⟨r,e1,e2,e3⟩:=dp_l4 a b hb row c hc hc2 hrow i hi hi2 ha hv m (q+1) (by omega) (by omega) (nx++[x]) (bd_put hn x3 x4) (rv_put hn.1 hnv x5)
   refine ⟨r,Ev.step (fun k=>by rw [Z3.l4]) ?_,Ev.step (fun k=>by rw [Z2.l4]) ?_,e3⟩
   ·simp (disch:=omega) only [cpos,Int.toNat_natCast,wrap_in,eq1]
    refine Ev.bind0 (least_ev _ _) ?_
    have b1:0<=(if row.getD q 0<nx.getD (q-1) 0 then row.getD q 0 else nx.getD (q-1) 0)/\(if row.getD q 0<nx.getD (q-1) 0 then row.getD q 0 else nx.getD (q-1) 0)<=c+1:=by split <;> omega
    simp (disch:=first | exact cb | omega) only [cpos,Int.toNat_natCast,wrap_in,ei1,eq1,ceq]
    refine Ev.bind0 (least_ev _ _) ?_
    rw [x1]
    simp (disch:=omega) only [hr,cond_true,wrap_in]
    exact e1
   ·simp (disch:=first | exact cb | omega) only [cpos,Int.toNat_natCast,wrap_in,ei1,eq1,ceq,x2,hr,cond_true]
    exact e2
  ·obtain ⟨x,x1,x2,x3,x4,x5⟩:∃ x:Int,(if (if row.getD q 0<nx.getD (q-1) 0 then row.getD q 0 else nx.getD (q-1) 0)+1<row.getD (q-1) 0+1 then (if row.getD q 0<nx.getD (q-1) 0 then row.getD q 0 else nx.getD (q-1) 0)+1 else row.getD (q-1) 0+1)=x /\
     (if row.getD (q-1) 0+1<(if nx.getD (q-1) 0+1<row.getD q 0+1 then nx.getD (q-1) 0+1 else row.getD q 0+1) then row.getD (q-1) 0+1 else (if nx.getD (q-1) 0+1<row.getD q 0+1 then nx.getD (q-1) 0+1 else row.getD q 0+1))=x/\0<=x/\x<=c+1/\x=((lv (bt a) (bt b) i q:Nat):Int):=by
    first
     | rw [if_pos cb] at v4
     | rw [if_neg cb] at v4
    refine ⟨_,rfl,?_,?_,?_,?_⟩
    ·repeat' split
     all_goals omega
    ·repeat' split
     all_goals omega
    ·repeat' split
     all_goals omega
    ·repeat' split
     all_goals omega
   obtain ⟨r,e1,e2,e3⟩:=dp_l4 a b hb row c hc hc2 hrow i hi hi2 ha hv m (q+1) (by omega) (by omega) (nx++[x]) (bd_put hn x3 x4) (rv_put hn.1 hnv x5)
   refine ⟨r,Ev.step (fun k=>by rw [Z3.l4]) ?_,Ev.step (fun k=>by rw [Z2.l4]) ?_,e3⟩
   ·simp (disch:=omega) only [cpos,Int.toNat_natCast,wrap_in,eq1]
    refine Ev.bind0 (least_ev _ _) ?_
    have b1:0<=(if row.getD q 0<nx.getD (q-1) 0 then row.getD q 0 else nx.getD (q-1) 0)/\(if row.getD q 0<nx.getD (q-1) 0 then row.getD q 0 else nx.getD (q-1) 0)<=c+1:=by split <;> omega
    simp (disch:=first | exact cb | omega) only [cpos,Int.toNat_natCast,wrap_in,ei1,eq1,cne]
    refine Ev.bind0 (least_ev _ _) ?_
    rw [x1]
    simp (disch:=omega) only [hr,cond_true,wrap_in]
    exact e1
   ·simp (disch:=first | exact cb | omega) only [cpos,Int.toNat_natCast,wrap_in,ei1,eq1,cne,x2,hr,cond_true]
    exact e2
theorem dp_l2 (a b:ByteArray) (hb:b.size<=100000000) (ha:a.size<=100000000):∀ m i:Nat,i+m=a.size+1->1<=i->∀ row:List Int,Bd row (b.size+1) ((b.size+i:Nat):Int)->Rv a b row (b.size+1) (i-1) ->
  ∃ r,Ev (fun k=>Z3.l2 k a b row i) (b,r)/\Ev (fun k=>Z2.l2 k a b row i) (b,r)/\r.length=b.size+1/\0<=r.getD b.size 0/\r.getD b.size 0<=400000000/\r.getD b.size 0=((lv (bt a) (bt b) a.size b.size:Nat):Int)
 | 0,i,h,h1,row,hr,hv=>by
  have:=hr.2 b.size (by omega)
  refine ⟨row,Ev.step (fun k=>by rw [Z3.l2]) ?_,Ev.step (fun k=>by rw [Z2.l2]) ?_,hr.1,this.1,by omega,by rw [show a.size=i-1 by omega]; exact hv _ (by omega)⟩
  ·simp (disch:=omega) only [cneg]; exact Ev.pure _
  ·simp (disch:=omega) only [cneg]; exact Ev.pure _
 | m+1,i,h,h1,row,hr,hv=>by
  have hv1:Rv a b [(i:Int)] 1 i:=fun j hj=>by
   obtain rfl:j=0:=by omega
   rw [lv_s0]; rfl
  have hb1:Bd [(i:Int)] 1 (((b.size+i:Nat):Int)+1):=⟨rfl,fun j hj=>by
   obtain rfl:j=0:=by omega
   show 0<=(i:Int)/\(i:Int)<=_
   omega⟩
  obtain ⟨nx,n1,n2,n3,n4⟩:=dp_l4 a b hb row ((b.size+i:Nat):Int) (by omega) (by omega) hr i h1 (by omega) (by omega) hv b.size 1 (by omega) (Nat.le_refl _) [(i:Int)] hb1 hv1
  obtain ⟨r,r1,r2,r3⟩:=dp_l2 a b hb ha m (i+1) (by omega) (by omega) nx (by
   rw [show ((b.size+(i+1):Nat):Int)=((b.size+i:Nat):Int)+1 by omega]
   exact n3) n4
  refine ⟨r,Ev.step (fun k=>by rw [Z3.l2]) ?_,Ev.step (fun k=>by rw [Z2.l2]) ?_,r3⟩
  ·simp (disch:=omega) only [cpos]
   refine Ev.bind n1 ?_
   simp (disch:=omega) only [wrap_in]
   exact r1
  ·simp (disch:=omega) only [cpos]
   refine Ev.bind n2 ?_
   simp (disch:=omega) only [wrap_in]
   exact r2
open Classical in
noncomputable def pW (s:ByteArray):ByteArray:=if h:s.size<=40 then (plain_ev s h).choose else ⟨#[]⟩
theorem pW_ev (s:ByteArray) (h:s.size<=40):Ev (fun k=>Z67.F k s) (pW s)/\Ev (fun k=>Z15.F k s) (pW s)/\(pW s).size<=100000000:=by
 unfold pW
 rw [dif_pos h]
 exact (plain_ev s h).choose_spec
noncomputable def dV (s t:ByteArray):Nat:=lv (bt (pW s)) (bt (pW t)) (pW s).size (pW t).size
theorem distv_ev (s t:ByteArray) (hs:s.size<=40) (ht:t.size<=40):Ev (fun k=>Z87.F k s t) ((dV s t:Nat):Int)/\Ev (fun k=>Z2.F k s t) ((dV s t:Nat):Int):=by
 obtain ⟨a1,a2,a3⟩:=pW_ev s hs
 obtain ⟨b1,b2,b3⟩:=pW_ev t ht
 unfold dV
 generalize pW s=a at *
 generalize pW t=b at *
 have h0:Bd (rowI (b.size+1)) (b.size+1) ((b.size+1:Nat):Int):=⟨rowI_len _,fun j hj=>by rw [rowI_get hj]; omega⟩
 have hv:Rv a b (rowI (b.size+1)) (b.size+1) (1-1):=fun j hj=>by rw [rowI_get hj,lv_0]
 obtain ⟨r,r1,r2,r3,r4,r5,r6⟩:=dp_l2 a b b3 a3 a.size 1 (by omega) (Nat.le_refl _) (rowI (b.size+1)) h0 hv
 rw [<- r6]
 refine ⟨?_,?_⟩
 ·unfold Z87.F
  refine Ev.bind a1 (Ev.bind b1 (Ev.bind (a:=r.getD b.size 0) ?_ (Ev.pure _)))
  unfold Z3.F
  refine Ev.bind (specRow a b b3 (b.size+1) 0 (by omega)) (Ev.bind r1 ?_)
  simp (disch:=omega) only [cpos,Int.toNat_natCast]
  exact Ev.pure _
 ·unfold Z2.F
  refine Ev.bind a2 (Ev.bind b2 ?_)
  simp (disch:=omega) only [wrap_in]
  refine Ev.bind (implRow a b b3 (b.size+1) 0 (by omega)) (Ev.bind r2 ?_)
  simp (disch:=omega) only [cpos,Int.toNat_natCast]
  exact Ev.pure _
theorem dV_symm (s t:ByteArray):dV s t=dV t s:=lv_symm _ _ _ _ _ (Nat.le_refl _)
end Go.Proofs.YtoojiikgbopeiaaGreatDoor
end
section
/- Plain laws: entries that are alike; the parts of a valid entry. -/
namespace Go.Proofs.YtoojiikgbopeiaaGreatDoor
open Go.Gx
theorem entryB_parts {e:Entry} (h:entryB e=true):namesB e.authors=true/\textB e.title=true:=by
 unfold entryB at h
 simp only [Bool.and_eq_true] at h
 exact ⟨h.2.2.1,h.2.2.2.2.1⟩
theorem textB_size {s:ByteArray} (h:textB s=true):s.size<=40:=by
 unfold textB at h
 simp only [Bool.and_eq_true,decide_eq_true_eq] at h
 exact h.1
theorem libB_at {l:Library} (h:libB l=true) {i:Nat} (hi:i<l.entries.length):entryB l.entries[i]=true:=by
 unfold libB at h
 rw [Bool.and_eq_true,List.all_eq_true] at h
 have:=h.1 i (by rw [List.mem_range'_1]; omega)
 unfold okL at this
 rw [Bool.and_eq_true,getD_at hi] at this
 exact this.1
theorem namesB_parts {l:List Name} (h:namesB l=true):l.length<=4/\∀ n ∈ l,n.given.length<=3/\∀ w ∈ n.given,1<=w.size/\w.size<=12:=by
 unfold namesB at h
 rw [Bool.and_eq_true,decide_eq_true_eq,List.all_eq_true] at h
 refine ⟨h.2,fun n hn=> ?_⟩
 have:=h.1 n hn
 unfold nameB at this
 simp only [Bool.and_eq_true,decide_eq_true_eq,List.all_eq_true] at this
 refine ⟨this.2.1,fun w hw=> ?_⟩
 have:=this.1 w hw
 unfold gw at this
 rw [Bool.and_eq_true] at this
 have h1:=this.1
 unfold wordB at h1
 rw [Bool.and_eq_true] at h1
 have:=ins_le h1.1
 omega
theorem i1 {n:Nat} (h:n ≠ 1):((n:Int)==1)=false:=by rw [beq_eq_false_iff_ne]; omega
theorem ieq {n m:Nat} (h:n ≠ m):((n:Int)==(m:Int))=false:=by rw [beq_eq_false_iff_ne]; omega
def fitB (a b:ByteArray):Bool:=beqS a b || ((decide (a.size=1) && (bt a 0==bt b 0)) || (decide (b.size=1) && (bt a 0==bt b 0)))
theorem fits_ev (a b:ByteArray) (ha:1<=a.size) (hb:1<=b.size):Z88.F a b=some (fitB a b):=by
 unfold Z88.F fitB
 have z:(0:Int).toNat=0:=rfl
 have ea:((a.size:Int)==1)=decide (a.size=1):=by
  by_cases c:a.size=1
  ·rw [decide_eq_true c,c]; rfl
  ·rw [decide_eq_false c]; exact i1 c
 have eb:((b.size:Int)==1)=decide (b.size=1):=by
  by_cases c:b.size=1
  ·rw [decide_eq_true c,c]; rfl
  ·rw [decide_eq_false c]; exact i1 c
 rw [ea,eb]
 simp (disch:=omega) only [cpos,z]
 cases beqS a b <;> cases decide (a.size=1) <;> cases decide (b.size=1) <;> cases (bt a 0==bt b 0) <;> rfl
theorem pre_ev (s p:ByteArray):Z63.F s p=some (decide ((p.size:Int)<=(s.size:Int)) && beqS (s.extract 0 p.size) p):=by
 unfold Z63.F Z105.F
 by_cases c:(p.size:Int)<=(s.size:Int)
 ·simp (disch:=omega) only [dpos,cond_true,Int.toNat_natCast,Option.bind_some,Bool.true_and]
 ·simp (disch:=omega) only [dneg,cond_false,Option.bind_some,Bool.false_and]
theorem pre_one (s p:ByteArray) (hp:p.size=1) (hs:1<=s.size):Z63.F s p=some (bt p 0==bt s 0):=by
 rw [pre_ev,decide_eq_true (by omega),Bool.true_and,hp]
 congr 1
 rw [beqS_eq,L_extract,List.drop_zero]
 have h1:∃ x,L p=[x]:=List.length_eq_one_iff.1 hp
 obtain ⟨x,hx⟩:=h1
 obtain ⟨y,l,hy⟩:∃ y l,L s=y :: l:=by
  cases h:L s with
  | nil=>have:=L_size s; rw [h] at this; simp at this; omega
  | cons y l=>exact ⟨y,l,rfl⟩
 rw [L_bt,L_bt,hx,hy]
 show ([y]==[x])=((x.toNat:Int)==(y.toNat:Int))
 by_cases e:x=y
 ·subst e; simp
 ·have:(x.toNat:Int) ≠ (y.toNat:Int):=fun h=>e (UInt8.toNat_inj.1 (by omega))
  rw [show ((x.toNat:Int)==(y.toNat:Int))=false by simpa using this]
  have:¬ y=x:=fun h=>e h.symm
  simpa using this
def mayG (a b:Name) (i:Nat):Bool:=fitB (a.given.getD i ⟨#[]⟩) (b.given.getD i ⟨#[]⟩)
def mayB (a b:Name):Bool:=(List.range' 0 (min a.given.length b.given.length)).all (mayG a b) && (beqS a.particle b.particle && (beqS a.family b.family && beqS a.suffix b.suffix))
theorem getD_mem {xs:List ByteArray} {i:Nat} (h:i<xs.length):xs.getD i ⟨#[]⟩ ∈ xs:=by rw [getD_at h]; exact List.getElem_mem h
theorem specMay_l0 (a b:Name) (ha:a.given.length<=3) (wa:∀ w ∈ a.given,1<=w.size/\w.size<=12) (wb:∀ w ∈ b.given,1<=w.size/\w.size<=12):Ev (fun k=>Z23.l0 k a b ((0:Nat):Int)) (if (List.range' 0 (min a.given.length b.given.length)).all (mayG a b)=true then .inr (a,b) else .inl false):=by
 refine loop_all (f:=fun k i=>Z23.l0 k a b i) (n:=min a.given.length b.given.length) (fun i hi hp=> ?_) (fun i r hi hp ih=> ?_) ?_ _ 0 (by omega)
 ·refine Ev.step (fun k=>by rw [Z23.l0]) ?_
  simp (disch:=omega) only [cpos,Int.toNat_natCast]
  refine Ev.bind0 (fits_ev _ _ (wa _ (getD_mem (by omega))).1 (wb _ (getD_mem (by omega))).1) ?_
  unfold mayG at hp
  rw [hp]
  exact Ev.pure _
 ·refine Ev.step (fun k=>by rw [Z23.l0]) ?_
  simp (disch:=omega) only [cpos,Int.toNat_natCast]
  refine Ev.bind0 (fits_ev _ _ (wa _ (getD_mem (by omega))).1 (wb _ (getD_mem (by omega))).1) ?_
  unfold mayG at hp
  rw [hp]
  simp (disch:=omega) only [Bool.not_true,cond_false,wrap_in]
  exact ih
 ·refine Ev.step (fun k=>by rw [Z23.l0]) ?_
  by_cases c:a.given.length<=b.given.length
  ·simp (disch:=omega) only [cneg]
   exact Ev.pure _
  ·simp (disch:=omega) only [cpos,cneg]
   exact Ev.pure _
theorem isMay_l0 (a b:Name) (ha:a.given.length<=3) (wa:∀ w ∈ a.given,1<=w.size/\w.size<=12) (wb:∀ w ∈ b.given,1<=w.size/\w.size<=12):Ev (fun k=>Z9.l0 k a b ((0:Nat):Int)) (if (List.range' 0 (min a.given.length b.given.length)).all (mayG a b)=true then .inr () else .inl false):=by
 have hm:(if (b.given.length:Int)<(a.given.length:Int) then (b.given.length:Int) else (a.given.length:Int))=((min a.given.length b.given.length:Nat):Int):=by split <;> omega
 have body:∀ i:Nat,i<min a.given.length b.given.length->∀ r,(mayG a b i=true->Ev (fun k=>Z9.l0 k a b ((i:Int)+1)) r)->(mayG a b i=false->r = .inl false)->Ev (fun k=>Z9.l0 k a b i) r:=fun i hi r h1 h2=>by
  have xa:=wa _ (getD_mem (show i<a.given.length by omega))
  have xb:=wb _ (getD_mem (show i<b.given.length by omega))
  refine Ev.step (fun k=>by rw [Z9.l0]) ?_
  rw [hm]
  simp (disch:=omega) only [cpos,Int.toNat_natCast]
  unfold mayG fitB at h1 h2
  revert h1 h2
  generalize a.given.getD i ⟨#[]⟩=x at xa ⊢
  generalize b.given.getD i ⟨#[]⟩=y at xb ⊢
  intro h1 h2
  cases e:beqS x y with
  | true=>
   rw [e] at h1
   simp (disch:=omega) only [Bool.not_true,cond_false,wrap_in]
   exact h1 rfl
  | false=>
   rw [e,Bool.false_or] at h1 h2
   have q:(bt x 0==bt y 0)=(bt y 0==bt x 0):=Bool.eq_iff_iff.2 (by rw [beq_iff_eq,beq_iff_eq]; exact eq_comm)
   by_cases cx:x.size=1
   ·have hx1:((x.size:Int)==1)=true:=by rw [cx]; rfl
    simp only [hx1,Bool.not_false,cond_true]
    refine Ev.bind0 (pre_one y x cx xb.1) ?_
    rw [decide_eq_true cx] at h1 h2
    cases eb:(bt x 0==bt y 0) with
    | true=>
     rw [eb] at h1
     simp (disch:=omega) only [Bool.not_true,cond_false,wrap_in]
     exact h1 rfl
    | false=>
     rw [eb] at h2
     have:=h2 (by simp)
     subst this
     simp only [Bool.not_false,cond_true]
     by_cases cy:y.size=1
     ·have hy1:((y.size:Int)==1)=true:=by rw [cy]; rfl
      simp only [hy1,cond_true]
      refine Ev.bind0 (pre_one x y cy xa.1) ?_
      rw [<- q,eb]
      exact Ev.pure _
     ·have hy1:((y.size:Int)==1)=false:=i1 cy
      simp only [hy1,cond_false]
      exact Ev.pure _
   ·have hx1:((x.size:Int)==1)=false:=i1 cx
    simp only [hx1,Bool.not_false,cond_true,cond_false]
    rw [decide_eq_false cx] at h1 h2
    by_cases cy:y.size=1
    ·have hy1:((y.size:Int)==1)=true:=by rw [cy]; rfl
     rw [decide_eq_true cy] at h1 h2
     simp only [hy1,cond_true]
     refine Ev.bind0 (pre_one x y cy xa.1) ?_
     rw [<- q]
     cases eb:(bt x 0==bt y 0) with
     | true=>
      rw [eb] at h1
      simp (disch:=omega) only [Bool.not_true,cond_false,wrap_in]
      exact h1 rfl
     | false=>
      rw [eb] at h2
      rw [h2 rfl]
      exact Ev.pure _
    ·have hy1:((y.size:Int)==1)=false:=i1 cy
     rw [decide_eq_false cy] at h2
     simp only [hy1,cond_false]
     rw [h2 rfl]
     exact Ev.pure _
 refine loop_all (f:=fun k i=>Z9.l0 k a b i) (n:=min a.given.length b.given.length) (fun i hi hp=> ?_) (fun i r hi hp ih=> ?_) ?_ _ 0 (by omega)
 ·exact body i hi _ (fun h=>by rw [hp] at h; cases h) (fun _=>rfl)
 ·exact body i hi _ (fun _=>ih) (fun h=>by rw [hp] at h; cases h)
 ·refine Ev.step (fun k=>by rw [Z9.l0]) ?_
  rw [hm]
  simp (disch:=omega) only [cneg]
  exact Ev.pure _
theorem specMay_ev (a b:Name) (ha:a.given.length<=3) (wa:∀ w ∈ a.given,1<=w.size/\w.size<=12) (wb:∀ w ∈ b.given,1<=w.size/\w.size<=12):Ev (fun k=>Z23.F k a b) (mayB a b):=by
 unfold Z23.F mayB
 have:=specMay_l0 a b ha wa wb
 cases h:(List.range' 0 (min a.given.length b.given.length)).all (mayG a b) with
 | false=>rw [h] at this; exact Ev.bind this (Ev.pure _)
 | true=>
  rw [h] at this
  refine Ev.bind (a:=.inr (a,b)) this ?_
  dsimp only
  cases beqS a.particle b.particle <;> cases beqS a.family b.family <;> exact Ev.pure _
theorem isMay_ev (a b:Name) (ha:a.given.length<=3) (wa:∀ w ∈ a.given,1<=w.size/\w.size<=12) (wb:∀ w ∈ b.given,1<=w.size/\w.size<=12):Ev (fun k=>Z9.F k a b) (mayB a b):=by
 unfold Z9.F mayB
 have:=isMay_l0 a b ha wa wb
 have e:∀ c:Bool,Ev (fun k=>(Z9.l0 k a b 0).bind fun y4=>match y4 with | .inl z5=>some z5 | .inr z5=>some true) c ↔ Ev (fun k=>(Z9.l0 k a b ((0:Nat):Int)).bind fun y4=>match y4 with | .inl z5=>some z5 | .inr z5=>some true) c:=fun c=>Iff.rfl
 have fin:Ev (fun k=>(Z9.l0 k a b 0).bind fun y4=>match y4 with | .inl z5=>some z5 | .inr z5=>some true) ((List.range' 0 (min a.given.length b.given.length)).all (mayG a b)):=by
  rw [e]
  cases h:(List.range' 0 (min a.given.length b.given.length)).all (mayG a b) with
  | false=>rw [h] at this; exact Ev.bind this (Ev.pure _)
  | true=>rw [h] at this; exact Ev.bind this (Ev.pure _)
 cases beqS a.particle b.particle with
 | false=>simp only [Bool.not_false,cond_true,Bool.false_and,Bool.and_false]; exact Ev.pure _
 | true=>
  cases beqS a.family b.family with
  | false=>simp only [Bool.not_false,Bool.not_true,cond_true,cond_false,Bool.false_and,Bool.and_false]; exact Ev.pure _
  | true=>
   cases beqS a.suffix b.suffix with
   | false=>simp only [Bool.not_false,Bool.not_true,cond_true,cond_false,Bool.and_false]; exact Ev.pure _
   | true=>simp only [Bool.not_true,cond_false,Bool.and_true]; exact fin
def peG (a b:List Name) (i:Nat):Bool:=mayB (a.getD i (dflt .name)) (b.getD i (dflt .name))
def peopleB (a b:List Name):Bool:=(List.range' 0 (min a.length b.length)).all (peG a b) && decide (a.length=b.length)
theorem nm_at {l:List Name} {i:Nat} (hl:∀ n ∈ l,n.given.length<=3/\∀ w ∈ n.given,1<=w.size/\w.size<=12) (h:i<l.length):(l.getD i (dflt .name)).given.length<=3/\∀ w ∈ (l.getD i (dflt .name)).given,1<=w.size/\w.size<=12:=by
 rw [getD_at h]; exact hl _ (List.getElem_mem h)
theorem specPeople_ev (a b:List Name) (ha:namesB a=true) (hb:namesB b=true):Ev (fun k=>Z24.F k a b) (peopleB a b):=by
 obtain ⟨a1,a2⟩:=namesB_parts ha
 obtain ⟨b1,b2⟩:=namesB_parts hb
 have loop:Ev (fun k=>Z24.l0 k a b ((0:Nat):Int)) (if (List.range' 0 (min a.length b.length)).all (peG a b)=true then .inr (a,b) else .inl false):=by
  refine loop_all (f:=fun k i=>Z24.l0 k a b i) (n:=min a.length b.length) (fun i hi hp=> ?_) (fun i r hi hp ih=> ?_) ?_ _ 0 (by omega)
  ·obtain ⟨x1,x2⟩:=nm_at a2 (show i<a.length by omega)
   obtain ⟨y1,y2⟩:=nm_at b2 (show i<b.length by omega)
   refine Ev.step (fun k=>by rw [Z24.l0]) ?_
   simp (disch:=omega) only [cpos,Int.toNat_natCast]
   refine Ev.bind (specMay_ev _ _ x1 x2 y2) ?_
   unfold peG at hp
   rw [hp]
   exact Ev.pure _
  ·obtain ⟨x1,x2⟩:=nm_at a2 (show i<a.length by omega)
   obtain ⟨y1,y2⟩:=nm_at b2 (show i<b.length by omega)
   refine Ev.step (fun k=>by rw [Z24.l0]) ?_
   simp (disch:=omega) only [cpos,Int.toNat_natCast]
   refine Ev.bind (specMay_ev _ _ x1 x2 y2) ?_
   unfold peG at hp
   rw [hp]
   simp (disch:=omega) only [Bool.not_true,cond_false,wrap_in]
   exact ih
  ·refine Ev.step (fun k=>by rw [Z24.l0]) ?_
   by_cases c:a.length<=b.length
   ·simp (disch:=omega) only [cneg]
    exact Ev.pure _
   ·simp (disch:=omega) only [cpos,cneg]
    exact Ev.pure _
 unfold Z24.F peopleB
 cases h:(List.range' 0 (min a.length b.length)).all (peG a b) with
 | false=>rw [h] at loop; exact Ev.bind loop (Ev.pure _)
 | true=>
  rw [h] at loop
  refine Ev.bind loop ((Ev.pure _).eq ?_)
  show ((a.length:Int)==(b.length:Int))=_
  by_cases c:a.length=b.length
  ·rw [c]; simp
  ·rw [ieq c,decide_eq_false c]; rfl
theorem samePeople_ev (a b:List Name) (ha:namesB a=true) (hb:namesB b=true):Ev (fun k=>Z16.F k a b) (peopleB a b):=by
 obtain ⟨a1,a2⟩:=namesB_parts ha
 obtain ⟨b1,b2⟩:=namesB_parts hb
 unfold Z16.F peopleB
 by_cases c:a.length=b.length
 ·have loop:Ev (fun k=>Z16.l0 k a b a.length ((0:Nat):Int)) (if (List.range' 0 (min a.length b.length)).all (peG a b)=true then .inr (a,b) else .inl false):=by
   refine loop_all (f:=fun k i=>Z16.l0 k a b a.length i) (n:=min a.length b.length) (fun i hi hp=> ?_) (fun i r hi hp ih=> ?_) ?_ _ 0 (by omega)
   ·obtain ⟨x1,x2⟩:=nm_at a2 (show i<a.length by omega)
    obtain ⟨y1,y2⟩:=nm_at b2 (show i<b.length by omega)
    refine Ev.step (fun k=>by rw [Z16.l0]) ?_
    simp (disch:=omega) only [cpos,cbeq,Int.toNat_natCast]
    refine Ev.bind (isMay_ev _ _ x1 x2 y2) ?_
    unfold peG at hp
    rw [hp]
    exact Ev.pure _
   ·obtain ⟨x1,x2⟩:=nm_at a2 (show i<a.length by omega)
    obtain ⟨y1,y2⟩:=nm_at b2 (show i<b.length by omega)
    refine Ev.step (fun k=>by rw [Z16.l0]) ?_
    simp (disch:=omega) only [cpos,cbeq,Int.toNat_natCast]
    refine Ev.bind (isMay_ev _ _ x1 x2 y2) ?_
    unfold peG at hp
    rw [hp]
    simp (disch:=omega) only [Bool.not_true,cond_false,wrap_in]
    exact ih
   ·refine Ev.step (fun k=>by rw [Z16.l0]) ?_
    simp (disch:=omega) only [cneg]
    exact Ev.pure _
  cases h:(List.range' 0 (min a.length b.length)).all (peG a b) with
  | false=>rw [h] at loop; exact Ev.bind loop (Ev.pure _)
  | true=>
   rw [h] at loop
   refine Ev.bind loop ((Ev.pure _).eq ?_)
   show ((a.length:Int)==(b.length:Int))=_
   rw [c]; simp
 ·rw [decide_eq_false c,Bool.and_false]
  by_cases z:a.length=0
  ·refine Ev.bind (a:=.inr (a,b)) ?_ ?_
   ·refine Ev.step (fun k=>by rw [Z16.l0]) ?_
    simp (disch:=omega) only [cneg]
    exact Ev.pure _
   ·exact (Ev.pure _).eq (ieq c)
  ·refine Ev.bind (a:=.inl false) ?_ ?_
   ·refine Ev.step (fun k=>by rw [Z16.l0]) ?_
    simp (disch:=omega) only [cpos,cbne]
    exact Ev.pure _
   ·exact Ev.pure _
end Go.Proofs.YtoojiikgbopeiaaGreatDoor
end
section
/- Plain laws: an entry found by its key; its parent. -/
namespace Go.Proofs.YtoojiikgbopeiaaGreatDoor
open Go.Gx
end Go.Proofs.YtoojiikgbopeiaaGreatDoor
end
section
/- Plain laws: the chain of an entry,keys,entries found by their keys. -/
namespace Go.Proofs.YtoojiikgbopeiaaGreatDoor
open Go.Gx
def kAt (l:Library) (x:Int):ByteArray:=(l.entries.getD x.toNat (dflt .entry)).key
theorem pigeon:∀ (n:Nat) (l:List Int),l.Nodup->(∀ x ∈ l,0<=x/\x<n)->l.length<=n
 | 0,l,_,h=>by
  cases l with
  | nil=>simp
  | cons a l=>have:=h a List.mem_cons_self; omega
 | n+1,l,hn,h=>by
  by_cases hm:(n:Int) ∈ l
  ·have h1:=pigeon n (l.erase n) (hn.erase _) fun x hx=>by
    rw [hn.mem_erase_iff] at hx
    have:=h x hx.2
    have:=hx.1
    omega
   rw [List.length_erase_of_mem hm] at h1
   omega
  ·have h1:=pigeon n l hn fun x hx=>by
    have:=h x hx
    have:x ≠ n:=fun e=>hm (e ▸ hx)
    omega
   omega
theorem room_i8 {n:Nat} (h:n<=8192):room n (.int .i64)=true:=by
 show Nat.ble (n * 8) 140737488355328=true
 exact Nat.ble_eq_true_of_le (by omega)
end Go.Proofs.YtoojiikgbopeiaaGreatDoor
end
section
/- Plain laws: marks of lists of texts; deep marks of names,entries and libraries. -/
namespace Go.Proofs.YtoojiikgbopeiaaGreatDoor
open Go.Gx
theorem markText_l0:∀ n:Nat,n<=1099511627776->∀ s:ByteArray,s.size+n<=9223372036854775806->∃ r,Ev (fun k=>Z6.l0 k (n:Int) s) r/\r.size<=s.size+n:=fun n=>by
 induction n using Nat.strongRecOn with
 | ind n ih=>
  intro hn s hs
  by_cases c:n=0
  ·refine ⟨s,Ev.step (fun k=>by rw [Z6.l0]) ?_,by omega⟩
   simp (disch:=omega) only [cneg]
   exact Ev.pure _
  ·have ed:Int.tdiv (n:Int) 10=((n / 10:Nat):Int):=by
    rw [Int.tdiv_eq_ediv_of_nonneg (by omega)]; omega
   have e1:∀ v:Int,(strL ([v]:List Int)).size=1:=fun v=>rfl
   obtain ⟨r,r1,r2⟩:=ih (n / 10) (by omega) (by omega) (strL ([IntKind.wrap .u8 (IntKind.wrap .i64 (48+Int.tmod (n:Int) 10))]:List Int)++s) (by rw [size_app,e1]; omega)
   rw [size_app,e1] at r2
   refine ⟨r,Ev.step (fun k=>by rw [Z6.l0]) ?_,by omega⟩
   have w1:IntKind.wrap .i64 (Int.tdiv (n:Int) 10)=((n / 10:Nat):Int):=by rw [ed,wrap_in (by omega) (by omega)]
   have hz:((10:Nat)==0)=false:=rfl
   rw [w1,hz]
   simp only [cond_false]
   simp (disch:=(try simp only [e1]); omega) only [cpos,cble]
   exact r1
theorem markText_ev (n:Nat) (hn:n<=1099511627776):∃ r,Ev (fun k=>Z6.F k (n:Int)) r:=by
 unfold Z6.F
 by_cases c:n=0
 ·refine ⟨⟨#[109,48]⟩,?_⟩
  simp (disch:=omega) only [cpos]
  exact Ev.pure _
 ·obtain ⟨r,r1,r2⟩:=markText_l0 n hn ⟨#[]⟩ (by rw [show (⟨#[]⟩:ByteArray).size=0 from rfl]; omega)
  have e0:(⟨#[]⟩:ByteArray).size=0:=rfl
  have e1:(⟨#[109]⟩:ByteArray).size=1:=rfl
  refine ⟨⟨#[109]⟩++r,?_⟩
  simp (disch:=omega) only [cneg]
  refine Ev.bind r1 ?_
  simp (disch:=omega) only [e1,cble]
  exact Ev.pure _
open Classical in
noncomputable def mt (n:Nat):ByteArray:=if h:∃ r,Ev (fun k=>Z6.F k (n:Int)) r then h.choose else ⟨#[]⟩
theorem mt_ev (n:Nat) (hn:n<=1099511627776):Ev (fun k=>Z6.F k (n:Int)) (mt n):=by
 have h:=markText_ev n hn
 unfold mt
 rw [dif_pos h]
 exact h.choose_spec
end Go.Proofs.YtoojiikgbopeiaaGreatDoor
end
section
/- Plain laws: deep marks of names,entries and libraries. -/
namespace Go.Proofs.YtoojiikgbopeiaaGreatDoor
open Go.Gx
theorem mtI (x:Int) (h0:0<=x) (h1:x<=1099511627776):∃ r,Ev (fun k=>Z6.F k x) r:=by
 obtain ⟨n,rfl⟩:∃ n:Nat,x=n:=⟨x.toNat,by omega⟩
 exact markText_ev n (by omega)
theorem dmS_l0 (xs:List ByteArray) (hlen:xs.length<=1048576):∀ n i:Nat,i+n=xs.length->∀ z:Int,0<=z->z+n<=1099511627776->Ev (fun k=>Z44.l0 k xs z i) (xs,z+n)
 | 0,i,h,z,h0,h1=>by
  refine Ev.step (fun k=>by rw [Z44.l0]) ?_
  simp (disch:=omega) only [cneg]
  exact (Ev.pure _).eq (by simp)
 | n+1,i,h,z,h0,h1=>by
  have hi:i<xs.length:=by omega
  refine Ev.step (fun k=>by rw [Z44.l0]) ?_
  simp (disch:=omega) only [cpos]
  obtain ⟨r,hr⟩:=mtI z h0 (by omega)
  refine Ev.bind hr ?_
  simp (disch:=omega) only [wrap_in]
  refine (dmS_l0 xs hlen n (i+1) (by omega) (z+1) (by omega) (by omega)).eq ?_
  rw [show z+1+(n:Int)=z+((n+1:Nat):Int) by omega]
theorem dmS_ev (xs:List ByteArray) (hlen:xs.length<=1048576) (z:Int) (h0:0<=z) (h1:z+xs.length<=1099511627776):Ev (fun k=>Z44.F k xs z) (z+xs.length):=by
 unfold Z44.F
 exact Ev.bind (dmS_l0 xs hlen xs.length 0 (by omega) z h0 h1) (Ev.pure _)
def cntN (n:Name):Nat:=n.given.length+3
def cntNs (xs:List Name):Nat:=(xs.map cntN).sum
theorem cntNs_drop {xs:List Name} {i:Nat} (hi:i<xs.length):cntNs (xs.drop i)=cntN xs[i]+cntNs (xs.drop (i+1)):=by
 unfold cntNs
 rw [List.drop_eq_getElem_cons hi,List.map_cons,List.sum_cons]
theorem dmN_l0 (xs:List Name) (hs:∀ x ∈ xs,smallN x) (hlen:xs.length<=1048576):∀ n i:Nat,i+n=xs.length->∀ z:Int,0<=z->z+cntNs (xs.drop i)<=1099511627776->Ev (fun k=>Z38.l0 k xs z i) (xs,z+cntNs (xs.drop i))
 | 0,i,h,z,h0,h1=>by
  refine Ev.step (fun k=>by rw [Z38.l0]) ?_
  simp (disch:=omega) only [cneg]
  refine (Ev.pure _).eq ?_
  rw [List.drop_eq_nil_of_le (by omega)]
  simp [cntNs]
 | n+1,i,h,z,h0,h1=>by
  have hi:i<xs.length:=by omega
  have hd:=cntNs_drop hi
  rw [hd] at h1 ⊢
  unfold cntN at h1 ⊢
  have hg:xs[i].given.length<=1048576:=by have:=hs _ (List.getElem_mem hi); unfold smallN totN at this; omega
  refine Ev.step (fun k=>by rw [Z38.l0]) ?_
  simp (disch:=omega) only [cpos,Int.toNat_natCast,getD_at hi]
  refine Ev.bind (dmS_ev xs[i].given hg z h0 (by omega)) ?_
  obtain ⟨r1,e1⟩:=mtI (z+xs[i].given.length) (by omega) (by omega)
  obtain ⟨r2,e2⟩:=mtI (z+xs[i].given.length+1) (by omega) (by omega)
  obtain ⟨r3,e3⟩:=mtI (z+xs[i].given.length+1+1) (by omega) (by omega)
  simp (disch:=omega) only [wrap_in]
  refine Ev.bind e1 (Ev.bind e2 (Ev.bind e3 ?_))
  refine (dmN_l0 xs hs hlen n (i+1) (by omega) (z+xs[i].given.length+1+1+1) (by omega) (by omega)).eq ?_
  rw [show z+(xs[i].given.length:Int)+1+1+1+(cntNs (xs.drop (i+1)):Int)=z+((xs[i].given.length+3+cntNs (xs.drop (i+1)):Nat):Int) by omega]
theorem dmN_ev (xs:List Name) (hs:∀ x ∈ xs,smallN x) (hlen:xs.length<=1048576) (z:Int) (h0:0<=z) (h1:z+cntNs xs<=1099511627776):Ev (fun k=>Z38.F k xs z) (z+cntNs xs):=by
 unfold Z38.F
 exact Ev.bind (dmN_l0 xs hs hlen xs.length 0 (by omega) z h0 (by simpa using h1)) ((Ev.pure _).eq (by simp))
def cntE (e:Entry):Nat:=cntNs e.authors+cntNs e.editors+12
def cntEs (xs:List Entry):Nat:=(xs.map cntE).sum
theorem cntEs_drop {xs:List Entry} {i:Nat} (hi:i<xs.length):cntEs (xs.drop i)=cntE xs[i]+cntEs (xs.drop (i+1)):=by
 unfold cntEs
 rw [List.drop_eq_getElem_cons hi,List.map_cons,List.sum_cons]
theorem cntNs_le:∀ xs:List Name,cntNs xs<=3 * totNs xs
 | []=>by simp [cntNs,totNs]
 | x :: xs=>by
  have:=cntNs_le xs
  unfold cntNs totNs at *
  simp only [List.map_cons,List.sum_cons,List.length_cons]
  have h1:cntN x<=totN x+3:=by unfold cntN totN; omega
  omega
theorem cntEs_le:∀ xs:List Entry,cntEs xs<=12 * totEs xs
 | []=>by simp [cntEs,totEs]
 | x :: xs=>by
  have:=cntEs_le xs
  unfold cntEs totEs at *
  simp only [List.map_cons,List.sum_cons,List.length_cons]
  have h1:cntE x<=3 * totE x+12:=by
   have:=cntNs_le x.authors
   have:=cntNs_le x.editors
   unfold cntE totE
   omega
  omega
theorem dmE_l0 (xs:List Entry) (hs:∀ x ∈ xs,smallE x) (hlen:xs.length<=1048576):∀ n i:Nat,i+n=xs.length->∀ z:Int,0<=z->z+cntEs (xs.drop i)<=1099511627776->Ev (fun k=>Z48.l0 k xs z i) (xs,z+cntEs (xs.drop i))
 | 0,i,h,z,h0,h1=>by
  refine Ev.step (fun k=>by rw [Z48.l0]) ?_
  simp (disch:=omega) only [cneg]
  refine (Ev.pure _).eq ?_
  rw [List.drop_eq_nil_of_le (by omega)]
  simp [cntEs]
 | n+1,i,h,z,h0,h1=>by
  have hi:i<xs.length:=by omega
  have hd:=cntEs_drop hi
  rw [hd] at h1 ⊢
  unfold cntE at h1 ⊢
  have hsm:=hs _ (List.getElem_mem hi)
  have ha:=smallE_a hsm
  have he:=smallE_e hsm
  refine Ev.step (fun k=>by rw [Z48.l0]) ?_
  obtain ⟨r1,e1⟩:=mtI z (by omega) (by omega)
  simp (disch:=omega) only [cpos]
  refine Ev.bind e1 ?_
  simp (disch:=omega) only [cpos,Int.toNat_natCast,getD_at hi,wrap_in]
  refine Ev.bind (dmN_ev xs[i].authors (fun x hx=>smallNs_at ha hx) (smallNs_len ha) (z+1+1) (by omega) (by omega)) ?_
  refine Ev.bind (dmN_ev xs[i].editors (fun x hx=>smallNs_at he hx) (smallNs_len he) (z+1+1+cntNs xs[i].authors) (by omega) (by omega)) ?_
  generalize hw:z+1+1+(cntNs xs[i].authors:Int)+(cntNs xs[i].editors:Int)=w
  have h30:((3:Int)==0)=false:=rfl
  obtain ⟨r4,e4⟩:=mtI w (by omega) (by omega)
  obtain ⟨r5,e5⟩:=mtI (w+1) (by omega) (by omega)
  obtain ⟨r6,e6⟩:=mtI (w+1+1) (by omega) (by omega)
  obtain ⟨r7,e7⟩:=mtI (w+1+1+1+1+1+1+1+1) (by omega) (by omega)
  obtain ⟨r8,e8⟩:=mtI (w+1+1+1+1+1+1+1+1+1) (by omega) (by omega)
  simp (disch:=omega) only [wrap_in,h30,cond_false]
  refine Ev.bind e4 (Ev.bind e5 (Ev.bind e6 (Ev.bind e7 (Ev.bind e8 ?_))))
  refine (dmE_l0 xs hs hlen n (i+1) (by omega) (w+1+1+1+1+1+1+1+1+1+1) (by omega) (by omega)).eq ?_
  rw [show w+1+1+1+1+1+1+1+1+1+1+(cntEs (xs.drop (i+1)):Int)=z+((cntNs xs[i].authors+cntNs xs[i].editors+12+cntEs (xs.drop (i+1)):Nat):Int) by omega]
theorem dmL_ev (l:Library) (hs:smallL l):EvP (fun k=>Z101.F k l 1) fun r=>0<=r:=by
 have h1:=cntEs_le l.entries
 have h2:totEs l.entries<=1048576:=hs
 unfold Z101.F Z48.F
 refine ⟨1+cntEs l.entries,Ev.bind (Ev.bind (dmE_l0 l.entries (fun x hx=>smallL_at hs hx) (smallL_len hs) l.entries.length 0 (by omega) 1 (by omega) (by simp; omega)) ((Ev.pure _).eq (by simp))) (Ev.pure _),by omega⟩
end Go.Proofs.YtoojiikgbopeiaaGreatDoor
end
section
/- Marks of trees: what they hold then,and that it is held. -/
namespace Go.Proofs.YtoojiikgbopeiaaGreatDoor
open Go.Gx
theorem set_mid {α:Type} (pre:List α) (e y:α) (xs:List α):(pre++e :: xs).set pre.length y=pre++y :: xs:=by simp
theorem getD_mid {α:Type} (pre:List α) (e d:α) (xs:List α):(pre++e :: xs).getD pre.length d=e:=by simp [List.getD]
theorem app_one {α:Type} (pre:List α) (y:α) (xs:List α):pre++y :: xs=(pre++[y])++xs:=by simp
theorem len_one {α:Type} (pre:List α) (y:α):(pre.length:Int)+1=((pre++[y]).length:Int):=by simp
theorem beqS_id (s:ByteArray):beqS s s=true:=by simp [beqS]
noncomputable def mtZ (z:Int):ByteArray:=mt z.toNat
theorem mtZ_ev {z:Int} (h0:0<=z) (h1:z<=1099511627776):Ev (fun k=>Z6.F k z) (mtZ z):=by
 have h:=mt_ev z.toNat (by omega)
 rw [show ((z.toNat:Nat):Int)=z by omega] at h
 exact h
noncomputable def mkS:List ByteArray->Int->List ByteArray
 | [],_=>[]
 | _ :: xs,z=>mtZ z :: mkS xs (z+1)
theorem xS_l0:∀ (xs pre:List ByteArray) (z:Int),pre.length+xs.length<=1048576->0<=z->z+xs.length<=1099511627776->Ev (fun k=>Z45.l0 k (pre++xs) z pre.length) (pre++mkS xs z,z+xs.length)
 | [],pre,z,h,h0,h1=>by
  refine Ev.step (fun k=>by rw [Z45.l0]) ?_
  simp (disch:=omega) only [List.append_nil,cneg]
  exact (Ev.pure _).eq (by simp [mkS])
 | x :: xs,pre,z,h,h0,h1=>by
  simp only [List.length_cons] at h h1
  refine Ev.step (fun k=>by rw [Z45.l0]) ?_
  simp (disch:=omega) only [List.length_append,List.length_cons,cpos]
  refine Ev.bind (mtZ_ev h0 (by omega)) (Ev.bind (Ev.pure _) ?_)
  simp (disch:=omega) only [Int.toNat_natCast,set_mid,wrap_in]
  rw [app_one,len_one pre (mtZ z)]
  refine (xS_l0 xs (pre++[mtZ z]) (z+1) (by simp; omega) (by omega) (by omega)).eq ?_
  simp only [mkS,List.append_assoc,List.singleton_append,List.length_cons]
  congr 1; omega
theorem xS_ev (xs:List ByteArray) (z:Int) (h:xs.length<=1048576) (h0:0<=z) (h1:z+xs.length<=1099511627776):Ev (fun k=>Z45.F k xs z) (mkS xs z,z+xs.length):=by
 unfold Z45.F
 exact Ev.bind (xS_l0 xs [] z (by simpa using h) h0 h1) ((Ev.pure _).eq (by simp))
theorem hS_l0:∀ (xs pre:List ByteArray) (z:Int),pre.length+xs.length<=1048576->0<=z->z+xs.length<=1099511627776->Ev (fun k=>Z34.l0 k (pre++mkS xs z) z pre.length) (.inr (z+xs.length))
 | [],pre,z,h,h0,h1=>by
  refine Ev.step (fun k=>by rw [Z34.l0]) ?_
  simp (disch:=omega) only [mkS,List.append_nil,cneg]
  exact (Ev.pure _).eq (by simp)
 | x :: xs,pre,z,h,h0,h1=>by
  simp only [List.length_cons] at h h1
  refine Ev.step (fun k=>by rw [Z34.l0]) ?_
  simp (disch:=omega) only [mkS,List.length_append,List.length_cons,cpos,Int.toNat_natCast,getD_mid]
  refine Ev.bind (mtZ_ev h0 (by omega)) ?_
  simp (disch:=omega) only [beqS_id,Bool.not_true,cond_false,wrap_in]
  rw [app_one,len_one pre (mtZ z)]
  refine (hS_l0 xs (pre++[mtZ z]) (z+1) (by simp; omega) (by omega) (by omega)).eq ?_
  congr 1; push_cast [List.length_cons]; omega
theorem hS_ev (xs:List ByteArray) (z:Int) (h:xs.length<=1048576) (h0:0<=z) (h1:z+xs.length<=1099511627776):Ev (fun k=>Z34.F k (mkS xs z) z) (z+xs.length):=by
 unfold Z34.F
 exact Ev.bind (hS_l0 xs [] z (by simpa using h) h0 h1) (Ev.pure _)
def cntSS (xs:List (List ByteArray)):Nat:=(xs.map List.length).sum
noncomputable def mkSS:List (List ByteArray)->Int->List (List ByteArray)
 | [],_=>[]
 | x :: xs,z=>mkS x z :: mkSS xs (z+x.length)
theorem cntSS_cons (x:List ByteArray) (xs:List (List ByteArray)):(cntSS (x :: xs):Int)=x.length+cntSS xs:=by
 simp only [cntSS,List.map_cons,List.sum_cons]; omega
theorem xSS_l0:∀ (xs pre:List (List ByteArray)) (z:Int),pre.length+xs.length<=1048576->cntSS xs<=1048576->0<=z->z+cntSS xs<=1099511627776->Ev (fun k=>Z46.l0 k (pre++xs) z pre.length) (pre++mkSS xs z,z+cntSS xs)
 | [],pre,z,h,hc,h0,h1=>by
  refine Ev.step (fun k=>by rw [Z46.l0]) ?_
  simp (disch:=omega) only [List.append_nil,cneg]
  exact (Ev.pure _).eq (by simp [mkSS,cntSS])
 | x :: xs,pre,z,h,hc,h0,h1=>by
  have hc':=cntSS_cons x xs
  rw [hc'] at h1
  simp only [List.length_cons] at h
  refine Ev.step (fun k=>by rw [Z46.l0]) ?_
  simp (disch:=omega) only [List.length_append,List.length_cons,cpos,Int.toNat_natCast,getD_mid]
  refine Ev.bind (xS_ev x z (by omega) h0 (by omega)) (Ev.bind (Ev.pure _) ?_)
  simp (disch:=omega) only [set_mid,wrap_in]
  rw [app_one,len_one pre (mkS x z)]
  refine (xSS_l0 xs (pre++[mkS x z]) (z+x.length) (by simp; omega) (by omega) (by omega) (by omega)).eq ?_
  simp only [mkSS,List.append_assoc,List.singleton_append,hc']
  congr 1; omega
theorem hSS_l0:∀ (xs pre:List (List ByteArray)) (z:Int),pre.length+xs.length<=1048576->cntSS xs<=1048576->0<=z->z+cntSS xs<=1099511627776->Ev (fun k=>Z28.l0 k (pre++mkSS xs z) z pre.length) (.inr (z+cntSS xs))
 | [],pre,z,h,hc,h0,h1=>by
  refine Ev.step (fun k=>by rw [Z28.l0]) ?_
  simp (disch:=omega) only [mkSS,List.append_nil,cneg]
  exact (Ev.pure _).eq (by simp [cntSS])
 | x :: xs,pre,z,h,hc,h0,h1=>by
  have hc':=cntSS_cons x xs
  rw [hc'] at h1
  simp only [List.length_cons] at h
  refine Ev.step (fun k=>by rw [Z28.l0]) ?_
  simp (disch:=omega) only [mkSS,List.length_append,List.length_cons,cpos,Int.toNat_natCast,getD_mid]
  refine Ev.bind (hS_ev x z (by omega) h0 (by omega)) ?_
  simp (disch:=omega) only [cneg,wrap_in]
  rw [app_one,len_one pre (mkS x z)]
  refine (hSS_l0 xs (pre++[mkS x z]) (z+x.length) (by simp; omega) (by omega) (by omega) (by omega)).eq ?_
  rw [hc']
  congr 1; omega
theorem xSS_ev (xs:List (List ByteArray)) (h:xs.length<=1048576) (hc:cntSS xs<=1048576):∃ ys,∃ m:Int,0<=m/\Ev (fun k=>Z46.F k xs 1) (ys,m)/\Ev (fun k=>Z28.F k ys 1) m:=by
 refine ⟨mkSS xs 1,1+cntSS xs,by omega,?_,?_⟩
 ·unfold Z46.F
  exact Ev.bind (xSS_l0 xs [] 1 (by simpa using h) hc (by omega) (by omega)) ((Ev.pure _).eq (by simp))
 ·unfold Z28.F
  exact Ev.bind (hSS_l0 xs [] 1 (by simpa using h) hc (by omega) (by omega)) (Ev.pure _)
end Go.Proofs.YtoojiikgbopeiaaGreatDoor
end
section
/- Plain laws: lists of lists of texts. -/
namespace Go.Proofs.YtoojiikgbopeiaaGreatDoor
open Go.Gx
theorem room_ss {n:Nat} (h:n<=8192):room n (.sl .str)=true:=by
 have h2:nb (.sl .str)<=1000:=by decide
 have h3:n * nb (.sl .str)<=8192 * 1000:=Nat.mul_le_mul h h2
 exact Nat.ble_eq_true_of_le (Nat.le_trans h3 (by decide))
theorem eqSS_l0 (xs:List (List ByteArray)) (hlen:xs.length<=1048576) (hx:∀ x ∈ xs,x.length<=1048576):∀ n i:Nat,i+n=xs.length->Ev (fun k=>Z25.l0 k xs xs i) (.inr ())
 | 0,i,h=>by
  refine Ev.step (fun k=>by rw [Z25.l0]) ?_
  simp (disch:=omega) only [cneg]
  exact Ev.pure _
 | n+1,i,h=>by
  have hi:i<xs.length:=by omega
  refine Ev.step (fun k=>by rw [Z25.l0]) ?_
  simp (disch:=omega) only [cpos,Int.toNat_natCast,getD_at hi]
  refine Ev.bind (eqS_ev _ (hx _ (List.getElem_mem hi))) ?_
  simp (disch:=omega) only [Bool.not_true,cond_false,wrap_in]
  exact eqSS_l0 xs hlen hx n (i+1) (by omega)
theorem eqSS_ev (xs:List (List ByteArray)) (hlen:xs.length<=1048576) (hx:∀ x ∈ xs,x.length<=1048576):Ev (fun k=>Z25.F k xs xs) true:=by
 unfold Z25.F
 simp (disch:=omega) only [cbeq]
 exact Ev.bind (eqSS_l0 xs hlen hx xs.length 0 (by omega)) (Ev.pure _)
theorem cntSS_le:∀ xs:List (List ByteArray),(∀ x ∈ xs,x.length<=8)->cntSS xs<=8 * xs.length
 | [],_=>by simp [cntSS]
 | x :: xs,h=>by
  have h1:=h x List.mem_cons_self
  have h2:=cntSS_le xs fun y hy=>h y (List.mem_cons_of_mem _ hy)
  simp only [cntSS,List.map_cons,List.sum_cons,List.length_cons] at h2 ⊢
  omega
end Go.Proofs.YtoojiikgbopeiaaGreatDoor
end
section
/- Groups: what is connected; labels; ascending lists. No program in sight. -/
namespace Go.Proofs.YtoojiikgbopeiaaGreatDoor
open Go.Gx
inductive Cn (n:Nat) (R:Nat->Nat->Bool):Nat->Nat->Prop
 | refl {i:Nat}:i<n->Cn n R i i
 | step {i j k:Nat}:Cn n R i j->k<n->R j k=true->Cn n R i k
theorem Cn.lt {n:Nat} {R:Nat->Nat->Bool} {i j:Nat} (h:Cn n R i j):i<n/\j<n:=by
 induction h with
 | refl h=>exact ⟨h,h⟩
 | step _ hk _ ih=>exact ⟨ih.1,hk⟩
theorem Cn.trans {n:Nat} {R:Nat->Nat->Bool} {i j k:Nat} (h:Cn n R i j) (h':Cn n R j k):Cn n R i k:=by
 induction h' with
 | refl _=>exact h
 | step _ hk hr ih=>exact .step ih hk hr
theorem Cn.symm {n:Nat} {R:Nat->Nat->Bool} (hR:∀ i j,R i j=R j i) {i j:Nat} (h:Cn n R i j):Cn n R j i:=by
 induction h with
 | refl h=>exact .refl h
 | step h hk hr ih=>exact Cn.trans (.step (.refl hk) h.lt.2 ((hR _ _).trans hr)) ih
abbrev Asc (l:List Int):Prop:=l.Pairwise (· < ·)
theorem asc_eq:∀ {l m:List Int},Asc l->Asc m->(∀ x,x ∈ l ↔ x ∈ m)->l=m
 | [],[],_,_,_=>rfl
 | [],y :: m,_,_,h=>absurd ((h y).2 List.mem_cons_self) (by simp)
 | x :: l,[],_,_,h=>absurd ((h x).1 List.mem_cons_self) (by simp)
 | x :: l,y :: m,hl,hm,h=>by
  replace hl:=List.pairwise_cons.1 hl
  replace hm:=List.pairwise_cons.1 hm
  have e:x=y:=by
   have h1:=(h x).1 List.mem_cons_self
   have h2:=(h y).2 List.mem_cons_self
   rcases List.mem_cons.1 h1 with h1 | h1
   ·exact h1
   ·rcases List.mem_cons.1 h2 with h2 | h2
    ·exact h2.symm
    ·have:=hm.1 x h1
     have:=hl.1 y h2
     omega
  subst e
  rw [asc_eq hl.2 hm.2 fun z=> ?_]
  have:=h z
  rw [List.mem_cons,List.mem_cons] at this
  constructor
  ·intro hz
   rcases this.1 (.inr hz) with rfl | h'
   ·have:=hl.1 z hz; omega
   ·exact h'
  ·intro hz
   rcases this.2 (.inr hz) with rfl | h'
   ·have:=hm.1 z hz; omega
   ·exact h'
theorem asc_head {x:Int} {l:List Int} (h:Asc (x :: l)) {y:Int} (hy:y ∈ x :: l):x<=y:=by
 replace h:=List.pairwise_cons.1 h
 rcases List.mem_cons.1 hy with rfl | hy
 ·omega
 ·have:=h.1 y hy; omega
def nums (i:Nat):Nat->List Int
 | 0=>[]
 | m+1=>(i:Int) :: nums (i+1) m
theorem nums_mem:∀ {m i:Nat} {x:Int},x ∈ nums i m ↔ (i:Int)<=x/\x<i+m
 | 0,i,x=>by simp only [nums,List.not_mem_nil,false_iff]; omega
 | m+1,i,x=>by
  rw [nums,List.mem_cons,nums_mem]
  omega
theorem nums_asc:∀ m i:Nat,Asc (nums i m)
 | 0,i=> .nil
 | m+1,i=> .cons (fun x hx=>by have:=nums_mem.1 hx; omega) (nums_asc m (i+1))
theorem sum_set:∀ (l:List Int) (i:Nat) (x:Int),i<l.length->(l.set i x).sum=l.sum-l.getD i 0+x
 | [],i,x,h=>absurd h (by simp)
 | y :: l,0,x,h=>by simp; omega
 | y :: l,i+1,x,h=>by
  have:=sum_set l i x (by simpa using h)
  simp only [List.set_cons_succ,List.sum_cons,this]
  simp
  omega
theorem getD_set (l:List Int) (i j:Nat) (x:Int) (h:i<l.length):(l.set i x).getD j 0=if i=j then x else l.getD j 0:=by
 rw [List.getD_eq_getElem?_getD,List.getElem?_set]
 by_cases e:i=j
 ·rw [if_pos e,if_pos e,if_pos h]; rfl
 ·rw [if_neg e,if_neg e,List.getD_eq_getElem?_getD]
structure Lab (n:Nat) (R:Nat->Nat->Bool) (l:List Int):Prop where
 len:l.length=n
 lo:∀ i,i<n->0<=l.getD i 0/\l.getD i 0<=i
 con:∀ i,i<n->Cn n R (l.getD i 0).toNat i
theorem sum_pos:∀ l:List Int,(∀ i,i<l.length->0<=l.getD i 0)->0<=l.sum
 | [],_=>by simp
 | x :: l,h=>by
  have h0:=h 0 (by simp)
  have h1:=sum_pos l fun i hi=>by have:=h (i+1) (by simpa using hi); simpa using this
  simp only [List.sum_cons]
  have h0:0<=x:=by simpa using h0
  omega
theorem Lab.sum {n:Nat} {R:Nat->Nat->Bool} {l:List Int} (h:Lab n R l):0<=l.sum:=sum_pos l fun i hi=>(h.lo i (h.len ▸ hi)).1
theorem Lab.join {n:Nat} {R:Nat->Nat->Bool} {l:List Int} (h:Lab n R l) (hR:∀ i j,R i j=R j i) {i k:Nat} (hi:i<n) (hk:k<i) (hr:R k i=true) (hne:l.getD i 0 ≠ l.getD k 0) {z:Int} (hz:z=if l.getD i 0<l.getD k 0 then l.getD i 0 else l.getD k 0) :
  Lab n R ((l.set i z).set k z)/\((l.set i z).set k z).sum<l.sum:=by
 have hlen:=h.len
 have hi':i<l.length:=by omega
 have hk':k<(l.set i z).length:=by rw [List.length_set]; omega
 have hget:∀ j,((l.set i z).set k z).getD j 0=if k=j then z else if i=j then z else l.getD j 0:=fun j=>by rw [getD_set _ _ _ _ hk',getD_set _ _ _ _ hi']
 have li:=h.lo i hi
 have lk:=h.lo k (by omega)
 have ci:=h.con i hi
 have ck:=h.con k (by omega)
 have cik:Cn n R i k:=.step (.refl hi) (by omega) ((hR i k).trans hr)
 have cki:Cn n R k i:=.step (.refl (by omega)) hi hr
 refine ⟨⟨by simp [hlen],fun j hj=> ?_,fun j hj=> ?_⟩,?_⟩
 ·rw [hget]
  by_cases e1:k=j
  ·rw [if_pos e1,hz]; split <;> omega
  ·by_cases e2:i=j
   ·rw [if_neg e1,if_pos e2,hz]; split <;> omega
   ·rw [if_neg e1,if_neg e2]; exact h.lo j hj
 ·rw [hget]
  by_cases e1:k=j
  ·rw [if_pos e1,hz,<- e1]
   split
   ·exact ci.trans cik
   ·exact ck
  ·by_cases e2:i=j
   ·rw [if_neg e1,if_pos e2,hz,<- e2]
    split
    ·exact ci
    ·exact ck.trans cki
   ·rw [if_neg e1,if_neg e2]; exact h.con j hj
 ·rw [sum_set _ _ _ hk',sum_set _ _ _ hi',getD_set _ _ _ _ hi',if_neg (by omega),hz]
  split <;> omega
structure Rest (n:Nat) (R:Nat->Nat->Bool) (l:List Int):Prop extends Lab n R l where
 eq:∀ i k,i<n->k<i->R k i=true->l.getD i 0=l.getD k 0
theorem Rest.con_eq {n:Nat} {R:Nat->Nat->Bool} {l:List Int} (h:Rest n R l) (hR:∀ i j,R i j=R j i) {i j:Nat} (c:Cn n R i j):l.getD i 0=l.getD j 0:=by
 induction c with
 | refl _=>rfl
 | @step j k c hk hr ih=>
  rw [ih]
  rcases Nat.lt_trichotomy j k with hlt | rfl | hlt
  ·exact (h.eq k j hk hlt hr).symm
  ·rfl
  ·exact h.eq j k c.lt.2 hlt ((hR k j).trans hr)
theorem Rest.low {n:Nat} {R:Nat->Nat->Bool} {l:List Int} (h:Rest n R l) (hR:∀ i j,R i j=R j i) {i:Nat} (hi:i<n):l.getD (l.getD i 0).toNat 0=l.getD i 0:=h.con_eq hR (h.con i hi)
theorem Rest.cn_iff {n:Nat} {R:Nat->Nat->Bool} {l:List Int} (h:Rest n R l) (hR:∀ i j,R i j=R j i) {i j:Nat} (hi:i<n) (hj:j<n):Cn n R i j ↔ l.getD j 0=l.getD i 0 :=
 ⟨fun c=>(h.con_eq hR c).symm,fun e=>by
  have h1:=h.con i hi
  have h2:=h.con j hj
  rw [e] at h2
  exact (h1.symm hR).trans h2⟩
def posI (x:Int) (out:List Int):Nat->Nat
 | 0=>0
 | k+1=>bif decide (x<out.getD k 0) then posI x out k else k+1
theorem posI_le (x:Int) (out:List Int):∀ k,posI x out k<=k
 | 0=>Nat.le_refl _
 | k+1=>by
  have:=posI_le x out k
  unfold posI
  cases decide (x<out.getD k 0) <;> simp only [cond_true,cond_false] <;> omega
theorem posI_hi (x:Int) (out:List Int):∀ k j,posI x out k<=j->j<k->x<out.getD j 0
 | 0,j,_,h=>by omega
 | k+1,j,h,h'=>by
  unfold posI at h
  cases hd:decide (x<out.getD k 0) with
  | false=>rw [hd,cond_false] at h; omega
  | true=>
   rw [hd,cond_true] at h
   by_cases e:j=k
   ·subst e; exact of_decide_eq_true hd
   ·exact posI_hi x out k j h (by omega)
theorem posI_lo (x:Int) (out:List Int):∀ k,0<posI x out k->¬ x<out.getD (posI x out k-1) 0
 | 0,h=>by simp [posI] at h
 | k+1,h=>by
  unfold posI at h ⊢
  cases hd:decide (x<out.getD k 0) with
  | false=>
   rw [cond_false,Nat.add_sub_cancel]
   exact of_decide_eq_false hd
  | true=>
   rw [hd,cond_true] at h
   rw [cond_true]
   exact posI_lo x out k h
def insG (out:List Int) (x:Int):List Int:=out.take (posI x out out.length)++x :: out.drop (posI x out out.length)
theorem insG_len (out:List Int) (x:Int):(insG out x).length=out.length+1:=by
 have:=posI_le x out out.length
 unfold insG
 simp only [List.length_append,List.length_take,List.length_cons,List.length_drop]
 omega
theorem insG_mem {out:List Int} {x y:Int}:y ∈ insG out x ↔ y=x\/y ∈ out:=by
 unfold insG
 have:y ∈ out ↔ y ∈ out.take (posI x out out.length)\/y ∈ out.drop (posI x out out.length):=by
  rw [<- List.mem_append,List.take_append_drop]
 rw [this]
 simp only [List.mem_append,List.mem_cons]
 constructor
 ·rintro (h | h | h)
  ·exact .inr (.inl h)
  ·exact .inl h
  ·exact .inr (.inr h)
 ·rintro (h | h | h)
  ·exact .inr (.inl h)
  ·exact .inl h
  ·exact .inr (.inr h)
theorem asc_le {l:List Int} (h:Asc l) {i j:Nat} (hij:i<j) (hj:j<l.length):l.getD i 0<l.getD j 0:=by
 have:=List.pairwise_iff_getElem.1 h i j (by omega) hj hij
 simpa [List.getD,hj,show i<l.length by omega] using this
theorem insG_asc {out:List Int} {x:Int} (h:Asc out) (hx:x ∉ out):Asc (insG out x):=by
 have hp:=posI_le x out out.length
 have mem_get:∀ {y:Int} {l:List Int},y ∈ l->∃ j,j<l.length/\l.getD j 0=y:=fun {y l} hy=>by
  obtain ⟨j,hj,e⟩:=List.getElem_of_mem hy
  exact ⟨j,hj,by simp [List.getD,hj,e]⟩
 have hlo:∀ y ∈ out.take (posI x out out.length),y<x:=fun y hy=>by
  obtain ⟨j,hj,e⟩:=mem_get hy
  rw [List.length_take] at hj
  have e2:out.getD j 0=y:=by
   rw [<- e,List.getD_eq_getElem?_getD,List.getD_eq_getElem?_getD,List.getElem?_take,if_pos (by omega)]
  have h1:=posI_lo x out out.length (by omega)
  have hne:x ≠ y:=fun e3=>hx (e3 ▸ List.mem_of_mem_take hy)
  by_cases e4:j=posI x out out.length-1
  ·rw [<- e4,e2] at h1; omega
  ·have:=asc_le h (i:=j) (j:=posI x out out.length-1) (by omega) (by omega)
   omega
 have hhi:∀ y ∈ out.drop (posI x out out.length),x<y:=fun y hy=>by
  obtain ⟨j,hj,e⟩:=mem_get hy
  rw [List.length_drop] at hj
  have e2:out.getD (posI x out out.length+j) 0=y:=by
   rw [<- e,List.getD_eq_getElem?_getD,List.getD_eq_getElem?_getD,List.getElem?_drop]
  rw [<- e2]
  exact posI_hi x out out.length _ (by omega) (by omega)
 unfold insG
 refine List.pairwise_append.2 ⟨h.sublist (List.take_sublist _ _),List.pairwise_cons.2 ⟨hhi,h.sublist (List.drop_sublist _ _)⟩,fun a ha b hb=> ?_⟩
 have h1:=hlo a ha
 rcases List.mem_cons.1 hb with rfl | hb
 ·exact h1
 ·have:=hhi b hb; omega
theorem foldI:∀ (xs out:List Int),Asc out->(out++xs).Nodup->Asc (xs.foldl insG out)/\(xs.foldl insG out).length=out.length+xs.length/\∀ y,y ∈ xs.foldl insG out ↔ y ∈ out\/y ∈ xs
 | [],out,h,_=>⟨h,rfl,fun y=>by simp⟩
 | x :: xs,out,h,hn=>by
  have hx:x ∉ out:=fun hm=>(List.nodup_append.1 hn).2.2 x hm x List.mem_cons_self rfl
  have hn':(insG out x++xs).Nodup:=by
   have h1:=List.nodup_append.1 hn
   have h2:=List.nodup_cons.1 h1.2.1
   refine List.nodup_append.2 ⟨?_,h2.2,fun a ha b hb e=> ?_⟩
   ·exact (insG_asc h hx).imp fun {a b} hab=>by omega
   ·rcases insG_mem.1 ha with rfl | ha
    ·exact h2.1 (e ▸ hb)
    ·exact h1.2.2 a ha b (List.mem_cons_of_mem _ hb) e
  obtain ⟨k1,k2,k3⟩:=foldI xs (insG out x) (insG_asc h hx) hn'
  refine ⟨k1,by rw [List.foldl_cons,k2,insG_len,List.length_cons]; omega,fun y=> ?_⟩
  rw [List.foldl_cons,k3,insG_mem,List.mem_cons]
  constructor
  ·rintro ((h | h) | h)
   ·exact .inr (.inl h)
   ·exact .inl h
   ·exact .inr (.inr h)
  ·rintro (h | h | h)
   ·exact .inl (.inr h)
   ·exact .inl (.inl h)
   ·exact .inr h
def atI (x:Int) (out rest:List Int) (j:Nat):List Int:=out.take j++x :: (out.drop j++rest)
theorem atI_split (x:Int) (out rest:List Int) (j:Nat) (h:j<out.length) :
  atI x out rest (j+1)=out.take j++out[j] :: x :: (out.drop (j+1)++rest)/\atI x out rest j=out.take j++x :: out[j] :: (out.drop (j+1)++rest):=by
 unfold atI
 constructor
 ·rw [<- List.take_append_getElem h,List.append_assoc]; rfl
 ·rw [List.drop_eq_getElem_cons h]; rfl
theorem atI_len (x:Int) (out rest:List Int) (j:Nat) (h:j<=out.length):(atI x out rest j).length=out.length+1+rest.length:=by
 unfold atI
 simp only [List.length_append,List.length_take,List.length_cons,List.length_drop]
 omega
theorem atI_get (x:Int) (out rest:List Int) (j:Nat) (h:j<out.length):(atI x out rest (j+1)).getD (j+1) 0=x/\(atI x out rest (j+1)).getD j 0=out[j]:=by
 have hl:(out.take j).length=j:=by rw [List.length_take]; omega
 rw [(atI_split x out rest j h).1]
 constructor
 ·rw [List.getD_eq_getElem?_getD,List.getElem?_append_right (by omega),hl,show j+1-j=1 by omega]; rfl
 ·rw [List.getD_eq_getElem?_getD,List.getElem?_append_right (by omega),hl,Nat.sub_self]; rfl
theorem atI_swap (x:Int) (out rest:List Int) (j:Nat) (h:j<out.length):((atI x out rest (j+1)).set (j+1) out[j]).set j x=atI x out rest j:=by
 have hl:(out.take j).length=j:=by rw [List.length_take]; omega
 rw [(atI_split x out rest j h).1,(atI_split x out rest j h).2,List.set_append_right _ _ (by omega),hl,show j+1-j=1 by omega,List.set_append_right _ _ (by omega),hl,Nat.sub_self]
 rfl
end Go.Proofs.YtoojiikgbopeiaaGreatDoor
end
section
/- The plain law of DuplicateGroups. -/
namespace Go.Proofs.YtoojiikgbopeiaaGreatDoor
open Go.Gx
def agB (a b:Date):Bool:=a.y==0 || (b.y==0 || ((a.y==b.y) && (a.m==0 || (b.m==0 || ((a.m==b.m) && (a.d==b.d || (a.d==0 || b.d==0)))))))
theorem agB_ev (a b:Date):Z90.F a b=some (agB a b)/\Z94.F a b=some (agB a b):=by
 unfold Z90.F Z94.F Z89.F agB
 unfold bne
 cases (a.y==0) <;> cases (b.y==0) <;> cases (a.y==b.y) <;> cases (a.m==b.m) <;> cases (a.m==0) <;> cases (b.m==0) <;> cases (a.d==b.d) <;> cases (a.d==0) <;> exact ⟨rfl,rfl⟩
theorem int_beq_comm (x y:Int):(x==y)=(y==x):=by
 rw [Bool.eq_iff_iff,beq_iff_eq,beq_iff_eq]; exact eq_comm
theorem agB_symm (a b:Date):agB a b=agB b a:=by
 unfold agB
 rw [int_beq_comm b.y a.y,int_beq_comm b.m a.m,int_beq_comm b.d a.d]
 cases (a.y==0) <;> cases (b.y==0) <;> cases (a.y==b.y) <;> cases (a.m==b.m) <;> cases (a.m==0) <;> cases (b.m==0) <;> cases (a.d==b.d) <;> cases (a.d==0) <;> cases (b.d==0) <;> rfl
theorem bytes_comm (s t:ByteArray):beqS s t=beqS t s:=by
 rw [Bool.eq_iff_iff,beqS_iff,beqS_iff]; exact eq_comm
theorem fitB_symm (a b:ByteArray):fitB a b=fitB b a:=by
 unfold fitB
 rw [bytes_comm b a,int_beq_comm (bt b 0) (bt a 0)]
 cases beqS a b <;> cases decide (a.size=1) <;> cases decide (b.size=1) <;> cases (bt a 0==bt b 0) <;> rfl
theorem mayB_symm (a b:Name):mayB a b=mayB b a:=by
 unfold mayB
 rw [bytes_comm b.particle,bytes_comm b.family,bytes_comm b.suffix,Nat.min_comm b.given.length]
 congr 2
 funext i
 unfold mayG
 exact fitB_symm _ _
theorem peopleB_symm (a b:List Name):peopleB a b=peopleB b a:=by
 unfold peopleB
 rw [Nat.min_comm b.length,show decide (b.length=a.length)=decide (a.length=b.length) from decide_eq_decide.2 eq_comm]
 congr 2
 funext i
 unfold peG
 exact mayB_symm _ _
noncomputable def alB (a b:Entry) (lim:Int):Bool:=(a.kind==b.kind) && (peopleB a.authors b.authors && (agB a.date b.date && decide (((dV a.title b.title:Nat):Int)<=lim)))
theorem alB_symm (a b:Entry) (lim:Int):alB a b lim=alB b a lim:=by
 unfold alB
 rw [int_beq_comm,peopleB_symm,agB_symm,dV_symm]
theorem alB_ev (a b:Entry) (lim:Int) (ha:entryB a=true) (hb:entryB b=true):Ev (fun k=>Z72.F k a b lim) (alB a b lim)/\Ev (fun k=>Z64.F k a b lim) (alB a b lim):=by
 obtain ⟨a1,a2⟩:=entryB_parts ha
 obtain ⟨b1,b2⟩:=entryB_parts hb
 have p1:=specPeople_ev _ _ a1 b1
 have p2:=samePeople_ev _ _ a1 b1
 obtain ⟨r1,r2⟩:=agB_ev a.date b.date
 obtain ⟨d1,d2⟩:=distv_ev _ _ (textB_size a2) (textB_size b2)
 unfold Z72.F Z64.F alB
 cases (a.kind==b.kind) with
 | false=>exact ⟨Ev.pure _,Ev.pure _⟩
 | true=>
  simp only [cond_true,Bool.true_and]
  cases hp:peopleB a.authors b.authors with
  | false=>rw [hp] at p1 p2; exact ⟨Ev.bind p1 (Ev.pure _),Ev.bind p2 (Ev.pure _)⟩
  | true=>
   rw [hp] at p1 p2
   cases hr:agB a.date b.date with
   | false=>rw [hr] at r1 r2; exact ⟨Ev.bind p1 (Ev.bind0 r1 (Ev.pure _)),Ev.bind p2 (Ev.bind0 r2 (Ev.pure _))⟩
   | true=>rw [hr] at r1 r2; exact ⟨Ev.bind p1 (Ev.bind0 r1 (Ev.bind d1 (Ev.pure _))),Ev.bind p2 (Ev.bind0 r2 (Ev.bind d2 (Ev.pure _)))⟩
noncomputable def alR (l:Library) (lim:Int) (i k:Nat):Bool:=alB (l.entries.getD i (dflt .entry)) (l.entries.getD k (dflt .entry)) lim
theorem alR_symm (l:Library) (lim:Int) (i k:Nat):alR l lim i k=alR l lim k i:=alB_symm _ _ _
theorem least_eq (a b:Int):Z55.F a b=some (if a<b then a else b):=by
 unfold Z55.F
 by_cases h:a<b
 ·rw [if_pos h,decide_eq_true h]; rfl
 ·rw [if_neg h,decide_eq_false h]; rfl
theorem hasI_l (xs:List Int) (v:Int) (hl:xs.length<=1048576):∀ n i:Nat,i+n=xs.length ->
  ∃ r:Sum Int Unit,Ev (fun k=>Z32.l0 k xs v xs.length i) r/\(v ∈ xs.drop i->∃ z:Int,r = .inl z/\0<=z)/\(v ∉ xs.drop i->r = .inr ())
 | 0,i,h=>by
  have hd:xs.drop i=[]:=List.drop_eq_nil_of_le (by omega)
  rw [hd]
  refine ⟨.inr (),Ev.step (fun k=>by rw [Z32.l0]) ?_,(fun h=>by cases h),fun _=>rfl⟩
  simp (disch:=omega) only [cneg]; exact Ev.pure _
 | n+1,i,h=>by
  have hi:i<xs.length:=by omega
  have hd:xs.drop i=xs[i] :: xs.drop (i+1):=List.drop_eq_getElem_cons hi
  obtain ⟨r,h2,h3,h4⟩:=hasI_l xs v hl n (i+1) (by omega)
  by_cases hv:xs[i]=v
  ·have hm:v ∈ xs.drop i:=by rw [hd,hv]; exact List.mem_cons_self
   refine ⟨.inl i,Ev.step (fun k=>by rw [Z32.l0]) ?_,fun _=>⟨i,rfl,by omega⟩,fun hn=>absurd hm hn⟩
   simp (disch:=omega) only [cpos,Int.toNat_natCast,getD_at hi,ceq]
   exact Ev.pure _
  ·have hm:v ∈ xs.drop i ↔ v ∈ xs.drop (i+1):=by
    rw [hd,List.mem_cons]
    exact ⟨fun h=>h.resolve_left fun e=>hv e.symm,.inr⟩
   refine ⟨r,Ev.step (fun k=>by rw [Z32.l0]) ?_,fun h=>h3 (hm.1 h),fun h=>h4 fun h'=>h (hm.2 h')⟩
   simp (disch:=omega) only [cpos,Int.toNat_natCast,getD_at hi,cne,wrap_in]
   exact h2
theorem hasI_ev (xs:List Int) (v:Int) (hl:xs.length<=1048576):Ev (fun k=>Z69.F k xs v) (decide (v ∈ xs)):=by
 obtain ⟨r,h2,h3,h4⟩:=hasI_l xs v hl xs.length 0 (by omega)
 rw [List.drop_zero] at h3 h4
 unfold Z69.F Z32.F
 by_cases hv:v ∈ xs
 ·obtain ⟨z,rfl,hz⟩:=h3 hv
  rw [decide_eq_true hv]
  refine Ev.bind (a:=z) (Ev.bind h2 (Ev.pure _)) ((Ev.pure _).eq ?_)
  rw [decide_eq_true (by omega)]
 ·obtain rfl:=h4 hv
  rw [decide_eq_false hv]
  exact Ev.bind (a:=-1) (Ev.bind h2 (Ev.pure _)) (Ev.pure _)
section
variable {l:Library} (hl:l.entries.length<=8) (hB:libB l=true) (lim:Int)
set_option linter.unusedSectionVars false
include hl hB
theorem alR_ev {i k:Nat} (hi:i<l.entries.length) (hk:k<l.entries.length):Ev (fun kk=>Z72.F kk l.entries[i] l.entries[k] lim) (alR l lim i k)/\Ev (fun kk=>Z64.F kk l.entries[i] l.entries[k] lim) (alR l lim i k):=by
 unfold alR
 rw [getD_at hi,getD_at hk]
 exact alB_ev _ _ _ (libB_at hB hi) (libB_at hB hk)
theorem dup_l0 (x6:List (List ByteArray)):∀ m i:Nat,i+m=l.entries.length->Ev (fun k=>Z0.l0 k lim l x6 l.entries.length (nums 0 i) i) (lim,l,x6,(l.entries.length:Int),nums 0 l.entries.length)
 | 0,i,h=>by
  refine Ev.step (fun k=>by rw [Z0.l0]) ?_
  simp (disch:=omega) only [cneg]
  rw [show i=l.entries.length by omega]; exact Ev.pure _
 | m+1,i,h=>by
  have hs:∀ i s:Nat,nums s i++[((s+i:Nat):Int)]=nums s (i+1):=by
   intro i
   induction i with
   | zero=>intro s; simp [nums]
   | succ i ih=>intro s; rw [nums,List.cons_append,show s+(i+1)=s+1+i by omega,ih (s+1)]; simp [nums]
  have hn:∀ i s:Nat,(nums s i).length=i:=by
   intro i
   induction i with
   | zero=>intro s; rfl
   | succ i ih=>intro s; simp [nums,ih]
  have h2:=hs i 0
  rw [Nat.zero_add] at h2
  have hr:room ((nums 0 i).length+([(i:Int)]:List Int).length) (.int .i64)=true:=room_i8 (by rw [hn]; simp; omega)
  refine Ev.step (fun k=>by rw [Z0.l0]) ?_
  simp (disch:=omega) only [cpos,hr,cond_true,wrap_in,h2]
  exact dup_l0 x6 m (i+1) (by omega)
theorem dup_l6 (x6:List (List ByteArray)) (i:Nat) (hi:i<l.entries.length):∀ m k:Nat,k+m=i->∀ (lab:List Int) (b:Bool),Lab l.entries.length (alR l lim) lab->(b=false->∀ j,j<k->alR l lim j i=true->lab.getD i 0=lab.getD j 0) ->
  ∃ lab' b',Ev (fun kk=>Z0.l6 kk lim l x6 l.entries.length lab b i k) (lim,l,x6,(l.entries.length:Int),lab',b',(i:Int))/\Lab l.entries.length (alR l lim) lab'/\lab'.sum<=lab.sum/\(b'=true->b=true\/lab'.sum<lab.sum)/\(b'=false->b=false/\lab'=lab/\∀ j,j<i->alR l lim j i=true->lab.getD i 0=lab.getD j 0)
 | 0,k,h,lab,b,hL,hb=>by
  refine ⟨lab,b,Ev.step (fun k=>by rw [Z0.l6]) ?_,hL,Int.le_refl _,fun e=> .inl e,fun e=>⟨e,rfl,fun j hj=>hb e j (by omega)⟩⟩
  simp (disch:=omega) only [cneg]
  exact Ev.pure _
 | m+1,k,h,lab,b,hL,hb=>by
  have hlen:=hL.len
  have hk:k<l.entries.length:=by omega
  by_cases hne:lab.getD i 0=lab.getD k 0
  ·obtain ⟨lab',b',e1,e2,e3,e4,e5⟩:=dup_l6 x6 i hi m (k+1) (by omega) lab b hL (fun e j hj hr=>by
    by_cases ej:j=k
    ·rw [ej]; exact hne
    ·exact hb e j (by omega) hr)
   refine ⟨lab',b',Ev.step (fun k=>by rw [Z0.l6]) ?_,e2,e3,e4,e5⟩
   simp (disch:=omega) only [cpos,Int.toNat_natCast,cbeq,wrap_in]
   exact e1
  ·obtain ⟨r1,_⟩:=alR_ev hl hB lim hk hi
   cases hr:alR l lim k i with
   | false=>
    rw [hr] at r1
    obtain ⟨lab',b',e1,e2,e3,e4,e5⟩:=dup_l6 x6 i hi m (k+1) (by omega) lab b hL (fun e j hj hr'=>by
     by_cases ej:j=k
     ·rw [ej,hr] at hr'; cases hr'
     ·exact hb e j (by omega) hr')
    refine ⟨lab',b',Ev.step (fun k=>by rw [Z0.l6]) ?_,e2,e3,e4,e5⟩
    simp (disch:=omega) only [cpos,Int.toNat_natCast,cbne,getD_at hk,getD_at hi]
    refine Ev.bind r1 ?_
    simp (disch:=omega) only [cond_false,wrap_in]
    exact e1
   | true=>
    rw [hr] at r1
    obtain ⟨j1,j2⟩:=hL.join (alR_symm l lim) hi (by omega:k<i) hr hne rfl
    obtain ⟨lab',b',e1,e2,e3,e4,e5⟩:=dup_l6 x6 i hi m (k+1) (by omega) _ true j1 (fun e=>by cases e)
    refine ⟨lab',b',Ev.step (fun k=>by rw [Z0.l6]) ?_,e2,by omega,fun _=> .inr (by omega),fun e=>by have:=(e5 e).1; cases this⟩
    simp (disch:=omega) only [cpos,Int.toNat_natCast,cbne,getD_at hk,getD_at hi]
    refine Ev.bind r1 ?_
    simp (disch:=omega) only [cpos,cond_true]
    refine Ev.bind0 (least_eq _ _) ?_
    simp (disch:=(try simp only [List.length_set]); omega) only [cpos,wrap_in]
    exact e1
theorem dup_l4 (x6:List (List ByteArray)):∀ m i:Nat,i+m=l.entries.length->∀ (lab:List Int) (b:Bool),Lab l.entries.length (alR l lim) lab->(b=false->∀ i' j,i'<i->j<i'->alR l lim j i'=true->lab.getD i' 0=lab.getD j 0) ->
  ∃ lab' b',Ev (fun kk=>Z0.l4 kk lim l x6 l.entries.length lab b i) (lim,l,x6,(l.entries.length:Int),lab',b')/\Lab l.entries.length (alR l lim) lab'/\lab'.sum<=lab.sum/\(b'=true->b=true\/lab'.sum<lab.sum)/\(b'=false->Rest l.entries.length (alR l lim) lab')
 | 0,i,h,lab,b,hL,hb=>by
  refine ⟨lab,b,Ev.step (fun k=>by rw [Z0.l4]) ?_,hL,Int.le_refl _,fun e=> .inl e,fun e=>⟨hL,fun i' k hi' hk hr=>hb e i' k (by omega) hk hr⟩⟩
  simp (disch:=omega) only [cneg]
  exact Ev.pure _
 | m+1,i,h,lab,b,hL,hb=>by
  obtain ⟨lab1,b1,e1,e2,e3,e4,e5⟩:=dup_l6 hl hB lim x6 i (by omega) i 0 (by omega) lab b hL (fun _ j hj=>absurd hj (by omega))
  obtain ⟨lab',b',f1,f2,f3,f4,f5⟩:=dup_l4 x6 m (i+1) (by omega) lab1 b1 e2 (fun e i' j hi' hj hr=>by
   obtain ⟨g1,g2,g3⟩:=e5 e
   rw [g2]
   by_cases ei:i'=i
   ·subst ei; exact g3 j hj hr
   ·exact hb g1 i' j (by omega) hj hr)
  refine ⟨lab',b',Ev.step (fun k=>by rw [Z0.l4]) ?_,f2,by omega,fun e=> ?_,f5⟩
  ·simp (disch:=omega) only [cpos]
   refine Ev.bind e1 ?_
   simp (disch:=omega) only [wrap_in]
   exact f1
  ·rcases f4 e with f4 | f4
   ·rcases e4 f4 with e4 | e4
    ·exact .inl e4
    ·exact .inr (by omega)
   ·exact .inr (by omega)
theorem dup_l2 (x6:List (List ByteArray)):∀ (s:Nat) (lab:List Int),lab.sum<=s->Lab l.entries.length (alR l lim) lab ->
  ∃ lab',Ev (fun kk=>Z0.l2 kk lim l x6 l.entries.length lab true) (l,x6,(l.entries.length:Int),lab')/\Rest l.entries.length (alR l lim) lab'
 | s,lab,hs,hL=>by
  obtain ⟨lab1,b1,e1,e2,e3,e4,e5⟩:=dup_l4 hl hB lim x6 l.entries.length 0 (by omega) lab false hL (fun _ i' j hi'=>absurd hi' (by omega))
  cases b1 with
  | false=>
   refine ⟨lab1,Ev.step (fun k=>by rw [Z0.l2]) ?_,e5 rfl⟩
   simp only [cond_true]
   refine Ev.bind e1 (Ev.step (fun k=>by rw [Z0.l2]) ?_)
   exact Ev.pure _
  | true=>
   have h1:lab1.sum<lab.sum:=by
    rcases e4 rfl with h | h
    ·cases h
    ·exact h
   have h2:=e2.sum
   obtain ⟨t,rfl⟩:∃ t,s=t+1:=⟨s-1,by omega⟩
   obtain ⟨lab',f1,f2⟩:=dup_l2 x6 t lab1 (by omega) e2
   refine ⟨lab',Ev.step (fun k=>by rw [Z0.l2]) ?_,f2⟩
   simp only [cond_true]
   exact Ev.bind e1 f1
def mem1 (lab:List Int) (i:Nat) (k m:Nat):List Int:=(nums k m).filter fun x=>lab.getD x.toNat 0==(i:Int)
theorem mem1_cons (lab:List Int) (i k m:Nat):mem1 lab i k (m+1)=(bif lab.getD k 0==(i:Int) then [(k:Int)] else [])++mem1 lab i (k+1) m:=by
 unfold mem1
 rw [nums,List.filter_cons,Int.toNat_natCast]
 cases (lab.getD k 0==(i:Int)) <;> rfl
theorem dup_l10 (x6:List (List ByteArray)) (lab:List Int) (hlab:lab.length=l.entries.length) (i:Nat):∀ m k:Nat,k+m=l.entries.length->∀ acc:List ByteArray,acc.length<=k ->
  Ev (fun kk=>Z0.l10 kk l x6 l.entries.length lab i acc k) (l,x6,(l.entries.length:Int),lab,(i:Int),acc++(mem1 lab i k m).map (kAt l))
 | 0,k,h,acc,ha=>by
  refine Ev.step (fun k=>by rw [Z0.l10]) ?_
  simp (disch:=omega) only [cneg]
  exact (Ev.pure _).eq (by simp [mem1,nums])
 | m+1,k,h,acc,ha=>by
  have hk:k<l.entries.length:=by omega
  rw [mem1_cons hl hB]
  refine Ev.step (fun k=>by rw [Z0.l10]) ?_
  simp (disch:=omega) only [cpos,Int.toNat_natCast,getD_at hk]
  cases hd:(lab.getD k 0==(i:Int)) with
  | false=>
   simp (disch:=omega) only [cond_false,List.nil_append,wrap_in]
   exact dup_l10 x6 lab hlab i m (k+1) (by omega) acc (by omega)
  | true=>
   have hr:∀ z:ByteArray,room (acc.length+([z]:List ByteArray).length) .str=true:=fun z=>room_s (by simp; omega)
   simp (disch:=omega) only [cond_true,hr,wrap_in]
   refine (dup_l10 x6 lab hlab i m (k+1) (by omega) (acc++[l.entries[k].key]) (by simp; omega)).eq ?_
   have e:kAt l k=l.entries[k].key:=by unfold kAt; rw [Int.toNat_natCast,getD_at hk]
   simp only [List.map_append,List.map_cons,List.map_nil,e,List.append_assoc]
theorem grp_l4 (x6:List (List ByteArray)) (i n:Int) (w:Int) (g0:List Int) (at_:Nat) (hat:at_<g0.length) (i0:Nat) (hi0:i0<l.entries.length):∀ m k:Nat,k+m=l.entries.length->∀ t:List Int,(g0++t).Nodup->(∀ x ∈ g0++t,0<=x/\x<l.entries.length/\Cn l.entries.length (alR l lim) i0 x.toNat)->(∀ j:Nat,j<k->alR l lim (g0.getD at_ 0).toNat j=true->(j:Int) ∈ g0++t) ->
  ∃ t',Ev (fun kk=>Z1.l4 kk lim l x6 i (g0++t) at_ n w l.entries l.entries.length k) (lim,l,x6,i,g0++t',(at_:Int),n,w)/\(g0++t').Nodup/\(∀ x ∈ g0++t',0<=x/\x<l.entries.length/\Cn l.entries.length (alR l lim) i0 x.toNat)/\(∀ j:Nat,j<l.entries.length->alR l lim (g0.getD at_ 0).toNat j=true->(j:Int) ∈ g0++t')
 | 0,k,h,t,hn,hm,hd=>by
  refine ⟨t,Ev.step (fun k=>by rw [Z1.l4]) ?_,hn,hm,fun j hj=>hd j (by omega)⟩
  simp (disch:=omega) only [cneg]
  exact Ev.pure _
 | m+1,k,h,t,hn,hm,hd=>by
  have hk:k<l.entries.length:=by omega
  have hlen:=pigeon _ _ hn fun x hx=>⟨(hm x hx).1,(hm x hx).2.1⟩
  have hga:(g0++t).getD at_ 0=g0.getD at_ 0:=by rw [List.getD_eq_getElem?_getD,List.getElem?_append_left hat,<- List.getD_eq_getElem?_getD]
  have hgm:=hm (g0.getD at_ 0) (List.mem_append.2 (.inl (by rw [getD_at hat]; exact List.getElem_mem hat)))
  have hat2:at_<(g0++t).length:=by rw [List.length_append]; omega
  have c2:=hasI_ev (g0++t) k (by omega)
  by_cases hin:(k:Int) ∈ g0++t
  ·rw [decide_eq_true hin] at c2
   obtain ⟨t',e1,e2,e3,e4⟩:=grp_l4 x6 i n w g0 at_ hat i0 hi0 m (k+1) (by omega) t hn hm (fun j hj hr=>by
    by_cases ej:j=k
    ·rw [ej]; exact hin
    ·exact hd j (by omega) hr)
   refine ⟨t',Ev.step (fun k=>by rw [Z1.l4]) ?_,e2,e3,e4⟩
   simp (disch:=omega) only [cpos]
   refine Ev.bind c2 ?_
   simp (disch:=omega) only [Bool.not_true,cond_false,wrap_in]
   exact e1
  ·rw [decide_eq_false hin] at c2
   have hgn:(g0.getD at_ 0).toNat<l.entries.length:=by omega
   obtain ⟨_,r2⟩:=alR_ev hl hB lim hgn hk
   cases hr:alR l lim (g0.getD at_ 0).toNat k with
   | false=>
    rw [hr] at r2
    obtain ⟨t',e1,e2,e3,e4⟩:=grp_l4 x6 i n w g0 at_ hat i0 hi0 m (k+1) (by omega) t hn hm (fun j hj hr'=>by
     by_cases ej:j=k
     ·rw [ej,hr] at hr'; cases hr'
     ·exact hd j (by omega) hr')
    refine ⟨t',Ev.step (fun k=>by rw [Z1.l4]) ?_,e2,e3,e4⟩
    simp (disch:=omega) only [cpos]
    refine Ev.bind c2 ?_
    simp (disch:=omega) only [Bool.not_false,cond_true,cpos,Int.toNat_natCast,hga,getD_at hk,getD_at hgn]
    refine Ev.bind r2 ?_
    simp (disch:=omega) only [cond_false,wrap_in]
    exact e1
   | true=>
    rw [hr] at r2
    have hn':(g0++(t++[(k:Int)])).Nodup:=by
     rw [<- List.append_assoc]
     exact List.nodup_append.2 ⟨hn,by simp,fun a ha b hb=>by simp at hb; subst hb; exact fun e=>hin (e ▸ ha)⟩
    obtain ⟨t',e1,e2,e3,e4⟩:=grp_l4 x6 i n w g0 at_ hat i0 hi0 m (k+1) (by omega) (t++[(k:Int)]) hn' (fun x hx=>by
     rw [<- List.append_assoc] at hx
     rcases List.mem_append.1 hx with hx | hx
     ·exact hm x hx
     ·rw [List.mem_singleton.1 hx]
      refine ⟨by omega,by omega,?_⟩
      rw [Int.toNat_natCast]
      exact .step hgm.2.2 hk hr) (fun j hj hr'=>by
     rw [<- List.append_assoc]
     by_cases ej:j=k
     ·rw [ej]; simp
     ·exact List.mem_append.2 (.inl (hd j (by omega) hr')))
    have hro:room ((g0++t).length+([(k:Int)]:List Int).length) (.int .i64)=true:=room_i8 (by simp at hlen ⊢; omega)
    refine ⟨t',Ev.step (fun k=>by rw [Z1.l4]) ?_,e2,e3,e4⟩
    simp (disch:=omega) only [cpos]
    refine Ev.bind c2 ?_
    simp (disch:=omega) only [Bool.not_false,cond_true,cpos,Int.toNat_natCast,hga,getD_at hk,getD_at hgn]
    refine Ev.bind r2 ?_
    simp (disch:=omega) only [cond_true,hro,wrap_in]
    rw [List.append_assoc]
    exact e1
theorem grp_l2 (x6:List (List ByteArray)) (i n:Int) (w:Int) (i0:Nat) (hi0:i0<l.entries.length):∀ (m:Nat) (g:List Int) (at_:Nat),at_+m=l.entries.length+1->at_<=g.length->g.Nodup->(∀ x ∈ g,0<=x/\x<l.entries.length/\Cn l.entries.length (alR l lim) i0 x.toNat)->(∀ q,q<at_->∀ j:Nat,j<l.entries.length->alR l lim (g.getD q 0).toNat j=true->(j:Int) ∈ g) ->
  ∃ t,Ev (fun kk=>Z1.l2 kk lim l x6 i g at_ n w) (lim,l,x6,i,g++t,n,w)/\(g++t).Nodup/\(∀ x ∈ g++t,0<=x/\x<l.entries.length/\Cn l.entries.length (alR l lim) i0 x.toNat)/\(∀ q,q<(g++t).length->∀ j:Nat,j<l.entries.length->alR l lim ((g++t).getD q 0).toNat j=true->(j:Int) ∈ g++t)
 | 0,g,at_,h,ha,hn,hm,hd=>by
  have hlen:=pigeon _ _ hn fun x hx=>⟨(hm x hx).1,(hm x hx).2.1⟩
  omega
 | m+1,g,at_,h,ha,hn,hm,hd=>by
  have hlen:=pigeon _ _ hn fun x hx=>⟨(hm x hx).1,(hm x hx).2.1⟩
  by_cases c:at_<g.length
  ·obtain ⟨t,e1,e2,e3,e4⟩:=grp_l4 hl hB lim x6 i n w g at_ c i0 hi0 l.entries.length 0 (by omega) [] (by simpa using hn) (by simpa using hm) (fun j hj=>absurd hj (by omega))
   rw [List.append_nil] at e1
   obtain ⟨u,f1,f2,f3,f4⟩:=grp_l2 x6 i n w i0 hi0 m (g++t) (at_+1) (by omega) (by rw [List.length_append]; omega) e2 e3 (fun q hq j hj hr=>by
    have hqa:(g++t).getD q 0=g.getD q 0:=by rw [List.getD_eq_getElem?_getD,List.getElem?_append_left (by omega),<- List.getD_eq_getElem?_getD]
    rw [hqa] at hr
    by_cases eq:q=at_
    ·subst eq; exact e4 j hj hr
    ·exact List.mem_append.2 (.inl (hd q (by omega) j hj hr)))
   rw [List.append_assoc] at f1 f2 f3 f4
   refine ⟨t++u,Ev.step (fun k=>by rw [Z1.l2]) ?_,f2,f3,f4⟩
   simp (disch:=omega) only [cpos]
   refine Ev.bind e1 ?_
   simp (disch:=omega) only [wrap_in]
   exact f1
  ·refine ⟨[],Ev.step (fun k=>by rw [Z1.l2]) ?_,by simpa using hn,by simpa using hm,fun q hq j hj hr=> ?_⟩
   ·simp (disch:=omega) only [cneg]
    exact (Ev.pure _).eq (by simp)
   ·rw [List.append_nil] at hq hr ⊢
    exact hd q (by omega) j hj hr
theorem grp_mem {g:List Int} {i0:Nat} (h0:(i0:Int) ∈ g) (hm:∀ x ∈ g,0<=x/\x<l.entries.length/\Cn l.entries.length (alR l lim) i0 x.toNat) (hd:∀ q,q<g.length->∀ j:Nat,j<l.entries.length->alR l lim (g.getD q 0).toNat j=true->(j:Int) ∈ g) (j:Nat):(j:Int) ∈ g ↔ Cn l.entries.length (alR l lim) i0 j:=by
 constructor
 ·intro hj
  have:=(hm _ hj).2.2
  rwa [Int.toNat_natCast] at this
 ·intro c
  induction c with
  | refl _=>exact h0
  | @step a b c hk hr ih=>
   obtain ⟨q,hq,e⟩:=List.getElem_of_mem ih
   refine hd q hq _ hk ?_
   rw [getD_at hq,e,Int.toNat_natCast]
   exact hr
theorem grp_l6 (x6:List (List ByteArray)) (n w:Int) (s:List Int) (hs:∀ x ∈ s,0<=x/\x<l.entries.length) (hsl:s.length<=8):∀ m j:Nat,j+m=s.length->∀ acc:List ByteArray,acc.length<=j ->
  Ev (fun kk=>Z1.l6 kk lim l x6 acc n w s s.length j) (lim,l,x6,acc++(s.drop j).map (kAt l),n,w)
 | 0,j,h,acc,ha=>by
  refine Ev.step (fun k=>by rw [Z1.l6]) ?_
  simp (disch:=omega) only [cneg]
  exact (Ev.pure _).eq (by rw [List.drop_eq_nil_of_le (by omega)]; simp)
 | m+1,j,h,acc,ha=>by
  have hj:j<s.length:=by omega
  have hx:=hs _ (List.getElem_mem hj)
  have hr:∀ z:ByteArray,room (acc.length+([z]:List ByteArray).length) .str=true:=fun z=>room_s (by simp; omega)
  refine Ev.step (fun k=>by rw [Z1.l6]) ?_
  simp (disch:=omega) only [cpos,Int.toNat_natCast,getD_at hj,hr,cond_true,wrap_in]
  refine (grp_l6 x6 n w s hs hsl m (j+1) (by omega) _ (by simp; omega)).eq ?_
  rw [List.drop_eq_getElem_cons hj]
  simp only [List.map_cons,List.append_assoc,List.singleton_append]
  rfl
end
theorem less_int (x y:Int):Z96.F x y=some (decide (x<y)):=by
 unfold Z96.F Z95.F
 simp
theorem so_l2 (x:Int) (out rest:List Int) (b i:Int) (hl:out.length+rest.length<=100) :
  ∀ j:Nat,j<=out.length->Ev (fun k=>Z7.l2 k (atI x out rest j) 0 b i j) (atI x out rest (posI x out j),0,b,i)
 | 0,hj=>by
  refine Ev.step (fun k=>by rw [Z7.l2]) ?_
  simp (disch:=omega) only [cneg]
  exact Ev.pure _
 | j+1,hj=>by
  have ih:=so_l2 x out rest b i hl j (by omega)
  have hlen:=atI_len x out rest (j+1) (by omega)
  obtain ⟨g1,g2⟩:=atI_get x out rest j (by omega)
  have hj1:IntKind.wrap .i64 (((j+1:Nat):Int)-1)=(j:Int):=by rw [wrap_in (by omega) (by omega)]; omega
  refine Ev.step (fun k=>by rw [Z7.l2]) ?_
  rw [hj1]
  simp (disch:=omega) only [cpos,Int.toNat_natCast,g1,g2]
  refine Ev.bind0 (less_int _ _) ?_
  unfold posI
  rw [getD_at (show j<out.length by omega)]
  cases decide (x<out[j]) with
  | false=>exact Ev.pure _
  | true=>
   simp (disch:=omega) only [cond_true,cpos,List.length_set,atI_swap x out rest j (by omega)]
   exact ih
theorem so_l0 (keys:List Int) (hk:keys.length<=100) :
  ∀ n i:Nat,i+n=keys.length->∀ out:List Int,out.length=i->Ev (fun k=>Z7.l0 k (out++keys.drop i) 0 keys.length i) ((keys.drop i).foldl insG out)
 | 0,i,h,out,ho=>by
  refine Ev.step (fun k=>by rw [Z7.l0]) ?_
  simp (disch:=omega) only [cneg]
  rw [List.drop_eq_nil_of_le (by omega),List.append_nil]
  exact Ev.pure _
 | n+1,i,h,out,ho=>by
  have hi:i<keys.length:=by omega
  have hd:keys.drop i=keys[i] :: keys.drop (i+1):=List.drop_eq_getElem_cons hi
  have h2:=so_l2 keys[i] out (keys.drop (i+1)) keys.length i (by rw [List.length_drop]; omega) out.length (Nat.le_refl _)
  have e1:atI keys[i] out (keys.drop (i+1)) out.length=out++keys.drop i:=by unfold atI; rw [List.take_length,List.drop_length,hd]; rfl
  have e2:atI keys[i] out (keys.drop (i+1)) (posI keys[i] out out.length)=insG out keys[i]++keys.drop (i+1):=by unfold atI insG; rw [List.append_assoc]; rfl
  rw [e1,e2,ho] at h2
  have ih:=so_l0 keys hk n (i+1) (by omega) (insG out keys[i]) (by rw [insG_len,ho])
  refine Ev.step (fun k=>by rw [Z7.l0]) ?_
  simp (disch:=omega) only [cpos]
  refine Ev.bind h2 ?_
  simp (disch:=omega) only [wrap_in,ho]
  have e3:(keys.drop i).foldl insG out=(keys.drop (i+1)).foldl insG (insG out keys[i]):=by rw [hd,List.foldl_cons]
  rw [e3]
  exact ih
theorem len_someG:∀ n:Fin 13,(Z79.F (IntKind.wrap .u64 (n.val:Int))).isSome=true:=by decide +kernel
theorem lenBitsG {n:Nat} (h:n<=12):∃ r,Z79.F (IntKind.wrap .u64 (n:Int))=some r:=by
 have:=len_someG ⟨n,by omega⟩
 exact Option.isSome_iff_exists.1 this
theorem sortI_ev (x:Int) (g:List Int) (hg:g.length<=7) (hn:(x :: g).Nodup):∃ s,Ev (fun k=>Z70.F k (x :: g)) s/\Asc s/\s.length=g.length+1/\∀ y,y ∈ s ↔ y ∈ x :: g:=by
 have h:=so_l0 (x :: g) (by simp; omega) g.length 1 (by simp; omega) [x] rfl
 simp only [List.drop_succ_cons,List.drop_zero,List.singleton_append] at h
 obtain ⟨f1,f2,f3⟩:=foldI g [x] (List.pairwise_singleton _ _) (by simpa using hn)
 have f2:(g.foldl insG [x]).length=(x :: g).length:=by rw [f2]; simp; omega
 refine ⟨_,?_,f1,by rw [f2]; simp,fun y=>by rw [f3]; simp⟩
 have hlen:∃ r,Z79.F (IntKind.wrap .u64 ((x :: g).length:Int))=some r:=lenBitsG (by simp; omega)
 obtain ⟨r,hr⟩:=hlen
 unfold Z70.F
 refine Ev.bind0 hr (Ev.bind (a:=g.foldl insG [x]) ?_ ?_)
 ·unfold Z50.F
  refine Ev.bind (a:=g.foldl insG [x]) (Ev.step (fun k=>by rw [Z50.l0]) ?_) ?_
  ·have hle:IntKind.wrap .i64 (((x :: g).length:Int)-0)<=12:=by rw [wrap_in (by simp; omega) (by simp; omega)]; simp; omega
   simp (disch:=first | exact hle | omega) only [cpos]
   refine Ev.bind (a:=g.foldl insG [x]) ?_ (Ev.pure _)
   unfold Z7.F
   refine Ev.bind (f:=fun k=>Z7.l0 k (x :: g) 0 ((x :: g).length:Int) (IntKind.wrap .i64 (0+1))) (a:=g.foldl insG [x]) h ?_
   rw [f2,Nat.beq_refl]
   exact Ev.pure _
  ·rw [f2,Nat.beq_refl]
   exact Ev.pure _
 ·rw [f2,Nat.beq_refl]
  exact Ev.pure _
theorem map_eq_len {α β:Type} {f:α -> β} {s:List α}:(s.map f).length=s.length:=List.length_map ..
def grpOk (n:Nat) (lab g:List Int):Prop:=∃ j:Nat,j<n/\∀ x:Int,x ∈ g ↔ 0<=x/\x<n/\lab.getD x.toNat 0=j
theorem dup_main {l:Library} (hl:l.entries.length<=8) (hB:libB l=true) (lim:Int) (lab:List Int) (hR:Rest l.entries.length (alR l lim) lab):∀ m i:Nat,i+m=l.entries.length->∀ acc:List (List ByteArray),acc.length<=i ->
  ∃ gs:List (List Int),Ev (fun k=>Z0.l8 k l acc l.entries.length lab i) (acc++gs.map (List.map (kAt l)))/\Ev (fun k=>Z1.l0 k lim l acc l.entries.length i) (acc++gs.map (List.map (kAt l)))/\gs.length<=m/\(∀ g ∈ gs,g.length<=8/\grpOk l.entries.length lab g)/\(∀ j x:Nat,i<=j->j<l.entries.length->lab.getD j 0=j->x<l.entries.length->x ≠ j->lab.getD x 0=j->∃ g ∈ gs,(j:Int) ∈ g)
 | 0,i,h,acc,ha=>by
  refine ⟨[],Ev.step (fun k=>by rw [Z0.l8]) ?_,Ev.step (fun k=>by rw [Z1.l0]) ?_,by simp,(fun _ h=>by cases h),fun j x h1 h2=>by omega⟩ <;>
   (simp (disch:=omega) only [cneg]; exact (Ev.pure _).eq (by simp))
 | m+1,i,h,acc,ha=>by
  have hi:i<l.entries.length:=by omega
  have sy:=alR_symm l lim
  have d1:=dup_l10 hl hB acc lab hR.len i (m+1) i (by omega) [] (by simp)
  rw [List.nil_append] at d1
  obtain ⟨t,g1,g2,g3,g4⟩:=grp_l2 hl hB lim acc i l.entries.length i i hi (l.entries.length+1) [(i:Int)] 0 (by omega) (by simp) (by simp) (fun x hx=>by
   rw [List.mem_singleton.1 hx,Int.toNat_natCast]
   exact ⟨by omega,by omega,.refl hi⟩) (fun q hq=>absurd hq (by omega))
  have gm:=fun j=>grp_mem hl hB lim (i0:=i) (by simp) g3 g4 j
  have glen:=pigeon _ _ g2 fun x hx=>⟨(g3 x hx).1,(g3 x hx).2.1⟩
  rw [List.singleton_append] at g1 g2 g3 g4 gm glen
  obtain ⟨s,s1,s2,s3,s4⟩:=sortI_ev i t (by simp at glen; omega) g2
  have smem:∀ x:Int,x ∈ s ↔ 0<=x/\x<l.entries.length/\lab.getD x.toNat 0=lab.getD i 0:=fun x=>by
   rw [s4]
   constructor
   ·intro hx
    have h1:=g3 x hx
    exact ⟨h1.1,h1.2.1,(hR.cn_iff sy hi (by omega)).1 h1.2.2⟩
   ·rintro ⟨h1,h2,h3⟩
    have:=(gm x.toNat).2 ((hR.cn_iff sy hi (by omega)).2 h3)
    rwa [show ((x.toNat:Nat):Int)=x by omega] at this
  have li:=hR.lo i hi
  have hmem1:∀ x:Int,x ∈ mem1 lab i i (m+1) ↔ (i:Int)<=x/\x<l.entries.length/\lab.getD x.toNat 0=i:=fun x=>by
   unfold mem1
   rw [List.mem_filter,nums_mem,beq_iff_eq]
   constructor
   ·rintro ⟨⟨h1,h2⟩,h3⟩; exact ⟨h1,by omega,h3⟩
   ·rintro ⟨h1,h2,h3⟩; exact ⟨⟨h1,by omega⟩,h3⟩
  have hasc1:Asc (mem1 lab i i (m+1)):=(nums_asc (m+1) i).filter _
  have i0s:(i:Int) ∈ s:=(smem i).2 ⟨by omega,by omega,by rw [Int.toNat_natCast]⟩
  obtain ⟨y,s',rfl⟩:∃ y s',s=y :: s':=by
   cases s with
   | nil=>cases i0s
   | cons y s'=>exact ⟨y,s',rfl⟩
  have hspec:Ev (fun k=>Z0.l10 k l acc l.entries.length lab i [] i) (l,acc,(l.entries.length:Int),lab,(i:Int),(mem1 lab i i (m+1)).map (kAt l)):=d1
  obtain ⟨out0,o1,o2,o3,o4,o5⟩:=dup_main hl hB lim lab hR m (i+1) (by omega) acc (by omega)
  by_cases hli:lab.getD i 0=i
  ·have heq:mem1 lab i i (m+1)=y :: s':=asc_eq hasc1 s2 fun x=>by
    rw [hmem1,smem,hli]
    constructor
    ·rintro ⟨h1,h2,h3⟩; exact ⟨by omega,h2,h3⟩
    ·rintro ⟨h1,h2,h3⟩
     have:=hR.lo x.toNat (by omega)
     exact ⟨by omega,h2,h3⟩
   have hy:y=i:=by
    have h1:=asc_head s2 i0s
    have h2:=(smem y).1 List.mem_cons_self
    have:=hR.lo y.toNat (by omega)
    omega
   rw [heq] at hspec
   by_cases hlen:(y :: s').length<2
   ·refine ⟨out0,Ev.step (fun k=>by rw [Z0.l8]) ?_,Ev.step (fun k=>by rw [Z1.l0]) ?_,by omega,o4,fun j x h1 h2 h3 h4 h5 h6=> ?_⟩
    ·simp (disch:=omega) only [cpos]
     refine Ev.bind hspec ?_
     simp (disch:=(try simp only [map_eq_len]); omega) only [cneg,wrap_in]
     exact o1
    ·simp (disch:=omega) only [cpos]
     refine Ev.bind g1 (Ev.bind s1 ?_)
     simp (disch:=omega) only [cpos,wrap_in]
     exact o2
    ·by_cases ej:j=i
     ·subst ej
      exfalso
      have hx1:(x:Int) ∈ y :: s':=(smem x).2 ⟨by omega,by omega,by rw [Int.toNat_natCast,h6,h3]⟩
      have hs0:s'=[]:=List.eq_nil_of_length_eq_zero (by simp at hlen; omega)
      rw [hs0,List.mem_singleton] at hx1
      omega
     ·exact o5 j x (by omega) h2 h3 h4 h5 h6
   ·have hk6:=grp_l6 hl hB lim acc l.entries.length i (y :: s') (fun x hx=>⟨((smem x).1 hx).1,((smem x).1 hx).2.1⟩) (by rw [s3]; simp at glen; omega) (y :: s').length 0 (by omega) [] (by simp)
    rw [List.drop_zero,List.nil_append] at hk6
    have hk8:((y :: s').map (kAt l)).length<=8:=by rw [List.length_map,s3]; simp at glen; omega
    obtain ⟨out,o1,o2,o3,o4,o5⟩:=dup_main hl hB lim lab hR m (i+1) (by omega) (acc++[(y :: s').map (kAt l)]) (by simp; omega)
    have hr:room (acc.length+([(y :: s').map (kAt l)]:List (List ByteArray)).length) (.sl .str)=true:=room_ss (by simp; omega)
    refine ⟨(y :: s') :: out,Ev.step (fun k=>by rw [Z0.l8]) ?_,Ev.step (fun k=>by rw [Z1.l0]) ?_,by simp; omega,fun g hg=> ?_,fun j x h1 h2 h3 h4 h5 h6=> ?_⟩
    ·simp (disch:=omega) only [cpos]
     refine Ev.bind hspec ?_
     simp (disch:=(try simp only [map_eq_len]); omega) only [cpos,hr,cond_true,wrap_in]
     exact o1.eq (by simp)
    ·have hy0:((y :: s').getD 0 0:Int)=i:=hy
     have h0:((0:Int).toNat)=0:=rfl
     simp (disch:=omega) only [cpos]
     refine Ev.bind g1 (Ev.bind s1 ?_)
     simp (disch:=omega) only [cneg,cpos,h0,hy0,cbeq]
     refine Ev.bind hk6 ?_
     simp (disch:=omega) only [hr,cond_true,wrap_in]
     exact o2.eq (by simp)
    ·rcases List.mem_cons.1 hg with rfl | hg
     ·exact ⟨by simpa using hk8,i,hi,fun x=>by rw [smem,hli]⟩
     ·exact o4 g hg
    ·by_cases ej:j=i
     ·subst ej; exact ⟨_,List.mem_cons_self,i0s⟩
     ·obtain ⟨g,hg,hj⟩:=o5 j x (by omega) h2 h3 h4 h5 h6
      exact ⟨g,List.mem_cons_of_mem _ hg,hj⟩
  ·have hnil:mem1 lab i i (m+1)=[]:=by
    cases hm:mem1 lab i i (m+1) with
    | nil=>rfl
    | cons x r=>
     have h1:=(hmem1 x).1 (by rw [hm]; exact List.mem_cons_self)
     have h2:=hR.low sy (i:=x.toNat) (by omega)
     rw [h1.2.2,Int.toNat_natCast] at h2
     exact absurd h2 hli
   rw [hnil] at hspec
   refine ⟨out0,Ev.step (fun k=>by rw [Z0.l8]) ?_,Ev.step (fun k=>by rw [Z1.l0]) ?_,by omega,o4,fun j x h1 h2 h3 h4 h5 h6=> ?_⟩
   ·simp (disch:=omega) only [cpos]
    refine Ev.bind hspec ?_
    simp (disch:=first | omega | simp) only [cneg,wrap_in]
    exact o1
   ·have hy:((y :: s').getD 0 0:Int) ≠ i:=by
     show y ≠ i
     have h1:lab.getD i 0 ∈ y :: s':=(smem _).2 ⟨li.1,by omega,hR.low sy hi⟩
     have h2:=asc_head s2 h1
     omega
    have h0:((0:Int).toNat)=0:=rfl
    simp (disch:=omega) only [cpos]
    refine Ev.bind g1 (Ev.bind s1 ?_)
    by_cases hlen:(y :: s').length<2
    ·simp (disch:=omega) only [cpos,wrap_in]
     exact o2
    ·simp (disch:=omega) only [cneg,cpos,h0,cbne,wrap_in]
     exact o2
   ·by_cases ej:j=i
    ·subst ej; exact absurd h3 hli
    ·exact o5 j x (by omega) h2 h3 h4 h5 h6
theorem nums_get:∀ (m s i:Nat),i<m->(nums s m).getD i 0=((s+i:Nat):Int)
 | 0,s,i,h=>by omega
 | m+1,s,0,h=>by simp [nums]
 | m+1,s,i+1,h=>by
  rw [nums,List.getD_cons_succ,nums_get m (s+1) i (by omega)]
  congr 1; omega
theorem nums_len:∀ (m s:Nat),(nums s m).length=m
 | 0,s=>rfl
 | m+1,s=>by simp [nums,nums_len m]
theorem lab0 (n:Nat) (R:Nat->Nat->Bool):Lab n R (nums 0 n):=by
 refine ⟨nums_len n 0,fun i hi=> ?_,fun i hi=> ?_⟩
 ·rw [nums_get n 0 i hi]; omega
 ·rw [nums_get n 0 i hi]
  rw [show (((0+i:Nat):Int)).toNat=i by omega]
  exact .refl hi
theorem duplicateGroups_ev (l:Library) (lim:Int) (hs:smallL l):∃ r b,Ev (fun k=>Z0.F k l lim) (r,b)/\Ev (fun k=>Z1.F k l lim) (r,b)/\r.length<=8/\(∀ x ∈ r,x.length<=8) /\
  (b=true->libB l=true/\(decide (lim ≥ 0) && decide (lim<=40))=true/\∃ (lab:List Int) (gs:List (List Int)),Rest l.entries.length (alR l lim) lab/\r=gs.map (List.map (kAt l))/\(∀ g ∈ gs,grpOk l.entries.length lab g)/\(∀ j x:Nat,j<l.entries.length->lab.getD j 0=j->x<l.entries.length->x ≠ j->lab.getD x 0=j->∃ g ∈ gs,(j:Int) ∈ g)):=by
 have a1:=specLib_ev l hs
 have a2:=isLib_ev l hs
 unfold Z0.F Z1.F
 cases hB:libB l with
 | false=>
  rw [hB] at a1 a2
  exact ⟨[],false,Ev.bind a1 (Ev.pure _),Ev.bind a2 (Ev.pure _),by simp,(fun _ h=>by cases h),fun h=>by cases h⟩
 | true=>
  rw [hB] at a1 a2
  have hl:=libB_len hB
  have l1:=in_ev lim 0 40
  have l2:=inside_ev lim 0 40
  cases hc:(decide (lim ≥ 0) && decide (lim<=40)) with
  | false=>
   rw [hc] at l1 l2
   exact ⟨[],false,Ev.bind a1 (Ev.bind0 l1 (Ev.pure _)),Ev.bind a2 (Ev.bind0 l2 (Ev.pure _)),by simp,(fun _ h=>by cases h),fun h=>by cases h⟩
  | true=>
   rw [hc] at l1 l2
   have d0:=dup_l0 hl hB lim [] l.entries.length 0 (by omega)
   obtain ⟨lab,d1,d2⟩:=dup_l2 hl hB lim [] (nums 0 l.entries.length).sum.toNat (nums 0 l.entries.length) (by omega) (lab0 _ _)
   obtain ⟨gs,o1,o2,o3,o4,o5⟩:=dup_main hl hB lim lab d2 l.entries.length 0 (by omega) [] (by simp)
   rw [List.nil_append] at o1 o2
   refine ⟨_,true,Ev.bind a1 (Ev.bind0 l1 (Ev.bind d0 (Ev.bind d1 (Ev.bind o1 (Ev.pure _))))),Ev.bind a2 (Ev.bind0 l2 (Ev.bind o2 (Ev.pure _))),by rw [List.length_map]; omega,fun x hx=> ?_,fun _=>⟨rfl,rfl,lab,gs,d2,rfl,fun g hg=>(o4 g hg).2,fun j x h1 h2 h3 h4 h5=>o5 j x (by omega) h1 h2 h3 h4 h5⟩⟩
   obtain ⟨g,hg,rfl⟩:=List.mem_map.1 hx
   rw [List.length_map]
   exact (o4 g hg).1
theorem duplicateGroups_law (l:Library) (lim:Int) (hw:WF .lib l) (hwl:WF (.int .i64) lim):∃ k,Z106.F k l lim=some true:=by
 refine Ev.get (?_:Ev (fun k=>Z106.F k l lim) true)
 unfold Z106.F
 obtain ⟨r,h1,h2⟩:=szL_ev l 1048576 (by omega) (by omega) hw
 refine Ev.bind h1 ?_
 by_cases c:r<0
 ·simp (disch:=omega) only [cpos]
  exact Ev.pure _
 simp (disch:=omega) only [cneg]
 have hs:smallL l:=by have:=h2 (by omega); unfold smallL; omega
 obtain ⟨v,b,v1,v2,v3,v4,_⟩:=duplicateGroups_ev l lim hs
 have tl:=toL_ev l hs
 have eqv:=eqSS_ev v (by omega) fun x hx=>Nat.le_trans (v4 x hx) (by omega)
 have hcn:=cntSS_le v v4
 refine Ev.bind tl (Ev.bind v1 (Ev.bind tl (Ev.bind v2 (Ev.bind eqv ?_))))
 simp only [beq_self_eq_true,Bool.not_true,cond_false]
 refine Ev.bind tl (Ev.bind (eqL_ev l hs) ?_)
 simp only [Bool.not_true,cond_false]
 obtain ⟨m,m1,m2⟩:=dmL_ev l hs
 refine Ev.bind m1 ?_
 simp (disch:=omega) only [cneg]
 refine Ev.bind eqv ?_
 simp only [beq_self_eq_true,Bool.not_true,cond_false]
 obtain ⟨ys,m',n0,n1,n2⟩:=xSS_ev v (by omega) (by omega)
 refine Ev.bind n1 (Ev.bind n2 ?_)
 simp (disch:=omega) only [cneg,cbeq]
 refine Ev.bind tl (Ev.bind v2 (Ev.bind eqv ?_))
 simp only [beq_self_eq_true,Bool.not_true,cond_false]
 refine Ev.bind n2 ?_
 simp (disch:=omega) only [cneg,cbeq]
 exact Ev.pure _
end Go.Proofs.YtoojiikgbopeiaaGreatDoor
end
section
/- The law FnExactDuplicateGroups returns true for every input,the listed package variables being as the program's text lays it: the card. -/
namespace Go.Proofs.YtoojiikgbopeiaaGreatDoor
open Go.Gx Go.RowKit Go.ChangeShapes Go.WideShapes Go.ChangeAt
theorem fnExactDuplicateGroups_own:ownKnob Tryz.prog.godebug=none:=by kernel_rfl
set_option maxRecDepth 100000 in
theorem fnExactDuplicateGroups_contract (H:Type) (enc:TypeId × Value->H) (W:World) (base:Nat) (args:Array Value) (ds gs:List (DataW H)) (before:List MemPlace)
  (hval:∀ (j:Nat) t v,Tryz.f3.params[j]? = some t->args[j]? = some v->Value.okWide Tryz.prog W .any base t v)
  (hW:DataW.Whole enc Tryz.prog Tryz.f3.params.toList Rows.fnExactDuplicateGroupsSpec.vars false W args.toList ds gs before) (hsh:W.ShapedOpen Tryz.prog) :
  Calls Tryz.prog 3 args W fun e W'=>∃ v,e = .returned v/\Rows.fnExactDuplicateGroupsSpec.post enc Tryz.prog Tryz.f3 false true false false W args v W':=by
 have hgs:gs=[]:=by
  obtain ⟨p,q,_,hV,_⟩:=hW
  exact (trodVars_none hV).1
 subst hgs
 have hds:∃ d1 d2,ds=[d1,d2]:=by
  obtain ⟨p,q,hA,_⟩:=hW
  obtain ⟨_,_,d1,e0,_,_,_,rfl,_,_,h0⟩:=trodAll_cons hA
  obtain ⟨_,_,d2,e1,_,_,_,rfl,_,_,h1⟩:=trodAll_cons h0
  obtain ⟨_,rfl,_⟩:=trodAll_nil h1
  exact ⟨d1,d2,rfl⟩
 obtain ⟨d1,d2,rfl⟩:=hds
 have hgl:GlOk envX (fun _=>undef) (Lt W) W:=by
  refine GlOk.mk0 (fun g b h=>(by cases h)) (fun g hg=> ?_)
  have hg':giT g=true:=hg
  unfold giT at hg'
  split at hg'
  ·obtain ⟨m,hm⟩:=cell_of_shapedOpen_int (P:=Tryz.prog) (g:=1) (t:=3) (zero:=#[.int .i64 0]) hsh (of_decide_eq_true (by kernel_rfl)) (by kernel_rfl) rfl (by kernel_rfl) (by kernel_rfl) (by kernel_rfl)
   exact ⟨World.block_lt_of_cell? _ _ hm,m,hm⟩
  ·cases hg'
 refine law_contract (τs:=[.lib,(.int .i64)]) (r:=.t .bool true) envOk (by kernel_rfl) rfl (by kernel_rfl) (by kernel_rfl) rfl (by kernel_rfl) (by kernel_rfl) (fun t ht=> ?_) rfl (fun x hx=>by
   obtain ⟨k,hk⟩:=duplicateGroups_law x.1 x.2.1 hx.1 hx.2.1
   exact Z106.good envOk _ k _ _ hk) rfl hval hW hgl (fun q hq W' _=> ?_)
 ·have:t ∈ [24,3]:=ht
  simp only [List.mem_cons,List.not_mem_nil,or_false] at this
  rcases this with rfl | rfl <;> exact ⟨by kernel_rfl,Nat.le_of_ble_eq_true (by kernel_rfl)⟩
 ·obtain ⟨_,rfl⟩:=trodVars_none hq
  exact rfl
set_option maxRecDepth 100000 in
noncomputable def fnExactDuplicateGroups_world (os:Os):World :=
 { World.holding Tryz.prog os ⟨#[],#[],[]⟩ with heap:=(((World.holding Tryz.prog os ⟨#[],#[],[]⟩).heap.modify 3 fun
   | .cells _ t frozen=> .cells #[.int .u8 128,.int .u8 191,.int .u8 160,.int .u8 191,.int .u8 128,.int .u8 159,.int .u8 144,.int .u8 191,.int .u8 128,.int .u8 143,.int .u8 0,.int .u8 0,.int .u8 0,.int .u8 0,.int .u8 0,.int .u8 0,.int .u8 0,.int .u8 0,.int .u8 0,.int .u8 0,.int .u8 0,.int .u8 0,.int .u8 0,.int .u8 0,.int .u8 0,.int .u8 0,.int .u8 0,.int .u8 0,.int .u8 0,.int .u8 0,.int .u8 0,.int .u8 0] t frozen
   | o=>o).modify 2 fun
   | .cells _ t frozen=> .cells (Pinned.utf8FirstZ.map fun (n:Nat)=>Value.int .u8 (n:Int)).toArray t frozen
   | o=>o) }
theorem fnExactDuplicateGroups_met (os:Os):laidMet Tryz.prog Rows.fnExactDuplicateGroupsRow.laid ((fnExactDuplicateGroups_world os).forCall (fun _ _=>0) ⟨#[],#[.agg #[.slice none 0 0],.int .i64 0],[]⟩).memory :=
 laidMet_of_run' 8 (by kernel_rfl) (by kernel_rfl)
theorem fnExactDuplicateGroups_reads (os:Os) {H:Type} (enc:TypeId × Value->H):∃ places,DataW.whole enc Tryz.prog ((fnExactDuplicateGroups_world os).forCall (fun _ _=>0) ⟨#[],#[.agg #[.slice none 0 0],.int .i64 0],[]⟩).memory Tryz.f3.params.toList Rows.fnExactDuplicateGroupsSpec.vars false #[.agg #[.slice none 0 0],.int .i64 0].toList 8=some ([.agg [.nil],.lit (.int .i64 0)],[],places) :=
 ⟨[],by kernel_rfl⟩
set_option maxRecDepth 100000 in
theorem fnExactDuplicateGroups_lifted (os:Os) (started:os.Started) (H:Type) (enc:TypeId × Value->H) (F:Stop.Interp) :
  ReturnsInHanded {} Tryz.checked os 3 .any ((OpenSpec.ofChange Rows.fnExactDuplicateGroupsSpec).preRow enc Tryz.prog Tryz.f3 Rows.fnExactDuplicateGroupsRow.domain false Rows.fnExactDuplicateGroupsRow.laid) (((OpenSpec.ofChange Rows.fnExactDuplicateGroupsSpec).at F).post enc Tryz.prog Tryz.f3 false true false false):=by
 obtain ⟨places,hx⟩:=fnExactDuplicateGroups_reads os enc
 refine returnsInHanded_of_row (C:=Tryz.checked) (s:=OpenSpec.ofChange Rows.fnExactDuplicateGroupsSpec) fnExactDuplicateGroups_own started (by kernel_rfl) (by kernel_rfl)
  (witness_row_at (enc:=enc) (C:=Tryz.checked) false (fnExactDuplicateGroups_world os) #[.agg #[.slice none 0 0],.int .i64 0] rfl (by kernel_rfl) (by kernel_rfl) (by kernel_rfl)
   (OpenSpec.preRow_of_cond 8 hx (by kernel_rfl) (fun k hk=>by cases hk) (by kernel_rfl) (fnExactDuplicateGroups_met os))) ?_
 intro W base args ds gs before hval hW _ _ _ _ hsh _
 exact fnExactDuplicateGroups_contract H enc W base args ds gs before hval hW hsh
theorem fnExactDuplicateGroups_said:Rows.FnExactDuplicateGroupsSaid :=
 OpenClaim.holds_of_cond 3 Tryz.f3 rfl rfl rfl rfl rfl rfl rfl ⟨rfl,rfl,rfl,rfl,rfl⟩ rfl rfl rfl rfl rfl (by kernel_rfl) (by kernel_rfl) (by kernel_rfl)
  (of_decide_eq_true (by kernel_rfl)) (by unfold Func.isWrapper; first | (rw [if_pos (by decide +kernel)]; kernel_rfl) | (rw [if_neg (by decide +kernel)]; exact ⟨rfl,rfl⟩))
  (fun os started H enc _ F=>by rw [OpenClaim.pre_eq_preRow]; exact fnExactDuplicateGroups_lifted os started H enc F)
theorem fnExactDuplicateGroups_plain (f:FuncId) (fn:Func) (hf:Tryz.pinned.checked.prog.funcNamed "loop.example/g00896/laws.FnExactDuplicateGroups" = some f) (hfn:Tryz.pinned.checked.prog.funcs[f]? = some fn) :
  false=Tryz.pinned.checked.prog.looks []/\∀ (j:Nat) t,fn.params[j]? = some t->Tryz.pinned.checked.prog.wantsStandIn t=false:=by
 obtain rfl:f=3:=(Option.some.inj ((show Tryz.prog.funcNamed "loop.example/g00896/laws.FnExactDuplicateGroups" = some 3 by kernel_rfl).symm.trans hf)).symm
 obtain rfl:fn=Tryz.f3:=(Option.some.inj ((show Tryz.prog.funcs[3]? = some Tryz.f3 by kernel_rfl).symm.trans hfn)).symm
 refine ⟨by kernel_rfl,fun j t ht=> ?_⟩
 have ht':t ∈ [24,3]:=by simpa using Array.mem_of_getElem? (show (#[24,3]:Array Nat)[j]? = some t from ht)
 simp only [List.mem_cons,List.not_mem_nil,or_false] at ht'
 rcases ht' with rfl | rfl
 ·exact (show Tryz.prog.wantsStandIn 24=false by kernel_rfl)
 ·exact (show Tryz.prog.wantsStandIn 3=false by kernel_rfl)
theorem FnExactDuplicateGroups_holds:Rows.FnExactDuplicateGroupsCardSaid :=
 Claim7.holds_tied_plain_at .later [] _ _ _ _ fnExactDuplicateGroups_said (fun _ h=>by cases h) (by kernel_rfl) (fun _ h=>by cases h) fnExactDuplicateGroups_row_tie rfl ⟨rfl,rfl⟩ (by kernel_rfl) rfl fnExactDuplicateGroups_plain (by kernel_rfl)
#print axioms FnExactDuplicateGroups_holds
end Go.Proofs.YtoojiikgbopeiaaGreatDoor
end
