/- The law FnGroups returns true for every input,the listed package variables being as the program's text lays it: the card. -/
import Derived.Test.YtpmlmdfbhmgikaaGreatDoorMfg7
import Derived.Test.YtpmlmdfbhmgikaaGreatDoorCards
import Derived.Test.YtpmlmdfbhmgikaaGreatDoorTie
import Derived.Test.YtpmlmdfbhmgikaaGreatDoorMfg4
import Derived.Shelf.Vars
import Derived.WalkKit
import Derived.ProofKit
import Derived.OpenShut
import Derived.Deep.DeepHandedRow
import Derived.Lib.LaidTab
set_option linter.unusedVariables false
set_option linter.unusedSimpArgs false
set_option maxRecDepth 100000
section
namespace Go.Proofs.YtpmlmdfbhmgikaaGreatDoor
open Go.Gx
theorem EvP.cond {α:Type}{b:Bool}{f g:Nat->Option α}{Q:α->Prop}(h1:b=true->EvP f Q)(h2:b=false->EvP g Q):EvP (λk=>cond b (f k) (g k)) Q:=by
 cases b with
 |true=>exact h1 rfl
 |false=>exact h2 rfl
theorem Qbg (z:Int):0<=IntKind.wrap .i64 (IntKind.wrap .u64 ((BitVec.ofInt (IntKind.bits .u64) z&&& BitVec.ofInt (IntKind.bits .u64) 255).toNat:Int))/\IntKind.wrap .i64 (IntKind.wrap .u64 ((BitVec.ofInt (IntKind.bits .u64) z&&& BitVec.ofInt (IntKind.bits .u64) 255).toNat:Int))<=255:=by
 have h1:(BitVec.ofInt (IntKind.bits .u64) z&&& BitVec.ofInt (IntKind.bits .u64) 255).toNat<=255:=by
  rw[BitVec.toNat_and]
  exact Nat.le_trans Nat.and_le_right (Nat.le_of_eq rfl)
 generalize (BitVec.ofInt (IntKind.bits .u64) z&&& BitVec.ofInt (IntKind.bits .u64) 255).toNat=m at h1
 have h2:IntKind.wrap .u64 (m:Int)=m:=by rw[IntKind.wrap_u64];omega
 rw[h2,wrap_in (by omega) (by omega)]
 omega
def byt (l:List Int):Prop:=(∀b∈l,0<=b/\b<=255)/\l.length<=65536
theorem Qbh {code:List Int}(hw:WF (.sl (.int .u8)) code)(hl:(code.length:Int)<=65536):byt code:=by
 refine⟨λb hb=>?_,by omega⟩
 obtain⟨i,hi,rfl⟩:=List.getElem_of_mem hb
 cases hw with
 |sl _ _ _ h=>
  have:=h i hi
  cases this with
  |int _ _ h=>
   have h1:IntKind.u8.min=0:=rfl
   have h2:IntKind.u8.max=255:=rfl
   simp only[Lit.wf,Bool.and_eq_true,decide_eq_true_eq]at h
   omega
theorem Qap (c:Cur)(hc:byt c.code)(h0:0<=c.at_)(h1:c.at_<=1000000):∃c' x,Z89.F c=some (c',x)/\c'.code=c.code/\c'.at_=c.at_+1/\0<=x/\x<=255:=by
 unfold Z89.F
 have hl:=hc.2
 have z40:(decide ((0:Nat)<=40))=true:=rfl
 by_cases c1:c.at_<(c.code.length:Int)
 ·have hi:c.at_.toNat<c.code.length:=by omega
  have hb:0<=c.code.getD c.at_.toNat 0/\c.code.getD c.at_.toNat 0<=255:=by
   have:c.code.getD c.at_.toNat 0=c.code[c.at_.toNat]:=by simp[List.getD,hi]
   rw[this];exact hc.1 _ (List.getElem_mem hi)
  by_cases c2:c.at_+1<=(c.code.length:Int)
  ·refine⟨⟨c.code,c.at_+1,_⟩,_,by simp(disch:=omega) only[Qc,wrap_in];rfl,rfl,rfl,hb⟩
  ·omega
 ·have c2:¬c.at_+1<=(c.code.length:Int):=by omega
  refine⟨⟨c.code,c.at_+1,_⟩,_,by simp(disch:=omega) only[Qn,wrap_in,z40,cond_true];rfl,rfl,rfl,Qbg _⟩
theorem Q07 (c:Cur)(hc:byt c.code)(h0:0<=c.at_)(h1:c.at_<=1000000)(n:Int)(hn:1<=n)(hn2:n<=200):∃c' x,Z26.F c n=some (c',x)/\c'.code=c.code/\0<=c'.at_/\c'.at_<=c.at_+1/\0<=x/\x<n:=by
 unfold Z26.F
 by_cases c1:n<=1
 ·refine⟨c,0,by simp(disch:=omega) only[Qc],rfl,h0,by omega,by omega,by omega⟩
 ·obtain⟨c',x,e1,e2,e3,e4,e5⟩:=Qap c hc h0 h1
  refine⟨c',Int.tmod x n,?_,e2,by omega,by omega,Int.tmod_nonneg _ e4,Int.tmod_lt_of_pos _ (by omega)⟩
  have hz:(n==0)=false:=by rw[beq_eq_false_iff_ne];omega
  simp(disch:=omega) only[Qn,e1,Option.bind_some,hz,cond_false]
def cu (n:Int)(c:Cur):Prop:=byt c.code/\0<=c.at_/\c.at_<=n
theorem cu.mono {n m:Int}{c:Cur}(h:cu n c)(hn:n<=m):cu m c:=⟨h.1,h.2.1,Int.le_trans h.2.2 hn⟩
theorem cu.start {code:List Int}(h:byt code):cu 0 ⟨code,0,0⟩:=⟨h,Int.le_refl 0,Int.le_refl 0⟩
section
variable {β:Type} {Q:β->Prop} {n:Int} {c:Cur}
theorem Us {m:Int}{g:Nat->Cur×Int->Option β}(h:cu n c)(hn:n<=900000)(h1:1<=m)(h2:m<=200)(hg:∀c' x,cu (n+1) c'->0<=x->x<m->EvP (λk=>g k (c',x)) Q):EvP (λk=>(Z26.F c m).bind (g k)) Q:=by
 obtain⟨h3,h4,h5⟩:=h
 obtain⟨c',x,e1,e2,e3,e4,e5,e6⟩:=Q07 c h3 h4 (by omega) m h1 h2
 exact EvP.of0 e1 (hg c' x ⟨by rw[e2];exact h3,e3,by omega⟩ e5 e6)
theorem JZ {m:Int}{g:Nat->Cur×Bool->Option β}(h:cu n c)(hn:n<=900000)(h1:1<=m)(h2:m<=200)(hg:∀c' x,cu (n+1) c'->EvP (λk=>g k (c',x)) Q):EvP (λk=>(Z22.F c m).bind (g k)) Q:=by
 obtain⟨h3,h4,h5⟩:=h
 obtain⟨c',x,e1,e2,e3,e4,e5,e6⟩:=Q07 c h3 h4 (by omega) m h1 h2
 refine EvP.of0 (a:=(c',x==0)) ?_ (hg c' (x==0) ⟨by rw[e2];exact h3,e3,by omega⟩)
 unfold Z22.F
 rw[e1];rfl
theorem YH {l:List ByteArray}{g:Nat->Cur×ByteArray->Option β}(h:cu n c)(hn:n<=900000)(h1:1<=l.length)(h2:l.length<=200)(hs:∀y∈l,y.size<=50)(hg:∀c' x,cu (n+1) c'->x.size<=50->EvP (λk=>g k (c',x)) Q):EvP (λk=>(Z27.F c l).bind (g k)) Q:=by
 obtain⟨h3,h4,h5⟩:=h
 obtain⟨c',x,e1,e2,e3,e4,e5,e6⟩:=Q07 c h3 h4 (by omega) (l.length:Int) (by omega) (by omega)
 have hi:x.toNat<l.length:=by omega
 refine EvP.of0 (a:=(c',l.getD x.toNat ⟨#[]⟩)) ?_ (hg c' _ ⟨by rw[e2];exact h3,e3,by omega⟩ (by rw[getD_at hi];exact hs _ (List.getElem_mem hi)))
 unfold Z27.F
 simp(disch:=omega) only[e1,Option.bind_some,Qc]
theorem Q3o {l:List Int}{g:Nat->Cur×Int->Option β}(h:cu n c)(hn:n<=900000)(h1:1<=l.length)(h2:l.length<=200)(hg:∀c' x,cu (n+1) c'->EvP (λk=>g k (c',x)) Q):EvP (λk=>(Z75.F c l).bind (g k)) Q:=by
 obtain⟨h3,h4,h5⟩:=h
 obtain⟨c',x,e1,e2,e3,e4,e5,e6⟩:=Q07 c h3 h4 (by omega) (l.length:Int) (by omega) (by omega)
 have hi:x.toNat<l.length:=by omega
 refine EvP.of0 (a:=(c',l.getD x.toNat 0)) ?_ (hg c' _ ⟨by rw[e2];exact h3,e3,by omega⟩)
 unfold Z75.F
 simp(disch:=omega) only[e1,Option.bind_some,Qc]
end
theorem Qbi {n:Int}{c:Cur}(h:cu n c)(hn:n<=800000):EvP (λ_=>Z90.F c) λr=>cu (n+5) r.1:=by
 unfold Z90.F
 refine Q3o h (by omega) (by decide) (by decide) λc1 x hc1=>?_
 refine Us hc1 (by omega) (by omega) (by omega) λc2 y hc2 y0 y1=>?_
 dsimp only
 repeat' refine EvP.cond (λ_=>?_) (λ_=>?_)
 all_goals first
  |exact EvP.pure _ (hc2.mono (by omega))
  |exact Us hc2 (by omega) (by omega) (by omega) λc3 z hc3 z0 z1=>EvP.pure _ (hc3.mono (by omega))
  |exact Us hc2 (by omega) (by omega) (by omega) λc3 z hc3 z0 z1=>Us hc3 (by omega) (by omega) (by omega) λc4 u hc4 u0 u1=>EvP.pure _ (hc4.mono (by omega))
theorem Qaq {n:Int}{c:Cur}(h:cu n c)(hn:n<=800000):∃r,Z90.F c=some r/\cu (n+5) r.1:=by
 obtain⟨r,⟨K,hK⟩,hr⟩:=Qbi h hn
 exact⟨r,hK K (Nat.le_refl _),hr⟩
def Q1n (n:Name):Prop:=n.given.length<=8/\(∀w∈n.given,w.size<=50)/\n.particle.size<=50/\n.family.size<=50/\n.suffix.size<=50
def JP (m:Nat)(l:List Name):Prop:=l.length<=m/\∀n∈l,Q1n n
theorem Q4H {n:Nat}{τ:Ty}(hn:n<=1000)(ht:nb τ<=1000):room n τ=true:=by
 unfold room
 have:n*nb τ<=1000*1000:=Nat.mul_le_mul hn ht
 exact Nat.ble_eq_true_of_le (by omega)
theorem Q6A:∀m:Nat,m<=5->∀{n:Int} {c:Cur},cu n c->n+m<=800000->∀(q:List ByteArray) (q1 q2 q3:ByteArray) (g:List ByteArray) (p f s:ByteArray),g.length+m<=6->(∀w∈g,w.size<=50)->
  EvP (λk=>Z50.l0 k c q q1 q2 q3 g p f s m) λr=>∃g',r.2=(q,q1,q2,q3,g',p,f,s)/\cu (n+m) r.1/\g'.length<=6/\∀w∈g',w.size<=50
 |0,_,n,c,hc,hn,q,q1,q2,q3,g,p,f,s,hg,hw=>by
  refine EvP.step (λk=>by rw[Z50.l0]) ?_
  simp(disch:=omega) only[Qn]
  exact EvP.pure _ ⟨g,rfl,hc.mono (by omega),by omega,hw⟩
 |m+1,hm,n,c,hc,hn,q,q1,q2,q3,g,p,f,s,hg,hw=>by
  refine EvP.step (λk=>by rw[Z50.l0]) ?_
  simp(disch:=omega) only[Qc]
  refine YH hc (by omega) (by decide) (by decide) (by decide) λc1 x hc1 hx=>?_
  dsimp only
  have hr:room (g.length+([x]:List ByteArray).length) .str=true:=Q4H (by simp;omega) (by decide)
  rw[show(((m+1:Nat):Int)-1)=(m:Int) by omega]
  simp(disch:=omega) only[hr,cond_true,wrap_in]
  refine EvP.mono (Q6A m (by omega) hc1 (by omega) q q1 q2 q3 (g++[x]) p f s (by simp;omega) λw h=>?_) λr hr=>?_
  ·rcases List.mem_append.1 h with h|h
   ·exact hw w h
   ·rw[List.mem_singleton.1 h];exact hx
  ·obtain⟨g',h1,h2,h3⟩:=hr
   exact⟨g',h1,h2.mono (by omega),h3⟩
theorem Qbj {n:Int}{c:Cur}(h:cu n c)(hn:n<=700000):EvP (λk=>Z50.F k c) λr=>cu (n+10) r.1/\Q1n r.2/\r.2.given.length<=6:=by
 unfold Z50.F
 simp(disch:=decide) only[Qc]
 refine YH h (by omega) (by decide) (by decide) (by decide) λc1 x hc1 hx=>?_
 refine Us hc1 (by omega) (by omega) (by omega) λc2 y hc2 y0 y1=>?_
 obtain⟨m,rfl⟩:∃m:Nat,y=m:=⟨y.toNat,by omega⟩
 refine EvP.bind (Q6A m (by omega) hc2 (by omega) [] _ _ _ [] ⟨#[]⟩ x ⟨#[]⟩ (by simp;omega) (by simp)) λr hr=>?_
 obtain⟨r1,r2⟩:=r
 obtain⟨g,rfl,h2,h3,h4⟩:=hr
 have h2:cu (n+1+1+m) r1:=h2
 dsimp only
 have z:(⟨#[]⟩:ByteArray).size<=50:=by decide
 refine JZ h2 (by omega) (by decide) (by decide) λc3 b3 hc3=>?_
 refine EvP.cond (λ_=>?_) (λ_=>?_)
 ·refine YH hc3 (by omega) (by decide) (by decide) (by decide) λc4 x4 hc4 hx4=>?_
  refine JZ hc4 (by omega) (by decide) (by decide) λc5 b5 hc5=>?_
  refine EvP.cond (λ_=>?_) (λ_=>?_)
  ·refine YH hc5 (by omega) (by decide) (by decide) (by decide) λc6 x6 hc6 hx6=>?_
   exact EvP.pure _ ⟨hc6.mono (by omega),⟨by show g.length<=8;omega,h4,hx4,hx,hx6⟩,h3⟩
  ·exact EvP.pure _ ⟨hc5.mono (by omega),⟨by show g.length<=8;omega,h4,hx4,hx,z⟩,h3⟩
 ·refine JZ hc3 (by omega) (by decide) (by decide) λc5 b5 hc5=>?_
  refine EvP.cond (λ_=>?_) (λ_=>?_)
  ·refine YH hc5 (by omega) (by decide) (by decide) (by decide) λc6 x6 hc6 hx6=>?_
   exact EvP.pure _ ⟨hc6.mono (by omega),⟨by show g.length<=8;omega,h4,z,hx,hx6⟩,h3⟩
  ·exact EvP.pure _ ⟨hc5.mono (by omega),⟨by show g.length<=8;omega,h4,z,hx,z⟩,h3⟩
theorem Q7H {m:Nat}{l:List Name}{n:Name}(h:JP m l)(hn:Q1n n):JP (m+1) (l++[n]):=by
 refine⟨by have:=h.1;simp;omega,λx hx=>?_⟩
 rcases List.mem_append.1 hx with hx|hx
 ·exact h.2 x hx
 ·rw[List.mem_singleton.1 hx];exact hn
theorem Q4I:∀m:Nat,m<=6->∀{n:Int} {c:Cur},cu n c->n+10*m<=600000->∀(q:Nat) (l:List Name),q+m<=20->JP q l->EvP (λk=>Z44.l0 k c l m) λr=>cu (n+10*m) r.1/\JP (q+m) r.2
 |0,_,n,c,hc,hn,q,l,hq,hl=>by
  refine EvP.step (λk=>by rw[Z44.l0]) ?_
  simp(disch:=omega) only[Qn]
  exact EvP.pure _ ⟨hc.mono (by omega),hl⟩
 |m+1,hm,n,c,hc,hn,q,l,hq,hl=>by
  refine EvP.step (λk=>by rw[Z44.l0]) ?_
  simp(disch:=omega) only[Qc]
  refine EvP.bind (Qbj hc (by omega)) λr hr=>?_
  obtain⟨h1,h2,_⟩:=hr
  have hrm:room (l.length+([(⟨r.2.given,r.2.particle,r.2.family,r.2.suffix⟩:Name)]:List Name).length) .name=true:=Q4H (by have:=hl.1;simp;omega) (by decide)
  rw[show(((m+1:Nat):Int)-1)=(m:Int) by omega]
  simp(disch:=omega) only[hrm,cond_true,wrap_in]
  refine EvP.mono (Q4I m (by omega) h1 (by omega) (q+1) _ (by omega) (Q7H hl (n:=⟨r.2.given,r.2.particle,r.2.family,r.2.suffix⟩) h2)) λy hy=>⟨hy.1.mono (by omega),?_⟩
  rw[show q+(m+1)=q+1+m by omega]
  exact hy.2
theorem Q6B {n:Int}{c:Cur}(h:cu n c)(hn:n<=500000):EvP (λk=>Z44.F k c) λr=>cu (n+60) r.1/\JP 6 r.2:=by
 unfold Z44.F
 refine Us h (by omega) (by omega) (by omega) λc2 y hc2 y0 y1=>?_
 obtain⟨m,rfl⟩:∃m:Nat,y=m:=⟨y.toNat,by omega⟩
 refine EvP.bind (Q4I m (by omega) hc2 (by omega) 0 [] (by omega) ⟨Nat.le_refl _,λn h=>by cases h⟩) λr hr=>?_
 exact EvP.pure _ ⟨hr.1.mono (by omega),by have:=hr.2.1;show r.2.length<=6;omega,hr.2.2⟩
end Go.Proofs.YtpmlmdfbhmgikaaGreatDoor
end
section
/- Plain laws: lower case,the other way. -/
namespace Go.Proofs.YtpmlmdfbhmgikaaGreatDoor
open Go.Gx
end Go.Proofs.YtpmlmdfbhmgikaaGreatDoor
end
section
/- What the laws draw: entries,entries near to others,containers. -/
namespace Go.Proofs.YtpmlmdfbhmgikaaGreatDoor
open Go.Gx
def J5 (m:Nat)(e:Entry):Prop:=e.key.size<=200/\e.title.size<=m/\e.container.size<=200/\e.publisher.size<=200/\e.pages.size<=200/\e.cross.size<=200/\JP 8 e.authors/\JP 8 e.editors
theorem Qar (l:List ByteArray)(h:∀w∈l,w.size<=50):Yu l<=50*l.length:=by
 induction l with
 |nil=>exact Nat.le_refl _
 |cons x l ih=>
  have h1:=h x List.mem_cons_self
  have h2:=ih λw hw=>h w (List.mem_cons_of_mem _ hw)
  have:Yu (x::l)=x.size+Yu l:=by simp[Yu]
  rw[this,List.length_cons]
  omega
theorem Qas {n:Name}(h:Q1n n):Ky n<=600:=by
 obtain⟨h1,h2,h3,h4,h5⟩:=h
 have:=Qar _ h2
 unfold Ky
 omega
theorem Q4J {m:Nat}{l:List Name}(h:JP m l)(hm:m<=10):JW l<=10000:=by
 have:∀l:List Name,(∀n∈l,Q1n n)->(l.map Ky).sum<=600*l.length:=λl=>by
  induction l with
  |nil=>intro _;exact Nat.le_refl _
  |cons x l ih=>
   intro h
   have h1:=Qas (h x List.mem_cons_self)
   have h2:=ih λw hw=>h w (List.mem_cons_of_mem _ hw)
   simp only[List.map_cons,List.sum_cons,List.length_cons]
   omega
 have h1:=this l h.2
 have h2:=h.1
 unfold JW
 omega
theorem Q4K {m:Nat}(hm:m<=200){e:Entry}(h:J5 m e):Q1z e<=30000:=by
 obtain⟨h1,h2,h3,h4,h5,h6,h7,h8⟩:=h
 have:=Q4J h7 (by omega)
 have:=Q4J h8 (by omega)
 unfold Q1z
 omega
theorem UQ {x:ByteArray}(h:x.size<=50):x.size<=200:=by omega
theorem Q6C {m k:Nat}{l:List Name}(h:JP m l)(hk:m<=k):JP k l:=⟨Nat.le_trans h.1 hk,h.2⟩
theorem Qbk (k:Nat):JP k ([]:List Name):=⟨Nat.zero_le _,λn h=>by cases h⟩
theorem Qat {n:Int}{c:Cur}(h:cu n c)(hn:n<=400000):EvP (λk=>Z105.F k c) λr=>cu (n+200) r.1/\J5 50 r.2:=by
 unfold Z105.F
 refine YH h (by omega) (by decide) (by decide) (by decide) λc1 x1 hc1 hx1=>?_
 refine Us hc1 (by omega) (by omega) (by omega) λc2 x2 hc2 _ _=>?_
 refine EvP.bind (Q6B hc2 (by omega)) λr3 hr3=>?_
 obtain⟨hc3,hn3⟩:=hr3
 refine EvP.of0 (a:=[(⟨#[79,110,32,114,105,118,101,114,115]⟩:ByteArray),(⟨#[65,32,104,105,115,116,111,114,121,32,111,102,32,109,97,112,115]⟩:ByteArray),(⟨#[84,104,101,32,110,111,114,116,104]⟩:ByteArray),(⟨#[79,108,100,32,114,111,97,100,115,58,32,97,32,103,117,105,100,101]⟩:ByteArray),(⟨#[79,110,32,114,105,118,101,114,115]⟩:ByteArray),(⟨#[]⟩:ByteArray)]) rfl ?_
 refine YH hc3 (by omega) (by decide) (by decide) (by decide) λc5 x5 hc5 hx5=>?_
 dsimp only
 obtain⟨r6,e6,hc6⟩:=Qaq hc5 (by omega)
 refine EvP.of0 e6 ?_
 refine JZ hc6 (by omega) (by decide) (by decide) λc7 b7 hc7=>?_
 dsimp only
 have a1:=UQ hx1
 have a5:=hx5
 have n3:=Q6C hn3 (show 6<=8 by omega)
 have z:(⟨#[]⟩:ByteArray).size<=200:=by decide
 have n0:=Qbk 8
 refine EvP.cond (λ_=>?_) (λ_=>?_)
 ·refine EvP.bind (Q6B hc7 (by omega)) λr8 hr8=>?_
  obtain⟨hc8,hn8⟩:=hr8
  have n8:=Q6C hn8 (show 6<=8 by omega)
  refine JZ hc8 (by omega) (by decide) (by decide) λc9 b9 hc9=>?_
  refine EvP.cond (λ_=>?_) (λ_=>?_)
  ·refine YH hc9 (by omega) (by decide) (by decide) (by decide) λc10 x10 hc10 hx10=>?_
   refine Q3o hc10 (by omega) (by decide) (by decide) λc11 x11 hc11=>?_
   refine YH hc11 (by omega) (by decide) (by decide) (by decide) λc12 x12 hc12 hx12=>?_
   refine JZ hc12 (by omega) (by decide) (by decide) λc13 b13 hc13=>?_
   have a10:=UQ hx10
   have a12:=UQ hx12
   refine EvP.cond (λ_=>?_) (λ_=>?_)
   ·refine YH hc13 (by omega) (by decide) (by decide) (by decide) λc14 x14 hc14 hx14=>?_
    refine JZ hc14 (by omega) (by decide) (by decide) λc15 b15 hc15=>?_
    have a14:=UQ hx14
    refine EvP.cond (λ_=>?_) (λ_=>?_)
    ·refine YH hc15 (by omega) (by decide) (by decide) (by decide) λc16 x16 hc16 hx16=>?_
     exact EvP.pure _ ⟨hc16.mono (by omega),a1,a5,a10,a14,a12,UQ hx16,n3,n8⟩
    ·exact EvP.pure _ ⟨hc15.mono (by omega),a1,a5,a10,a14,a12,z,n3,n8⟩
   ·refine JZ hc13 (by omega) (by decide) (by decide) λc15 b15 hc15=>?_
    refine EvP.cond (λ_=>?_) (λ_=>?_)
    ·refine YH hc15 (by omega) (by decide) (by decide) (by decide) λc16 x16 hc16 hx16=>?_
     exact EvP.pure _ ⟨hc16.mono (by omega),a1,a5,a10,z,a12,UQ hx16,n3,n8⟩
    ·exact EvP.pure _ ⟨hc15.mono (by omega),a1,a5,a10,z,a12,z,n3,n8⟩
  ·refine JZ hc9 (by omega) (by decide) (by decide) λc13 b13 hc13=>?_
   refine EvP.cond (λ_=>?_) (λ_=>?_)
   ·refine YH hc13 (by omega) (by decide) (by decide) (by decide) λc14 x14 hc14 hx14=>?_
    refine JZ hc14 (by omega) (by decide) (by decide) λc15 b15 hc15=>?_
    have a14:=UQ hx14
    refine EvP.cond (λ_=>?_) (λ_=>?_)
    ·refine YH hc15 (by omega) (by decide) (by decide) (by decide) λc16 x16 hc16 hx16=>?_
     exact EvP.pure _ ⟨hc16.mono (by omega),a1,a5,z,a14,z,UQ hx16,n3,n8⟩
    ·exact EvP.pure _ ⟨hc15.mono (by omega),a1,a5,z,a14,z,z,n3,n8⟩
   ·refine JZ hc13 (by omega) (by decide) (by decide) λc15 b15 hc15=>?_
    refine EvP.cond (λ_=>?_) (λ_=>?_)
    ·refine YH hc15 (by omega) (by decide) (by decide) (by decide) λc16 x16 hc16 hx16=>?_
     exact EvP.pure _ ⟨hc16.mono (by omega),a1,a5,z,z,z,UQ hx16,n3,n8⟩
    ·exact EvP.pure _ ⟨hc15.mono (by omega),a1,a5,z,z,z,z,n3,n8⟩
 ·refine JZ hc7 (by omega) (by decide) (by decide) λc9 b9 hc9=>?_
  refine EvP.cond (λ_=>?_) (λ_=>?_)
  ·refine YH hc9 (by omega) (by decide) (by decide) (by decide) λc10 x10 hc10 hx10=>?_
   refine Q3o hc10 (by omega) (by decide) (by decide) λc11 x11 hc11=>?_
   refine YH hc11 (by omega) (by decide) (by decide) (by decide) λc12 x12 hc12 hx12=>?_
   refine JZ hc12 (by omega) (by decide) (by decide) λc13 b13 hc13=>?_
   have a10:=UQ hx10
   have a12:=UQ hx12
   refine EvP.cond (λ_=>?_) (λ_=>?_)
   ·refine YH hc13 (by omega) (by decide) (by decide) (by decide) λc14 x14 hc14 hx14=>?_
    refine JZ hc14 (by omega) (by decide) (by decide) λc15 b15 hc15=>?_
    have a14:=UQ hx14
    refine EvP.cond (λ_=>?_) (λ_=>?_)
    ·refine YH hc15 (by omega) (by decide) (by decide) (by decide) λc16 x16 hc16 hx16=>?_
     exact EvP.pure _ ⟨hc16.mono (by omega),a1,a5,a10,a14,a12,UQ hx16,n3,n0⟩
    ·exact EvP.pure _ ⟨hc15.mono (by omega),a1,a5,a10,a14,a12,z,n3,n0⟩
   ·refine JZ hc13 (by omega) (by decide) (by decide) λc15 b15 hc15=>?_
    refine EvP.cond (λ_=>?_) (λ_=>?_)
    ·refine YH hc15 (by omega) (by decide) (by decide) (by decide) λc16 x16 hc16 hx16=>?_
     exact EvP.pure _ ⟨hc16.mono (by omega),a1,a5,a10,z,a12,UQ hx16,n3,n0⟩
    ·exact EvP.pure _ ⟨hc15.mono (by omega),a1,a5,a10,z,a12,z,n3,n0⟩
  ·refine JZ hc9 (by omega) (by decide) (by decide) λc13 b13 hc13=>?_
   refine EvP.cond (λ_=>?_) (λ_=>?_)
   ·refine YH hc13 (by omega) (by decide) (by decide) (by decide) λc14 x14 hc14 hx14=>?_
    refine JZ hc14 (by omega) (by decide) (by decide) λc15 b15 hc15=>?_
    have a14:=UQ hx14
    refine EvP.cond (λ_=>?_) (λ_=>?_)
    ·refine YH hc15 (by omega) (by decide) (by decide) (by decide) λc16 x16 hc16 hx16=>?_
     exact EvP.pure _ ⟨hc16.mono (by omega),a1,a5,z,a14,z,UQ hx16,n3,n0⟩
    ·exact EvP.pure _ ⟨hc15.mono (by omega),a1,a5,z,a14,z,z,n3,n0⟩
   ·refine JZ hc13 (by omega) (by decide) (by decide) λc15 b15 hc15=>?_
    refine EvP.cond (λ_=>?_) (λ_=>?_)
    ·refine YH hc15 (by omega) (by decide) (by decide) (by decide) λc16 x16 hc16 hx16=>?_
     exact EvP.pure _ ⟨hc16.mono (by omega),a1,a5,z,z,z,UQ hx16,n3,n0⟩
    ·exact EvP.pure _ ⟨hc15.mono (by omega),a1,a5,z,z,z,z,n3,n0⟩
theorem Q6D (xs:List Name)(hx:JP 8 xs):∀n i:Nat,i+n=xs.length->Ev (λk=>Z13.l0 k xs (xs.take i) i) xs
 |0,i,h=>by
  refine Ev.step (λk=>by rw[Z13.l0]) ?_
  simp(disch:=omega) only[Qn]
  rw[List.take_of_length_le (by omega)]
  exact Ev.pure _
 |n+1,i,h=>by
  have hl:=hx.1
  have hi:i<xs.length:=by omega
  have hg:=(hx.2 _ (List.getElem_mem hi)).1
  have e:xs.getD i (Q5 .name)=xs[i]:=getD_at hi _
  have r1:∀(g:List ByteArray),g.length<=8->room (([]:List ByteArray).length+g.length) .str=true:=λg hg=>Q4H (by simp;omega) (by decide)
  have r2:∀x:Name,room ((xs.take i).length+([x]:List Name).length) .name=true:=λx=>Q4H (by simp;omega) (by decide)
  refine Ev.step (λk=>by rw[Z13.l0]) ?_
  simp(disch:=omega) only[Qc,Int.toNat_natCast,e,r1 _ hg,r2,cond_true,wrap_in,List.nil_append]
  have:xs.take i++[xs[i]]=xs.take (i+1):=by simp
  rw[show(⟨xs[i].given,xs[i].particle,xs[i].family,xs[i].suffix⟩:Name)=xs[i]from rfl,this]
  exact Q6D xs hx n (i+1) (by omega)
theorem Q3p (xs:List Name)(hx:JP 8 xs):Ev (λk=>Z13.F k xs) xs:=by
 unfold Z13.F
 exact Ev.bind (Q6D xs hx xs.length 0 (by omega)) (Ev.pure _)
theorem Q1o {m:Nat}(e:Entry)(h:J5 m e):Ev (λk=>Z70.F k e) e:=by
 obtain⟨h1,h2,h3,h4,h5,h6,h7,h8⟩:=h
 unfold Z70.F
 exact Ev.bind (Q3p _ h7) (Ev.bind (Q3p _ h8) (Ev.pure _))
end Go.Proofs.YtpmlmdfbhmgikaaGreatDoor
end
section
/- What the laws draw: libraries. -/
namespace Go.Proofs.YtpmlmdfbhmgikaaGreatDoor
open Go.Gx
def Ui (m:Nat)(l:List Entry):Prop:=l.length<=m/\∀e∈l,J5 50 e
theorem Q4L {m:Nat}{l:List Entry}(h:Ui m l)(hm:m<=20):JY ⟨l⟩:=by
 have:∀l:List Entry,(∀n∈l,J5 50 n)->(l.map Q1z).sum<=30000*l.length:=λl=>by
  induction l with
  |nil=>intro _;exact Nat.le_refl _
  |cons x l ih=>
   intro h
   have h1:=Q4K (by omega) (h x List.mem_cons_self)
   have h2:=ih λw hw=>h w (List.mem_cons_of_mem _ hw)
   simp only[List.map_cons,List.sum_cons,List.length_cons]
   omega
 have h1:=this l h.2
 have h2:=h.1
 unfold JY Q6j
 show l.length+(l.map Q1z).sum<=1048576
 omega
theorem Gh {m:Nat}{l:List Entry}{n:Entry}(h:∀e∈l,J5 50 e)(hn:J5 50 n):∀e∈l++[n],J5 50 e:=λx hx=>by
 rcases List.mem_append.1 hx with hx|hx
 ·exact h x hx
 ·rw[List.mem_singleton.1 hx];exact hn
theorem KX {l:List Entry}{i:Nat}(h:∀e∈l,J5 50 e)(hi:i<l.length)(d:Entry):J5 50 (l.getD i d):=by
 rw[getD_at hi];exact h _ (List.getElem_mem hi)
theorem Q7I {l:List Entry}{i:Nat}{n:Entry}(h:∀e∈l,J5 50 e)(hn:J5 50 n):∀e∈l.set i n,J5 50 e:=λx hx=>by
 rcases List.mem_or_eq_of_mem_set hx with hx|rfl
 ·exact h x hx
 ·exact hn
theorem Qau:(⟨#[]⟩:ByteArray).size<=200:=by decide
theorem Q9u {n:Nat}(hn:n<=1000):room n .entry=true:=Q4H hn (by decide)
def wB (b:Bool):Nat:=bif b then 0 else 1
theorem Q5M (xs:List Entry)(hx:∀e∈xs,J5 50 e)(hl:xs.length<=20)(e:Entry)(he:J5 50 e):∀n i:Nat,i+n=xs.length->∀(z acc:List Entry) (b:Bool),acc.length+n+wB b<=40->(∀e∈acc,J5 50 e)->
  EvP (λk=>Z17.l0 k ⟨xs⟩ e z acc b i) λr=>r.1=e/\r.2.2.1.length+wB r.2.2.2<=acc.length+n+wB b/\∀e∈r.2.2.1,J5 50 e
 |0,i,h,z,acc,b,hb,ha=>by
  refine EvP.step (λk=>by rw[Z17.l0]) ?_
  dsimp only
  simp(disch:=omega) only[Qn]
  exact EvP.pure _ ⟨rfl,by show acc.length+wB b<=_;omega,ha⟩
 |n+1,i,h,z,acc,b,hb,ha=>by
  have hi:i<xs.length:=by omega
  have hm:=hx _ (List.getElem_mem hi)
  have c1:=Q1o e he
  have c2:=Q1o xs[i] hm
  have r1:∀x:Entry,room (acc.length+([x]:List Entry).length) .entry=true:=λx=>Q9u (by simp;omega)
  have r2:∀x y:Entry,room ((acc++[x]).length+([y]:List Entry).length) .entry=true:=λx y=>Q9u (by simp;omega)
  have old:∀(acc':List Entry) (b':Bool),acc'.length+wB b'<=acc.length+wB b->(∀e∈acc',J5 50 e)->(∀y:Entry,room (acc'.length+([y]:List Entry).length) .entry=true)->
    EvP (λk=>bif decide (0<=(i:Int))then(bif decide ((i:Int)<(xs.length:Int))then(bif (!Qo ((xs.getD (i:Int).toNat (Q5 .entry)).key) e.key)then(bif decide (0<=(i:Int))then(bif decide ((i:Int)<(xs.length:Int))then((Z70.F k (xs.getD (i:Int).toNat (Q5 .entry))).bind λr2=>bif room (acc'.length+([r2]:List Entry).length) .entry then(Z17.l0 k ⟨xs⟩ e z (acc'++([r2]:List Entry)) b' (IntKind.wrap .i64 ((i:Int)+1)))else none)else none)else none)else(Z17.l0 k ⟨xs⟩ e z acc' b' (IntKind.wrap .i64 ((i:Int)+1))))else none)else none)
     λr=>r.1=e/\r.2.2.1.length+wB r.2.2.2<=acc.length+(n+1)+wB b/\∀e∈r.2.2.1,J5 50 e:=λacc' b' h1 h2 h3=>by
   simp(disch:=omega) only[Qc,Int.toNat_natCast,getD_at hi]
   refine EvP.cond (λ_=>?_) (λ_=>?_)
   ·refine EvP.of c2 ?_
    simp(disch:=omega) only[h3,cond_true,wrap_in]
    refine EvP.mono (Q5M xs hx hl e he n (i+1) (by omega) z (acc'++[xs[i]]) b' (by simp;omega) (Gh (m:=0) h2 hm)) λr hr=>⟨hr.1,?_,hr.2.2⟩
    have:=hr.2.1
    simp at this
    omega
   ·simp(disch:=omega) only[wrap_in]
    refine EvP.mono (Q5M xs hx hl e he n (i+1) (by omega) z acc' b' (by omega) h2) λr hr=>⟨hr.1,?_,hr.2.2⟩
    have:=hr.2.1
    omega
  refine EvP.step (λk=>by rw[Z17.l0]) ?_
  dsimp only
  have e1:=old acc b (Nat.le_refl _) ha r1
  simp(disch:=omega) only[Qc,Int.toNat_natCast,getD_at hi]at e1
  simp(disch:=omega) only[Qc,Int.toNat_natCast,getD_at hi]
  refine EvP.cond (λ_=>?_) (λ_=>?_)
  ·cases b with
   |true=>
    simp only[Bool.not_true,cond_false]
    exact e1
   |false=>
    simp only[Bool.not_false,cond_true]
    refine EvP.of c1 ?_
    simp only[r1,cond_true]
    have e2:=old (acc++[e]) true (by simp[wB]) (Gh (m:=0) ha he) (r2 e)
    simp(disch:=omega) only[Qc,Int.toNat_natCast,getD_at hi]at e2
    exact e2
  ·exact e1
theorem Q9v {m:Nat}{xs:List Entry}(hx:Ui m xs)(hm:m<=15){e:Entry}(he:J5 50 e):EvP (λk=>Z17.F k ⟨xs⟩ e) λr=>Ui (m+1) r.entries:=by
 unfold Z17.F
 have hl:=hx.1
 refine EvP.bind (Q5M xs hx.2 (by omega) e he xs.length 0 (by omega) [] [] false (by simp[wB];omega) (by simp)) λr hr=>?_
 obtain⟨h1,h2,h3⟩:=hr
 have h2:r.2.2.1.length+wB r.2.2.2<=xs.length+1:=by simpa[wB]using h2
 refine EvP.cond (λhb=>?_) (λhb=>?_)
 ·rw[h1]
  refine EvP.of (Q1o e he) ?_
  rw[Q9u (by simp;omega)]
  refine EvP.pure _ ⟨?_,Gh (m:=0) h3 he⟩
  have:r.2.2.2=false:=by cases h:r.2.2.2<;>rw[h]at hb<;>first|rfl|cases hb
  rw[this]at h2
  show(r.2.2.1++[e]).length<=m+1
  simp[wB]at h2 ⊢
  omega
 ·exact EvP.pure _ ⟨by show r.2.2.1.length<=m+1;omega,h3⟩
theorem Q1p:∀m:Nat,m<=6->∀{n:Int} {c:Cur},cu n c->n+250*m<=300000->∀(q:Nat) (z l:List Entry),q+m<=8->Ui q l->EvP (λk=>Z36.l0 k c z l m) λr=>cu (n+250*m) r.1/\Ui (q+m) r.2.2
 |0,_,n,c,hc,hn,q,z,l,hq,hl=>by
  refine EvP.step (λk=>by rw[Z36.l0]) ?_
  simp(disch:=omega) only[Qn]
  exact EvP.pure _ ⟨hc.mono (by omega),hl⟩
 |m+1,hm,n,c,hc,hn,q,z,l,hq,hl=>by
  refine EvP.step (λk=>by rw[Z36.l0]) ?_
  simp(disch:=omega) only[Qc]
  refine EvP.bind (Qat hc (by omega)) λr hr=>?_
  obtain⟨h1,g1,g2,g3,g4,g5,g6,g7,g8⟩:=hr
  have w1:IntKind.wrap .i64 (((m+1:Nat):Int)-1)=(m:Int):=by rw[wrap_in (by omega) (by omega)];omega
  have next:∀{n':Int} {c':Cur} {l':Library},cu n' c'->n'<=n+250->Ui (q+1) l'.entries->EvP (λk=>Z36.l0 k c' z l'.entries (IntKind.wrap .i64 (((m+1:Nat):Int)-1))) λr=>cu (n+250* (m+1:Nat)) r.1/\Ui (q+(m+1)) r.2.2:=λ{n' c' l'} hc' hn' hl'=>by
   rw[w1]
   refine EvP.mono (Q1p m (by omega) hc' (by omega) (q+1) z _ (by omega) hl') λy hy=>⟨hy.1.mono (by omega),?_⟩
   rw[show q+(m+1)=q+1+m by omega]
   exact hy.2
  refine JZ h1 (by omega) (by decide) (by decide) λc3 b3 hc3=>?_
  refine EvP.cond (λ_=>?_) (λ_=>?_)
  ·refine YH hc3 (by omega) (by decide) (by decide) (by decide) λc4 x4 hc4 hx4=>?_
   refine EvP.cond (λ_=>?_) (λ_=>?_)
   ·refine EvP.bind (Q9v hl (by omega) (e:=⟨r.2.key,r.2.kind,r.2.authors,r.2.editors,r.2.title,r.2.container,r.2.publisher,r.2.date,r.2.volume,r.2.pages,⟨#[]⟩⟩) ⟨g1,g2,g3,g4,g5,Qau,g7,g8⟩) λy hy=>?_
    exact next hc4 (by omega) hy
   ·refine EvP.bind (Q9v hl (by omega) (e:=⟨r.2.key,r.2.kind,r.2.authors,r.2.editors,r.2.title,r.2.container,r.2.publisher,r.2.date,r.2.volume,r.2.pages,x4⟩) ⟨g1,g2,g3,g4,g5,UQ hx4,g7,g8⟩) λy hy=>?_
    exact next hc4 (by omega) hy
  ·refine EvP.bind (Q9v hl (by omega) (e:=r.2) ⟨g1,g2,g3,g4,g5,g6,g7,g8⟩) λy hy=>?_
   exact next hc3 (by omega) hy
theorem Q7J {n:Int}{c:Cur}(h:cu n c)(hn:n<=200000):EvP (λk=>Z36.F k c) λr=>cu (n+2000) r.1/\Ui 6 r.2.entries:=by
 unfold Z36.F
 refine Us h (by omega) (by omega) (by omega) λc2 y hc2 y0 y1=>?_
 obtain⟨m,rfl⟩:∃m:Nat,y=m:=⟨y.toNat,by omega⟩
 refine EvP.bind (Q1p m (by omega) hc2 (by omega) 0 [] [] (by omega) ⟨Nat.le_refl _,λn h=>by cases h⟩) λr hr=>?_
 exact EvP.pure _ ⟨hr.1.mono (by omega),by have:=hr.2.1;show r.2.2.length<=6;omega,hr.2.2⟩
theorem Qav {n:Int}{c:Cur}(h:cu n c)(hn:n<=400000){l:Library}(hl:Ui 10 l.entries):EvP (λ_=>Z106.F c l) λr=>cu (n+5) r.1/\r.2.size<=200:=by
 unfold Z106.F
 have hlen:=hl.1
 by_cases c0:(l.entries.length:Int)=0
 ·simp(disch:=exact c0) only[ceq]
  refine YH h (by omega) (by decide) (by decide) (by decide) λc5 x5 hc5 hx5=>?_
  exact EvP.pure _ ⟨hc5.mono (by omega),UQ hx5⟩
 ·simp(disch:=exact c0) only[cne]
  refine JZ h (by omega) (by decide) (by decide) λc6 b6 hc6=>?_
  refine EvP.cond (λ_=>?_) (λ_=>?_)
  ·refine YH hc6 (by omega) (by decide) (by decide) (by decide) λc5 x5 hc5 hx5=>?_
   exact EvP.pure _ ⟨hc5.mono (by omega),UQ hx5⟩
  ·refine Us hc6 (by omega) (by omega) (by omega) λc2 x2 hc2 y0 y1=>?_
   dsimp only
   simp(disch:=omega) only[Qc]
   exact EvP.pure _ ⟨hc2.mono (by omega),(KX hl.2 (by omega) _).1⟩
end Go.Proofs.YtpmlmdfbhmgikaaGreatDoor
end
section
/- The plain law of FnGroups. -/
namespace Go.Proofs.YtpmlmdfbhmgikaaGreatDoor
open Go.Gx
set_option linter.unusedSectionVars false
theorem QaM {n:Nat}(h:n<=2097152):room n .name=true:=by
 show Nat.ble (n*72) 140737488355328=true
 exact Nat.ble_eq_true_of_le (by omega)
theorem QbE {n:Nat}(h:n<=2097152):room n .str=true:=by
 show Nat.ble (n*16) 140737488355328=true
 exact Nat.ble_eq_true_of_le (by omega)
theorem neS {a b:ByteArray}(c:¬a=b):Qo a b=false:=by
 rw[<-Bool.not_eq_true]
 exact λh=>c (JH.1 h)
theorem Q9w (a b:List ByteArray)(h:a.length=b.length)(ha:a.length<=1048576):∀n i:Nat,i+n=a.length->∃v:Bool,Ev (λk=>Z38.l0 k a b a.length i) (if v=true then .inr ()else .inl false)/\(v=true ↔ a.drop i=b.drop i)
 |0,i,e=>by
  refine⟨true,Ev.step (λk=>by rw[Z38.l0]) ?_,?_⟩
  ·simp(disch:=omega) only[Qn]
   exact Ev.pure _
  ·rw[List.drop_eq_nil_of_le (by omega),List.drop_eq_nil_of_le (by omega)]
   simp
 |n+1,i,e=>by
  have hi:i<a.length:=by omega
  have hj:i<b.length:=by omega
  obtain⟨v,v1,v2⟩:=Q9w a b h ha n (i+1) (by omega)
  by_cases c:a[i]=b[i]
  ·refine⟨v,Ev.step (λk=>by rw[Z38.l0]) ?_,?_⟩
   ·simp(disch:=omega) only[Qc,Int.toNat_natCast,getD_at hi,getD_at hj,c,Yj,Bool.not_true,cond_false,wrap_in]
    exact v1
   ·rw[v2,List.drop_eq_getElem_cons hi,List.drop_eq_getElem_cons hj,c]
    simp only[List.cons.injEq,true_and]
  ·refine⟨false,Ev.step (λk=>by rw[Z38.l0]) ?_,?_⟩
   ·simp(disch:=omega) only[Qc,Int.toNat_natCast,getD_at hi,getD_at hj,neS c,Bool.not_false,cond_true]
    exact Ev.pure _
   ·rw[List.drop_eq_getElem_cons hi,List.drop_eq_getElem_cons hj]
    simp only[List.cons.injEq,c,false_and,Bool.false_eq_true]
theorem Qbl (a b:List ByteArray)(ha:a.length<=1048576):Ev (λk=>Z38.F k a b) (decide (a=b)):=by
 unfold Z38.F
 by_cases h:a.length=b.length
 ·obtain⟨v,v1,v2⟩:=Q9w a b h ha a.length 0 (by omega)
  rw[List.drop_zero,List.drop_zero]at v2
  have h':(a.length:Int)=b.length:=by omega
  simp(disch:=exact h') only[UK]
  cases v with
  |true=>
   rw[decide_eq_true (v2.1 rfl)]
   exact Ev.bind v1 (Ev.pure _)
  |false=>
   rw[decide_eq_false (λe=>by have:=v2.2 e;cases this)]
   exact Ev.bind v1 (Ev.pure _)
 ·have h':(a.length:Int)≠b.length:=by omega
  simp(disch:=exact h') only[Xp]
  rw[decide_eq_false (λe=>h (by rw[e]))]
  exact Ev.pure _
theorem Q9x (a b:List ByteArray)(ha:a.length<=1048576):∀n i:Nat,i+n=a.length->∃v:Bool,Ev (λk=>Z33.l0 k a b i) (if v=true then .inr (a,b)else .inl false)/\(a.length=b.length->v=true->a.drop i=b.drop i)/\(v=false->a≠b)
 |0,i,e=>by
  refine⟨true,Ev.step (λk=>by rw[Z33.l0]) ?_,λh _=>?_,λh=>by cases h⟩
  ·simp(disch:=omega) only[Qn]
   exact Ev.pure _
  ·rw[List.drop_eq_nil_of_le (by omega),List.drop_eq_nil_of_le (by omega)]
 |n+1,i,e=>by
  have hi:i<a.length:=by omega
  by_cases hj:i<b.length
  ·by_cases c:a[i]=b[i]
   ·obtain⟨v,v1,v2,v3⟩:=Q9x a b ha n (i+1) (by omega)
    refine⟨v,Ev.step (λk=>by rw[Z33.l0]) ?_,λh hv=>?_,v3⟩
    ·simp(disch:=omega) only[Qc,Int.toNat_natCast,getD_at hi,getD_at hj,c,Yj,Bool.not_true,cond_false,wrap_in]
     exact v1
    ·rw[List.drop_eq_getElem_cons hi,List.drop_eq_getElem_cons hj,c,v2 h hv]
   ·refine⟨false,Ev.step (λk=>by rw[Z33.l0]) ?_,λh hv=>(by cases hv),λ_ h=>?_⟩
    ·simp(disch:=omega) only[Qc,Int.toNat_natCast,getD_at hi,getD_at hj,neS c,Bool.not_false,cond_true]
     exact Ev.pure _
    ·subst h;exact c rfl
  ·refine⟨true,Ev.step (λk=>by rw[Z33.l0]) ?_,λh _=>by omega,λh=>by cases h⟩
   simp(disch:=omega) only[Qc,Qn]
   exact Ev.pure _
theorem Qbm (a b:List ByteArray)(ha:a.length<=1048576):Ev (λk=>Z33.F k a b) (decide (a=b)):=by
 unfold Z33.F
 obtain⟨v,v1,v2,v3⟩:=Q9x a b ha a.length 0 (by omega)
 cases v with
 |true=>
  refine Ev.bind v1 ((Ev.pure _).eq ?_)
  by_cases h:a.length=b.length
  ·have:=v2 h rfl
   rw[List.drop_zero,List.drop_zero]at this
   rw[decide_eq_true this]
   simp[h]
  ·rw[decide_eq_false (λe=>h (by rw[e]))]
   have h':(a.length:Int)≠b.length:=by omega
   exact beq_eq_false_iff_ne.2 h'
 |false=>
  rw[decide_eq_false (v3 rfl)]
  exact Ev.bind v1 (Ev.pure _)
def XM (a b:Name):Bool:=decide (a.given=b.given)&&(Qo a.particle b.particle&&(Qo a.family b.family&&Qo a.suffix b.suffix))
theorem Q2C {a b:Name}:XM a b=true ↔ a=b:=by
 unfold XM
 constructor
 ·intro h
  simp only[Bool.and_eq_true,decide_eq_true_eq,JH]at h
  cases a;cases b
  simp only at h
  obtain⟨rfl,rfl,rfl,rfl⟩:=h
  rfl
 ·rintro rfl
  simp[Yj]
theorem Q9y (a b:Name)(ha:QI a):Ev (λk=>Z83.F k a b) (XM a b):=by
 unfold Z83.F XM
 refine Ev.bind (Qbl a.given b.given (by unfold QI Ky at ha;omega)) ?_
 cases decide (a.given=b.given)<;>cases Qo a.particle b.particle<;>cases Qo a.family b.family<;>exact Ev.pure _
theorem Q9z (a b:Name)(ha:QI a):Ev (λk=>Z96.F k a b) (XM a b):=by
 unfold Z96.F XM
 refine Ev.bind (Qbm a.given b.given (by unfold QI Ky at ha;omega)) ?_
 cases decide (a.given=b.given)<;>cases Qo a.particle b.particle<;>cases Qo a.family b.family<;>exact Ev.pure _
theorem QaN (a:List ByteArray)(ha:a.length<=1048576):∀n i:Nat,i+n=a.length->Ev (λk=>Z41.l0 k a a i) (.inr ())
 |0,i,e=>by
  refine Ev.step (λk=>by rw[Z41.l0]) ?_
  simp(disch:=omega) only[Qn]
  exact Ev.pure _
 |n+1,i,e=>by
  refine Ev.step (λk=>by rw[Z41.l0]) ?_
  simp(disch:=omega) only[Qc,Yj,Bool.not_true,cond_false,wrap_in]
  exact QaN a ha n (i+1) (by omega)
theorem QbF (a:List ByteArray)(ha:a.length<=1048576):Ev (λk=>Z41.F k a a) true:=by
 unfold Z41.F
 simp only[bne_self_eq_false,cond_false]
 exact Ev.bind (QaN a ha a.length 0 (by omega)) (Ev.pure _)
theorem QbG (a:Name)(ha:QI a):Ev (λk=>Z114.F k a a) true:=by
 unfold Z114.F
 refine Ev.bind (QbF a.given (by unfold QI Ky at ha;omega)) ?_
 simp only[Yj,cond_true]
 exact Ev.pure _
theorem Q9A (a:List Name)(hl:a.length<=1048576)(ha:∀n∈a,QI n):∀n i:Nat,i+n=a.length->Ev (λk=>Z42.l0 k a a i) (.inr ())
 |0,i,e=>by
  refine Ev.step (λk=>by rw[Z42.l0]) ?_
  simp(disch:=omega) only[Qn]
  exact Ev.pure _
 |n+1,i,e=>by
  have hi:i<a.length:=by omega
  refine Ev.step (λk=>by rw[Z42.l0]) ?_
  simp(disch:=omega) only[Qc,Int.toNat_natCast,getD_at hi]
  refine Ev.bind (QbG _ (ha _ (List.getElem_mem hi))) ?_
  simp(disch:=omega) only[Bool.not_true,cond_false,wrap_in]
  exact Q9A a hl ha n (i+1) (by omega)
theorem Qbn (a:List Name)(hl:a.length<=1048576)(ha:∀n∈a,QI n):Ev (λk=>Z42.F k a a) true:=by
 unfold Z42.F
 simp only[bne_self_eq_false,cond_false]
 exact Ev.bind (Q9A a hl ha a.length 0 (by omega)) (Ev.pure _)
theorem Q3q (xs:List Name)(ht:JW xs<=1048576):∀n i:Nat,i+n=xs.length->Ev (λk=>Z13.l0 k xs (xs.take i) i) xs/\Ev (λk=>Z53.l0 k (xs.take i) xs xs.length i) xs
 |0,i,h=>by
  have hl:=Jy ht
  refine⟨Ev.step (λk=>by rw[Z13.l0]) ?_,Ev.step (λk=>by rw[Z53.l0]) ?_⟩<;>
   (simp(disch:=omega) only[Qn];exact(Ev.pure _).eq (List.take_of_length_le (by omega)))
 |n+1,i,h=>by
  have hl:=Jy ht
  have hi:i<xs.length:=by omega
  have hg:xs[i].given.length<=1048576:=by
   have:=Jn ht (List.getElem_mem hi)
   unfold QI Ky at this;omega
  have r1:room (([]:List ByteArray).length+xs[i].given.length) .str=true:=QbE (by simp;omega)
  have r2:∀z:Name,room ((xs.take i).length+([z]:List Name).length) .name=true:=λz=>QaM (by simp;omega)
  obtain⟨h1,h2⟩:=Q3q xs ht n (i+1) (by omega)
  have e:xs.take i++[(⟨[]++xs[i].given,xs[i].particle,xs[i].family,xs[i].suffix⟩:Name)]=xs.take (i+1):=by
   rw[List.take_succ_eq_append_getElem hi];rfl
  refine⟨Ev.step (λk=>by rw[Z13.l0]) ?_,Ev.step (λk=>by rw[Z53.l0]) ?_⟩
  ·simp(disch:=omega) only[Qc,Int.toNat_natCast,getD_at hi,r1,r2,cond_true,wrap_in,e];exact h1
  ·simp(disch:=omega) only[Qc,Int.toNat_natCast,getD_at hi,r1,r2,cond_true,wrap_in,e];exact h2
theorem Qaw (xs:List Name)(ht:JW xs<=1048576):Ev (λk=>Z13.F k xs) xs:=by
 unfold Z13.F;exact Ev.bind (Q3q xs ht xs.length 0 (by omega)).1 (Ev.pure _)
theorem Qax (xs:List Name)(ht:JW xs<=1048576):Ev (λk=>Z53.F k xs) xs:=by
 unfold Z53.F;exact Ev.bind (Q3q xs ht xs.length 0 (by omega)).2 (Ev.pure _)
def inA (xs:List Name)(n:Name):Bool:=xs.any λx=>XM x n
theorem Q08 {xs:List Name}{n:Name}:inA xs n=true ↔ n∈xs:=by
 unfold inA
 rw[List.any_eq_true]
 exact⟨λ⟨x,hx,e⟩=>Q2C.1 e▸hx,λh=>⟨n,h,Q2C.2 rfl⟩⟩
theorem Q9B (l:Library)(keys:List ByteArray)(hf:Found l keys):∃P:ByteArray->Nat,∀x∈keys,P x<l.entries.length/\Ev (λk=>Z1.F k l x) (P x:Int)/\Ev (λk=>Z60.F k l x) (P x:Int):=by
 have h:∀x,∃z:Nat,x∈keys->z<l.entries.length/\Ev (λk=>Z1.F k l x) (z:Int)/\Ev (λk=>Z60.F k l x) (z:Int):=λx=>by
  by_cases hx:x∈keys
  ·obtain⟨q,q0,q1,q2,q3⟩:=hf x hx
   obtain⟨m,rfl⟩:∃m:Nat,q=m:=⟨q.toNat,by omega⟩
   exact⟨m,λ_=>⟨by omega,q2,q3⟩⟩
  ·exact⟨0,λh=>absurd h hx⟩
 exact⟨λx=>Classical.choose (h x),λx hx=>Classical.choose_spec (h x) hx⟩
theorem Q3r (e:Entry)(n:Name)(hs:JX e):Ev (λk=>Z110.F k e n) (inA e.authors n):=by
 have ht:=UM hs
 have hq:∀x,x∈e.authors->Ev (λk=>(λk x=>Z86.F k x n) k x) (XM x n):=λx hx=>by
  show Ev (λk=>Z86.F k x n) _
  unfold Z86.F
  exact Ev.bind (Q9y x n (Jn ht hx)) (Ev.pure _)
 obtain⟨r,h1,h2⟩:=Ge (d:=(Q5 .name:Name)) (p:=λx=>XM x n) (q:=λk x=>Z86.F k x n) (xs:=e.authors) (l0:=λk x0 x7 x8=>Z54.l0 k x0 n x7 x8) (λk x0 x7 x8=>by rw[Z54.l0]) hq (by have:=Jy ht;omega) (F:=λk x0=>Z54.F k x0 n) (λk a0=>rfl)
 unfold Z110.F Z133.F
 refine Ev.bind (a:=inA e.authors n) (Ev.bind h1 ((Ev.pure _).eq ?_)) (Ev.pure _)
 rcases h2 with⟨rfl,h2⟩|⟨j,rfl,hj,hp,_⟩
 ·have h0:inA e.authors n=false:=by
   unfold inA
   rw[List.any_eq_false]
   intro x hx
   rw[h2 x hx]
   decide
  rw[h0];rfl
 ·have h0:inA e.authors n=true:=List.any_eq_true.2 ⟨_,List.getElem_mem hj,by rwa [getD_at hj]at hp⟩
  rw[h0]
  exact decide_eq_true (by omega)
theorem Q9C (xs:List Name)(n:Name)(hl:xs.length<=1048576)(hs:∀x∈xs,QI x):Ev (λk=>Z111.F k xs n) (inA xs n):=by
 have hq:∀x,x∈xs->Ev (λk=>(λk x=>Z87.F k x n) k x) (XM x n):=λx hx=>by
  show Ev (λk=>Z87.F k x n) _
  unfold Z87.F
  exact Ev.bind (Q9y x n (hs x hx)) (Ev.pure _)
 obtain⟨r,h1,h2⟩:=Ge (d:=(Q5 .name:Name)) (p:=λx=>XM x n) (q:=λk x=>Z87.F k x n) (xs:=xs) (l0:=λk x0 x7 x8=>Z55.l0 k x0 n x7 x8) (λk x0 x7 x8=>by rw[Z55.l0]) hq (by omega) (F:=λk x0=>Z55.F k x0 n) (λk a0=>rfl)
 unfold Z111.F
 refine Ev.bind h1 ((Ev.pure _).eq ?_)
 rcases h2 with⟨rfl,h2⟩|⟨j,rfl,hj,hp,_⟩
 ·have h0:inA xs n=false:=by
   unfold inA
   rw[List.any_eq_false]
   intro x hx
   rw[h2 x hx]
   decide
  rw[h0];rfl
 ·have h0:inA xs n=true:=List.any_eq_true.2 ⟨_,List.getElem_mem hj,by rwa [getD_at hj]at hp⟩
  rw[h0]
  exact decide_eq_true (by omega)
section
variable (l:Library) (hs:JY l) (keys:List ByteArray) (hk:keys.length<=8) (P:ByteArray->Nat)
def GV (l:Library)(P:ByteArray->Nat)(x:ByteArray):List Name:=(l.entries.getD (P x) (Q5 .entry)).authors
variable (hP:∀x∈keys,P x<l.entries.length/\Ev (λk=>Z1.F k l x) (P x:Int)/\Ev (λk=>Z60.F k l x) (P x:Int))
include hs hk hP
theorem Q1q {x:ByteArray}(hx:x∈keys):Ev (λk=>Z72.F k l x) (l.entries.getD (P x) (Q5 .entry)):=by
 obtain⟨h1,h2,h3⟩:=hP x hx
 unfold Z72.F
 refine Ev.bind h3 ?_
 simp(disch:=omega) only[Qc,Int.toNat_natCast]
 exact Ev.pure _
theorem Q1r {x:ByteArray}(hx:x∈keys):JX (l.entries.getD (P x) (Q5 .entry)):=by
 rw[getD_at (hP x hx).1]
 exact YW hs (List.getElem_mem _)
theorem Q9D (x6:List Name)(n:Name)(x27:List Name)(x28 x29:Int):∀m i:Nat,i+m=keys.length->∀c:Bool,
  Ev (λk=>Z5.l2 k keys l x6 n c x27 x28 x29 keys keys.length i) (keys,l,x6,n,c&&(keys.drop i).all (λx=>inA (GV l P x) n),x27,x28,x29)
 |0,i,h,c=>by
  refine Ev.step (λk=>by rw[Z5.l2]) ?_
  simp(disch:=omega) only[Qn]
  rw[List.drop_eq_nil_of_le (by omega)]
  exact(Ev.pure _).eq (by simp)
 |m+1,i,h,c=>by
  have hi:i<keys.length:=by omega
  have hx:keys[i]∈keys:=List.getElem_mem hi
  refine Ev.step (λk=>by rw[Z5.l2]) ?_
  simp(disch:=omega) only[Qc,Int.toNat_natCast,getD_at hi]
  rw[List.drop_eq_getElem_cons hi,List.all_cons]
  cases c with
  |true=>
   simp only[cond_true]
   refine Ev.bind (Q1q l hs keys hk P hP hx) (Ev.bind (Q3r _ n (Q1r l hs keys hk P hP hx)) ?_)
   simp(disch:=omega) only[wrap_in]
   exact(Q9D x6 n x27 x28 x29 m (i+1) (by omega) _).eq (by simp[GV])
  |false=>
   simp(disch:=omega) only[cond_false,wrap_in]
   exact(Q9D x6 n x27 x28 x29 m (i+1) (by omega) false).eq (by simp)
omit hs hk hP in
theorem Q9E (keys:List ByteArray)(l:Library)(x6 xs:List Name)(i:Nat)(hi:i<xs.length)(hl:xs.length<=1048576)(hx:∀x∈xs,QI x):∀m j:Nat,j+m=i->∀c:Bool,
  Ev (λk=>Z0.l2 k keys l x6 xs i c j) (keys,l,x6,xs,(i:Int),c&& !inA ((xs.take i).drop j) xs[i])
 |0,j,h,c=>by
  refine Ev.step (λk=>by rw[Z0.l2]) ?_
  simp(disch:=omega) only[Qn]
  rw[List.drop_eq_nil_of_le (by simp;omega)]
  exact(Ev.pure _).eq (by simp[inA])
 |m+1,j,h,c=>by
  have hj:j<xs.length:=by omega
  have hj':j<(xs.take i).length:=by simp;omega
  have e:(xs.take i).drop j=xs[j]::(xs.take i).drop (j+1):=by
   rw[List.drop_eq_getElem_cons hj',List.getElem_take]
  refine Ev.step (λk=>by rw[Z0.l2]) ?_
  simp(disch:=omega) only[Qc,Int.toNat_natCast,getD_at hi,getD_at hj]
  rw[e]
  cases c with
  |true=>
   simp only[cond_true]
   refine Ev.bind (Q9z _ _ (hx _ (List.getElem_mem hj))) ?_
   simp(disch:=omega) only[wrap_in]
   exact(Q9E keys l x6 xs i hi hl hx m (j+1) (by omega) _).eq (by simp[inA])
  |false=>
   simp(disch:=omega) only[cond_false,wrap_in]
   exact(Q9E keys l x6 xs i hi hl hx m (j+1) (by omega) false).eq (by simp)
omit hs hk hP in
theorem Q9F (keys:List ByteArray)(l:Library)(x6 xs:List Name)(i:Nat)(hi:i<xs.length)(hl:xs.length<=1048576)(b:Bool)(x11:Int)(ys:List Name)(hyl:ys.length<=1048576)(hy:∀x∈ys,QI x):∀m j:Nat,j+m=ys.length->∀c:Bool,
  Ev (λk=>Z0.l6 k keys l x6 xs i b x11 c ys j) (keys,l,x6,xs,(i:Int),b,x11,c||inA (ys.drop j) xs[i])
 |0,j,h,c=>by
  refine Ev.step (λk=>by rw[Z0.l6]) ?_
  simp(disch:=omega) only[Qn]
  rw[List.drop_eq_nil_of_le (by omega)]
  exact(Ev.pure _).eq (by simp[inA])
 |m+1,j,h,c=>by
  have hj:j<ys.length:=by omega
  refine Ev.step (λk=>by rw[Z0.l6]) ?_
  simp(disch:=omega) only[Qc,Int.toNat_natCast,getD_at hi,getD_at hj]
  rw[List.drop_eq_getElem_cons hj]
  cases c with
  |false=>
   simp only[cond_false]
   refine Ev.bind (Q9z _ _ (hy _ (List.getElem_mem hj))) ?_
   simp(disch:=omega) only[wrap_in]
   exact(Q9F keys l x6 xs i hi hl b x11 ys hyl hy m (j+1) (by omega) _).eq (by simp only[inA,List.any_cons,Bool.false_or])
  |true=>
   simp(disch:=omega) only[cond_true,wrap_in]
   exact(Q9F keys l x6 xs i hi hl b x11 ys hyl hy m (j+1) (by omega) true).eq (by simp)
theorem Q9G (x6 xs:List Name)(i:Nat)(hi:i<xs.length)(hl:xs.length<=1048576):∀m j:Nat,j+m=keys.length->∀c:Bool,
  Ev (λk=>Z0.l4 k keys l x6 xs i c j) (keys,l,x6,xs,(i:Int),c&&(keys.drop j).all (λx=>inA (GV l P x) xs[i]))
 |0,j,h,c=>by
  refine Ev.step (λk=>by rw[Z0.l4]) ?_
  simp(disch:=omega) only[Qn]
  rw[List.drop_eq_nil_of_le (by omega)]
  exact(Ev.pure _).eq (by simp)
 |m+1,j,h,c=>by
  have hj:j<keys.length:=by omega
  have hx:keys[j]∈keys:=List.getElem_mem hj
  obtain⟨p1,p2,p3⟩:=hP _ hx
  have ht:=UM (Q1r l hs keys hk P hP hx)
  refine Ev.step (λk=>by rw[Z0.l4]) ?_
  simp(disch:=omega) only[Qc,Int.toNat_natCast,getD_at hj]
  rw[List.drop_eq_getElem_cons hj,List.all_cons]
  refine Ev.bind p2 ?_
  simp(disch:=omega) only[Qc,Int.toNat_natCast]
  refine Ev.bind (Q9F keys l x6 xs i hi hl c j _ (Jy ht) (λx hx=>Jn ht hx) _ 0 (Nat.zero_add _) false) ?_
  rw[List.drop_zero,Bool.false_or]
  cases c with
  |true=>
   simp(disch:=omega) only[cond_true,wrap_in]
   exact(Q9G x6 xs i hi hl m (j+1) (by omega) _).eq (by simp[GV])
  |false=>
   simp(disch:=omega) only[cond_false,wrap_in]
   exact(Q9G x6 xs i hi hl m (j+1) (by omega) false).eq (by simp)
theorem Q9H (h0:0<keys.length)(xs:List Name)(hxs:xs=GV l P keys[0])(ht:JW xs<=1048576):∀m i:Nat,i+m=xs.length->∀out:List Name,out.length<=i->(∀n∈out,n∈xs.take i)->(∀n∈xs.take i,keys.all (λx=>inA (GV l P x) n)=true->n∈out)->
  ∃r,Ev (λk=>Z0.l0 k keys l out xs i) r/\Ev (λk=>Z5.l0 k keys l out xs xs.length i) r/\r.length<=xs.length/\∀n∈r,n∈xs
 |0,i,h,out,ho,o1,o2=>by
  refine⟨out,Ev.step (λk=>by rw[Z0.l0]) ?_,Ev.step (λk=>by rw[Z5.l0]) ?_,by omega,λn hn=>List.mem_of_mem_take (o1 n hn)⟩<;>
   (simp(disch:=omega) only[Qn];exact Ev.pure _)
 |m+1,i,h,out,ho,o1,o2=>by
  have hl:=Jy ht
  have hi:i<xs.length:=by omega
  have hsm:∀x∈xs,QI x:=λx hx=>Jn ht hx
  have hso:∀x∈out,QI x:=λx hx=>hsm x (List.mem_of_mem_take (o1 x hx))
  have e2:=Q9E keys l out xs i hi hl hsm i 0 (by omega) true
  have e4:=Q9G l hs keys hk P hP out xs i hi hl (keys.length-1) 1 (by omega) (true&& !inA ((xs.take i).drop 0) xs[i])
  have eo:=Q9C out xs[i] (by omega) hso
  have ei:=Q9D l hs keys hk P hP out xs[i] xs xs.length i keys.length 0 (by omega) (!inA out xs[i])
  rw[List.drop_zero]at e2 e4 ei
  rw[Bool.true_and]at e2 e4
  have hall:keys.all (λx=>inA (GV l P x) xs[i])=(keys.drop 1).all (λx=>inA (GV l P x) xs[i]):=by
   have:keys=keys[0]::keys.drop 1:=by rw[<-List.drop_eq_getElem_cons h0,List.drop_zero]
   rw[this,List.all_cons,<-hxs,Q08.2 (List.getElem_mem hi)]
   simp
  have hc:(!inA out xs[i]&&keys.all (λx=>inA (GV l P x) xs[i]))=(!inA (xs.take i) xs[i]&&(keys.drop 1).all (λx=>inA (GV l P x) xs[i])):=by
   rw[<-hall]
   cases ha:keys.all (λx=>inA (GV l P x) xs[i])with
   |false=>simp
   |true=>
    have:inA out xs[i]=inA (xs.take i) xs[i]:=by
     rw[Bool.eq_iff_iff,Q08,Q08]
     exact⟨λh=>o1 _ h,λh=>o2 _ h ha⟩
    rw[this]
  rw[<-hc]at e4
  have tk:xs.take (i+1)=xs.take i++[xs[i]]:=List.take_succ_eq_append_getElem hi
  cases hcc:(!inA out xs[i]&&keys.all (λx=>inA (GV l P x) xs[i]))with
  |true=>
   rw[hcc]at e4 ei
   have hr:room (out.length+([xs[i]]:List Name).length) .name=true:=QaM (by simp;omega)
   have ow:=Qaw [xs[i]] (by
    have h1:=Jn ht (List.getElem_mem hi)
    have h2:Ky xs[i]+1<=JW xs:=by
     have h3:∀(zs:List Name) (z:Name),z∈zs->Ky z+1<=JW zs:=λzs=>by
      induction zs with
      |nil=>intro z hz;cases hz
      |cons y zs ih=>
       intro z hz
       unfold JW
       simp only[List.length_cons,List.map_cons,List.sum_cons]
       rcases List.mem_cons.1 hz with rfl|hz
       ·omega
       ·have:=ih z hz
        unfold JW at this
        omega
     exact h3 xs _ (List.getElem_mem hi)
    unfold JW
    simp only[List.length_cons,List.length_nil,List.map_cons,List.map_nil,List.sum_cons,List.sum_nil]
    omega)
   obtain⟨r,r1,r2,r3⟩:=Q9H h0 xs hxs ht m (i+1) (by omega) (out++[xs[i]]) (by simp;omega)
    (λn hn=>by
     rw[tk]
     rcases List.mem_append.1 hn with hn|hn
     ·exact List.mem_append_left _ (o1 n hn)
     ·exact List.mem_append_right _ hn)
    (λn hn ha=>by
     rw[tk]at hn
     rcases List.mem_append.1 hn with hn|hn
     ·exact List.mem_append_left _ (o2 n hn ha)
     ·exact List.mem_append_right _ hn)
   refine⟨r,Ev.step (λk=>by rw[Z0.l0]) ?_,Ev.step (λk=>by rw[Z5.l0]) ?_,r3⟩
   ·simp(disch:=omega) only[Qc]
    refine Ev.bind e2 (Ev.bind e4 ?_)
    simp(disch:=omega) only[cond_true,Qc,Int.toNat_natCast,getD_at hi]
    refine Ev.bind ow ?_
    simp(disch:=omega) only[hr,cond_true,wrap_in]
    exact r1
   ·simp(disch:=omega) only[Qc,Int.toNat_natCast,getD_at hi]
    refine Ev.bind eo (Ev.bind ei ?_)
    simp(disch:=omega) only[hr,cond_true,wrap_in]
    exact r2
  |false=>
   rw[hcc]at e4 ei
   obtain⟨r,r1,r2,r3⟩:=Q9H h0 xs hxs ht m (i+1) (by omega) out (by omega)
    (λn hn=>by rw[tk];exact List.mem_append_left _ (o1 n hn))
    (λn hn ha=>by
     rw[tk]at hn
     rcases List.mem_append.1 hn with hn|hn
     ·exact o2 n hn ha
     ·rw[List.mem_singleton.1 hn]at ha ⊢
      rw[ha,Bool.and_true,Bool.not_eq_false']at hcc
      exact Q08.1 hcc)
   refine⟨r,Ev.step (λk=>by rw[Z0.l0]) ?_,Ev.step (λk=>by rw[Z5.l0]) ?_,r3⟩
   ·simp(disch:=omega) only[Qc]
    refine Ev.bind e2 (Ev.bind e4 ?_)
    simp(disch:=omega) only[cond_false,wrap_in]
    exact r1
   ·simp(disch:=omega) only[Qc,Int.toNat_natCast,getD_at hi]
    refine Ev.bind eo (Ev.bind ei ?_)
    simp(disch:=omega) only[cond_false,wrap_in]
    exact r2
end
theorem Gi (l:Library)(hs:JY l)(keys:List ByteArray)(hk:keys.length<=1048576):∃r b,Ev (λk=>Z0.F k l keys) (r,b)/\Ev (λk=>Z5.F k l keys) (r,b)/\r.length<=1048576/\∀n∈r,QI n:=by
 obtain⟨v,a1,a2,a3⟩:=Q1m l hs keys hk
 unfold Z0.F Z5.F
 cases v with
 |false=>exact⟨[],false,Ev.bind a1 (Ev.pure _),Ev.bind a2 (Ev.pure _),by simp,λ_ h=>by cases h⟩
 |true=>
  obtain⟨b1,b2,b3,b4⟩:=a3 rfl
  by_cases c:(keys.length:Int)=0
  ·refine⟨[],true,Ev.bind a1 ?_,Ev.bind a2 ?_,by simp,λ_ h=>by cases h⟩<;>
    (simp(disch:=exact c) only[Bool.not_true,cond_false,ceq];exact Ev.pure _)
  ·have h0:0<keys.length:=by omega
   obtain⟨P,hP⟩:=Q9B l keys b4
   have hx:keys[0]∈keys:=List.getElem_mem h0
   obtain⟨p1,p2,p3⟩:=hP _ hx
   have ht:=UM (Q1r l hs keys b3 P hP hx)
   obtain⟨r,r1,r2,r3,r4⟩:=Q9H l hs keys b3 P hP h0 _ rfl ht _ 0 (Nat.zero_add _) [] (by simp) (λ_ h=>by cases h) (λ_ h=>by simp at h)
   have hl:=Jy ht
   refine⟨r,true,Ev.bind a1 ?_,Ev.bind a2 ?_,Nat.le_trans r3 hl,λn hn=>Jn ht (r4 n hn)⟩
   ·simp(disch:=exact c) only[Bool.not_true,cond_false,cne]
    have z:(0:Int).toNat=0:=rfl
    simp(disch:=omega) only[Qc,z,getD_at h0]
    refine Ev.bind p2 ?_
    simp(disch:=omega) only[Qc,Int.toNat_natCast]
    exact Ev.bind r1 (Ev.pure _)
   ·simp(disch:=exact c) only[Bool.not_true,cond_false,cne]
    have z:(0:Int).toNat=0:=rfl
    simp(disch:=omega) only[Qc,z,getD_at h0]
    exact Ev.bind (Q1q l hs keys b3 P hP hx) (Ev.bind (Qax _ ht) (Ev.bind r2 (Ev.pure _)))
theorem Q9I (l:Library)(keys:List ByteArray)(hf:Found l keys):∃K:ByteArray->Int,∀x∈keys,∃q:Int,0<=q/\q<l.entries.length/\Ev (λk=>Z1.F k l x) q/\Ev (λk=>Z60.F k l x) q/\(l.entries.getD q.toNat (Q5 .entry)).kind=K x:=by
 have h:∀x,∃z:Int,x∈keys->∃q:Int,0<=q/\q<l.entries.length/\Ev (λk=>Z1.F k l x) q/\Ev (λk=>Z60.F k l x) q/\(l.entries.getD q.toNat (Q5 .entry)).kind=z:=λx=>by
  by_cases hx:x∈keys
  ·obtain⟨q,q0,q1,q2,q3⟩:=hf x hx
   exact⟨_,λ_=>⟨q,q0,q1,q2,q3,rfl⟩⟩
  ·exact⟨0,λh=>absurd h hx⟩
 exact⟨λx=>Classical.choose (h x),λx hx=>Classical.choose_spec (h x) hx⟩
theorem Q9J (l:Library)(x7:List Int)(x8:List (List ByteArray))(W:List ByteArray)(hW:W.length<=8)(K:ByteArray->Int)(hK:∀x∈W,∃q:Int,0<=q/\q<l.entries.length/\Ev (λk=>Z1.F k l x) q/\Ev (λk=>Z60.F k l x) q/\(l.entries.getD q.toNat (Q5 .entry)).kind=K x)(z:Int):∀n i:Nat,i+n=W.length->∀acc:List ByteArray,acc.length<=i->
  Ev (λk=>Z6.l2 k l x7 x8 W z acc i) (l,x7,x8,W,z,acc++(W.drop i).filter λx=>K x==z)
 |0,i,h,acc,ha=>by
  refine Ev.step (λk=>by rw[Z6.l2]) ?_
  simp(disch:=omega) only[Qn]
  exact(Ev.pure _).eq (by rw[List.drop_eq_nil_of_le (by omega)];simp)
 |n+1,i,h,acc,ha=>by
  have hi:i<W.length:=by omega
  obtain⟨q,q0,q1,q2,_,q4⟩:=hK _ (List.getElem_mem hi)
  refine Ev.step (λk=>by rw[Z6.l2]) ?_
  simp(disch:=omega) only[Qc,Int.toNat_natCast,getD_at hi]
  refine Ev.bind q2 ?_
  simp(disch:=omega) only[Qc,q4]
  rw[List.drop_eq_getElem_cons hi,List.filter_cons]
  cases hz:(K W[i]==z)with
  |false=>
   simp(disch:=omega) only[cond_false,wrap_in]
   exact(Q9J l x7 x8 W hW K hK z n (i+1) (by omega) acc (by omega)).eq rfl
  |true=>
   have hr:room (acc.length+([W[i]]:List ByteArray).length) .str=true:=Xf (by simp;omega)
   simp(disch:=omega) only[cond_true,hr,wrap_in]
   refine(Q9J l x7 x8 W hW K hK z n (i+1) (by omega) (acc++[W[i]]) (by simp;omega)).eq ?_
   simp only[if_true,List.append_assoc,List.singleton_append]
theorem Qbo (l:Library)(W:List ByteArray)(hW:W.length<=8)(K:ByteArray->Int)(hK:∀x∈W,∃q:Int,0<=q/\q<l.entries.length/\Ev (λk=>Z1.F k l x) q/\Ev (λk=>Z60.F k l x) q/\(l.entries.getD q.toNat (Q5 .entry)).kind=K x)(z:Int) :
  Ev (λk=>Z57.F k W l z) (W.filter λx=>K x==z):=by
 have hq:∀x,x∈W->Ev (λk=>(λk x=>Z69.F k x l z) k x) (K x != z):=λx hx=>by
  obtain⟨q,q0,q1,_,q3,q4⟩:=hK x hx
  show Ev (λk=>Z69.F k x l z) _
  unfold Z69.F Z72.F
  refine Ev.bind (a:=l.entries.getD q.toNat (Q5 .entry)) (Ev.bind q3 ?_) ((Ev.pure _).eq (by rw[q4]))
  simp(disch:=omega) only[Qc]
  exact Ev.pure _
 have h:=Q2o (d:=(⟨#[]⟩:ByteArray)) (p:=λx=>K x != z) (q:=λk x=>Z69.F k x l z) (xs:=W) (l0:=λk x0 x5 x6=>Z57.l0 k x0 l z x5 x6) (λk x0 x5 x6=>by rw[Z57.l0]) hq (by omega) (I:=λk x0=>Z48.F k x0 l z) (F:=λk x0=>Z57.F k x0 l z)
  (Ge (d:=(⟨#[]⟩:ByteArray)) (p:=λx=>K x != z) (q:=λk x=>Z69.F k x l z) (l0:=λk x0 x7 x8=>Z48.l0 k x0 l z x7 x8) (λk x0 x7 x8=>by rw[Z48.l0]) hq (by omega) (F:=λk x0=>Z48.F k x0 l z) (λk a0=>rfl)) (λk a0=>rfl)
 refine h.eq ?_
 congr 1
 funext x
 unfold bne
 rw[Bool.not_not]
theorem Q3s (l:Library)(hs:JY l)(hv:DF l=true)(hl:l.entries.length<=8)(keys:List ByteArray)(hk:keys.length<=8)(hf:Found l keys) :
  ∃r,Ev (λk=>Z9.F k l keys) r/\Ev (λk=>Z101.F k l keys) r/\r.length=keys.length/\∀x∈r,x∈keys:=by
 obtain⟨lt,h1,h2⟩:=Qao l hs hv hl keys hf
 refine⟨DI lt keys,?_,?_,Kw lt keys,λx hx=>Q7G hx⟩
 ·unfold Z9.F
  have:=Q6y l lt keys (by omega) hl h2 keys.length 0 (by omega) [] rfl (λy hy=>by cases hy)
  exact Ev.bind this (Ev.pure _)
 ·have hi:=Q9r l lt keys (by omega) h1
  have hr:room (([]:List ByteArray).length+keys.length) .str=true:=Xf (by simp;omega)
  obtain⟨b,hb⟩:=Qan (n:=keys.length) (by omega)
  unfold Z101.F
  rw[hr,List.nil_append]
  simp only[cond_true]
  unfold Z134.F
  rw[hb]
  refine Ev.bind (a:=DI lt keys) ?_ (Ev.pure _)
  simp only[Option.bind_some]
  refine Ev.bind (a:=DI lt keys) ?_ (by rw[Kw,Nat.beq_refl];exact Ev.pure _)
  unfold Z59.F
  refine Ev.bind (a:=DI lt keys) ?_ (by rw[Kw,Nat.beq_refl];exact Ev.pure _)
  refine Ev.step (λk=>by rw[Z59.l0]) ?_
  have e:IntKind.wrap .i64 ((keys.length:Int)-0)<=12:=by rw[wrap_in (by omega) (by omega)];omega
  rw[decide_eq_true e]
  exact Ev.bind hi (Ev.pure _)
theorem Gj (K:ByteArray->Int)(z:Int):∀W:List ByteArray,(W.filter λx=>decide (K x<z+1)).length=(W.filter λx=>decide (K x<z)).length+(W.filter λx=>K x==z).length
 |[]=>rfl
 |x::W=>by
  have ih:=Gj K z W
  simp only[List.filter_cons]
  by_cases c1:K x<z
  ·have c2:K x<z+1:=by omega
   have c3:(K x==z)=false:=beq_eq_false_iff_ne.2 (by omega)
   simp only[c1,c2,c3,decide_true,if_true,List.length_cons,Bool.false_eq_true,if_false]
   omega
  ·by_cases c3:K x=z
   ·have c2:K x<z+1:=by omega
    have c4:(K x==z)=true:=by simpa using c3
    simp only[c1,c2,c4,decide_true,decide_false,if_true,List.length_cons,Bool.false_eq_true,if_false]
    omega
   ·have c2:¬K x<z+1:=by omega
    have c4:(K x==z)=false:=beq_eq_false_iff_ne.2 c3
    simp only[c1,c2,c4,decide_false,Bool.false_eq_true,if_false]
    omega
def Gs (W:List ByteArray)(K:ByteArray->Int)(z:Int)(ks:List Int)(gs:List (List ByteArray)):Prop:=
 ks.length=gs.length/\(∀i:Nat,i<gs.length->∀x∈gs.getD i [],x∈W/\K x=ks.getD i 0)/\(gs.map List.length).sum=(W.filter λx=>decide (K x<z)).length
theorem Gs.add {W:List ByteArray}{K:ByteArray->Int}{z:Int}{ks:List Int}{gs:List (List ByteArray)}(h:Gs W K z ks gs):Gs W K (z+1) (ks++[z]) (gs++[W.filter λx=>K x==z]):=by
 obtain⟨h1,h2,h3⟩:=h
 refine⟨by simp[h1],λi hi x hx=>?_,?_⟩
 ·by_cases c:i<gs.length
  ·have e1:(gs++[W.filter λx=>K x==z]).getD i []=gs.getD i []:=by simp[List.getD,List.getElem?_append_left c]
   have e2:(ks++[z]).getD i 0=ks.getD i 0:=by simp[List.getD,List.getElem?_append_left (h1▸c)]
   rw[e1]at hx
   rw[e2]
   exact h2 i c x hx
  ·have ei:i=gs.length:=by simp at hi;omega
   subst ei
   have e1:(gs++[W.filter λx=>K x==z]).getD gs.length []=W.filter λx=>K x==z:=by simp[List.getD]
   have e2:(ks++[z]).getD gs.length 0=z:=by rw[<-h1];simp[List.getD]
   rw[e1,List.mem_filter]at hx
   rw[e2]
   exact⟨hx.1,by simpa using hx.2⟩
 ·rw[List.map_append,List.sum_append,h3,Gj]
  simp
theorem Gs.skip {W:List ByteArray}{K:ByteArray->Int}{z:Int}{ks:List Int}{gs:List (List ByteArray)}(h:Gs W K z ks gs)(h0:(W.filter λx=>K x==z).length=0):Gs W K (z+1) ks gs:=by
 obtain⟨h1,h2,h3⟩:=h
 exact⟨h1,h2,by rw[h3,Gj,h0];rfl⟩
theorem Q9K (l:Library)(keys W:List ByteArray)(hW:W.length<=8)(hs:Ev (λk=>Z101.F k l keys) W)(K:ByteArray->Int)(hK:∀x∈W,∃q:Int,0<=q/\q<l.entries.length/\Ev (λk=>Z1.F k l x) q/\Ev (λk=>Z60.F k l x) q/\(l.entries.getD q.toNat (Q5 .entry)).kind=K x):∀m z:Nat,z+m=5->∀(ks:List Int) (gs:List (List ByteArray)),gs.length<=z->Gs W K z ks gs->
  ∃ks' gs',Ev (λk=>Z6.l0 k l ks gs W z) (ks',gs')/\Ev (λk=>Z43.l0 k keys l ks gs z) (ks',gs')/\gs'.length<=5/\Gs W K 5 ks' gs'
 |0,z,h,ks,gs,h1,h2=>by
  have e:(z:Int)=5:=by omega
  refine⟨ks,gs,Ev.step (λk=>by rw[Z6.l0]) ?_,Ev.step (λk=>by rw[Z43.l0]) ?_,by omega,e▸h2⟩<;>
   (simp(disch:=omega) only[Qn];exact Ev.pure _)
 |m+1,z,h,ks,gs,h1,h2=>by
  have e1:=Q9J l ks gs W hW K hK z W.length 0 (by omega) [] (by simp)
  rw[List.drop_zero,List.nil_append]at e1
  have e2:=Qbo l W hW K hK z
  have hks:=h2.1
  by_cases hc:((W.filter λx=>K x==(z:Int)).length:Int) > 0
  ·obtain⟨ks',gs',i1,i2,i3⟩:=Q9K l keys W hW hs K hK m (z+1) (by omega) (ks++[(z:Int)]) (gs++[W.filter λx=>K x==(z:Int)]) (by simp;omega) h2.add
   have r1:room (ks.length+([(z:Int)]:List Int).length) (.int .i64)=true:=by
    show Nat.ble ((ks.length+1)*8) 140737488355328=true
    exact Nat.ble_eq_true_of_le (by omega)
   have r2:room (gs.length+([W.filter λx=>K x==(z:Int)]:List (List ByteArray)).length) (.sl .str)=true:=by
    show Nat.ble ((gs.length+1)*24) 140737488355328=true
    exact Nat.ble_eq_true_of_le (by omega)
   refine⟨ks',gs',Ev.step (λk=>by rw[Z6.l0]) ?_,Ev.step (λk=>by rw[Z43.l0]) ?_,i3⟩
   ·simp(disch:=omega) only[Qc]
    refine Ev.bind e1 ?_
    simp(disch:=omega) only[Qc,r1,r2,cond_true,wrap_in]
    exact i1
   ·simp(disch:=omega) only[Qc]
    refine Ev.bind hs (Ev.bind e2 ?_)
    simp(disch:=omega) only[Qc,r1,r2,cond_true,wrap_in]
    exact i2
  ·obtain⟨ks',gs',i1,i2,i3⟩:=Q9K l keys W hW hs K hK m (z+1) (by omega) ks gs (by omega) (h2.skip (by omega))
   refine⟨ks',gs',Ev.step (λk=>by rw[Z6.l0]) ?_,Ev.step (λk=>by rw[Z43.l0]) ?_,i3⟩
   ·simp(disch:=omega) only[Qc]
    refine Ev.bind e1 ?_
    simp(disch:=omega) only[Qn,wrap_in]
    exact i1
   ·simp(disch:=omega) only[Qc]
    refine Ev.bind hs (Ev.bind e2 ?_)
    simp(disch:=omega) only[Qn,wrap_in]
    exact i2
theorem Q5N {l:Library}(hv:DF l=true){i:Nat}(hi:i<l.entries.length):1<=(l.entries.getD i (Q5 .entry)).kind/\(l.entries.getD i (Q5 .entry)).kind<=4:=by
 unfold DF at hv
 rw[Bool.and_eq_true,List.all_eq_true]at hv
 have h:=hv.1 i (by rw[List.mem_range'_1];omega)
 unfold okL YM Q5D at h
 simp only[Bool.and_eq_true,decide_eq_true_eq]at h
 omega
def Kept (l:Library)(keys:List ByteArray)(x:ByteArray)(z:Int):Prop:=x∈keys/\∃q:Int,0<=q/\q<l.entries.length/\Ev (λk=>Z127.F k l x) (q,true)/\(l.entries.getD q.toNat (Q5 .entry)).kind=z
theorem Q7K (l:Library)(hs:JY l)(keys:List ByteArray)(hk:keys.length<=1048576):∃ks gs b,Ev (λk=>Z6.F k l keys) (ks,gs,b)/\Ev (λk=>Z43.F k l keys) (ks,gs,b)/\ks.length=gs.length/\gs.length<=5/\
  (∀i:Nat,i<gs.length->(gs.getD i []).length<=1048576/\∀x∈gs.getD i [],Kept l keys x (ks.getD i 0))/\(b=true->(gs.map List.length).sum=keys.length)/\(b=false->gs=[]):=by
 obtain⟨v,a1,a2,a3⟩:=Q1m l hs keys hk
 unfold Z6.F Z43.F
 cases v with
 |false=>exact⟨[],[],false,Ev.bind a1 (Ev.pure _),Ev.bind a2 (Ev.pure _),rfl,by simp,λi h=>(by simp at h),λh=>(by cases h),λ_=>rfl⟩
 |true=>
  obtain⟨b1,b2,b3,b4⟩:=a3 rfl
  obtain⟨W,w1,w2,w3,w4⟩:=Q3s l hs b1 b2 keys b3 b4
  have wf:Found l W:=λx hx=>b4 x (w4 x hx)
  obtain⟨K,hK⟩:=Q9I l W wf
  have hr:∀x∈W,1<=K x/\K x<=4:=λx hx=>by
   obtain⟨q,q0,q1,_,_,q4⟩:=hK x hx
   have:=Q5N b1 (i:=q.toNat) (by omega)
   rw[q4]at this
   exact this
  have g0:Gs W K ((1:Nat):Int) [] []:=by
   refine⟨rfl,λi h=>by simp at h,?_⟩
   rw[List.filter_eq_nil_iff.2 (λx hx=>by
    have:=hr x hx
    simp only[decide_eq_true_eq]
    omega)]
   rfl
  obtain⟨ks,gs,i1,i2,i3,g1,g2,g3⟩:=Q9K l keys W (by omega) w2 K hK 4 1 (by omega) [] [] (by simp) g0
  have hf:(W.filter λx=>decide (K x<5))=W:=List.filter_eq_self.2 (λx hx=>by
   have:=hr x hx
   simp only[decide_eq_true_eq]
   omega)
  rw[hf,w3]at g3
  refine⟨ks,gs,true,Ev.bind a1 (Ev.bind w1 (Ev.bind i1 (Ev.pure _))),Ev.bind a2 (Ev.bind i2 (Ev.pure _)),g1,i3,λi hi=>⟨?_,λx hx=>?_⟩,λ_=>g3,λh=>by cases h⟩
  ·have h1:∀(zs:List (List ByteArray)) (i:Nat),i<zs.length->(zs.getD i []).length<=(zs.map List.length).sum:=λzs=>by
    induction zs with
    |nil=>intro i h;simp at h
    |cons y zs ih=>
     intro i h
     cases i with
     |zero=>simp[List.getD]
     |succ i=>
      have:=ih i (by simpa using h)
      simp only[List.getD_cons_succ,List.map_cons,List.sum_cons]
      omega
   have:=h1 gs i hi
   omega
  ·obtain⟨xw,xk⟩:=g2 i hi x hx
   obtain⟨q,q0,q1,q2,q3,q4⟩:=hK x xw
   refine⟨w4 x xw,q,q0,q1,?_,by rw[q4,xk]⟩
   unfold Z127.F
   refine Ev.bind q3 (Ev.bind (Q4t l hs) ?_)
   rw[b1]
   simp(disch:=omega) only[Bool.not_true,cond_false,Qn]
   exact Ev.pure _
theorem XN:∀m:Nat,∀{n:Int} {c:Cur},cu n c->n+m<=300000->∀(z l:List Entry) (i:Nat),l.length<=i+m->i<=1000->Ui 6 l->
  EvP (λk=>Z45.l0 k c z l i) λr=>cu (n+m) r.1/\Ui 6 r.2.2
 |0,n,c,hc,hn,z,l,i,h,hi0,hl=>by
  refine EvP.step (λk=>by rw[Z45.l0]) ?_
  simp(disch:=omega) only[Qn]
  exact EvP.pure _ ⟨hc.mono (by omega),hl⟩
 |m+1,n,c,hc,hn,z,l,i,h,hi0,hl=>by
  have h6:=hl.1
  refine EvP.step (λk=>by rw[Z45.l0]) ?_
  by_cases hi:i<l.length
  ·simp(disch:=omega) only[Qc]
   refine JZ hc (by omega) (by decide) (by decide) λc1 b1 hc1=>?_
   dsimp only
   refine EvP.cond (λ_=>?_) (λ_=>?_)
   ·have hz:(0:Int).toNat=0:=rfl
    have e0:=KX hl.2 (i:=0) (by omega) (Q5 .entry)
    have e1:=KX hl.2 hi (Q5 .entry)
    have hau:JP 8 (l.getD 0 (Q5 .entry)).authors:=e0.2.2.2.2.2.2.1
    obtain⟨g1,g2,g3,g4,g5,g6,g7,g8⟩:=e1
    simp(disch:=omega) only[Qc,Int.toNat_natCast,hz]
    refine EvP.of (Q3p _ hau) ?_
    simp(disch:=omega) only[Qc,wrap_in]
    refine EvP.mono (XN m hc1 (by omega) z _ (i+1) (by simp;omega) (by omega) ⟨by simpa using h6,Q7I hl.2 (n:=⟨(l.getD i (Q5 .entry)).key,(l.getD i (Q5 .entry)).kind,(l.getD 0 (Q5 .entry)).authors,(l.getD i (Q5 .entry)).editors,(l.getD i (Q5 .entry)).title,(l.getD i (Q5 .entry)).container,(l.getD i (Q5 .entry)).publisher,(l.getD i (Q5 .entry)).date,(l.getD i (Q5 .entry)).volume,(l.getD i (Q5 .entry)).pages,(l.getD i (Q5 .entry)).cross⟩) ⟨g1,g2,g3,g4,g5,g6,hau,g8⟩⟩) λr hr=>⟨hr.1.mono (by omega),hr.2⟩
   ·simp(disch:=omega) only[wrap_in]
    exact EvP.mono (XN m hc1 (by omega) z l (i+1) (by omega) (by omega) hl) λr hr=>⟨hr.1.mono (by omega),hr.2⟩
  ·simp(disch:=omega) only[Qn]
   exact EvP.pure _ ⟨hc.mono (by omega),hl⟩
theorem Q5O {n:Int}{c:Cur}(h:cu n c)(hn:n<=100000):EvP (λk=>Z45.F k c) λr=>cu (n+2010) r.1/\Ui 6 r.2.entries:=by
 unfold Z45.F
 refine EvP.bind (Q7J h (by omega)) λr hr=>?_
 have h6:=hr.2.1
 refine EvP.bind (XN 6 hr.1 (by omega) [] r.2.entries 1 (by omega) (by omega) hr.2) λy hy=>?_
 exact EvP.pure _ ⟨hy.1.mono (by omega),hy.2⟩
theorem Q1s (l:Library)(hl:l.entries.length<=10):∀m:Nat,∀{n:Int} {c:Cur},cu n c->n+10*m<=300000->∀(i:Nat) (acc:List ByteArray),i+m=l.entries.length->acc.length<=i->
  EvP (λk=>Z46.l0 k c l acc i) λr=>cu (n+10*m) r.1/\r.2.1=l/\r.2.2.length<=10
 |0,n,c,hc,hn,i,acc,h,ha=>by
  refine EvP.step (λk=>by rw[Z46.l0]) ?_
  simp(disch:=omega) only[Qn]
  exact EvP.pure _ ⟨hc.mono (by omega),rfl,by show acc.length<=10;omega⟩
 |m+1,n,c,hc,hn,i,acc,h,ha=>by
  refine EvP.step (λk=>by rw[Z46.l0]) ?_
  simp(disch:=omega) only[Qc]
  refine JZ hc (by omega) (by decide) (by decide) λc1 b1 hc1=>?_
  dsimp only
  refine EvP.cond (λ_=>?_) (λ_=>?_)
  ·simp(disch:=omega) only[wrap_in]
   refine Us hc1 (by omega) (by omega) (by omega) λc2 x hc2 x0 x1=>?_
   dsimp only
   have r1:room (([]:List ByteArray).length+(acc.take x.toNat).length) .str=true:=Xf (by simp;omega)
   have r2:∀y:ByteArray,room ((([]:List ByteArray)++acc.take x.toNat).length+([y]:List ByteArray).length) .str=true:=λy=>Xf (by simp;omega)
   have r3:∀y:ByteArray,room (((([]:List ByteArray)++acc.take x.toNat)++[y]).length+(acc.drop x.toNat).length) .str=true:=λy=>Xf (by simp;omega)
   simp(disch:=omega) only[Qc,r1,r2,r3,cond_true,wrap_in]
   exact EvP.mono (Q1s l hl m hc2 (by omega) (i+1) _ (by omega) (by simp;omega)) λr hr=>⟨hr.1.mono (by omega),hr.2⟩
  ·simp(disch:=omega) only[wrap_in]
   exact EvP.mono (Q1s l hl m hc1 (by omega) (i+1) acc (by omega) (by omega)) λr hr=>⟨hr.1.mono (by omega),hr.2⟩
theorem Qay {n:Int}{c:Cur}(h:cu n c)(hn:n<=200000)(l:Library)(hl:Ui 10 l.entries):EvP (λk=>Z46.F k c l) λr=>r.2.length<=1048576:=by
 unfold Z46.F
 have h10:=hl.1
 refine EvP.bind (Q1s l h10 l.entries.length h (by omega) 0 [] (by omega) (by simp)) λy hy=>?_
 obtain⟨y1,y2,y3⟩:=hy
 refine JZ y1 (by omega) (by decide) (by decide) λc1 b1 hc1=>?_
 dsimp only
 refine EvP.cond (λ_=>?_) (λ_=>EvP.pure _ (by show y.2.2.length<=_;omega))
 rw[y2]
 refine EvP.bind (Qav hc1 (by omega) hl) λr5 hr5=>?_
 have hr:room (y.2.2.length+([r5.2]:List ByteArray).length) .str=true:=Xf (by simp;omega)
 simp only[hr,cond_true]
 exact EvP.pure _ (by simp;omega)
theorem Q9L {code:List Int}(h:byt code):EvP (λk=>Z107.F k code) λr=>JY r.1/\r.2.length<=1048576:=by
 unfold Z107.F
 refine EvP.bind (Q5O (cu.start h) (by omega)) λr hr=>?_
 have hup:Ui 10 r.2.entries:=⟨Nat.le_trans hr.2.1 (by omega),hr.2.2⟩
 refine EvP.bind (Qay hr.1 (by omega) ⟨r.2.entries⟩ hup) λy hy=>?_
 exact EvP.pure _ ⟨Q4L hup (by omega),hy⟩
theorem Q9M (xs:List ByteArray)(hl:xs.length<=1048576)(x:ByteArray)(hx:x∈xs):∀n i:Nat,i+n=xs.length->x∈xs.drop i->Ev (λk=>Z49.l0 k xs x i) (.inl true)
 |0,i,h,hd=>by rw[List.drop_eq_nil_of_le (by omega)]at hd;cases hd
 |n+1,i,h,hd=>by
  have hi:i<xs.length:=by omega
  refine Ev.step (λk=>by rw[Z49.l0]) ?_
  simp(disch:=omega) only[Qc,Int.toNat_natCast,getD_at hi]
  by_cases c:xs[i]=x
  ·rw[c,Yj]
   exact Ev.pure _
  ·rw[neS c]
   simp(disch:=omega) only[cond_false,wrap_in]
   refine Q9M xs hl x hx n (i+1) (by omega) ?_
   rw[List.drop_eq_getElem_cons hi]at hd
   rcases List.mem_cons.1 hd with hd|hd
   ·exact absurd hd.symm c
   ·exact hd
theorem Qbp (xs:List ByteArray)(hl:xs.length<=1048576)(x:ByteArray)(hx:x∈xs):Ev (λk=>Z49.F k xs x) true:=by
 unfold Z49.F
 exact Ev.bind (Q9M xs hl x hx xs.length 0 (by omega) (by rwa [List.drop_zero])) (Ev.pure _)
theorem QaO (l:Library)(keys:List ByteArray)(hk:keys.length<=1048576)(ks:List Int)(gs:List (List ByteArray))(b:Bool)(hlen:ks.length=gs.length)(hg5:gs.length<=5)(i:Nat)(hi:i<gs.length)(hg:(gs.getD i []).length<=1048576)(hx:∀x∈gs.getD i [],Kept l keys x (ks.getD i 0)):∀m j:Nat,j+m=(gs.getD i []).length->∀s:Nat,s+m<=10485760->
  Ev (λk=>Z7.l2 k l keys ks gs b s i j) (.inr (l,keys,ks,gs,b,((s+m:Nat):Int),(i:Int)))
 |0,j,h,s,hs=>by
  refine Ev.step (λk=>by rw[Z7.l2]) ?_
  simp(disch:=omega) only[Qc,Qn,Int.toNat_natCast]
  exact Ev.pure _
 |m+1,j,h,s,hs=>by
  have hj:j<(gs.getD i []).length:=by omega
  obtain⟨x1,q,q0,q1,q2,q3⟩:=hx _ (List.getElem_mem hj)
  refine Ev.step (λk=>by rw[Z7.l2]) ?_
  simp(disch:=omega) only[Qc,Int.toNat_natCast,getD_at hj]
  refine Ev.bind q2 ?_
  simp(disch:=omega) only[Bool.not_true,cond_false,Qc,q3,bne_self_eq_false]
  refine Ev.bind (Qbp keys hk _ x1) ?_
  simp(disch:=omega) only[Bool.not_true,cond_false,wrap_in]
  exact(QaO l keys hk ks gs b hlen hg5 i hi hg hx m (j+1) (by omega) (s+1) (by omega)).eq (by rw[show s+1+m=s+(m+1) by omega])
theorem QaP (l:Library)(keys:List ByteArray)(hk:keys.length<=1048576)(ks:List Int)(gs:List (List ByteArray))(b:Bool)(hlen:ks.length=gs.length)(hg5:gs.length<=5)(hx:∀i:Nat,i<gs.length->(gs.getD i []).length<=1048576/\∀x∈gs.getD i [],Kept l keys x (ks.getD i 0)):∀m i:Nat,i+m=gs.length->∀s:Nat,s<=1048576*i->
  Ev (λk=>Z7.l0 k l keys ks gs b s i) (.inr (keys,b,((s+((gs.drop i).map List.length).sum:Nat):Int)))
 |0,i,h,s,hs=>by
  refine Ev.step (λk=>by rw[Z7.l0]) ?_
  simp(disch:=omega) only[Qn]
  rw[List.drop_eq_nil_of_le (by omega)]
  exact Ev.pure _
 |m+1,i,h,s,hs=>by
  have hi:i<gs.length:=by omega
  obtain⟨h1,h2⟩:=hx i hi
  have e:=QaO l keys hk ks gs b hlen hg5 i hi h1 h2 _ 0 (Nat.zero_add _) s (by omega)
  refine Ev.step (λk=>by rw[Z7.l0]) ?_
  simp(disch:=omega) only[Qc]
  refine Ev.bind e ?_
  simp(disch:=omega) only[wrap_in]
  refine(QaP l keys hk ks gs b hlen hg5 hx m (i+1) (by omega) (s+(gs.getD i []).length) (by omega)).eq ?_
  rw[List.drop_eq_getElem_cons hi,List.map_cons,List.sum_cons,getD_at hi,Nat.add_assoc]
theorem Q5P (code:List Int)(hw:WF (.sl (.int .u8)) code):∃k,Z7.F k code=some true:=by
 refine Ev.get (?_:Ev (λk=>Z7.F k code) true)
 unfold Z7.F Z128.F
 by_cases c0:(code.length:Int) > 65536
 ·simp(disch:=omega) only[Qc,Option.bind_some]
  exact Ev.pure _
 simp(disch:=omega) only[Qn,Option.bind_some]
 have hc:byt code:=Qbh hw (by omega)
 obtain⟨d,d1,d2,d3⟩:=Q9L hc
 obtain⟨r,b,v1,v2,v3,v4⟩:=Gi d.1 d2 d.2 d3
 obtain⟨ks,gs,t,u1,u2,u3,u4,u5,u6,u7⟩:=Q7K d.1 d2 d.2 d3
 refine Ev.bind d1 (Ev.bind v2 (Ev.bind v1 ?_))
 simp only[beq_self_eq_true,Bool.not_true,cond_false]
 refine Ev.bind (Qbn r v3 v4) ?_
 simp only[Bool.not_true,cond_false]
 refine Ev.bind u2 (Ev.bind u1 ?_)
 simp only[beq_self_eq_true,Bool.not_true,cond_false,u3,bne_self_eq_false]
 have h0:=QaP d.1 d.2 d3 ks gs t u3 u4 u5 gs.length 0 (by omega) 0 (by omega)
 rw[List.drop_zero,Nat.zero_add]at h0
 refine Ev.bind h0 ?_
 cases t with
 |false=>exact Ev.pure _
 |true=>
  simp only[Bool.not_true,cond_false,u6 rfl,beq_self_eq_true]
  exact Ev.pure _
end Go.Proofs.YtpmlmdfbhmgikaaGreatDoor
end
section
/- The law FnGroups returns true for every input,the listed package variables being as the program's text lays it: the card. -/
namespace Go.Proofs.YtpmlmdfbhmgikaaGreatDoor
open Go.Gx Go.RowKit Go.ChangeShapes Go.WideShapes Go.ChangeAt
theorem fnGroups_own:ownKnob Tryz.prog.godebug=none:=by kernel_rfl
set_option maxRecDepth 100000 in
theorem fnGroups_contract (H:Type)(enc:TypeId×Value->H)(W:World)(base:Nat)(args:Array Value)(ds gs:List (DataW H))(before:List MemPlace)
  (YL:∀(j:Nat) t v,Tryz.f3.params[j]? =some t->args[j]? =some v->Value.okWide Tryz.prog W .any base t v)
  (hW:DataW.Whole enc Tryz.prog Tryz.f3.params.toList Rows.fnGroupsSpec.vars false W args.toList ds gs before) (hsh:W.ShapedOpen Tryz.prog) :
  Calls Tryz.prog 3 args W λe W'=>∃v,e= .returned v/\Rows.fnGroupsSpec.post enc Tryz.prog Tryz.f3 false true false false W args v W':=by
 have hgs:gs=[]:=by
  obtain⟨p,q,_,hV,_⟩:=hW
  exact(trodVars_none hV).1
 subst hgs
 have hds:∃d1,ds=[d1]:=by
  obtain⟨p,q,hA,_⟩:=hW
  obtain⟨_,_,d1,e0,_,_,_,rfl,_,_,h0⟩:=trodAll_cons hA
  obtain⟨_,rfl,_⟩:=trodAll_nil h0
  exact⟨d1,rfl⟩
 obtain⟨d1,rfl⟩:=hds
 have hgl:Qv Q0 (λ_=>undef) (Lt W) W:=by
  refine Qv.mk0 (λg b h=>(by cases h)) (λg hg=>?_)
  have hg':giT g=true:=hg
  unfold giT at hg'
  split at hg'
  ·obtain⟨m,hm⟩:=cell_of_shapedOpen_int (P:=Tryz.prog) (g:=0) (t:=3) (zero:=#[.int .i64 0]) hsh (of_decide_eq_true (by kernel_rfl)) (by kernel_rfl) rfl (by kernel_rfl) (by kernel_rfl) (by kernel_rfl)
   exact⟨World.block_lt_of_cell? _ _ hm,m,hm⟩
  ·cases hg'
 refine Q39 (τs:=[(.sl (.int .u8))]) (r:=.t .bool true) QaH (by kernel_rfl) rfl (by kernel_rfl) (by kernel_rfl) rfl (by kernel_rfl) (by kernel_rfl) (λt ht=>?_) rfl (λx hx=>by
   obtain⟨k,hk⟩:=Q5P x.1 hx.1
   exact Z7.good QaH _ k _ hk) rfl YL hW hgl (λq hq W' _=>?_)
 ·have:t∈[22]:=ht
  simp only[List.mem_cons,List.not_mem_nil,or_false]at this
  rcases this with rfl<;>exact⟨by kernel_rfl,Nat.le_of_ble_eq_true (by kernel_rfl)⟩
 ·obtain⟨_,rfl⟩:=trodVars_none hq
  exact rfl
set_option maxRecDepth 100000 in
noncomputable def fnGroups_world (os:Os):World:=
 {World.holding Tryz.prog os ⟨#[],#[],[]⟩with heap:=(((World.holding Tryz.prog os ⟨#[],#[],[]⟩).heap.modify 2 fun
   |.cells _ t frozen=>.cells #[.int .u8 128,.int .u8 191,.int .u8 160,.int .u8 191,.int .u8 128,.int .u8 159,.int .u8 144,.int .u8 191,.int .u8 128,.int .u8 143,.int .u8 0,.int .u8 0,.int .u8 0,.int .u8 0,.int .u8 0,.int .u8 0,.int .u8 0,.int .u8 0,.int .u8 0,.int .u8 0,.int .u8 0,.int .u8 0,.int .u8 0,.int .u8 0,.int .u8 0,.int .u8 0,.int .u8 0,.int .u8 0,.int .u8 0,.int .u8 0,.int .u8 0,.int .u8 0] t frozen
   |o=>o).modify 1 fun
   |.cells _ t frozen=>.cells (Pinned.utf8FirstZ.map λ(n:Nat)=>Value.int .u8 (n:Int)).toArray t frozen
   |o=>o)}
theorem fnGroups_met (os:Os):laidMet Tryz.prog Rows.fnGroupsRow.laid ((fnGroups_world os).forCall (λ_ _=>0) ⟨#[],#[.slice none 0 0],[]⟩).memory:=
 laidMet_of_run' 8 (by kernel_rfl) (by kernel_rfl)
theorem fnGroups_reads (os:Os){H:Type}(enc:TypeId×Value->H):∃places,DataW.whole enc Tryz.prog ((fnGroups_world os).forCall (λ_ _=>0) ⟨#[],#[.slice none 0 0],[]⟩).memory Tryz.f3.params.toList Rows.fnGroupsSpec.vars false #[.slice none 0 0].toList 8=some ([.nil],[],places):=
 ⟨[],by kernel_rfl⟩
set_option maxRecDepth 100000 in
theorem fnGroups_lifted (os:Os)(started:os.Started)(H:Type)(enc:TypeId×Value->H)(F:Stop.Interp) :
  ReturnsInHanded {} Tryz.checked os 3 .any ((OpenSpec.ofChange Rows.fnGroupsSpec).preRow enc Tryz.prog Tryz.f3 Rows.fnGroupsRow.domain false Rows.fnGroupsRow.laid) (((OpenSpec.ofChange Rows.fnGroupsSpec).at F).post enc Tryz.prog Tryz.f3 false true false false):=by
 obtain⟨places,hx⟩:=fnGroups_reads os enc
 refine returnsInHanded_of_row (C:=Tryz.checked) (s:=OpenSpec.ofChange Rows.fnGroupsSpec) fnGroups_own started (by kernel_rfl) (by kernel_rfl)
  (witness_row_at (enc:=enc) (C:=Tryz.checked) false (fnGroups_world os) #[.slice none 0 0] rfl (by kernel_rfl) (by kernel_rfl) (by kernel_rfl)
   (OpenSpec.preRow_of_cond 8 hx (by kernel_rfl) (λk hk=>by cases hk) (by kernel_rfl) (fnGroups_met os))) ?_
 intro W base args ds gs before YL hW _ _ _ _ hsh _
 exact fnGroups_contract H enc W base args ds gs before YL hW hsh
theorem fnGroups_said:Rows.FnGroupsSaid:=
 OpenClaim.holds_of_cond 3 Tryz.f3 rfl rfl rfl rfl rfl rfl rfl ⟨rfl,rfl,rfl,rfl,rfl⟩ rfl rfl rfl rfl rfl (by kernel_rfl) (by kernel_rfl) (by kernel_rfl)
  (of_decide_eq_true (by kernel_rfl)) (by unfold Func.isWrapper;first|(rw[if_pos (by decide+kernel)];kernel_rfl)|(rw[if_neg (by decide+kernel)];exact⟨rfl,rfl⟩))
  (λos started H enc _ F=>by rw[OpenClaim.pre_eq_preRow];exact fnGroups_lifted os started H enc F)
theorem fnGroups_plain (f:FuncId)(fn:Func)(hf:Tryz.pinned.checked.prog.funcNamed "loop.example/g00896/laws.FnGroups" =some f)(hfn:Tryz.pinned.checked.prog.funcs[f]? =some fn) :
  false=Tryz.pinned.checked.prog.looks []/\∀(j:Nat) t,fn.params[j]? =some t->Tryz.pinned.checked.prog.wantsStandIn t=false:=by
 obtain rfl:f=3:=(Option.some.inj ((show Tryz.prog.funcNamed "loop.example/g00896/laws.FnGroups" =some 3 by kernel_rfl).symm.trans hf)).symm
 obtain rfl:fn=Tryz.f3:=(Option.some.inj ((show Tryz.prog.funcs[3]? =some Tryz.f3 by kernel_rfl).symm.trans hfn)).symm
 refine⟨by kernel_rfl,λj t ht=>?_⟩
 have ht':t∈[22]:=by simpa using Array.mem_of_getElem? (show(#[22]:Array Nat)[j]? =some t from ht)
 simp only[List.mem_cons,List.not_mem_nil,or_false]at ht'
 rcases ht' with rfl
 ·exact(show Tryz.prog.wantsStandIn 22=false by kernel_rfl)
theorem FnGroups_holds:Rows.FnGroupsCardSaid:=
 Claim7.holds_tied_plain_at .later [] _ _ _ _ fnGroups_said (λ_ h=>by cases h) (by kernel_rfl) (λ_ h=>by cases h) fnGroups_row_tie rfl ⟨rfl,rfl⟩ (by kernel_rfl) rfl fnGroups_plain (by kernel_rfl)
#print axioms FnGroups_holds
end Go.Proofs.YtpmlmdfbhmgikaaGreatDoor
end
