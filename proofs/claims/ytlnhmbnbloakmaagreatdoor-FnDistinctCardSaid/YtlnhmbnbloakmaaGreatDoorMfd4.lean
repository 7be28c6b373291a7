/- Tables of callees and of loops,and what they are tied by. -/
import Derived.Test.YtlnhmbnbloakmaaGreatDoorMfd3
import Derived.ChangeSame
import Derived.Carry
import Derived.WideKeyArgs
import Derived.Deep.Slices
import Derived.ProofKit
import Derived.Test.YtlnhmbnbloakmaaGreatDoorMfd1
import Derived.Laws.StructEq
import Derived.Lib.Strings
set_option linter.unusedVariables false
set_option linter.unusedSimpArgs false
set_option maxRecDepth 100000
section
namespace Go.Gx
open Go.RowKit
inductive MK where
 |fr (e:Nat) (τ:Ty)
 |bx (τ:Ty)
@[reducible] def MK.X:MK->Type
 |.fr _ τ=>List (den τ)
 |.bx τ=>den τ
def MK.val:(k:MK)->k.X->AV
 |.fr e τ,x=>.fr e τ x
 |.bx τ,x=>.bx τ x
def MK.view:(k:MK)->AV->Option k.X
 |.fr e τ,a=>match a with
  |.fr e' σ xs=>match decEq σ τ,Nat.beq e' e with
   |.isTrue h,true=>some (h▸xs)
   |_,_=>none
  |_=>none
 |.bx τ,a=>match a with
  |.bx σ x=>match decEq σ τ with
   |.isTrue h=>some (h▸x)
   |.isFalse _=>none
  |_=>none
theorem MK.view_eq {k:MK}{a:AV}{x:k.X}(h:k.view a=some x):a=k.val x:=by
 cases k with
 |fr e τ=>
  cases a<;>simp only[MK.view]at h<;>try cases h
  split at h
  ·rename_i e' _ he
   subst e'
   cases h
   rw[Nat.eq_of_beq_eq_true he];rfl
  ·cases h
 |bx τ=>
  cases a<;>simp only[MK.view]at h<;>try cases h
  split at h
  ·rename_i e' _
   subst e'
   cases h
   rfl
  ·cases h
def Q9y (k:MK):AV->Option k.X
 |.kep o (.tup [])=>k.view o
 |_=>none
def D2 {Y:Type}(k:MK)(V:AV->Option Y):AV->Option (k.X×Y)
 |.kep o r=>match k.view o,V r with
  |some a,some b=>some (a,b)
  |_,_=>none
 |_=>none
def Gp (e:Nat)(τ:Ty):AV->Option (List (den τ))
 |.mov e' σ xs=>match decEq σ τ,Nat.beq e' e with
  |.isTrue h,true=>some (h▸xs)
  |_,_=>none
 |_=>none
theorem YO {Y:Type}{k:MK}{V:AV->Option Y}{out:Y->AV}(hV:∀r y,V r=some y->Wk r (out y)){r:AV}{y:k.X×Y}(h:D2 k V r=some y):WkM r (.kep (k.val y.1) (out y.2)):=by
 unfold D2 at h
 split at h
 ·split at h
  ·rename_i a b ha hb
   cases h
   rw[MK.view_eq ha]
   exact .kep _ _ _ (hV _ _ hb)
  ·cases h
 ·cases h
theorem Q0i {e:Nat}{τ:Ty}{r:AV}{y:List (den τ)}(h:Gp e τ r=some y):WkM r (.mov e τ y):=by
 unfold Gp at h
 split at h
 ·split at h
  ·rename_i e' _ he
   subst e'
   cases h
   rw[Nat.eq_of_beq_eq_true he]
   exact .mov _ _ _
  ·cases h
 ·cases h
def Q9r (τ:Ty):AV->Option (den τ)
 |.pc false σ x=>match decEq σ τ with
  |.isTrue h=>some (h▸x)
  |_=>none
 |_=>none
inductive PK where
 |t (τ:Ty)
 |tp (τ:Ty)
 |clo (g:Nat) (cs:List CK)
@[reducible] def PK.X:PK->Type
 |.t τ=>den τ
 |.tp τ=>den τ
 |.clo _ cs=>CX cs
def PK.val:(k:PK)->k.X->AV
 |.t τ,x=>.t τ x
 |.tp τ,x=>.tp (.t τ x)
 |.clo g cs,x=>.clo g (Ky cs x)
def PK.view:(k:PK)->AV->Option k.X
 |.t τ,a=>asT τ a
 |.tp τ,a=>match a with
  |.tp b=>asT τ b
  |_=>none
 |.clo g cs,a=>match a with
  |.clo f caps=>match Nat.beq f g with
   |true=>DT cs caps
   |false=>none
  |_=>none
@[reducible] def PX:List PK->Type
 |[]=>Unit
 |k::l=>k.X×PX l
def Yq:(l:List PK)->PX l->List AV
 |[],_=>[]
 |k::l,x=>k.val x.1::Yq l x.2
def UP:(l:List PK)->List AV->Option (PX l)
 |[],[]=>some ()
 |k::l,a::al=>match k.view a with
  |some x=>match UP l al with
   |some y=>some (x,y)
   |none=>none
  |none=>none
 |_,_=>none
section
variable {S:Nat->Prop} {w:World} {ρ:Nat->Option Loc} {row:Nat->Option Row} {pv:Nat->Value}
theorem PK.ok {k:PK}{a:AV}{x:k.X}{cs:List Value}(hx:k.view a=some x)(h:AR S w ρ row pv a cs):AR S w ρ row pv (k.val x) cs/\isAg a=isAg (k.val x):=by
 cases k with
 |t τ=>exact⟨.t _ _ _ (Qq hx h),(Du hx).symm⟩
 |tp τ=>
  simp only[PK.view]at hx
  split at hx
  ·exact⟨Q8E hx h,rfl⟩
  ·cases hx
 |clo g ks=>
  simp only[PK.view]at hx
  split at hx
  ·rename_i f caps
   split at hx
   ·rename_i hf
    obtain rfl:=Nat.eq_of_beq_eq_true hf
    exact⟨Q3c hx h,rfl⟩
   ·cases hx
  ·cases hx
theorem Q1l:∀{ks:List PK} {av:List AV} {x:PX ks},UP ks av=some x->av.length=(Yq ks x).length/\∀(i:Nat) a b,av[i]? =some a->(Yq ks x)[i]? =some b->∃k:PK,∃y:k.X,b=k.val y/\k.view a=some y
 |[],[],x,_=>⟨rfl,λi a b h=>by simp at h⟩
 |[],_::_,x,h=>by simp[UP]at h
 |k::l,[],x,h=>by simp[UP]at h
 |k::l,a::al,x,h=>by
  simp only[UP]at h
  split at h
  ·rename_i x0 hx
   split at h
   ·rename_i y hy
    cases h
    obtain⟨h1,h2⟩:=Q1l hy
    refine⟨by simp[Yq,h1],λi b c hb hc=>?_⟩
    cases i with
    |zero=>cases hb;cases hc;exact⟨k,x0,rfl,hx⟩
    |succ i=>exact h2 i b c (by simpa using hb) (by simpa[Yq]using hc)
   ·cases h
  ·cases h
theorem Q0j {ks:List PK}{av:List AV}{x:PX ks}{vs:List Value}(hx:UP ks av=some x)(h:QY S w pv av vs):QY S w pv (Yq ks x) vs:=by
 obtain⟨h1,h2⟩:=Q1l hx
 obtain⟨h3,h4⟩:=h
 refine⟨h3.trans h1,λi b v hb hv=>?_⟩
 have hi:=(List.getElem?_eq_some_iff.1 hb).1
 have ha:av[i]? =some av[i]:=List.getElem?_eq_getElem (by omega)
 obtain⟨k,y,rfl,hy⟩:=h2 i _ b ha hb
 obtain⟨cs,h5,h6⟩:=h4 i _ v ha hv
 obtain⟨h7,h8⟩:=PK.ok hy h5
 exact⟨cs,h7,by rw[h6,valOf,valOf,h8]⟩
end
inductive CArm:Type 1
 |p (ps:List Ty) (Y:Type) (F:TX ps->Option Y) (out:Y->AV)
 |m (k:MK) (ps:List Ty) (Y:Type) (F:k.X->TX ps->Option Y) (out:Y->AV)
 |q (ps:List PK) (Y:Type) (F:PX ps->Option Y) (out:Y->AV)
 |mq (k:MK) (ps:List PK) (Y:Type) (F:k.X->PX ps->Option Y) (out:Y->AV)
 |d (τ:Ty) (F:den τ->Int->Option Int)
 |pp (ps:List Ty) (τ:Ty) (F:TX ps->Option (den τ))
 |tt (ps:List Ty) (Y:Type) (F:TX ps->Option Y) (out:Y->AV)
 |v (ps:List Ty) (F:Entry->TX ps->Option Entry)
 |x (τ:Ty) (F:den τ->Int->Option (den τ×Int))
 |alt (A B:CArm)
def Q7g (τ:Ty):List AV->Option (den τ×Int)
 |[.pc true σ x,.t (.int .i64) k]=>match decEq σ τ with
  |.isTrue h=>some (h▸x,k)
  |.isFalse _=>none
 |_=>none
theorem Q7h {τ:Ty}{av:List AV}{y:den τ×Int}(h:Q7g τ av=some y):av=[.pc true τ y.1,.t (.int .i64) y.2]:=by
 unfold Q7g at h
 split at h
 ·split at h
  ·rename_i e _
   subst e
   cases h
   rfl
  ·cases h
 ·cases h
def Q4e (ps:List Ty):List AV->Option (TX ps)
 |.pc false .bool true::l=>Y6 ps l
 |_=>none
theorem Q5R {ps:List Ty}{av:List AV}{y:TX ps}(h:Q4e ps av=some y):∃l,av= .pc false .bool true::l/\Y6 ps l=some y:=by
 unfold Q4e at h
 split at h
 ·exact⟨_,rfl,h⟩
 ·cases h
def Q4f (ps:List Ty):List AV->Option (TX ps)
 |.pc false .bool false::l=>Y6 ps l
 |_=>none
theorem Q5S {ps:List Ty}{av:List AV}{y:TX ps}(h:Q4f ps av=some y):∃l,av= .pc false .bool false::l/\Y6 ps l=some y:=by
 unfold Q4f at h
 split at h
 ·exact⟨_,rfl,h⟩
 ·cases h
def Q7i (ps:List Ty):List AV->Option (Entry×TX ps)
 |.pc false .entry x::l=>match Y6 ps l with
  |some y=>some (x,y)
  |none=>none
 |_=>none
theorem Q7j {ps:List Ty}{av:List AV}{y:Entry×TX ps}(h:Q7i ps av=some y):∃l,av= .pc false .entry y.1::l/\Y6 ps l=some y.2:=by
 unfold Q7i at h
 split at h
 ·split at h
  ·rename_i hy
   cases h
   exact⟨_,rfl,hy⟩
  ·cases h
 ·cases h
def Q7k (τ:Ty):List AV->Option (den τ×Int)
 |[.pc false σ x,.t (.int .i64) k]=>match decEq σ τ with
  |.isTrue h=>some (h▸x,k)
  |.isFalse _=>none
 |_=>none
theorem Q7l {τ:Ty}{av:List AV}{y:den τ×Int}(h:Q7k τ av=some y):av=[.pc false τ y.1,.t (.int .i64) y.2]:=by
 unfold Q7k at h
 split at h
 ·split at h
  ·rename_i e _
   subst e
   cases h
   rfl
  ·cases h
 ·cases h
def Q9z:List AV->Nat
 |.pc true _ _::_=>1
 |.pc false .bool b::_=>cond b 2 3
 |.pc false _ _::_=>4
 |_=>0
def CArm.sel:CArm->Nat
 |.d _ _=>1
 |.pp _ _ _=>2
 |.tt _ _ _ _=>3
 |.v _ _=>4
 |.x _ _=>4
 |_=>0
def CArm.run {R:Type}(A:CArm)(av:List AV)(K:AV->Option R):Option R:=match A with
 |.p ps Y F out=>(Y6 ps av).bind λx=>(F x).bind λr=>K (out r)
 |.m k ps Y F out=>match av with
  |[]=>none
  |a0::rest=>(k.view a0).bind λx0=>(Y6 ps rest).bind λx=>(F x0 x).bind λr=>K (out r)
 |.q ps Y F out=>(UP ps av).bind λx=>(F x).bind λr=>K (out r)
 |.mq k ps Y F out=>match av with
  |[]=>none
  |a0::rest=>(k.view a0).bind λx0=>(UP ps rest).bind λx=>(F x0 x).bind λr=>K (out r)
 |.d τ F=>(Q7g τ av).bind λx=>(F x.1 x.2).bind λr=>K (.t (.int .i64) r)
 |.pp ps τ F=>(Q4e ps av).bind λx=>(F x).bind λr=>K (.pc true τ r)
 |.tt ps Y F out=>(Q4f ps av).bind λx=>(F x).bind λr=>K (out r)
 |.v ps F=>(Q7i ps av).bind λx=>(F x.1 x.2).bind λr=>K (.tr .entry r)
 |.x τ F=>(Q7k τ av).bind λx=>(F x.1 x.2).bind λr=>K (.kep (.t τ r.1) (.t (.int .i64) r.2))
 |.alt A B=>match Nat.beq (Q9z av) A.sel with
  |true=>A.run av K
  |false=>B.run av K
def Qf (t:Cal->Option CArm):Orc:=λcal av K=>match t cal with
 |some A=>A.run av K
 |none=>none
theorem Q8W {R:Type}{r:R}{av:List AV}{K:AV->Option R}:∀{A:CArm},A.run av K=some r->∃res,A.run av some=some res/\K res=some r:=by
 intro A
 induction A with
 |alt A B ihA ihB=>
  intro h
  simp only[CArm.run]at h ⊢
  split at h
  ·exact ihA h
  ·exact ihB h
 |tt ps Y F out=>
  intro h
  simp only[CArm.run]at h ⊢
  obtain⟨x,hx,h⟩:=Option.bind_eq_some_iff.1 h
  obtain⟨y,hy,h⟩:=Option.bind_eq_some_iff.1 h
  exact⟨out y,by simp only[hx,hy,Option.bind_some],h⟩
 |v ps F=>
  intro h
  simp only[CArm.run]at h ⊢
  obtain⟨x,hx,h⟩:=Option.bind_eq_some_iff.1 h
  obtain⟨y,hy,h⟩:=Option.bind_eq_some_iff.1 h
  exact⟨_,by simp only[hx,hy,Option.bind_some],h⟩
 |x τ F=>
  intro h
  simp only[CArm.run]at h ⊢
  obtain⟨x,hx,h⟩:=Option.bind_eq_some_iff.1 h
  obtain⟨y,hy,h⟩:=Option.bind_eq_some_iff.1 h
  exact⟨_,by simp only[hx,hy,Option.bind_some],h⟩
 |p ps Y F out=>
  intro h
  simp only[CArm.run]at h ⊢
  obtain⟨x,hx,h⟩:=Option.bind_eq_some_iff.1 h
  obtain⟨y,hy,h⟩:=Option.bind_eq_some_iff.1 h
  exact⟨out y,by simp only[hx,hy,Option.bind_some],h⟩
 |m k ps Y F out=>
  intro h
  cases av with
  |nil=>simp only[CArm.run]at h;cases h
  |cons a0 rest=>
   simp only[CArm.run]at h ⊢
   obtain⟨x0,hx0,h⟩:=Option.bind_eq_some_iff.1 h
   obtain⟨x,hx,h⟩:=Option.bind_eq_some_iff.1 h
   obtain⟨y,hy,h⟩:=Option.bind_eq_some_iff.1 h
   exact⟨out y,by simp only[hx0,hx,hy,Option.bind_some],h⟩
 |q ps Y F out=>
  intro h
  simp only[CArm.run]at h ⊢
  obtain⟨x,hx,h⟩:=Option.bind_eq_some_iff.1 h
  obtain⟨y,hy,h⟩:=Option.bind_eq_some_iff.1 h
  exact⟨out y,by simp only[hx,hy,Option.bind_some],h⟩
 |mq k ps Y F out=>
  intro h
  cases av with
  |nil=>simp only[CArm.run]at h;cases h
  |cons a0 rest=>
   simp only[CArm.run]at h ⊢
   obtain⟨x0,hx0,h⟩:=Option.bind_eq_some_iff.1 h
   obtain⟨x,hx,h⟩:=Option.bind_eq_some_iff.1 h
   obtain⟨y,hy,h⟩:=Option.bind_eq_some_iff.1 h
   exact⟨out y,by simp only[hx0,hx,hy,Option.bind_some],h⟩
 |d τ F=>
  intro h
  simp only[CArm.run]at h ⊢
  obtain⟨x,hx,h⟩:=Option.bind_eq_some_iff.1 h
  obtain⟨y,hy,h⟩:=Option.bind_eq_some_iff.1 h
  exact⟨_,by simp only[hx,hy,Option.bind_some],h⟩
 |pp ps τ F=>
  intro h
  simp only[CArm.run]at h ⊢
  obtain⟨x,hx,h⟩:=Option.bind_eq_some_iff.1 h
  obtain⟨y,hy,h⟩:=Option.bind_eq_some_iff.1 h
  exact⟨_,by simp only[hx,hy,Option.bind_some],h⟩
theorem XA (t:Cal->Option CArm):JE (Qf t) (CG (Qf t)):=by
 intro R cal av K r h
 unfold CG
 unfold Qf at h ⊢
 dsimp only at h ⊢
 split at h
 ·exact Q8W h
 ·cases h
def Qg (P:Program)(E:Env)(pv:Nat->Value)(cal:Cal)(A:CArm):Prop:=match A with
 |.p ps Y F out=>∀x y,F x=some y->Qa P E pv cal (Qb ps x) (out y)
 |.m k ps Y F out=>∃f,cal= .f f/\∀x0 x y,F x0 x=some y->J6 P E pv f (k.val x0) (Qb ps x) (out y)
 |.q ps Y F out=>∀x y,F x=some y->Qa P E pv cal (Yq ps x) (out y)
 |.mq k ps Y F out=>∃f,cal= .f f/\∀x0 x y,F x0 x=some y->J6 P E pv f (k.val x0) (Yq ps x) (out y)
 |.d τ F=>∃f,cal= .f f/\∀x k m,F x k=some m->Q6G P E pv f τ x k m
 |.pp ps τ F=>∃f,cal= .f f/\∀x y,F x=some y->Q6H P E pv f (Qb ps x) (.pc true τ y)
 |.tt ps Y F out=>∃f,cal= .f f/\∀x y,F x=some y->Q6I P E pv f (Qb ps x) (out y)
 |.v ps F=>∃f,cal= .f f/\∀e x y,F e x=some y->Q6J P E pv f .entry e (Qb ps x) y
 |.x τ F=>slT τ=true/\∃f,cal= .f f/\∀x k y,F x k=some y->Q6K P E pv f τ x k y.1 y.2
 |.alt A B=>Qg P E pv cal A/\Qg P E pv cal B
theorem XB {S:Nat->Prop}{w:World}{pv:Nat->Value}{tys:List Ty}{av:List AV}{x:TX tys}{vs:List Value}(hx:Y6 tys av=some x)(h:QY S w pv av vs):QY S w pv (Qb tys x) vs:=by
 obtain⟨h1,h2⟩:=Dx hx
 obtain⟨h3,h4⟩:=h
 refine⟨h3.trans h1,λi b v hb hv=>?_⟩
 have hi:=(List.getElem?_eq_some_iff.1 hb).1
 have ha:av[i]? =some av[i]:=List.getElem?_eq_getElem (by omega)
 obtain⟨τ,y,rfl,hy⟩:=h2 i _ b ha hb
 obtain⟨cs,h5,h6⟩:=h4 i _ v ha hv
 exact⟨cs,.t τ y cs (Qq hy h5),by rw[h6,valOf,valOf,Du hy]⟩
theorem Q8X {P:Program}{E:Env}{pv:Nat->Value}{cal:Cal}{av:List AV}{r:AV}:∀{A:CArm},Qg P E pv cal A->A.run av some=some r->Q8B P E pv cal av r:=by
 intro A
 induction A with
 |alt A B ihA ihB=>
  intro hok hr
  simp only[CArm.run]at hr
  split at hr
  ·exact ihA hok.1 hr
  ·exact ihB hok.2 hr
 |tt ps Y F out=>
  intro hok hr
  obtain⟨f,rfl,hok⟩:=hok
  simp only[CArm.run]at hr
  obtain⟨x,hx,hr⟩:=Option.bind_eq_some_iff.1 hr
  obtain⟨y,hy,hr⟩:=Option.bind_eq_some_iff.1 hr
  cases hr
  obtain⟨l,rfl,hl⟩:=Q5S hx
  refine⟨λhn=>absurd rfl (hn _ _ _ _),λf' τ' z k m e1 e2=>(by cases e2),λf' as _ e=>(by cases e),λf' as e1 e=>?_,λf' τ x as y _ e hs=>(by cases e;cases hs),λf' τ x k y m _ e hs=>(by cases e;cases hs)⟩
  cases e1;cases e
  have hm:=hok x y hy
  intro S w vs hst hgl hargs
  exact hm S w vs hst hgl (XB hl hargs)
 |v ps F=>
  intro hok hr
  obtain⟨f,rfl,hok⟩:=hok
  simp only[CArm.run]at hr
  obtain⟨x,hx,hr⟩:=Option.bind_eq_some_iff.1 hr
  obtain⟨y,hy,hr⟩:=Option.bind_eq_some_iff.1 hr
  cases hr
  obtain⟨l,rfl,hl⟩:=Q7j hx
  refine⟨λhn=>absurd rfl (hn _ _ _ _),λf' τ' z k m e1 e2=>(by cases e2),λf' as _ e=>(by cases e),λf' as e1 e=>(by cases e),λf' τ x' as y' e1 e2 hs e3=>?_,λf' τ x k y m _ e hs e3=>(by cases e3)⟩
  cases e1;cases e2;cases e3
  have hm:=hok _ _ _ hy
  intro S T v w cs vs hst hgl hST hsw htr hargs
  exact hm S T v w cs vs hst hgl hST hsw htr (XB hl hargs)
 |x τ F=>
  intro hok hr
  obtain⟨hsl,f,rfl,hok⟩:=hok
  simp only[CArm.run]at hr
  obtain⟨x,hx,hr⟩:=Option.bind_eq_some_iff.1 hr
  obtain⟨y,hy,hr⟩:=Option.bind_eq_some_iff.1 hr
  cases hr
  have e:=Q7l hx
  subst e
  refine⟨λhn=>absurd rfl (hn _ _ _ _),λf' τ' z k m e1 e2=>(by cases e2),λf' as _ e=>(by simp only[List.cons.injEq,AV.pc.injEq,true_and]at e;obtain⟨⟨rfl,_⟩,_⟩:=e;cases hsl),λf' as e1 e=>(by simp only[List.cons.injEq,AV.pc.injEq,true_and]at e;obtain⟨⟨rfl,_⟩,_⟩:=e;cases hsl),λf' τ x' as y' e1 e2 hs e3=>(by cases e3),λf' τ x k y m e1 e2 hs e3=>?_⟩
  cases e1;cases e2;cases e3
  exact hok _ _ _ hy
 |p ps Y F out=>
  intro hok hr
  simp only[CArm.run]at hr
  obtain⟨x,hx,hr⟩:=Option.bind_eq_some_iff.1 hr
  obtain⟨y,hy,hr⟩:=Option.bind_eq_some_iff.1 hr
  cases hr
  have nopc:∀c τ z l,av≠ .pc c τ z::l:=λc τ z l e=>by
   subst e
   cases ps with
   |nil=>simp[Y6]at hx
   |cons τ ps=>simp[Y6,asT]at hx
  refine⟨λ_=>⟨Q4d hx (hok x y hy),λf a0 rest e1 e2 hn=>?_⟩,λf τ z k m _ e=>absurd e (nopc _ _ _ _),λf as _ e=>absurd e (nopc _ _ _ _),Ug λτ x l=>nopc _ _ _ _⟩
  subst e2
  exfalso
  cases ps with
  |nil=>simp[Y6]at hx
  |cons τ ps=>
   simp only[Y6]at hx
   split at hx
   ·rename_i y0 hy0
    rcases U9 hy0 with rfl|rfl<;>exact hn rfl
   ·cases hx
 |m k ps Y F out=>
  intro hok hr
  obtain⟨f,rfl,hok⟩:=hok
  cases av with
  |nil=>simp only[CArm.run]at hr;cases hr
  |cons a0 rest=>
   simp only[CArm.run]at hr
   obtain⟨x0,hx0,hr⟩:=Option.bind_eq_some_iff.1 hr
   obtain⟨x,hx,hr⟩:=Option.bind_eq_some_iff.1 hr
   obtain⟨y,hy,hr⟩:=Option.bind_eq_some_iff.1 hr
   cases hr
   have ha0:=MK.view_eq hx0
   subst ha0
   have nopc:∀c τ z l,k.val x0::rest≠ .pc c τ z::l:=λc τ z l e=>by cases k<;>cases e
   refine⟨λ_=>⟨λS w vs _ _ ha=>?_,λf' a0 rest' e1 e2 hn=>?_⟩,λf τ z k m _ e=>absurd e (nopc _ _ _ _),λf as _ e=>absurd e (nopc _ _ _ _),Ug λτ x l=>nopc _ _ _ _⟩
   ·exfalso
    obtain⟨hl,ha⟩:=ha
    match vs,hl with
    |v::vs,_=>
     obtain⟨cs,h5,_⟩:=ha 0 _ v rfl rfl
     cases k<;>cases h5
   ·cases e1;cases e2
    have hm:=hok x0 x y hy
    intro S w v0 vs l r0 hst hgl hargs hr0 hrow hSl hv0
    exact hm S w v0 vs l r0 hst hgl (XB hx hargs) hr0 hrow hSl hv0
 |q ps Y F out=>
  intro hok hr
  simp only[CArm.run]at hr
  obtain⟨x,hx,hr⟩:=Option.bind_eq_some_iff.1 hr
  obtain⟨y,hy,hr⟩:=Option.bind_eq_some_iff.1 hr
  cases hr
  have nopc:∀c τ z l,av≠ .pc c τ z::l:=λc τ z l e=>by
   subst e
   cases ps with
   |nil=>simp[UP]at hx
   |cons k ps=>cases k<;>simp[UP,PK.view,asT]at hx
  refine⟨λ_=>⟨Goes.mono (hok x y hy) (Q8c _) λS w vs ha=>Q0j hx ha,λf a0 rest e1 e2 hn=>?_⟩,λf τ z k m _ e=>absurd e (nopc _ _ _ _),λf as _ e=>absurd e (nopc _ _ _ _),Ug λτ x l=>nopc _ _ _ _⟩
  subst e2
  exfalso
  cases ps with
  |nil=>simp[UP]at hx
  |cons k ps=>
   simp only[UP]at hx
   split at hx
   ·rename_i y0 hy0
    cases k with
    |t τ=>rcases U9 hy0 with rfl|rfl<;>exact hn rfl
    |tp τ=>
     simp only[PK.view]at hy0
     split at hy0
     ·exact hn rfl
     ·cases hy0
    |clo g cs=>
     simp only[PK.view]at hy0
     split at hy0
     ·exact hn rfl
     ·cases hy0
   ·cases hx
 |mq k ps Y F out=>
  intro hok hr
  obtain⟨f,rfl,hok⟩:=hok
  cases av with
  |nil=>simp only[CArm.run]at hr;cases hr
  |cons a0 rest=>
   simp only[CArm.run]at hr
   obtain⟨x0,hx0,hr⟩:=Option.bind_eq_some_iff.1 hr
   obtain⟨x,hx,hr⟩:=Option.bind_eq_some_iff.1 hr
   obtain⟨y,hy,hr⟩:=Option.bind_eq_some_iff.1 hr
   cases hr
   have ha0:=MK.view_eq hx0
   subst ha0
   have nopc:∀c τ z l,k.val x0::rest≠ .pc c τ z::l:=λc τ z l e=>by cases k<;>cases e
   refine⟨λ_=>⟨λS w vs _ _ ha=>?_,λf' a0 rest' e1 e2 hn=>?_⟩,λf τ z k m _ e=>absurd e (nopc _ _ _ _),λf as _ e=>absurd e (nopc _ _ _ _),Ug λτ x l=>nopc _ _ _ _⟩
   ·exfalso
    obtain⟨hl,ha⟩:=ha
    match vs,hl with
    |v::vs,_=>
     obtain⟨cs,h5,_⟩:=ha 0 _ v rfl rfl
     cases k<;>cases h5
   ·cases e1;cases e2
    have hm:=hok x0 x y hy
    intro S w v0 vs l r0 hst hgl hargs hr0 hrow hSl hv0
    exact hm S w v0 vs l r0 hst hgl (Q0j hx hargs) hr0 hrow hSl hv0
 |d τ F=>
  intro hok hr
  obtain⟨f,rfl,hok⟩:=hok
  simp only[CArm.run]at hr
  obtain⟨x,hx,hr⟩:=Option.bind_eq_some_iff.1 hr
  obtain⟨y,hy,hr⟩:=Option.bind_eq_some_iff.1 hr
  cases hr
  have e:=Q7h hx
  subst e
  refine⟨λhn=>absurd rfl (hn _ _ _ _),λf' τ' z k m e1 e2 e3=>?_,λf' as _ e=>(by cases e),Ug λτ x l e=>by cases e⟩
  cases e1;cases e2;cases e3
  exact hok _ _ _ hy
 |pp ps τ F=>
  intro hok hr
  obtain⟨f,rfl,hok⟩:=hok
  simp only[CArm.run]at hr
  obtain⟨x,hx,hr⟩:=Option.bind_eq_some_iff.1 hr
  obtain⟨y,hy,hr⟩:=Option.bind_eq_some_iff.1 hr
  cases hr
  obtain⟨l,rfl,hl⟩:=Q5R hx
  refine⟨λhn=>absurd rfl (hn _ _ _ _),λf' τ' z k m e1 e2=>(by cases e2),λf' as e1 e=>?_,λf' as _ e=>(by cases e),λf' τ x as y _ e hs=>(by cases e;cases hs),λf' τ x k y m _ e hs=>(by cases e;cases hs)⟩
  cases e1;cases e
  have hm:=hok x y hy
  intro S w vs hst hgl hargs
  exact hm S w vs hst hgl (XB hl hargs)
theorem XC {P:Program}{E:Env}{pv:Nat->Value}{t:Cal->Option CArm}(h:∀cal A,t cal=some A->Qg P E pv cal A):GOk P E pv (CG (Qf t)):=by
 intro cal av r hr
 unfold CG Qf at hr
 dsimp only at hr
 split at hr
 ·rename_i A hA
  exact Q8X (h cal A hA) hr
 ·cases hr
inductive LArm:Type 1
 |one (sp so:List Sp) (Y:Type) (l:Nat->SX sp->Option Y) (e:Ex) (g:Y->SX so) (h:SX so->Y)
 |two (sp so1 so2:List Sp) (Y Z:Type) (l:Nat->SX sp->Option (Sum Y Z)) (e1 e2:Ex) (g1:Y->SX so1) (h1:SX so1->Y) (g2:Z->SX so2) (h2:SX so2->Z)
def LArm.run {R:Type}(nt k:Nat)(A:LArm)(st:St)(K:Ex->St->Option R):Option R:=match A with
 |.one sp so Y l e g _=>(UU nt st sp).bind λx=>(l k x).bind λy=>K e (J1 nt so (g y))
 |.two sp so1 so2 Y Z l e1 e2 g1 _ g2 _=>(UU nt st sp).bind λx=>(l k x).bind λy=>match y with
  |.inl z=>K e1 (J1 nt so1 (g1 z))
  |.inr z=>K e2 (J1 nt so2 (g2 z))
def Q8j:Ex->Ex->Bool
 |.exit a,.exit b=>Nat.beq a b
 |.ret,.ret=>true
 |_,_=>false
theorem Q22 {a b:Ex}(h:Q8j a b=true):a=b/\a≠ .normal:=by
 cases a<;>cases b<;>first
  |exact Bool.noConfusion h
  |(have:=Nat.eq_of_beq_eq_true h;subst this;exact⟨rfl,by simp⟩)
  |exact⟨rfl,by simp⟩
@[reducible] def LArm.sp:LArm->List Sp
 |.one sp ..=>sp
 |.two sp ..=>sp
@[reducible] def LArm.Y:LArm->Type
 |.one _ _ Y ..=>Y
 |.two _ _ _ Y Z ..=>Sum Y Z
def LArm.l:(A:LArm)->Nat->SX A.sp->Option A.Y
 |.one _ _ _ l _ _ _=>l
 |.two _ _ _ _ _ l _ _ _ _ _ _=>l
def LArm.cont (nt k:Nat):(A:LArm)->Ex->St->Option A.Y
 |.one sp so Y l e g h,e',st=>match e' with
  |.normal=>(UU nt st sp).bind λx=>l k x
  |e'=>match Q8j e' e with
   |true=>(UU nt st so).bind λx=>some (h x)
   |false=>none
 |.two sp so1 so2 Y Z l e1 e2 g1 h1 g2 h2,e',st=>match e' with
  |.normal=>(UU nt st sp).bind λx=>l k x
  |e'=>match Q8j e' e1 with
   |true=>(UU nt st so1).bind λx=>some (.inl (h1 x))
   |false=>match Q8j e' e2 with
    |true=>(UU nt st so2).bind λx=>some (.inr (h2 x))
    |false=>none
def LArm.Ok:LArm->Prop
 |.one sp so Y l e g h=>Q2w sp=true/\Q2w so=true/\(∀x,l 0 x=none)/\∀x,g (h x)=x
 |.two sp so1 so2 Y Z l e1 e2 g1 h1 g2 h2=>Q2w sp=true/\Q2w so1=true/\Q2w so2=true/\(∀x,l 0 x=none)/\(∀x,g1 (h1 x)=x)/\∀x,g2 (h2 x)=x
def Qc (nt k:Nat)(t:Nat->Option LArm):Kv:=λb st K=>match t b with
 |some A=>A.run nt k st K
 |none=>none
theorem XD (nt k:Nat)(t:Nat->Option LArm):LIs (Qc nt k t) (LG (Qc nt k t)):=by
 intro R b st K r h
 unfold LG
 unfold Qc at h ⊢
 dsimp only at h ⊢
 split at h
 ·rename_i A hA
  cases A with
  |one sp so Y l e g h'=>
   unfold LArm.run at h ⊢
   obtain⟨x,hx,h⟩:=Option.bind_eq_some_iff.1 h
   obtain⟨y,hy,h⟩:=Option.bind_eq_some_iff.1 h
   exact⟨_,_,by simp only[hx,hy,Option.bind_some],h⟩
  |two sp so1 so2 Y Z l e1 e2 g1 h1 g2 h2=>
   unfold LArm.run at h ⊢
   obtain⟨x,hx,h⟩:=Option.bind_eq_some_iff.1 h
   obtain⟨y,hy,h⟩:=Option.bind_eq_some_iff.1 h
   cases y with
   |inl z=>exact⟨_,_,by simp only[hx,hy,Option.bind_some],h⟩
   |inr z=>exact⟨_,_,by simp only[hx,hy,Option.bind_some],h⟩
 ·cases h
theorem Q1m {nt:Nat}{t:Nat->Option LArm}(hok:∀b A,t b=some A->A.Ok):∀b st e st',¬LG (Qc nt 0 t) b st e st':=by
 intro b st e st' h
 unfold LG Qc at h
 dsimp only at h
 split at h
 ·rename_i A hA
  have:=hok b A hA
  cases A with
  |one sp so Y l e g h'=>
   unfold LArm.run at h
   obtain⟨x,hx,h⟩:=Option.bind_eq_some_iff.1 h
   rw[this.2.2.1]at h;cases h
  |two sp so1 so2 Y Z l e1 e2 g1 h1 g2 h2=>
   unfold LArm.run at h
   obtain⟨x,hx,h⟩:=Option.bind_eq_some_iff.1 h
   rw[this.2.2.2.1]at h;cases h
 ·cases h
theorem Q1n {E:Env}{C:Nat->Orc}{nt:Nat}{t:Nat->Option LArm}{fn:Func}(hok:∀b A,t b=some A->A.Ok)
  (hS:∀b A,t b=some A->∀k x,QJ E (C k) (Qc nt k t) b (Qo fn b) (J1 nt A.sp x) (A.cont nt k)=A.l (k+1) x) :
  ∀k b e st st',LG (Qc nt (k+1) t) b st e st'->Q7e E (C k) (Qc nt k t) nt (Qo fn b) b e st st':=by
 intro k b e st st' h
 unfold LG at h
 unfold Qc at h
 dsimp only at h
 split at h
 ·rename_i A hA
  have ho:=hok b A hA
  have hs:=hS b A hA k
  cases A with
  |one sp so Y l e1 g h'=>
   unfold LArm.run at h
   obtain⟨x,hx,h⟩:=Option.bind_eq_some_iff.1 h
   obtain⟨y,hy,h⟩:=Option.bind_eq_some_iff.1 h
   simp only[Option.some.injEq,Prod.mk.injEq]at h
   obtain⟨rfl,rfl⟩:=h
   refine⟨sp,x,ho.1,hx,Y,y,_,(hs x).trans hy,λe' st1 hc=>?_⟩
   unfold LArm.cont at hc
   dsimp only at hc
   split at hc
   ·obtain⟨x1,hx1,hl⟩:=Option.bind_eq_some_iff.1 hc
    refine .inl ⟨rfl,?_⟩
    unfold LG Qc
    simp only[hA,LArm.run,hx1,hl,Option.bind_some]
   ·split at hc
    ·rename_i hne he
     obtain⟨rfl,hn⟩:=Q22 he
     obtain⟨x1,hx1,hl⟩:=Option.bind_eq_some_iff.1 hc
     cases hl
     exact .inr ⟨rfl,hn,so,x1,ho.2.1,hx1,by rw[ho.2.2.2]⟩
    ·cases hc
  |two sp so1 so2 Y Z l e1 e2 g1 h1 g2 h2=>
   unfold LArm.run at h
   obtain⟨x,hx,h⟩:=Option.bind_eq_some_iff.1 h
   obtain⟨y,hy,h⟩:=Option.bind_eq_some_iff.1 h
   refine⟨sp,x,ho.1,hx,Sum Y Z,y,_,(hs x).trans hy,λe' st1 hc=>?_⟩
   unfold LArm.cont at hc
   dsimp only at hc
   split at hc
   ·obtain⟨x1,hx1,hl⟩:=Option.bind_eq_some_iff.1 hc
    refine .inl ⟨rfl,?_⟩
    unfold LG Qc
    simp only[hA,LArm.run,hx1,hl,Option.bind_some]
    exact h
   ·split at hc
    ·rename_i hne he
     obtain⟨rfl,hn⟩:=Q22 he
     obtain⟨x1,hx1,hl⟩:=Option.bind_eq_some_iff.1 hc
     cases hl
     simp only[Option.some.injEq,Prod.mk.injEq]at h
     obtain⟨rfl,rfl⟩:=h
     exact .inr ⟨rfl,hn,so1,x1,ho.2.1,hx1,by rw[ho.2.2.2.2.1]⟩
    ·split at hc
     ·rename_i hne he' he
      obtain⟨rfl,hn⟩:=Q22 he
      obtain⟨x1,hx1,hl⟩:=Option.bind_eq_some_iff.1 hc
      cases hl
      simp only[Option.some.injEq,Prod.mk.injEq]at h
      obtain⟨rfl,rfl⟩:=h
      exact .inr ⟨rfl,hn,so2,x1,ho.2.2.1,hx1,by rw[ho.2.2.2.2.2]⟩
     ·cases hc
 ·cases h
theorem Qh {P:Program}{E:Env}{pv:Nat->Value}(hE:EnvOk P E){t:Cal->Option CArm}(hG:∀cal A,t cal=some A->Qg P E pv cal A){f:FuncId}{fn:Func}{c:Code}(hf:P.funcs[f]? =some fn)(hb:fn.body=some c)
  (hname:(fn.name== "runtime.NumGoroutine")=false) {args:List AV} (hn:Nat.ble args.length fn.ntmps=true) {R:Type} {K:AV->Option R} {y:R} (hrun:QE E (Qf t) (Qc fn.ntmps 0 fun _=>none) fn args K=some y) {r':AV} (hw:∀r,K r=some y->Wk r r') :
  Qa P E pv (.f f) args r':=
 Q3f hE (XA t) (XD _ _ _) (XC hG) hf hb hname (Q3e (λb st e st' h=>by unfold LG Qc at h;cases h) _) (Nat.le_of_ble_eq_true hn) hrun hw
theorem Qi {P:Program}{E:Env}{pv:Nat->Value}(hE:EnvOk P E){t:Nat->Cal->Option CArm}(k:Nat)(hG:∀k',k'<=k->∀cal A,t k' cal=some A->Qg P E pv cal A){f:FuncId}{fn:Func}{c:Code}(hf:P.funcs[f]? =some fn)(hb:fn.body=some c)
  (hname:(fn.name== "runtime.NumGoroutine")=false) {args:List AV} (hn:Nat.ble args.length fn.ntmps=true) {lt:Nat->Option LArm} (hok:KA fn=true) (hlt:∀b A,lt b=some A->A.Ok)
  (hS:∀b A,lt b=some A->∀k x,QJ E (Qf (t k)) (Qc fn.ntmps k lt) b (Qo fn b) (J1 fn.ntmps A.sp x) (A.cont fn.ntmps k)=A.l (k+1) x)
  {R:Type} {K:AV->Option R} {y:R} (hrun:QE E (Qf (t k)) (Qc fn.ntmps k lt) fn args K=some y) {r':AV} (hw:∀r,K r=some y->Wk r r'):Qa P E pv (.f f) args r':=
 Q3f hE (XA _) (XD _ _ _) (XC (hG k (Nat.le_refl k))) hf hb hname (λw0 B p hp st e st' S ρ a w Q h hs hgl hQ=>
  wp_loop_rounds k (Dw hE (C:=λk=>Qf (t k)) (L:=λk=>Qc fn.ntmps k lt) (λk=>XA _) (λk=>XD _ _ _) hb hok (n:=k) (λk' hk'=>XC (hG k' (Nat.le_of_lt hk'))) (Q1m hlt) (λk b e st st' _ h=>Q1n (C:=λk=>Qf (t k)) hlt hS k b e st st' h) k (Nat.le_refl k) w0 B p hp st e st' S ρ a w Q h hs hgl hQ)) (Nat.le_of_ble_eq_true hn) hrun hw
theorem Q1o {P:Program}{E:Env}{pv:Nat->Value}(hE:EnvOk P E){C:Orc}{L:Kv}(hC:JE C (CG C))(hL:LIs L (LG L))(hG:GOk P E pv (CG C)){f:FuncId}{fn:Func}{c:Code}(hf:P.funcs[f]? =some fn)(hb:fn.body=some c)(hname:(fn.name== "runtime.NumGoroutine")=false)
  (hl:∀w0 B,∀p∈J0 0 c,Yi P E w0 B pv p.2 (LG L p.1)) {mb:Nat} (hmb:mb=Q7\/mb=Kt) {a0:AV} {args:List AV} (hn:args.length+1<=fn.ntmps) {R:Type} {K:AV->Option R} {y:R} (hrun:Kx E C L fn mb a0 args K=some y) {r':AV} (hw:∀r,K r=some y->WkM r r'):J6 P E pv f a0 args r':=by
 obtain⟨c',res,e,st,rs,hfr,hk⟩:=Q7b hC hL hrun
 have hcc:c'=c:=by have:=hfr.body;rw[hb]at this;cases this;rfl
 subst hcc
 exact J6.mono (Q4c hE hG hf hname hfr hmb hn hl) (hw res hk)
theorem UG {P:Program}{E:Env}{pv:Nat->Value}(hE:EnvOk P E){t:Cal->Option CArm}(hG:∀cal A,t cal=some A->Qg P E pv cal A){f:FuncId}{fn:Func}{c:Code}(hf:P.funcs[f]? =some fn)(hb:fn.body=some c)
  (hname:(fn.name== "runtime.NumGoroutine")=false) {mb:Nat} (hmb:mb=Q7\/mb=Kt) {a0:AV} {args:List AV} (hn:Nat.ble (args.length+1) fn.ntmps=true) {R:Type} {K:AV->Option R} {y:R} (hrun:Kx E (Qf t) (Qc fn.ntmps 0 fun _=>none) fn mb a0 args K=some y) {r':AV} (hw:∀r,K r=some y->WkM r r') :
  J6 P E pv f a0 args r':=
 Q1o hE (XA t) (XD _ _ _) (XC hG) hf hb hname (Q3e (λb st e st' h=>by unfold LG Qc at h;cases h) _) hmb (Nat.le_of_ble_eq_true hn) hrun hw
theorem YP {P:Program}{E:Env}{pv:Nat->Value}(hE:EnvOk P E){t:Nat->Cal->Option CArm}(k:Nat)(hG:∀k',k'<=k->∀cal A,t k' cal=some A->Qg P E pv cal A){f:FuncId}{fn:Func}{c:Code}(hf:P.funcs[f]? =some fn)(hb:fn.body=some c)
  (hname:(fn.name== "runtime.NumGoroutine")=false) {mb:Nat} (hmb:mb=Q7\/mb=Kt) {a0:AV} {args:List AV} (hn:Nat.ble (args.length+1) fn.ntmps=true) {lt:Nat->Option LArm} (hok:KA fn=true) (hlt:∀b A,lt b=some A->A.Ok)
  (hS:∀b A,lt b=some A->∀k x,QJ E (Qf (t k)) (Qc fn.ntmps k lt) b (Qo fn b) (J1 fn.ntmps A.sp x) (A.cont fn.ntmps k)=A.l (k+1) x)
  {R:Type} {K:AV->Option R} {y:R} (hrun:Kx E (Qf (t k)) (Qc fn.ntmps k lt) fn mb a0 args K=some y) {r':AV} (hw:∀r,K r=some y->WkM r r'):J6 P E pv f a0 args r':=
 Q1o hE (XA _) (XD _ _ _) (XC (hG k (Nat.le_refl k))) hf hb hname (λw0 B p hp st e st' S ρ a w Q h hs hgl hQ=>
  wp_loop_rounds k (Dw hE (C:=λk=>Qf (t k)) (L:=λk=>Qc fn.ntmps k lt) (λk=>XA _) (λk=>XD _ _ _) hb hok (n:=k) (λk' hk'=>XC (hG k' (Nat.le_of_lt hk'))) (Q1m hlt) (λk b e st st' _ h=>Q1n (C:=λk=>Qf (t k)) hlt hS k b e st st' h) k (Nat.le_refl k) w0 B p hp st e st' S ρ a w Q h hs hgl hQ)) hmb (Nat.le_of_ble_eq_true hn) hrun hw
end Go.Gx
end
section
/- Rows: data that was trodden is plain data in memory;a law's contract out of its call's answer. -/
namespace Go.Gx
open Go.RowKit Go.ChangeShapes Go.WideShapes
inductive WF:(τ:Ty)->den τ->Prop
 |int (k:IntKind) (n:Int) (h:(Lit.int k n).wf=true):WF (.int k) n
 |bool (b:Bool):WF .bool b
 |str (s:ByteArray) (h:s.size<=maxLen):WF .str s
 |sl (e:Ty) (xs:List (den e)) (hm:xs.length<=maxLen) (h:∀i (hi:i<xs.length),WF e xs[i]):WF (.sl e) xs
 |date (d:Date) (hy:WF (.int .i64) d.y) (hm:WF (.int .i64) d.m) (hd:WF (.int .i64) d.d):WF .date d
 |abbr (a:Abbr) (h1:WF .str a.word) (h2:WF .str a.short):WF .abbr a
 |name (n:Name) (h1:WF (.sl .str) n.given) (h2:WF .str n.particle) (h3:WF .str n.family) (h4:WF .str n.suffix):WF .name n
 |entry (e:Entry) (h1:WF .str e.key) (h2:WF (.int .i64) e.kind) (h3:WF (.sl .name) e.authors) (h4:WF (.sl .name) e.editors) (h5:WF .str e.title) (h6:WF .str e.container) (h7:WF .str e.publisher)
   (h8:WF .date e.date) (h9:WF (.int .i64) e.volume) (h10:WF .str e.pages) (h11:WF .str e.cross):WF .entry e
 |lib (l:Library) (h:WF (.sl .entry) l.entries):WF .lib l
 |cur (q:Cur) (h1:WF (.sl (.int .u8)) q.code) (h2:WF (.int .i64) q.at_) (h3:WF (.int .u64) q.seed):WF .cur q
 |query (q:Query) (h1:WF (.int .i64) q.op) (h2:WF .str q.field) (h3:WF .str q.word) (h4:WF (.sl .query) q.parts):WF .query q
def noA:Ty->Bool
 |.arr _ _=>false
 |.sl e=>noA e
 |_=>true
section
variable {H:Type} {enc:TypeId×Value->H} {P:Program} {E:Env} {w:World} {spare:Nat->Bool} {held:Bool} {S:Nat->Prop}
abbrev Lt (w:World):Nat->Prop:=λb=>b<w.heap.size
theorem cell_lt {a:Addr}{v:Value}(h:w.cell? a=some v):a.block<w.heap.size:=by
 unfold World.cell? at h
 split at h
 ·rename_i c e f hb;exact(Array.getElem?_eq_some_iff.1 hb).1
 ·cases h
theorem Q4W (hty:∀T τ,E.ty T=some τ->TyOk P E T τ):∀(fuel:Nat) (T:Nat) (τ:Ty) (cs:List Value) (y:DataW H×List MemPlace),noA τ=true->E.ty T=some τ->DataW.trod enc P w 0 spare held fuel T cs=some y->∃x:den τ,WF τ x/\CR (Lt w) w τ x cs
 |0,T,τ,cs,y,_,_,h=>by simp[DataW.trod]at h
 |fuel+1,T,τ,cs,y,hn,hT,h=>by
  have ih:=Q4W hty fuel
  have hu:=hty T τ hT
  obtain⟨i,hi,hsz,-,-⟩:=hu.info
  have hcells:P.cellsOf T=nc τ:=by simp[Program.cellsOf,hi,hsz]
  have cellsOf:∀{t σ},E.ty t=some σ->P.cellsOf t=nc σ:=λ{t σ} ht=>by
   obtain⟨i,hi,hsz,-,-⟩:=(hty t σ ht).info
   simp[Program.cellsOf,hi,hsz]
  have hund:=hu.und
  have fields:∀fs,P.underlying T=some (.struct fs)->fs.size=(fty τ).length->(∀(f:Nat) (d:Field),fs[f]? =some d->∃σ,(fty τ)[f]? =some σ/\d.offset=QB (fty τ) f/\E.ty d.type=some σ)->
    cs.length=nc τ/\∀(f:Nat) σ,(fty τ)[f]? =some σ->noA σ=true->∃x:den σ,WF σ x/\CR (Lt w) w σ x ((cs.drop (QB (fty τ) f)).take (nc σ)):=λfs hfs hl hf=>by
   obtain⟨xs,n,hn,_,hlen,hxl,hx⟩:=DataW.trod_struct hfs h
   cases hn
   refine⟨hlen.trans hcells,λf σ hσ hno=>?_⟩
   have hfl:f<fs.size:=by have:=(List.getElem?_eq_some_iff.1 hσ).1;omega
   obtain⟨σ',h1,h2,h3⟩:=hf f fs[f] (Array.getElem?_eq_getElem hfl)
   rw[hσ]at h1
   cases h1
   have h4:=hx f fs[f] (Array.getElem?_eq_getElem hfl)
   rw[List.getElem?_eq_getElem (show f<xs.length by omega),h2,cellsOf h3]at h4
   exact ih _ σ _ _ hno h3 h4
  cases τ with
  |int k=>obtain⟨n,rfl,_,hw⟩:=DataW.trod_int hund h;exact⟨n,.int k n hw,.int k n⟩
  |bool=>obtain⟨b,rfl,_⟩:=DataW.trod_bool hund h;exact⟨b,.bool b,.bool b⟩
  |str=>obtain⟨s,rfl,_,hs⟩:=DataW.trod_string hund h;exact⟨s,.str s hs,.str s⟩
  |arr n e=>cases hn
  |sl e=>
   obtain⟨t,h1,h2,h3,h4,h5⟩:=hund
   rcases DataW.trod_slice h1 h with⟨rfl,_⟩|⟨a,len,cap,elems,rest,n,hfn,rfl,_,hb,hl,hm,hlen,hel,_⟩
   ·exact⟨[],.sl e [] (Nat.zero_le _) (λi hi=>absurd hi (Nat.not_lt_zero i)),Jr _ _ e⟩
   ·cases hfn
    have key:∀i,∃x:den e,∃c:List Value,i<len->WF e x/\CR (Lt w) w e x c/\a.spot=none/\a.block<w.heap.size/\∀j v,c[j]? =some v->w.cell? ⟨a.block,a.off+(i*nc e+j),none⟩=some v:=λi=>by
     by_cases hi:i<len
     ·have h6:=hel i hi
      rw[List.getElem?_eq_getElem (show i<elems.length by omega)]at h6
      obtain⟨c,h7,h8⟩:=Option.bind_eq_some_iff.1 h6
      rw[cellsOf h3]at h7
      obtain⟨x,h9,h10⟩:=ih t e c _ hn h3 h8
      obtain⟨_,hcl,hcc⟩:=World.cells?_some h7
      have hcell:∀j v,c[j]? =some v->w.cell? ((a.add (i*nc e)).add j)=some v:=λj v hj=>by
       have:j<c.length:=(List.getElem?_eq_some_iff.1 hj).1
       rw[hcc j (by omega),hj]
      have h0:∃v,c[0]? =some v:=⟨c[0],List.getElem?_eq_getElem (by omega)⟩
      obtain⟨v0,hv0⟩:=h0
      have hlt:a.block<w.heap.size:=by
       have:=cell_lt (hcell 0 v0 hv0)
       simpa[Addr.add]using(show(a.add (i*nc e)).block<w.heap.size by simpa[Addr.add]using this) |> λh=>by unfold Addr.add at h;split at h<;>exact h
      have hsp:a.spot=none:=by
       have h11:=hel 0 (by omega)
       rw[List.getElem?_eq_getElem (show 0<elems.length by omega)]at h11
       obtain⟨c',h12,_⟩:=Option.bind_eq_some_iff.1 h11
       rw[cellsOf h3]at h12
       obtain⟨_,hcl',hcc'⟩:=World.cells?_some h12
       have h13:=hcc' 0 (by omega)
       rw[List.getElem?_eq_getElem (show 0<c'.length by omega)]at h13
       have:=World.cell?_spot h13
       simpa[Addr.add]using this
      refine⟨x,c,λ_=>⟨h9,h10,hsp,hlt,λj v hj=>?_⟩⟩
      have:=hcell j v hj
      rw[Go.Deep.add_add]at this
      obtain⟨ab,ao,asp⟩:=a
      cases hsp
      simp only[Addr.add]at this
      split at this
      ·rename_i hz
       have h14:i*nc e+j=0:=hz
       rw[h14];exact this
      ·exact this
     ·exact⟨Q9 e,[],λh=>absurd h hi⟩
    let xf:=λi=>Classical.choose (key i)
    have hxf:∀i,∃c:List Value,i<len->WF e (xf i)/\CR (Lt w) w e (xf i) c/\a.spot=none/\a.block<w.heap.size/\∀j v,c[j]? =some v->w.cell? ⟨a.block,a.off+(i*nc e+j),none⟩=some v:=λi=>Classical.choose_spec (key i)
    let cf:=λi=>Classical.choose (hxf i)
    have hcf:=λi=>Classical.choose_spec (hxf i)
    have hxl:((List.range len).map xf).length=len:=by simp
    refine⟨(List.range len).map xf,.sl e _ (by rw[hxl];omega) (λi hi=>?_),?_⟩
    ·rw[hxl]at hi
     simp only[List.getElem_map,List.getElem_range]
     exact(hcf i hi).1
    ·have:=CR.sl (S:=Lt w) (w:=w) e ((List.range len).map xf) (some a) cap cf (by rw[hxl];exact hl) hm (λi hi=>by
      rw[hxl]at hi
      simp only[List.getElem_map,List.getElem_range]
      exact(hcf i hi).2.1) (λi hi=>by
      rw[hxl]at hi
      obtain⟨_,_,h6,h7,h8⟩:=hcf i hi
      obtain⟨ab,ao,asp⟩:=a
      cases h6
      exact⟨ab,ao,rfl,h7,h8⟩)
     rw[hxl]at this
     exact this
  |date=>
   obtain⟨fs,h1,h2,h3⟩:=hund
   obtain⟨hl,hf⟩:=fields fs h1 h2 h3
   match cs,hl with
   |[c0,c1,c2,c3],_=>
    obtain⟨x0,g0,k0⟩:=hf 0 _ rfl rfl
    obtain⟨x1,g1,k1⟩:=hf 1 _ rfl rfl
    obtain⟨x2,g2,k2⟩:=hf 2 _ rfl rfl
    obtain⟨x3,g3,k3⟩:=hf 3 _ rfl rfl
    simp[QB,nc]at k0 k1 k2 k3
    cases k0;cases k1;cases k2;cases k3
    exact⟨⟨x0,x1,x2,x3⟩,.date _ g0 g1 g2,.date ⟨x0,x1,x2,x3⟩⟩
  |abbr=>
   obtain⟨fs,h1,h2,h3⟩:=hund
   obtain⟨hl,hf⟩:=fields fs h1 h2 h3
   match cs,hl with
   |[c0,c1],_=>
    obtain⟨x0,g0,k0⟩:=hf 0 _ rfl rfl
    obtain⟨x1,g1,k1⟩:=hf 1 _ rfl rfl
    simp[QB,nc]at k0 k1
    cases k0;cases k1
    exact⟨⟨x0,x1⟩,.abbr _ g0 g1,.abbr ⟨x0,x1⟩⟩
  |cur=>
   obtain⟨fs,h1,h2,h3⟩:=hund
   obtain⟨hl,hf⟩:=fields fs h1 h2 h3
   match cs,hl with
   |[c0,c1,c2],_=>
    obtain⟨x0,g0,k0⟩:=hf 0 _ rfl rfl
    obtain⟨x1,g1,k1⟩:=hf 1 _ rfl rfl
    obtain⟨x2,g2,k2⟩:=hf 2 _ rfl rfl
    simp[QB,nc]at k0 k1 k2
    obtain⟨v,rfl⟩:∃v,c0=v:=⟨_,rfl⟩
    cases k1;cases k2
    exact⟨⟨x0,x1,x2⟩,.cur _ g0 g1 g2,.cur ⟨x0,x1,x2⟩ _ k0⟩
  |name=>
   obtain⟨fs,h1,h2,h3⟩:=hund
   obtain⟨hl,hf⟩:=fields fs h1 h2 h3
   match cs,hl with
   |[c0,c1,c2,c3],_=>
    obtain⟨x0,g0,k0⟩:=hf 0 _ rfl rfl
    obtain⟨x1,g1,k1⟩:=hf 1 _ rfl rfl
    obtain⟨x2,g2,k2⟩:=hf 2 _ rfl rfl
    obtain⟨x3,g3,k3⟩:=hf 3 _ rfl rfl
    simp[QB,nc]at k0 k1 k2 k3
    cases k1;cases k2;cases k3
    exact⟨⟨x0,x1,x2,x3⟩,.name _ g0 g1 g2 g3,.name ⟨x0,x1,x2,x3⟩ _ k0⟩
  |query=>
   obtain⟨fs,h1,h2,h3⟩:=hund
   obtain⟨hl,hf⟩:=fields fs h1 h2 h3
   match cs,hl with
   |[c0,c1,c2,c3],_=>
    obtain⟨x0,g0,k0⟩:=hf 0 _ rfl rfl
    obtain⟨x1,g1,k1⟩:=hf 1 _ rfl rfl
    obtain⟨x2,g2,k2⟩:=hf 2 _ rfl rfl
    obtain⟨x3,g3,k3⟩:=hf 3 _ rfl rfl
    simp[QB,nc]at k0 k1 k2 k3
    cases k0;cases k1;cases k2
    exact⟨.mk x0 x1 x2 x3,.query _ g0 g1 g2 g3,.query (.mk x0 x1 x2 x3) _ k3⟩
  |lib=>
   obtain⟨fs,h1,h2,h3⟩:=hund
   obtain⟨hl,hf⟩:=fields fs h1 h2 h3
   match cs,hl with
   |[c0],_=>
    obtain⟨x0,g0,k0⟩:=hf 0 _ rfl rfl
    simp[QB,nc]at k0
    exact⟨⟨x0⟩,.lib _ g0,.lib ⟨x0⟩ _ k0⟩
  |entry=>
   obtain⟨fs,h1,h2,h3⟩:=hund
   obtain⟨hl,hf⟩:=fields fs h1 h2 h3
   match cs,hl with
   |[c0,c1,c2,c3,c4,c5,c6,c7,c8,c9,c10,c11,c12,c13],_=>
    obtain⟨x0,g0,k0⟩:=hf 0 _ rfl rfl
    obtain⟨x1,g1,k1⟩:=hf 1 _ rfl rfl
    obtain⟨x2,g2,k2⟩:=hf 2 _ rfl rfl
    obtain⟨x3,g3,k3⟩:=hf 3 _ rfl rfl
    obtain⟨x4,g4,k4⟩:=hf 4 _ rfl rfl
    obtain⟨x5,g5,k5⟩:=hf 5 _ rfl rfl
    obtain⟨x6,g6,k6⟩:=hf 6 _ rfl rfl
    obtain⟨x7,g7,k7⟩:=hf 7 _ rfl rfl
    obtain⟨x8,g8,k8⟩:=hf 8 _ rfl rfl
    obtain⟨x9,g9,k9⟩:=hf 9 _ rfl rfl
    obtain⟨x10,g10,k10⟩:=hf 10 _ rfl rfl
    simp[QB,nc]at k0 k1 k2 k3 k4 k5 k6 k7 k8 k9 k10
    cases k0;cases k1;cases k4;cases k5;cases k6;cases k7;cases k8;cases k9;cases k10
    exact⟨⟨x0,x1,x2,x3,x4,x5,x6,x7,x8,x9,x10⟩,.entry _ g0 g1 g2 g3 g4 g5 g6 g7 g8 g9 g10,.entry ⟨x0,x1,x2,x3,x4,x5,x6,x7,x8,x9,x10⟩ _ _ k2 k3⟩
def WFs:(l:List Ty)->TX l->Prop
 |[],_=>True
 |τ::l,x=>WF τ x.1/\WFs l x.2
def Q23 (E:Env):List Nat->List Ty->Bool
 |[],[]=>true
 |T::l,τ::m=>(match E.ty T with
  |some σ=>GH σ τ
  |none=>false)&&(noA τ&&Q23 E l m)
 |_,_=>false
theorem Q8Y (hty:∀T τ,E.ty T=some τ->TyOk P E T τ){T:Nat}{τ:Ty}(hn:noA τ=true)(hT:E.ty T=some τ){base:Nat}{v:Value}(hv:Value.okWide P w .any base T v){x:den τ}{S:Nat->Prop}:v=valOf (.t τ x) v.cells.toList:=by
 have hund:=(hty T τ hT).und
 cases τ with
 |int k=>obtain⟨n,rfl⟩:=okWide_int hund hv;rfl
 |bool=>obtain⟨n,rfl⟩:=okWide_bool hund hv;rfl
 |str=>obtain⟨n,rfl⟩:=okWide_string hund hv;rfl
 |sl e=>obtain⟨t,h1,_⟩:=hund;obtain⟨a,l,c,rfl⟩:=okWide_slice h1 hv;rfl
 |arr n e=>cases hn
 |date|name|entry|lib|abbr|query|cur=>obtain⟨fs,h1,_⟩:=hund;obtain⟨cs,rfl,_⟩:=okWide_struct h1 hv;rfl
theorem Q1p (hty:∀T τ,E.ty T=some τ->TyOk P E T τ){base:Nat}{pv:Nat->Value}:∀{Ts:List Nat} {τs:List Ty} {vs:List Value} {ds:List (DataW H)} {ps:List MemPlace},Q23 E Ts τs=true->DataW.TrodAll enc P w 0 spare held Ts vs ds ps->
  (∀(j:Nat) t v,Ts[j]? =some t->vs[j]? =some v->Value.okWide P w .any base t v)->∃x:TX τs,WFs τs x/\QY (Lt w) w pv (Qb τs x) vs
 |[],[],[],[],ps,_,_,_=>⟨(),trivial,rfl,λi a v h=>by simp[Qb]at h⟩
 |T::Ts,τ::τs,vs,ds,ps,hp,h,hv=>by
  obtain⟨v,vs',d,ds',p,q,rfl,rfl,rfl,hd,hr⟩:=trodAll_cons h
  simp only[Q23,Bool.and_eq_true]at hp
  obtain⟨hT,hn,hp⟩:=hp
  cases hE:E.ty T with
  |none=>rw[hE]at hT;cases hT
  |some σ=>
   rw[hE]at hT
   have:=Xq hT
   subst this
   obtain⟨x,hx,hlen,hargs⟩:=Q1p hty (pv:=pv) hp hr λj t v h1 h2=>hv (j+1) t v (by simpa using h1) (by simpa using h2)
   obtain⟨fuel,hf⟩:=hd
   obtain⟨x0,hw0,hc0⟩:=Q4W hty fuel T σ _ _ hn hE hf
   refine⟨(x0,x),⟨hw0,hx⟩,by simp[Qb,hlen],λi a u h1 h2=>?_⟩
   cases i with
   |zero=>
    cases h1;cases h2
    exact⟨_,.t σ x0 _ hc0,Q8Y hty hn hE (hv 0 T v rfl rfl) (S:=Lt w)⟩
   |succ i=>exact hargs i a u (by simpa[Qb]using h1) (by simpa using h2)
 |[],_::_,_,_,_,hp,_,_=>by cases hp
 |_::_,[],_,_,_,hp,_,_=>by cases hp
 |[],[],_::_,_,_,_,h,_=>by cases h
 |[],[],[],_::_,_,_,h,_=>by cases h
theorem Q24 (hE:EnvOk P E){f:FuncId}{fn:Func}{c:Code}(hfn:P.funcs[f]? =some fn)(hbody:fn.body=some c)(hname:(fn.name== "runtime.NumGoroutine")=false){τs:List Ty}(hps:Q23 E fn.params.toList τs=true){tb:Nat}(hres:fn.resultTypes= #[tb])(hb:P.underlying tb=some .bool)
  (hl:laidOutB P=true) (hr:∀t∈fn.params.toList,P.readableRec t=true/\t<P.types.size) {s:ChangeSpec}
  {W:World} {base:Nat} {args:Array Value} {ds gs:List (DataW H)} {before:List MemPlace} {r:AV} (hrt:r= .t .bool true)
  (hlaw:∀x:TX τs,WFs τs x->Qa P E (λ_=>undef) (.f f) (Qb τs x) r)
  (hspec:s.fn H (ds++gs)={results:=[.lit (.bool true)],args:=ds,vars:=gs})
  (Yw:∀(j:Nat) t v,fn.params[j]? =some t->args[j]? =some v->Value.okWide P W .any base t v)
  (hW:DataW.Whole enc P fn.params.toList s.vars false W args.toList ds gs before) (hgl:Qr E (λ_=>undef) (Lt W) W)
  (hv:∀q,DataW.TrodVars enc P W (λ_=>true) s.vars gs q->∀W',Below W.heap.size W W'->DataW.TrodVars enc P W' (λb=>decide (b<W.heap.size)) s.vars gs q) :
  Calls P f args W λe W'=>∃v,e= .returned v/\s.post enc P fn false true false false W args v W':=by
 have hW':=hW
 obtain⟨p,q,hA,hV,rfl,hfz,hnd⟩:=hW
 obtain⟨x,hx,hargs⟩:=Q1p (spare:=λ_=>true) (held:=true) hE.ty (pv:=λ_=>undef) hps hA λj t v h1 h2=>Yw j t v (by simpa using h1) (by simpa using h2)
 subst hrt
 have hgo:=hlaw x hx (Lt W) W args.toList (λb hb=>hb) hgl hargs
 have hcall:(callFunc f args).run P W= .ok (.enter f args) W:=by
  have hn':fn.name≠ "runtime.NumGoroutine":=by simpa using hname
  simp[callFunc,hfn,hn',hbody]
 have hgo2:Calls P f args W λe w''=>∃v,e= .returned v/\(Below W.heap.size W w''/\∃S':Nat->Prop,(∀b,Lt W b->S' b)/\(∀b,S' b->Lt W b\/(W.heap.size<=b/\b<w''.heap.size))/\RR S' w'' W.heap.size (λ_=>undef) (.t .bool true) v):=by
  have h:=hgo
  simp only[Goes]at h
  rw[hcall]at h
  exact h
 refine hgo2.mono λe W' ⟨v,he,hbl,S',_,_,hrr⟩=>?_
 subst he
 obtain⟨g,hr1⟩:=hrr
 have hvb:v= .bool true:=by
  cases hr1 with
  |plain _ cs ha=>cases ha with|t _ _ _ hc=>cases hc;rfl
 subst hvb
 have hlt:∀y∈p++q,y.block<W.heap.size:=λy hy=>hW'.lt y hy
 refine⟨_,rfl,ds,gs,p++q,[],p,q,hW',?_,?_,?_,hbl.frame _,λh=>by cases h⟩
 ·rw[hspec,hres]
  exact trodAll_mk1 (shut_bool hb true)
 ·rw[hspec]
  have all:∀{Ts:List Nat} {vs:List Value} {ds:List (DataW H)} {p:List MemPlace},DataW.TrodAll enc P W 0 (λ_=>true) true Ts vs ds p->(∀t∈Ts,P.readableRec t=true/\t<P.types.size)->(∀y∈p,y.block<W.heap.size)->DataW.TrodAll enc P W' 0 (λb=>decide (b<W.heap.size)) true Ts vs ds p:=by
   intro Ts
   induction Ts with
   |nil=>
    intro vs ds p h _ _
    obtain⟨rfl,rfl,rfl⟩:=trodAll_nil h
    exact trodAll_mk0
   |cons t Ts ih=>
    intro vs ds p h h1 h2
    obtain⟨v,vs',d,ds',p1,q1,rfl,rfl,rfl,hd,hr'⟩:=trodAll_cons h
    exact⟨p1,q1,Go.WideElems.Trod_stays hl (h1 t List.mem_cons_self).1 (h1 t List.mem_cons_self).2 hd (λy hy=>hbl.same (h2 y (List.mem_append_left _ hy))) (λy hy=>by simpa using h2 y (List.mem_append_left _ hy)),ih hr' (λt ht=>h1 t (List.mem_cons_of_mem _ ht)) (λy hy=>h2 y (List.mem_append_right _ hy)),rfl⟩
  exact all hA hr (λy hy=>hlt y (List.mem_append_left _ hy))
 ·rw[hspec]
  exact hv q hV W' hbl
end
end Go.Gx
end
section
/- Functions whose answers are trees of their own,functions that mark trees: what is interpreted of them is what the machine does. -/
namespace Go.Gx
open Go.RowKit
section
variable {P:Program} {E:Env} {pv:Nat->Value} {G:Cal->List AV->AV->Prop} {LG:Nat->St->Ex->St->Prop}
end
end Go.Gx
end
section
/- What is printed of functions about trees,tied to the machine. -/
namespace Go.Gx
open Go.RowKit
inductive TK where
 |t (τ:Ty)
 |fr (e:Nat) (τ:Ty)
 |tr (τ:Ty)
@[reducible] def TK.X:TK->Type
 |.t τ=>den τ
 |.fr _ τ=>List (den τ)
 |.tr τ=>den τ
section
variable {P:Program} {E:Env} {pv:Nat->Value}
end
end Go.Gx
end
section
/- '==' of dates and abbreviations. -/
namespace Go.Gx
theorem Q4X {P:Program}{w:World}{d:Nat}{xs ys:Array Value}:(Op.eqFields d xs ys []).run P w= .ok true w:=by simp[Op.eqFields]
theorem Um {P:Program}{w:World}{d:Nat}{xs ys:Array Value}{f:Field}{fs:List Field}{a b:Value}{r s:Bool}(hn:f.name≠ "_")(h1:(part f.type xs f.offset).run P w= .ok a w)(h2:(part f.type ys f.offset).run P w= .ok b w)
  (h3:(Op.equalIn d f.type a b).run P w= .ok r w) (h4:(Op.eqFields d xs ys fs).run P w= .ok s w):(Op.eqFields d xs ys (f::fs)).run P w= .ok (r&&s) w:=by
 cases r<;>simp[Op.eqFields,hn,h1,h2,h3,h4]
theorem Jx {P:Program}{E:Env}{w:World}{T:Nat}{τ:Ty}(ht:TyOk P E T τ)(hg:agT τ=false){cs:Array Value}{o:Nat}{v:Value}(hv:cs[o]? =some v):(part T cs o).run P w= .ok v w:=by
 simp[part,YD ht,hg,hv]
theorem Q8k {P:Program}{E:Env}(ht:∀T τ,E.ty T=some τ->TyOk P E T τ){T:Nat}(hT:E.ty T=some .date)(hg:P.eqGuardType P.depth T=false)(hs:P.stoodInHeld T=false)(hn:(P.fieldsOf T).all (fun f=>f.name != "_")=true) :
  P.eqGuardType P.depth T=false/\∀(x y:Date) (w:World),(Op.equalIn 10000 T (.agg #[.int .i64 x.y,.int .i64 x.m,.int .i64 x.d,.bool x.c]) (.agg #[.int .i64 y.y,.int .i64 y.m,.int .i64 y.d,.bool y.c])).run P w= .ok (x.y==y.y&&(x.m==y.m&&(x.d==y.d&&x.c==y.c))) w:=by
 refine⟨hg,λx y w=>?_⟩
 obtain⟨fs,hu,hsz,hf⟩:=(ht T _ hT).und
 have hfo:P.fieldsOf T=fs:=by simp[Program.fieldsOf,hu]
 rw[run_equalIn_agg (P:=P) w 9999 T _ _ (by rw[hfo];exact hu) hs,hfo]
 rw[hfo,Array.all_eq_true']at hn
 have hname:∀f∈fs.toList,f.name≠ "_" :=fun f hm=>by simpa using hn f (by simpa using hm)
 have hget:∀i f,fs.toList[i]? =some f->∃σ,(fty .date)[i]? =some σ/\f.offset=QB (fty .date) i/\E.ty f.type=some σ:=λi f h=>hf i f (by simpa using h)
 have hlen:fs.toList.length=4:=by simpa[fty]using hsz
 match hl:fs.toList,hlen with
 |[f0,f1,f2,f3],_=>
  rw[hl]at hname hget
  obtain⟨s0,a0,b0,c0⟩:=hget 0 f0 rfl
  obtain⟨s1,a1,b1,c1⟩:=hget 1 f1 rfl
  obtain⟨s2,a2,b2,c2⟩:=hget 2 f2 rfl
  obtain⟨s3,a3,b3,c3⟩:=hget 3 f3 rfl
  cases a0;cases a1;cases a2;cases a3
  have e3:=Um (P:=P) (w:=w) (d:=9999) (xs:=#[.int .i64 x.y,.int .i64 x.m,.int .i64 x.d,.bool x.c]) (ys:=#[.int .i64 y.y,.int .i64 y.m,.int .i64 y.d,.bool y.c]) (hname f3 (by simp)) (Jx (v:=.bool x.c) (ht _ _ c3) rfl (by rw[b3];rfl)) (Jx (v:=.bool y.c) (ht _ _ c3) rfl (by rw[b3];rfl)) (run_equalIn_bool' w 9998 f3.type _ _ (ht _ _ c3).und) Q4X
  have e2:=Um (hname f2 (by simp)) (Jx (v:=.int .i64 x.d) (ht _ _ c2) rfl (by rw[b2];rfl)) (Jx (v:=.int .i64 y.d) (ht _ _ c2) rfl (by rw[b2];rfl)) (run_equalIn_int w 9998 f2.type _ _ _ _ (ht _ _ c2).und) e3
  have e1:=Um (hname f1 (by simp)) (Jx (v:=.int .i64 x.m) (ht _ _ c1) rfl (by rw[b1];rfl)) (Jx (v:=.int .i64 y.m) (ht _ _ c1) rfl (by rw[b1];rfl)) (run_equalIn_int w 9998 f1.type _ _ _ _ (ht _ _ c1).und) e2
  have e0:=Um (hname f0 (by simp)) (Jx (v:=.int .i64 x.y) (ht _ _ c0) rfl (by rw[b0];rfl)) (Jx (v:=.int .i64 y.y) (ht _ _ c0) rfl (by rw[b0];rfl)) (run_equalIn_int w 9998 f0.type _ _ _ _ (ht _ _ c0).und) e1
  rw[e0]
  simp
theorem Q8l {P:Program}{E:Env}(ht:∀T τ,E.ty T=some τ->TyOk P E T τ){T:Nat}(hT:E.ty T=some .abbr)(hg:P.eqGuardType P.depth T=false)(hs:P.stoodInHeld T=false)(hn:(P.fieldsOf T).all (fun f=>f.name != "_")=true) :
  P.eqGuardType P.depth T=false/\∀(x y:Abbr) (w:World),(Op.equalIn 10000 T (.agg #[.string x.word,.string x.short]) (.agg #[.string y.word,.string y.short])).run P w= .ok (Ql x.word y.word&&Ql x.short y.short) w:=by
 refine⟨hg,λx y w=>?_⟩
 obtain⟨fs,hu,hsz,hf⟩:=(ht T _ hT).und
 have hfo:P.fieldsOf T=fs:=by simp[Program.fieldsOf,hu]
 rw[run_equalIn_agg (P:=P) w 9999 T _ _ (by rw[hfo];exact hu) hs,hfo]
 rw[hfo,Array.all_eq_true']at hn
 have hname:∀f∈fs.toList,f.name≠ "_" :=fun f hm=>by simpa using hn f (by simpa using hm)
 have hget:∀i f,fs.toList[i]? =some f->∃σ,(fty .abbr)[i]? =some σ/\f.offset=QB (fty .abbr) i/\E.ty f.type=some σ:=λi f h=>hf i f (by simpa using h)
 have hlen:fs.toList.length=2:=by simpa[fty]using hsz
 match hl:fs.toList,hlen with
 |[f0,f1],_=>
  rw[hl]at hname hget
  obtain⟨s0,a0,b0,c0⟩:=hget 0 f0 rfl
  obtain⟨s1,a1,b1,c1⟩:=hget 1 f1 rfl
  cases a0;cases a1
  have e1:=Um (P:=P) (w:=w) (d:=9999) (xs:=#[.string x.word,.string x.short]) (ys:=#[.string y.word,.string y.short]) (hname f1 (by simp)) (Jx (v:=.string x.short) (ht _ _ c1) rfl (by rw[b1];rfl)) (Jx (v:=.string y.short) (ht _ _ c1) rfl (by rw[b1];rfl)) (run_equalIn_string w 9998 f1.type _ _ (ht _ _ c1).und) Q4X
  have e0:=Um (hname f0 (by simp)) (Jx (v:=.string x.word) (ht _ _ c0) rfl (by rw[b0];rfl)) (Jx (v:=.string y.word) (ht _ _ c0) rfl (by rw[b0];rfl)) (run_equalIn_string w 9998 f0.type _ _ (ht _ _ c0).und) e1
  rw[e0]
  simp[Ql]
end Go.Gx
end
section
/- What a printed function answers with rounds enough;plain lemmas. -/
namespace Go.Gx
def Ev {α:Type}(f:Nat->Option α)(r:α):Prop:=∃K,∀k,K<=k->f k=some r
theorem Ev.pure {α:Type}(r:α):Ev (λ_=>some r) r:=⟨0,λ_ _=>rfl⟩
theorem Ev.const {α:Type}{f:Option α}{r:α}(h:f=some r):Ev (λ_=>f) r:=⟨0,λ_ _=>h⟩
theorem Ev.bind {α β:Type}{f:Nat->Option α}{g:Nat->α->Option β}{a:α}{b:β}(hf:Ev f a)(hg:Ev (λk=>g k a) b):Ev (λk=>(f k).bind (g k)) b:=by
 obtain⟨K,hK⟩:=hf
 obtain⟨L,hL⟩:=hg
 exact⟨max K L,λk hk=>by show(f k).bind (g k)=some b;rw[hK k (by omega),Option.bind_some];exact hL k (by omega)⟩
theorem Ev.bind0 {α β:Type}{f:Option α}{g:Nat->α->Option β}{a:α}{b:β}(hf:f=some a)(hg:Ev (λk=>g k a) b):Ev (λk=>f.bind (g k)) b:=by
 subst hf;exact hg
theorem Ev.step {α:Type}{f g:Nat->Option α}{r:α}(h:∀k,f (k+1)=g k)(hg:Ev g r):Ev f r:=by
 obtain⟨K,hK⟩:=hg
 exact⟨K+1,λk hk=>by obtain⟨m,rfl⟩:∃m,k=m+1:=⟨k-1,by omega⟩;rw[h];exact hK m (by omega)⟩
theorem Ev.congr {α:Type}{f g:Nat->Option α}{r:α}(hg:Ev g r)(h:∀k,f k=g k):Ev f r:=by
 obtain⟨K,hK⟩:=hg
 exact⟨K,λk hk=>by rw[h];exact hK k hk⟩
theorem Ev.eq {α:Type}{f:Nat->Option α}{r s:α}(h:Ev f r)(e:r=s):Ev f s:=e▸h
theorem Ev.get {α:Type}{f:Nat->Option α}{r:α}(h:Ev f r):∃k,f k=some r:=by
 obtain⟨K,hK⟩:=h;exact⟨K,hK K (Nat.le_refl K)⟩
theorem Ev.uniq {α:Type}{f:Nat->Option α}{r s:α}(h:Ev f r)(h':Ev f s):r=s:=by
 obtain⟨K,hK⟩:=h
 obtain⟨L,hL⟩:=h'
 have:=(hK (max K L) (by omega)).symm.trans (hL (max K L) (by omega))
 exact Option.some.inj this
theorem Ev.cond {α:Type}{b:Bool}{f g:Nat->Option α}{r:α}(h1:b=true->Ev f r)(h2:b=false->Ev g r):Ev (λk=>cond b (f k) (g k)) r:=by
 cases b with
 |true=>exact h1 rfl
 |false=>exact h2 rfl
def EvP {α:Type}(f:Nat->Option α)(P:α->Prop):Prop:=∃r,Ev f r/\P r
theorem EvP.pure {α:Type}{P:α->Prop}(r:α)(h:P r):EvP (λ_=>some r) P:=⟨r,Ev.pure r,h⟩
theorem EvP.bind {α β:Type}{f:Nat->Option α}{g:Nat->α->Option β}{P:α->Prop}{Q:β->Prop}(hf:EvP f P)(hg:∀a,P a->EvP (λk=>g k a) Q):EvP (λk=>(f k).bind (g k)) Q:=by
 obtain⟨a,h1,h2⟩:=hf
 obtain⟨r,h3,h4⟩:=hg a h2
 exact⟨r,Ev.bind h1 h3,h4⟩
theorem EvP.of0 {α β:Type}{f:Option α}{g:Nat->α->Option β}{a:α}{Q:β->Prop}(hf:f=some a)(hg:EvP (λk=>g k a) Q):EvP (λk=>f.bind (g k)) Q:=by
 subst hf;exact hg
theorem EvP.step {α:Type}{f g:Nat->Option α}{P:α->Prop}(h:∀k,f (k+1)=g k)(hg:EvP g P):EvP f P:=by
 obtain⟨r,h1,h2⟩:=hg
 exact⟨r,Ev.step h h1,h2⟩
theorem EvP.mono {α:Type}{f:Nat->Option α}{P Q:α->Prop}(h:EvP f P)(hq:∀r,P r->Q r):EvP f Q:=by
 obtain⟨r,h1,h2⟩:=h
 exact⟨r,h1,hq r h2⟩
theorem Qd {α:Type}{p:Prop}[Decidable p]{a b:α}(h:p):cond (decide p) a b=a:=by rw[decide_eq_true h];rfl
theorem Qu {α:Type}{p:Prop}[Decidable p]{a b:α}(h:¬p):cond (decide p) a b=b:=by rw[decide_eq_false h];rfl
theorem ceq {α:Type}{x y:Int}{a b:α}(h:x=y):cond (x==y) a b=a:=by rw[show(x==y)=true by simpa using h];rfl
theorem cne {α:Type}{x y:Int}{a b:α}(h:x≠y):cond (x==y) a b=b:=by rw[show(x==y)=false by simpa using h];rfl
theorem Q0H {α:Type}{n m:Nat}{a b:α}(h:n<=m):cond (Nat.ble n m) a b=a:=by rw[Nat.ble_eq_true_of_le h];rfl
theorem Gf {p:Prop}[Decidable p](h:p):decide p=true:=decide_eq_true h
theorem Dy {p:Prop}[Decidable p](h:¬p):decide p=false:=decide_eq_false h
theorem wrap_in {x:Int}(h1 : -9223372036854775808<=x)(h2:x<=9223372036854775807):IntKind.wrap .i64 x=x:=by
 rw[IntKind.wrap_i64];omega
def L (s:ByteArray):List UInt8:=s.data.toList
theorem XL {s t:ByteArray}(h:L s=L t):s=t:=by
 cases s;cases t
 simp only[L]at h
 rw[Array.toList_inj.1 h]
theorem J2 (s:ByteArray):(L s).length=s.size:=rfl
theorem toList_eq (s:ByteArray):s.toList=s.data.toList:=ByteArray.toList_eq s
theorem YQ {s t:ByteArray}:Ql s t=true ↔ s=t:=by
 unfold Ql
 rw[beq_iff_eq,toList_eq,toList_eq]
 exact⟨λh=>XL h,λh=>by rw[h]⟩
theorem Un (s:ByteArray):Ql s s=true:=YQ.2 rfl
theorem Q4Y (s t:ByteArray):Ql s t=(L s==L t):=by
 unfold Ql;rw[toList_eq,toList_eq];rfl
theorem Q7m (s:ByteArray)(i:Nat):bt s i=(((L s).getD i 0).toNat:Int):=by
 simp[bt,L,Array.getD_eq_getD_getElem?,List.getD_eq_getElem?_getD]
theorem Q7n (s:ByteArray)(i:Nat):0<=bt s i/\bt s i<=255:=by
 unfold bt
 have:=(s.data.getD i 0).toNat_lt
 omega
theorem J8 (s:ByteArray)(a b:Nat):L (s.extract a b)=((L s).take b).drop a:=by
 simp[L,ByteArray.data_extract,List.drop_take]
theorem Yr (s t:ByteArray):L (s++t)=L s++L t:=by simp[L,ByteArray.data_append]
theorem Q8Z (l:List UInt8):L ⟨l.toArray⟩=l:=by simp[L]
end Go.Gx
end
