/- The interpreter with value semantics ("Gx"): closed values are typed Lean data,a call's own slices and variables are rows by number. Definitions alone. -/
import GoSem.Core.Code
import GoSem.Core.Utf8
import GoSem.Op.String
import GoSem.Core.View
import Derived.Orders
import Derived.Tactics
import Derived.LoopN
import Derived.Below
import Derived.Laws.AppendOwn
import Derived.Laws.OwnMore
import Derived.Laws.IdiomStrings
import Derived.Laws.BytesArg
import Derived.Laws.CopyRow
import Derived.Laws.Tables
import Derived.Great.BuildSlice
set_option linter.unusedVariables false
set_option linter.unusedSimpArgs false
set_option maxRecDepth 100000
section
namespace Go.Gx
structure Date where
 y:Int
 m:Int
 d:Int
 c:Bool
structure Name where
 given:List ByteArray
 particle:ByteArray
 family:ByteArray
 suffix:ByteArray
structure Entry where
 key:ByteArray
 kind:Int
 authors:List Name
 editors:List Name
 title:ByteArray
 container:ByteArray
 publisher:ByteArray
 date:Date
 volume:Int
 pages:ByteArray
 cross:ByteArray
structure Library where
 entries:List Entry
structure Abbr where
 word:ByteArray
 short:ByteArray
structure Cur where
 code:List Int
 at_:Int
 seed:Int
inductive Query where
 |mk (op:Int) (field word:ByteArray) (parts:List Query)
def Query.op:Query->Int|.mk a _ _ _=>a
def Query.field:Query->ByteArray|.mk _ a _ _=>a
def Query.word:Query->ByteArray|.mk _ _ a _=>a
def Query.parts:Query->List Query|.mk _ _ _ a=>a
inductive Ty where
 |int (k:IntKind)
 |bool
 |str
 |sl (e:Ty)
 |arr (n:Nat) (e:Ty)
 |date|name|entry|lib|abbr|query|cur
 deriving DecidableEq
@[reducible] def den:Ty->Type
 |.int _=>Int
 |.bool=>Bool
 |.str=>ByteArray
 |.sl e=>List (den e)
 |.arr _ e=>List (den e)
 |.date=>Date
 |.name=>Name
 |.entry=>Entry
 |.lib=>Library
 |.abbr=>Abbr
 |.query=>Query
 |.cur=>Cur
def nc:Ty->Nat
 |.arr n e=>n*nc e
 |.date=>4
 |.name=>4
 |.entry=>14
 |.abbr=>2
 |.query=>4
 |.cur=>3
 |_=>1
def nb:Ty->Nat
 |.int k=>k.bits / 8
 |.bool=>1
 |.str=>16
 |.sl _=>24
 |.arr n e=>n*nb e
 |.date=>32
 |.name=>72
 |.entry=>192
 |.lib=>24
 |.abbr=>32
 |.query=>64
 |.cur=>40
def agT:Ty->Bool
 |.arr _ _|.date|.name|.entry|.lib|.abbr|.query|.cur=>true
 |_=>false
def slT:Ty->Bool
 |.sl _|.name|.entry|.lib|.query|.cur=>true
 |.arr _ e=>slT e
 |_=>false
def Q9:(τ:Ty)->den τ
 |.int _=>(0:Int)
 |.bool=>false
 |.str=>(⟨#[]⟩:ByteArray)
 |.sl _=>[]
 |.arr n e=>List.replicate n (Q9 e)
 |.date=>⟨0,0,0,false⟩
 |.name=>⟨[],⟨#[]⟩,⟨#[]⟩,⟨#[]⟩⟩
 |.entry=>⟨⟨#[]⟩,0,[],[],⟨#[]⟩,⟨#[]⟩,⟨#[]⟩,⟨0,0,0,false⟩,0,⟨#[]⟩,⟨#[]⟩⟩
 |.lib=>⟨[]⟩
 |.abbr=>⟨⟨#[]⟩,⟨#[]⟩⟩
 |.query=>.mk 0 ⟨#[]⟩ ⟨#[]⟩ []
 |.cur=>⟨[],0,0⟩
def fty:Ty->List Ty
 |.arr n e=>List.replicate n e
 |.date=>[.int .i64,.int .i64,.int .i64,.bool]
 |.name=>[.sl .str,.str,.str,.str]
 |.entry=>[.str,.int .i64,.sl .name,.sl .name,.str,.str,.str,.date,.int .i64,.str,.str]
 |.lib=>[.sl .entry]
 |.abbr=>[.str,.str]
 |.query=>[.int .i64,.str,.str,.sl .query]
 |.cur=>[.sl (.int .u8),.int .i64,.int .u64]
 |_=>[]
inductive AV where
 |t (τ:Ty) (x:den τ)
 |nil
 |own (id:Nat)
 |ep (id:Nat) (i:Option Nat) (p:List Nat)
 |tp (a:AV)
 |agg (τ:Ty) (fs:List AV)
 |hole (τ:Ty)
 |tup (vs:List AV)
 |clo (f:Nat) (caps:List AV)
 |par (i:Nat)
 |fr (e:Nat) (τ:Ty) (xs:List (den τ))
 |bx (τ:Ty) (x:den τ)
 |kep (o r:AV)
 |mov (e:Nat) (τ:Ty) (xs:List (den τ))
 |pc (c:Bool) (τ:Ty) (x:den τ)
 |ds (id:Nat) (τ:Ty) (x:den τ)
 |dq (id:Nat) (τ:Ty) (x:den τ)
 |tv (id:Nat) (τ:Ty)
 |tq (id i:Nat) (p:List Nat)
 |vw (id:Nat) (q:Option Nat) (p:List Nat) (τ:Ty)
 |tr (τ:Ty) (x:den τ)
 |any
inductive Row where
 |flat (e:Nat) (τ:Ty) (xs:List (den τ)) (fz app:Bool)
 |box (τ:Ty) (a:AV)
structure St where
 slot:Nat->AV
 row:Nat->Option Row
 nt:Nat
inductive Ex where
 |normal|exit (id:Nat)|ret
def QV:AV:=.tup []
def Q4:(τ:Ty)->den τ->List AV
 |.arr _ e,xs=>xs.map (AV.t e)
 |.date,d=>[.t (.int .i64) d.y,.t (.int .i64) d.m,.t (.int .i64) d.d,.t .bool d.c]
 |.name,n=>[.t (.sl .str) n.given,.t .str n.particle,.t .str n.family,.t .str n.suffix]
 |.entry,e=>[.t .str e.key,.t (.int .i64) e.kind,.t (.sl .name) e.authors,.t (.sl .name) e.editors,.t .str e.title,.t .str e.container,.t .str e.publisher,.t .date e.date,.t (.int .i64) e.volume,.t .str e.pages,.t .str e.cross]
 |.lib,l=>[.t (.sl .entry) l.entries]
 |.abbr,a=>[.t .str a.word,.t .str a.short]
 |.query,q=>[.t (.int .i64) q.op,.t .str q.field,.t .str q.word,.t (.sl .query) q.parts]
 |.cur,q=>[.t (.sl (.int .u8)) q.code,.t (.int .i64) q.at_,.t (.int .u64) q.seed]
 |_,_=>[]
def asT (τ:Ty):AV->Option (den τ)
 |.t σ x=>if h:σ=τ then some (h▸x)else none
 |.nil=>match τ with
  |.sl _=>some []
  |_=>none
 |_=>none
def Q64 (τ:Ty):List AV->Option (List (den τ))
 |[]=>some []
 |a::l=>match asT τ a with
  |some x=>match Q64 τ l with
   |some xs=>some (x::xs)
   |none=>none
  |none=>none
def QA:Ty->List AV->Option AV
 |.date,[a,b,c,d]=>match asT (.int .i64) a,asT (.int .i64) b,asT (.int .i64) c,asT .bool d with
  |some a,some b,some c,some d=>some (.t .date ⟨a,b,c,d⟩)
  |_,_,_,_=>none
 |.name,[a,b,c,d]=>match asT (.sl .str) a,asT .str b,asT .str c,asT .str d with
  |some a,some b,some c,some d=>some (.t .name ⟨a,b,c,d⟩)
  |_,_,_,_=>none
 |.entry,[a,b,c,d,e,f,g,h,i,j,k]=>
  match asT .str a,asT (.int .i64) b,asT (.sl .name) c,asT (.sl .name) d,asT .str e,asT .str f with
  |some a,some b,some c,some d,some e,some f=>
   match asT .str g,asT .date h,asT (.int .i64) i,asT .str j,asT .str k with
   |some g,some h,some i,some j,some k=>some (.t .entry ⟨a,b,c,d,e,f,g,h,i,j,k⟩)
   |_,_,_,_,_=>none
  |_,_,_,_,_,_=>none
 |.lib,[a]=>match asT (.sl .entry) a with
  |some a=>some (.t .lib ⟨a⟩)
  |none=>none
 |.abbr,[a,b]=>match asT .str a,asT .str b with
  |some a,some b=>some (.t .abbr ⟨a,b⟩)
  |_,_=>none
 |.query,[a,b,c,d]=>match asT (.int .i64) a,asT .str b,asT .str c,asT (.sl .query) d with
  |some a,some b,some c,some d=>some (.t .query (.mk a b c d))
  |_,_,_,_=>none
 |.cur,[a,b,c]=>match asT (.sl (.int .u8)) a,asT (.int .i64) b,asT (.int .u64) c with
  |some a,some b,some c=>some (.t .cur ⟨a,b,c⟩)
  |_,_,_=>none
 |.arr n e,l=>match Q64 e l with
  |some xs=>if xs.length=n then some (.t (.arr n e) xs)else none
  |none=>none
 |_,_=>none
def Q65:List AV->Bool
 |[]=>false
 |a::l=>match a with
  |.nil=>true
  |_=>Q65 l
def Q1A (τ:Ty)(fs:List AV):AV:=match Q65 fs with
 |true=>.agg τ fs
 |false=>match QA τ fs with
  |some a=>a
  |none=>.agg τ fs
def nilA:AV->AV
 |.t (.sl _) _=>.nil
 |a=>a
def XH (τ:Ty):List AV:=match τ with
 |.arr n e=>Q4 (.arr n e) (Q9 (.arr n e))
 |τ=>(Q4 τ (Q9 τ)).map nilA
def Q2q (τ:Ty):AV:=match τ with
 |.name=>.agg .name (XH .name)
 |.entry=>.agg .entry (XH .entry)
 |.lib=>.agg .lib (XH .lib)
 |.query=>.agg .query (XH .query)
 |.cur=>.agg .cur (XH .cur)
 |τ=>.t τ (Q9 τ)
def dsF (id:Nat):AV->AV
 |.t ρ z=>cond (slT ρ) (.ds id ρ z) (.t ρ z)
 |_=>.any
def tvF (id:Nat)(τ:Ty)(f:Nat):Option AV:=match τ,f with
 |.name,0=>some (.vw id none [0] .str)
 |.entry,2=>some (.vw id none [2] .name)
 |.entry,3=>some (.vw id none [3] .name)
 |.lib,0=>some (.vw id none [0] .entry)
 |.query,3=>some (.vw id none [3] .query)
 |_,_=>none
def QH (a:AV)(f:Nat):Option AV:=match a with
 |.ds id τ x=>match(Q4 τ x)[f]? with
  |some b=>some (dsF id b)
  |none=>none
 |.t τ x=>(Q4 τ x)[f]?
 |.agg _ fs=>fs[f]?
 |.tv id τ=>tvF id τ f
 |_=>none
def U7 (a:AV)(f:Nat)(b:AV):Option AV:=match a with
 |.t τ x=>match(Q4 τ x)[f]? with
  |some _=>some (Q1A τ ((Q4 τ x).set f b))
  |none=>none
 |.agg τ fs=>match fs[f]? with
  |some _=>some (Q1A τ (fs.set f b))
  |none=>none
 |_=>none
def YT:AV->List Nat->Option AV
 |a,[]=>some a
 |a,f::p=>match QH a f with
  |some b=>YT b p
  |none=>none
def XG:AV->List Nat->AV->Option AV
 |_,[],b=>some b
 |a,f::p,b=>match QH a f with
  |some c=>match XG c p b with
   |some d=>U7 a f d
   |none=>none
  |none=>none
def tyP:Ty->List Nat->Option Ty
 |τ,[]=>some τ
 |τ,f::p=>match(fty τ)[f]? with
  |some σ=>tyP σ p
  |none=>none
def Q2r:Nat:=99
def Gs:List Nat->Bool
 |[f]=>Nat.beq f Q2r
 |_=>false
theorem Gt {τ:Ty}(h:agT τ=false)(f:Nat)(p:List Nat):tyP τ (f::p)=none:=by
 cases τ<;>first
  |rfl
  |cases h
theorem Q3w {τ:Ty}(h:agT τ=false)(x:den τ)(f:Nat):QH (.t τ x) f=none:=by
 cases τ<;>first
  |rfl
  |cases h
theorem Q59 {τ:Ty}(h:agT τ=false)(x:den τ)(f:Nat)(p:List Nat):YT (.t τ x) (f::p)=none:=by
 simp only[YT,Q3w h]
def Yl:Nat->Ty->AV->Bool
 |0,_,_=>false
 |n+1,τ,a=>match a with
  |.t σ _=>match decEq σ τ with
   |.isTrue _=>true
   |.isFalse _=>false
  |.nil=>match τ with
   |.sl _=>true
   |_=>false
  |.own _=>match τ with
   |.sl _=>true
   |_=>false
  |.ep _ _ _|.tp _|.clo _ _|.par _=> !agT τ&&Nat.beq (nc τ) 1
  |.agg σ fs=>match decEq σ τ with
   |.isTrue _=>agT σ&&all2 (Yl n) (fty σ) fs
   |.isFalse _=>false
  |.hole σ=>match decEq σ τ with
   |.isTrue _=>true
   |.isFalse _=>false
  |.pc _ σ _=>match decEq σ τ with
   |.isTrue _=>true
   |.isFalse _=>false
  |.ds _ σ _=>match decEq σ τ with
   |.isTrue _=>true
   |.isFalse _=>false
  |.tv _ σ=>match decEq σ τ with
   |.isTrue _=>true
   |.isFalse _=>false
  |.vw _ _ _ σ=>match decEq (.sl σ) τ with
   |.isTrue _=>true
   |.isFalse _=>false
  |.tq _ _ _=> !agT τ&&Nat.beq (nc τ) 1
  |_=>false
where all2 (f:Ty->AV->Bool):List Ty->List AV->Bool
 |[],[]=>true
 |σ::l,a::as=>f σ a&&all2 f l as
 |_,_=>false
def fit (τ:Ty)(a:AV):Bool:=Yl 6 τ a
def JL (f:AV->Bool):List AV->Bool
 |[]=>false
 |a::l=>f a||JL f l
def Yt (f:AV->Option AV):List AV->Option (List AV)
 |[]=>some []
 |a::l=>match f a with
  |some b=>match Yt f l with
   |some m=>some (b::m)
   |none=>none
  |none=>none
def Q1B (f:Ty->AV->AV):List Ty->List AV->List AV
 |σ::l,a::fs=>f σ a::Q1B f l fs
 |_,fs=>fs
def Q7:Nat:=1099511627776
def Kt:Nat:=1099511627777
def YY (lo hi:Nat):Nat->AV->Bool
 |0,_=>true
 |n+1,a=>match a with
  |.own id=>Nat.ble lo id&&Nat.blt id hi
  |.ep id _ _=>Nat.ble lo id&&Nat.blt id hi
  |.ds id _ _=>Nat.ble lo id&&Nat.blt id hi
  |.dq id _ _=>Nat.ble lo id&&Nat.blt id hi
  |.tv id _=>Nat.ble lo id&&Nat.blt id hi
  |.tq id _ _=>Nat.ble lo id&&Nat.blt id hi
  |.vw id _ _ _=>Nat.ble lo id&&Nat.blt id hi
  |.agg _ fs=>JL (YY lo hi n) fs
  |.tup fs=>JL (YY lo hi n) fs
  |.clo _ fs=>JL (YY lo hi n) fs
  |_=>false
def Gu (lo hi:Nat)(a:AV):Bool:=YY lo hi 6 a
def Ku (lo hi:Nat)(a:AV):AV:=cond (Gu lo hi a) .any a
def XQ (lo hi:Nat):Nat->Ty->AV->AV
 |0,σ,_=>.hole σ
 |n+1,σ,a=>match a with
  |.agg τ fs=>.agg τ (Q1B (XQ lo hi n) (fty τ) fs)
  |a=>cond (Gu lo hi a) (.hole σ) a
def Q9a (lo hi:Nat)(σ:Ty)(a:AV):AV:=XQ lo hi 6 σ a
def Jj (lo hi:Nat)(id:Nat)(r:Option Row):Option Row:=
 cond (Nat.ble lo id&&Nat.blt id hi) none (match r with
  |some (.box τ a)=>some (.box τ (Q9a lo hi τ a))
  |r=>r)
def St.kill (st:St)(lo hi:Nat):St:=⟨λt=>Ku lo hi (st.slot t),λid=>Jj lo hi id (st.row id),st.nt⟩
def St.put (st:St)(d:Nat)(a:AV):St:=⟨λt=>cond (Nat.beq t d) a (st.slot t),st.row,st.nt⟩
def St.putO (st:St)(d:Option Nat)(a:AV):St:=match d with
 |some d=>st.put d a
 |none=>st
def St.setRow (st:St)(id:Nat)(r:Row):St:=⟨st.slot,λj=>cond (Nat.beq j id) (some r) (st.row j),st.nt⟩
def JC:Row->Row
 |.flat e τ xs _ app=>.flat e τ xs true app
 |r=>r
def St.freeze (st:St):List Nat->St
 |[]=>st
 |id::l=>match st.row id with
  |some r=>(st.setRow id (JC r)).freeze l
  |none=>st.freeze l
structure Upd where
 v:AV
 news:List (Nat×Row)
 frz:List Nat
 app:Option (Nat×Row)
 sto:Option (Nat×Row)
def quiet (v:AV):Upd:=⟨v,[],[],none,none⟩
def makes (v:AV)(news:List (Nat×Row)):Upd:=⟨v,news,[],none,none⟩
def St.setRows (st:St):List (Nat×Row)->St
 |[]=>st
 |p::l=>(st.setRow p.1 p.2).setRows l
def St.apply (st:St)(dst:Option Nat)(u:Upd):St:=
 let st1:=(st.freeze u.frz).setRows u.news
 let st2:=match u.app with
  |some (j,r)=>(st1.kill j (j+1)).setRow j r
  |none=>st1
 let st3:=match u.sto with
  |some (j,r)=>st2.setRow j r
  |none=>st2
 st3.putO dst u.v
def QP (e:Nat)(ap:Bool)(τ:Ty)(x:den τ):Row:=.box τ (.tup [.t (.int .i64) (e:Int),.t .bool ap,.t τ x])
def viewAt (τ:Ty)(x:den τ)(q:Option Nat)(p:List Nat):Option AV:=match q with
 |none=>YT (.t τ x) p
 |some i=>match τ,x with
  |.sl e,xs=>YT (.t e (xs.getD i (Q9 e))) p
  |_,_=>none
def setAt (τ:Ty)(x:den τ)(q:Option Nat)(p:List Nat)(y:AV):Option (den τ):=match q with
 |none=>match XG (.t τ x) p y with
  |some (.t σ z)=>match decEq σ τ with
   |.isTrue h=>some (h▸z)
   |.isFalse _=>none
  |_=>none
 |some i=>match τ,x with
  |.sl e,xs=>match XG (.t e (xs.getD i (Q9 e))) p y with
   |some (.t σ z)=>match decEq σ e with
    |.isTrue h=>some (xs.set i (h▸z))
    |.isFalse _=>none
   |_=>none
  |_,_=>none
def vwF (id:Nat)(q:Option Nat)(p:List Nat):Nat->List AV->List AV
 |_,[]=>[]
 |f,a::l=>(match a with
  |.t (.sl e) _=>.vw id q (p++[f]) e
  |.t ρ z=>cond (slT ρ) .any (.t ρ z)
  |_=>.any)::vwF id q p (f+1) l
def Q5a (id:Nat)(q:Option Nat)(p:List Nat)(τ:Ty)(y:den τ):AV:=match slT τ with
 |false=>.t τ y
 |true=>match τ with
  |.sl e=>.vw id q p e
  |.name=>.agg .name (vwF id q p 0 (Q4 .name y))
  |.entry=>.agg .entry (vwF id q p 0 (Q4 .entry y))
  |.lib=>.agg .lib (vwF id q p 0 (Q4 .lib y))
  |.query=>.agg .query (vwF id q p 0 (Q4 .query y))
  |_=>.any
def Q2 (row:Nat->Option Row):Nat->AV->Option AV
 |0,_=>none
 |n+1,a=>match a with
  |.t τ x=>some (.t τ x)
  |.nil=>some .nil
  |.own id=>match row id with
   |some (.flat _ τ xs _ _)=>some (.t (.sl τ) xs)
   |_=>none
  |.ep id none p=>match row id with
   |some (.box σ b)=>match YT b p,tyP σ p with
    |some c,some τ=>match Q2 row n c with
     |some d=>match asT τ d with
      |some x=>some (.tp (.t τ x))
      |none=>none
     |none=>none
    |_,_=>none
   |_=>none
  |.ep id (some i) p=>match row id with
   |some (.flat _ τ xs _ _)=>match YT (.t τ (xs.getD i (Q9 τ))) p with
    |some (.t σ x)=>some (.tp (.t σ x))
    |_=>none
   |_=>none
  |.tp b=>some (.tp b)
  |.agg τ fs=>match Yt (Q2 row n) fs with
   |some gs=>QA τ gs
   |none=>none
  |.clo f fs=>match Yt (Q2 row n) fs with
   |some gs=>some (.clo f gs)
   |none=>none
  |.par i=>some (.par i)
  |.pc _ τ x=>some (.t τ x)
  |.ds id τ x=>match row id with
   |some (.box _ (.t .bool true))=>some (.t τ x)
   |_=>none
  |.tv id τ=>match row id with
   |some (.box _ (.tup [_,_,.t σ x]))=>match decEq σ τ with
    |.isTrue _=>some (.t σ x)
    |.isFalse _=>none
   |_=>none
  |.vw id q p τ=>match row id with
   |some (.box _ (.tup [_,_,.t σ x]))=>match viewAt σ x q p with
    |some (.t ρ y)=>match decEq ρ (.sl τ)with
     |.isTrue _=>some (.t ρ y)
     |.isFalse _=>none
    |_=>none
   |_=>none
  |_=>none
def Q0B:Nat->AV->Bool
 |0,_=>false
 |n+1,a=>match a with
  |.t τ _=> !slT τ
  |.nil=>true
  |.own _=>true
  |.agg _ fs=>allL (Q0B n) fs
  |.pc c _ _=>c
  |_=>false
where allL (f:AV->Bool):List AV->Bool
 |[]=>true
 |a::l=>f a&&allL f l
end Go.Gx
end
section
/- The interpreter's steps: operations,regions,code. Definitions alone. -/
namespace Go.Gx
structure Env where
 ty:Nat->Option Ty
 el:Nat->Nat
 gl:Nat->Option AV
 md:Nat->Bool
 gi:Nat->Bool
 on:Bool:=false
 dm:Nat->Bool:=λ_=>false
 pm:Nat->Bool:=λ_=>false
 tm:Nat->Bool:=λ_=>false
 vm:Nat->Bool:=λ_=>false
 tr:Bool:=false
 so:Bool:=false
 pt:List Nat:=[]
 pr:List Nat:=[]
inductive Cal where
 |f (n:Nat)
 |par (i:Nat)
abbrev Orc:={R:Type}->Cal->List AV->(AV->Option R)->Option R
abbrev Kv:={R:Type}->Nat->St->(Ex->St->Option R)->Option R
def Q66:Value->AV
 |.int k n=>.t (.int k) n
 |.bool b=>.t .bool b
 |.string s=>.t .str s
 |.slice none 0 0=>.nil
 |_=>.any
def ev (E:Env)(st:St):Operand->AV
 |.tmp t=>st.slot t
 |.const v=>Q66 v
 |.global g=>match E.gl g with
  |some a=>.tp a
  |none=>.any
 |.func f=>.clo f []
def bt (s:ByteArray)(i:Nat):Int:=((s.data.getD i 0).toNat:Int)
def Ql (x y:ByteArray):Bool:=x.toList==y.toList
def ltS (x y:ByteArray):Bool:=Op.bytesLess x.toList y.toList
def Q6 (s:ByteArray):List Int:=s.data.toList.map λb=>(b.toNat:Int)
def YU (xs:List Int):ByteArray:=⟨(xs.map λn=>UInt8.ofNat n.toNat).toArray⟩
section
variable {R:Type}
def Q67 (op:BinOp)(k:IntKind)(x y:Int)(K:AV->Option R):Option R:=
 match op with
 |.add=>K (.t (.int k) (k.wrap (x+y)))
 |.sub=>K (.t (.int k) (k.wrap (x-y)))
 |.mul=>K (.t (.int k) (k.wrap (x*y)))
 |.quo=>cond (y==0) none (K (.t (.int k) (k.wrap (x.tdiv y))))
 |.rem=>cond (y==0) none (K (.t (.int k) (x.tmod y)))
 |.eql=>K (.t .bool (x==y))
 |.neq=>K (.t .bool (x != y))
 |.lss=>K (.t .bool (decide (x<y)))
 |.leq=>K (.t .bool (decide (x<=y)))
 |.gtr=>K (.t .bool (decide (x > y)))
 |.geq=>K (.t .bool (decide (x ≥ y)))
 |.and=>K (.t (.int k) (k.wrap ((BitVec.ofInt k.bits x&&& BitVec.ofInt k.bits y).toNat:Int)))
 |_=>none
def Q9b (k:IntKind)(x y:Int)(K:AV->Option R):Option R:=cond (decide (0<=y)) (K (.t (.int k) (x.fdiv (2 ^ min y.toNat k.bits)))) none
def Q68 (op:BinOp)(x y:ByteArray)(K:AV->Option R):Option R:=
 match op with
 |.add=>cond (Nat.ble (x.size+y.size) 9223372036854775807) (K (.t .str (x++y))) none
 |.eql=>K (.t .bool (Ql x y))
 |.neq=>K (.t .bool (!Ql x y))
 |.lss=>K (.t .bool (ltS x y))
 |.leq=>K (.t .bool (ltS x y||Ql x y))
 |.gtr=>K (.t .bool (!(ltS x y||Ql x y)))
 |.geq=>K (.t .bool (!ltS x y))
 |_=>none
def Q5b (op:BinOp)(a b:AV)(K:AV->Option R):Option R:=
 match a,b with
 |.t (.int k) x,.t (.int k') y=>match op with
  |.shr=>Q9b k x y K
  |op=>match decEq k k' with
   |.isTrue _=>Q67 op k x y K
   |.isFalse _=>none
 |.t .str x,.t .str y=>Q68 op x y K
 |_,_=>none
def Q3x (op:BinOp)(t:Option Ty)(a b:AV)(K:AV->Option R):Option R:=
 match t,a,b with
 |some .bool,.t .bool x,.t .bool y=>match op with
  |.eql=>K (.t .bool (x==y))
  |.neq=>K (.t .bool (!(x==y)))
  |_=>none
 |some .date,.t .date x,.t .date y=>match op with
  |.eql=>K (.t .bool (x.y==y.y&&(x.m==y.m&&(x.d==y.d&&x.c==y.c))))
  |.neq=>K (.t .bool (!(x.y==y.y&&(x.m==y.m&&(x.d==y.d&&x.c==y.c)))))
  |_=>none
 |some .abbr,.t .abbr x,.t .abbr y=>match op with
  |.eql=>K (.t .bool (Ql x.word y.word&&Ql x.short y.short))
  |.neq=>K (.t .bool (!(Ql x.word y.word&&Ql x.short y.short)))
  |_=>none
 |_,a,b=>Q5b op a b K
def unA (op:UnOp)(a:AV)(K:AV->Option R):Option R:=
 match op,a with
 |.not,.t .bool b=>K (.t .bool (!b))
 |.neg,.t (.int k) x=>K (.t (.int k) (k.wrap (0-x)))
 |_,_=>none
def idx (i:Int)(n:Nat)(K:Option R):Option R:=cond (decide (0<=i)) (cond (decide (i<(n:Int))) K none) none
def cut (lo hi:Option Int)(n:Nat)(K:Nat->Nat->Option R):Option R:=
 match lo,hi with
 |none,none=>K 0 n
 |some l,none=>cond (decide (0<=l)) (cond (decide (l<=(n:Int))) (K l.toNat n) none) none
 |none,some h=>cond (decide (0<=h)) (cond (decide (h<=(n:Int))) (K 0 h.toNat) none) none
 |some l,some h=>cond (decide (0<=h)) (cond (decide (h<=(n:Int))) (cond (decide (0<=l)) (cond (decide (l<=h)) (K l.toNat h.toNat) none) none) none) none
def Jg {α:Type}(lo hi:Option Int)(xs:List α)(l h:Nat):List α:=
 match lo,hi with
 |none,none=>xs
 |some _,none=>xs.drop l
 |none,some _=>xs.take h
 |some _,some _=>(xs.take h).drop l
def Q69 (j:Nat)(l h:Option Int)(fz ag:Bool):Nat:=match Nat.beq j Kt&&(!fz&& !ag),l,h with
 |true,some _,none=>1
 |true,none,some _=>2
 |_,_,_=>0
def Q9A:Ty->Option Ty
 |.sl e=>some e
 |_=>none
def listOf (row:Nat->Option Row)(τ:Ty):AV->Option (List (den τ))
 |.nil=>some []
 |.t (.sl σ) xs=>match decEq σ τ with
  |.isTrue h=>some (h▸xs)
  |.isFalse _=>none
 |.own id=>match row id with
  |some (.flat _ σ xs _ _)=>match decEq σ τ with
   |.isTrue h=>some (h▸xs)
   |.isFalse _=>none
  |_=>none
 |_=>none
def Q3y (row:Nat->Option Row):Option Ty->AV->Option Int
 |some (.sl _),.nil=>some 0
 |some .str,.t .str s=>some (s.size:Int)
 |some (.sl _),.t (.sl _) xs=>some (xs.length:Int)
 |some (.sl _),.own id=>match row id with
  |some (.flat _ _ xs _ _)=>some (xs.length:Int)
  |_=>none
 |some (.sl _),.ds _ (.sl _) xs=>some (xs.length:Int)
 |_,_=>none
def J3:Nat->AV->List Nat
 |0,_=>[]
 |n+1,a=>match a with
  |.own id=>[id]
  |.agg _ fs=>go (J3 n) fs
  |.clo _ fs=>go (J3 n) fs
  |_=>[]
where go (f:AV->List Nat):List AV->List Nat
 |[]=>[]
 |a::l=>f a++go f l
def JA:Nat->AV->Bool
 |0,_=>true
 |n+1,a=>match a with
  |.ep _ _ _=>true
  |.agg _ fs=>JL (JA n) fs
  |.clo _ fs=>JL (JA n) fs
  |.tp _=>true
  |.ds _ _ _=>true
  |.dq _ _ _=>true
  |.tv _ _=>true
  |.tq _ _ _=>true
  |.vw _ _ _ _=>true
  |_=>false
def QQ:List AV->List Nat
 |[]=>[]
 |a::l=>J3 6 a++QQ l
def leads:Nat->AV->Bool
 |0,_=>true
 |n+1,a=>match a with
  |.t τ _=>slT τ
  |.fr _ τ _=>slT τ
  |.tup vs=>JL (leads n) vs
  |.nil=>false
  |_=>true
def XI (id:Nat):List AV->List AV×List (Nat×Row)
 |[]=>([],[])
 |a::l=>match a with
  |.fr e τ xs=>(.own id::l,[(id,.flat e τ xs false true)])
  |a=>(a::(XI id l).1,(XI id l).2)
def Y0 (id:Nat)(a:AV)(K:AV->List (Nat×Row)->Option R):Option R:=
 match a with
 |.fr e τ xs=>K (.own id) [(id,.flat e τ xs false true)]
 |.agg τ fs=>K (.agg τ (XI id fs).1) (XI id fs).2
 |a=>K a []
def Jp (id:Nat)(a:AV)(K:AV->List (Nat×Row)->Option R):Option R:=
 match a with
 |.tup []=>K (.tup []) []
 |.tup [a,b]=>Y0 id a λa l=>Y0 (id+1) b λb m=>K (.tup [a,b]) (l++m)
 |.tup [a,b,c]=>Y0 id a λa l=>Y0 (id+1) b λb m=>Y0 (id+2) c λc n=>K (.tup [a,b,c]) (l++(m++n))
 |.tup _=>none
 |a=>Y0 id a K
def Q4v (C:Orc)(cal:Cal)(args:List AV)(dr:Bool)(id:Nat)(row:Nat->Option Row)(K:Upd->Option R):Option R:=
 match Yt (Q2 row 6) args with
 |none=>none
 |some as=>C cal as λr=>
  match leads 4 r with
  |false=>Jp id r λa l=>K (makes a l)
  |true=>match QQ args,JL (JA 6) args with
   |[],false=>Jp id r λa l=>K (makes a l)
   |ids,false=>match dr with
    |false=>Jp id r λa l=>K ⟨a,l,ids,none,none⟩
    |true=>none
   |_,true=>none
def Q1C (row:Nat->Option Row):AV->Option (Nat×AV)
 |.own i=>match row i with
  |some (.flat e τ xs false true)=>some (i,.fr e τ xs)
  |_=>none
 |.ep i none []=>match row i with
  |some (.box σ (.t σ' x))=>match decEq σ' σ with
   |.isTrue _=>some (i,.bx σ' x)
   |.isFalse _=>none
  |_=>none
 |_=>none
def rowOf:AV->Option Row
 |.fr e τ xs=>some (.flat e τ xs false true)
 |.bx τ x=>some (.box τ (.t τ x))
 |_=>none
def slR:Row->Bool
 |.flat _ τ _ _ _=>slT τ
 |.box τ _=>slT τ
def Gv:AV->AV->Bool
 |.fr e τ _,.fr e' τ' _=>match decEq τ τ' with
  |.isTrue _=>Nat.beq e e'
  |.isFalse _=>false
 |.bx τ _,.bx τ' _=>match decEq τ τ' with
  |.isTrue _=>true
  |.isFalse _=>false
 |_,_=>false
def plE (row:Nat->Option Row)(i n:Nat):AV->Bool
 |.ep j none _=>match Nat.beq j i,row j with
  |false,some (.box _ (.t _ _))=>true
  |_,_=>false
 |.tp _=>true
 |a=> !JA n a&& !(J3 n a).contains i
def plL (row:Nat->Option Row)(i n:Nat):List AV->Bool
 |[]=>true
 |a::l=>plE row i n a&&plL row i n l
def plA (row:Nat->Option Row)(i:Nat):AV->Bool
 |.clo _ cs=>plL row i 5 cs
 |a=>plE row i 6 a
def Ur (row:Nat->Option Row)(i:Nat):List AV->Bool
 |[]=>true
 |a::l=>plA row i a&&Ur row i l
def Q6a (C:Orc)(g:Nat)(args:List AV)(dr:Bool)(id:Nat)(row:Nat->Option Row)(K:Upd->Option R):Option R:=
 match dr,args with
 |false,a0::rest=>match Q1C row a0,Yt (Q2 row 6) rest with
  |some (i,x0),some cl=>match(!JL (JA 6) rest||Ur row i rest)&& !(QQ rest).contains i with
   |true=>C (.f g) (x0::cl) λr=>match r with
    |.kep o r'=>match Gv o x0,rowOf o with
     |true,some ro=>match leads 4 r'||slR ro with
      |false=>Jp id r' λa l=>K ⟨a,l,[],none,some (i,ro)⟩
      |true=>match JL (JA 6) rest with
       |false=>Jp id r' λa l=>K ⟨a,l,QQ rest,none,some (i,ro)⟩
       |true=>none
     |_,_=>none
    |.mov e τ ys=>match Gv (.fr e τ ys) x0 with
     |true=>match Nat.beq i Q7 with
      |true=>none
      |false=>match slT τ with
       |false=>K ⟨.own i,[],[],some (i,.flat e τ ys false true),none⟩
       |true=>match JL (JA 6) rest with
        |false=>K ⟨.own i,[],QQ rest,some (i,.flat e τ ys false true),none⟩
        |true=>none
     |false=>none
    |.pc false τ y=>match x0,Nat.beq i Q7||slT τ with
     |.fr e σ _,false=>K ⟨.t τ y,[],[],some (i,.flat e σ [] false true),none⟩
     |_,_=>none
    |_=>none
   |false=>none
  |_,_=>none
 |_,_=>none
def Q6b (C:Orc)(g:Nat)(args:List AV)(id:Nat)(row:Nat->Option Row)(K:Upd->Option R):Option R:=
 match Yt (Q2 row 6) args with
 |none=>none
 |some as=>C (.f g) (.pc false .bool true::as) λr=>match r with
  |.pc true τ x=>cond (slT τ) (K (makes (.ds id τ x) [(id,.box τ (.t .bool true))])) none
  |.t τ x=>cond (slT τ) (K (makes (.t τ x) [])) none
  |_=>none
def Q6c (C:Orc)(g:Nat)(args:List AV)(dr:Bool)(row:Nat->Option Row)(K:Upd->Option R):Option R:=
 match dr,args with
 |false,[.ds id τ x,.t (.int .i64) k]=>match row id with
  |some (.box σ (.t .bool _))=>C (.f g) [.pc true τ x,.t (.int .i64) k] λr=>match r with
   |.t (.int .i64) m=>K ⟨.t (.int .i64) m,[],[],none,some (id,.box σ (.t .bool false))⟩
   |_=>none
  |_=>none
 |_,_=>none
def Jb (id:Nat)(a:AV)(K:AV->List (Nat×Row)->Option R):Option R:=match a with
 |.fr e τ xs=>cond (slT τ) none (K (.own id) [(id,.flat e τ xs false true)])
 |.tr τ x=>cond (slT τ) (K (.tv id τ) [(id,QP 0 false τ x)]) none
 |.t τ x=>cond (slT τ) none (K (.t τ x) [])
 |.nil=>K .nil []
 |_=>none
def JQ (id:Nat)(a:AV)(K:AV->List (Nat×Row)->Option R):Option R:=match a with
 |.tup [a,b]=>Jb id a λa l=>Jb (id+1) b λb m=>K (.tup [a,b]) (l++m)
 |.tup [a,b,c]=>Jb id a λa l=>Jb (id+1) b λb m=>Jb (id+2) c λc n=>K (.tup [a,b,c]) (l++(m++n))
 |.tup _=>none
 |a=>Jb id a K
def Q6d (C:Orc)(g:Nat)(args:List AV)(id:Nat)(row:Nat->Option Row)(K:Upd->Option R):Option R:=
 match Yt (Q2 row 6) args with
 |none=>none
 |some as=>C (.f g) (.pc false .bool false::as) λr=>JQ id r λa l=>K (makes a l)
def Q0K (i:Nat):Nat->AV->Bool
 |0,_=>false
 |n+1,a=>match a with
  |.t _ _=>true
  |.nil=>true
  |.own j=> !Nat.beq j i
  |.tv j _=> !Nat.beq j i
  |.vw j _ _ _=> !Nat.beq j i
  |.agg _ fs=>Q0B.allL (Q0K i n) fs
  |_=>false
def Q6e (C:Orc)(g:Nat)(args:List AV)(dr:Bool)(row:Nat->Option Row)(K:Upd->Option R):Option R:=
 match dr,args with
 |false,.tv j τ::rest=>match row j,Yt (Q2 row 6) rest with
  |some (.box _ (.tup [_,_,.t σ x])),some as=>match decEq σ τ,Q0B.allL (Q0K j 6) rest&& !Nat.beq j Q7 with
   |.isTrue _,true=>C (.f g) (.pc false σ x::as) λr=>match r with
    |.tr ρ y=>match decEq ρ τ with
     |.isTrue _=>K ⟨.tv j ρ,[],[],some (j,QP 0 false ρ y),none⟩
     |.isFalse _=>none
    |_=>none
   |_,_=>none
  |_,_=>none
 |_,_=>none
def Q6f (C:Orc)(g:Nat)(args:List AV)(dr:Bool)(row:Nat->Option Row)(K:Upd->Option R):Option R:=
 match dr,args with
 |false,[.tv j τ,.t (.int .i64) k]=>match row j with
  |some (.box _ (.tup [_,_,.t σ x]))=>match decEq σ τ with
   |.isTrue _=>C (.f g) [.pc false σ x,.t (.int .i64) k] λr=>match r with
    |.kep (.t ρ y) (.t (.int .i64) m)=>match decEq ρ σ with
     |.isTrue _=>K ⟨.t (.int .i64) m,[],[],none,some (j,QP 0 false ρ y)⟩
     |.isFalse _=>none
    |_=>none
   |.isFalse _=>none
  |_=>none
 |false,[.vw j q p τ,.t (.int .i64) k]=>match row j with
  |some (.box _ (.tup [_,_,.t σ x]))=>match viewAt σ x q p with
   |some (.t ρ z)=>match decEq ρ (.sl τ)with
    |.isTrue _=>C (.f g) [.pc false ρ z,.t (.int .i64) k] λr=>match r with
     |.kep (.t ρ' y) (.t (.int .i64) m)=>match decEq ρ' ρ,setAt σ x q p (.t ρ' y)with
      |.isTrue _,some x'=>K ⟨.t (.int .i64) m,[],[],none,some (j,QP 0 false σ x')⟩
      |_,_=>none
     |_=>none
    |.isFalse _=>none
   |_=>none
  |_=>none
 |_,_=>none
def room (n:Nat)(τ:Ty):Bool:=Nat.ble (n*nb τ) 140737488355328
def Q8H (E:Env)(sT:Nat)(a b:AV)(id:Nat)(row:Nat->Option Row)(K:Upd->Option R):Option R:=
 match E.ty sT with
 |some (.sl τ)=>match E.on&&slT τ,listOf row τ b with
  |true,_=>none
  |false,some ys=>match a with
   |.nil=>cond (room ys.length τ) (K (makes (.own id) [(id,.flat (E.el sT) τ ys false true)])) none
   |.own j=>match row j with
    |some (.flat e σ xs false true)=>match decEq σ τ with
     |.isTrue h=>match Nat.beq e (E.el sT)&& !Nat.beq j Q7 with
      |true=>cond (room (xs.length+ys.length) τ) (K ⟨.own j,[],[],some (j,.flat e τ ((h▸xs)++ys) false true),none⟩) none
      |false=>none
     |.isFalse _=>none
    |_=>none
   |_=>none
  |false,none=>none
 |_=>none
def Gw (E:Env)(b:Builtin)(argTypes:Array Nat)(args:List AV)(id:Nat)(row:Nat->Option Row)(K:Upd->Option R):Option R:=
 match b,args with
 |.len,[a]=>match argTypes.toList with
  |[T]=>match Q3y row (E.ty T) a with
   |some n=>K (quiet (.t (.int .i64) n))
   |none=>none
  |_=>none
 |.append,[a,x]=>match argTypes.toList with
  |[T,T']=>match Nat.beq T T' with
   |true=>Q8H E T a x id row K
   |false=>none
  |_=>none
 |.min,[.t (.int .i64) x,.t (.int .i64) y]=>K (quiet (.t (.int .i64) (if y<x then y else x)))
 |.max,[.t (.int .i64) x,.t (.int .i64) y]=>K (quiet (.t (.int .i64) (if y > x then y else x)))
 |.min,[.t (.int .i64) x,.t (.int .i64) y,.t (.int .i64) z]=>K (quiet (.t (.int .i64) (if z<(if y<x then y else x)then z else(if y<x then y else x))))
 |.clear,[.ep j (some i) p]=>match Gs p,row j with
  |true,some (.flat e τ xs false app)=>match argTypes.toList,agT τ with
   |[T],false=>match E.ty T with
    |some (.sl σ)=>match decEq σ τ with
     |.isTrue _=>K ⟨QV,[],[],none,some (j,.flat e τ (xs.take i++List.replicate (xs.length-i) (Q9 τ)) false app)⟩
     |.isFalse _=>none
    |_=>none
   |_,_=>none
  |_,_=>none
 |_,_=>none
def evO (ev:Operand->AV):Option Operand->Option (Option Int)
 |none=>some none
 |some x=>match ev x with
  |.t (.int .i64) n=>some (some n)
  |_=>none
def Jk (ev:Operand->AV)(l:List Ty):List (Nat×Operand)->List AV->Option (List AV)
 |[],fs=>some fs
 |p::ps,fs=>match l[p.1]? with
  |some σ=>match fit σ (ev p.2)with
   |true=>Jk ev l ps (fs.set p.1 (ev p.2))
   |false=>none
  |none=>none
def Je (row:Nat->Option Row)(τ:Ty):List AV->Option (List (den τ))
 |[]=>some []
 |a::l=>match Q2 row 6 a with
  |some b=>match asT τ b with
   |some x=>match Je row τ l with
    |some xs=>some (x::xs)
    |none=>none
   |none=>none
  |none=>none
def Qx (f:Operand->AV):List Operand->List AV
 |[]=>[]
 |a::l=>f a::Qx f l
def asI (σ:Ty)(b:AV):Option (den σ):=match b with
 |.agg τ fs=>match QA τ fs with
  |some c=>asT σ c
  |none=>none
 |b=>asT σ b
def asC (on:Bool)(p:List Nat)(σ:Ty)(b:AV):Option (den σ):=match on&&slT σ with
 |false=>asI σ b
 |true=>match p,b with
  |[],.pc true τ y=>match decEq τ σ with
   |.isTrue h=>some (h▸y)
   |.isFalse _=>none
  |_,_=>none
def Q6g:AV->Bool
 |.any=>true
 |_=>false
def Q3z (g:Nat):Operand->Bool
 |.func h=>Nat.beq h g
 |_=>false
def Q2s:List AV->Bool
 |[]=>true
 |_::rest=>match QQ rest with
  |[]=>true
  |_=>false
def drM (dr:Bool)(f:Operand)(g:Nat)(args:List AV):Bool:=dr&& !(Q3z g f&&Q2s args)
def stT (τ:Ty)(f:Nat):Bool:=match τ with
 |.arr _ _=>false
 |τ=>Nat.blt f (fty τ).length
def Q3A (E:Env)(C:Orc)(dr:Bool)(o:Oper)(id:Nat)(ev:Operand->AV)(row:Nat->Option Row)(K:Upd->Option R):Option R:=
 match o.op with
 |.move x|.assign x=>K (quiet (ev x))
 |.pick c a b=>match ev c with
  |.t .bool v=>cond v (K (quiet (ev a))) (K (quiet (ev b)))
  |_=>none
 |.alloc T=>match E.ty T with
  |some τ=>K (makes (.ep id none []) [(id,.box τ (Q2q τ))])
  |none=>none
 |.box T x=>match E.ty T with
  |some τ=>match fit τ (ev x)with
   |true=>K (makes (.ep id none []) [(id,.box τ (ev x))])
   |false=>none
  |none=>none
 |.build T ps=>match E.ty T with
  |some τ=>match agT τ with
   |true=>match Jk ev (fty τ) ps.toList (XH τ)with
    |some fs=>K (quiet (Q1A τ fs))
    |none=>none
   |false=>none
  |none=>none
 |.buildSlice T n ps=>match E.ty T with
  |some (.sl τ)=>match Nat.ble (n*nc τ) 16777216&& !(E.on&&slT τ),Jk ev (List.replicate n τ) ps.toList (List.replicate n (.t τ (Q9 τ)))with
   |true,some fs=>match Je row τ fs with
    |some xs=>match QQ fs,JL (JA 6) fs with
     |[],false=>K (makes (.own id) [(id,.flat (E.el T) τ xs false true)])
     |ids,false=>match dr with
      |false=>K ⟨.own id,[(id,.flat (E.el T) τ xs false true)],ids,none,none⟩
      |true=>none
     |_,true=>none
    |none=>none
   |_,_=>none
  |_=>none
 |.load T x=>match E.ty T,ev x with
  |some τ,.tp (.t σ y)=>match decEq σ τ with
   |.isTrue _=>K (quiet (.t σ y))
   |.isFalse _=>none
  |some τ,.ep j none p=>match row j with
   |some (.box σ a)=>match tyP σ p with
    |some ρ=>match decEq ρ τ with
     |.isTrue _=>match YT a p with
      |some b=>K (quiet b)
      |none=>none
     |.isFalse _=>none
    |none=>none
   |_=>none
  |some τ,.ep j (some i) p=>match row j with
   |some (.flat _ σ xs _ _)=>match tyP σ p with
    |some ρ=>match decEq ρ τ with
     |.isTrue _=>match YT (.t σ (xs.getD i (Q9 σ))) p with
      |some b=>K (quiet b)
      |none=>none
     |.isFalse _=>none
    |none=>none
   |_=>none
  |_,_=>none
 |.store T x v=>match E.ty T,ev x with
  |some τ,.ep j none p=>match row j with
   |some (.box σ a)=>match tyP σ p with
    |some ρ=>match decEq ρ τ,fit τ (ev v)with
     |.isTrue _,true=>match XG a p (ev v)with
      |some b=>K ⟨QV,[],[],none,some (j,.box σ b)⟩
      |none=>none
     |_,_=>none
    |none=>none
   |_=>none
  |some τ,.ep j (some i) p=>match row j with
   |some (.flat e σ xs false app)=>match tyP σ p with
    |some ρ=>match decEq ρ τ,fit τ (ev v)with
     |.isTrue _,true=>match XG (.t σ (xs.getD i (Q9 σ))) p (ev v)with
      |some b=>match asC E.on p σ b with
       |some y=>K ⟨QV,[],[],none,some (j,.flat e σ (xs.set i y) false app)⟩
       |none=>none
      |none=>none
     |_,_=>none
    |none=>none
   |_=>none
  |_,_=>none
 |.nilCheck x=>match ev x with
  |.ep j i p=>match Gs p with
   |false=>K (quiet (.ep j i p))
   |true=>none
  |.tp a=>K (quiet (.tp a))
  |.clo f c=>K (quiet (.clo f c))
  |_=>none
 |.binOp op T x y _=>Q3x op (E.ty T) (ev x) (ev y) λa=>K (quiet a)
 |.unOp op _ x=>unA op (ev x) λa=>K (quiet a)
 |.convert S T x=>match E.ty S,E.ty T,ev x with
  |some (.int _),some (.int k),.t (.int _) n=>K (quiet (.t (.int k) (k.wrap n)))
  |some .str,some .str,.t .str s=>K (quiet (.t .str s))
  |some .str,some (.sl (.int .u8)),.t .str s=>cond (Nat.ble s.size 9223372036854775807) (K (makes (.own id) [(id,.flat (E.el T) (.int .u8) (Q6 s) false false)])) none
  |some (.sl (.int .u8)),some .str,a=>match listOf row (.int .u8) a with
   |some xs=>K (quiet (.t .str (YU xs)))
   |none=>none
  |some (.int _),some .str,.t (.int _) n=>K (quiet (.t .str (Utf8.encode n)))
  |_,_,_=>none
 |.makeFunc (.func f) first caps=>match first.toList with
  |[]=>match JL Q6g (Qx ev caps.toList)with
   |false=>K (quiet (.clo f (Qx ev caps.toList)))
   |true=>none
  |_=>none
 |.makeSlice T l c=>match E.ty T,ev l,ev c with
  |some (.sl τ),.t (.int .i64) n,.t (.int .i64) m=>cond (n==m) (cond (decide (0<=n)) (cond (Nat.ble (n.toNat*nb τ) 140737488355328)
    (K (makes (.own id) [(id,.flat (E.el T) τ (List.replicate n.toNat (Q9 τ)) false true)])) none) none) none
  |_,_,_=>none
 |.slice T x lo hi none=>match E.ty T,evO ev lo,evO ev hi,ev x with
  |some .str,some l,some h,.t .str s=>cut l h s.size λa b=>K (quiet (.t .str (s.extract a b)))
  |some (.sl σ),some l,some h,.t (.sl τ) xs=>match decEq σ τ with
   |.isTrue _=>cut l h xs.length λa b=>K (quiet (.t (.sl τ) (Jg l h xs a b)))
   |.isFalse _=>none
  |some (.sl σ),some l,some h,.own j=>match dr,row j with
   |false,some (.flat e τ xs fz app)=>match decEq σ τ with
    |.isTrue _=>match Q69 j l h fz (agT τ)with
     |0=>cut l h xs.length λa b=>K ⟨.t (.sl τ) (Jg l h xs a b),[],[j],none,none⟩
     |1=>cut l h xs.length λa _=>K (quiet (.ep j (some a) [Q2r]))
     |_=>cut l h xs.length λa b=>K ⟨.own j,[],[],some (j,.flat e τ (Jg l h xs a b) false app),none⟩
    |.isFalse _=>none
   |true,some (.flat _ τ xs true _)=>match decEq σ τ with
    |.isTrue _=>cut l h xs.length λa b=>K (quiet (.t (.sl τ) (Jg l h xs a b)))
    |.isFalse _=>none
   |_,_=>none
  |some (.arr m σ),some none,some none,.tp (.t (.arr n τ) xs)=>match decEq σ τ,Nat.beq m n with
   |.isTrue _,true=>cond (Nat.ble n 9223372036854775807) (K (quiet (.t (.sl τ) xs))) none
   |_,_=>none
  |_,_,_,_=>none
 |.fieldAddr T x f=>match E.ty T,ev x with
  |some τ,.tp (.t σ y)=>match decEq σ τ,QH (.t σ y) f with
   |.isTrue _,some b=>cond (stT τ f) (K (quiet (.tp b))) none
   |_,_=>none
  |some τ,.ep j i p=>match row j with
   |some (.box σ _)=>match tyP σ p with
    |some ρ=>match decEq ρ τ with
     |.isTrue _=>cond (stT τ f) (K (quiet (.ep j i (p++[f])))) none
     |.isFalse _=>none
    |none=>none
   |some (.flat _ σ _ _ _)=>match tyP σ p with
    |some ρ=>match decEq ρ τ with
     |.isTrue _=>cond (stT τ f) (K (quiet (.ep j i (p++[f])))) none
     |.isFalse _=>none
    |none=>none
   |none=>none
  |_,_=>none
 |.field T x f=>match E.ty T,ev x with
  |some τ,.t σ y=>match decEq σ τ,QH (.t σ y) f with
   |.isTrue _,some b=>cond (stT τ f) (K (quiet b)) none
   |_,_=>none
  |some τ,.agg σ fs=>match decEq σ τ,QH (.agg σ fs) f with
   |.isTrue _,some b=>match fit τ (.agg σ fs)with
    |true=>cond (stT τ f) (K (quiet b)) none
    |false=>none
   |_,_=>none
  |_,_=>none
 |.indexAddr T x ix=>match E.ty T,ev ix with
  |some (.sl τ),.t (.int .i64) i=>match ev x with
   |.t (.sl σ) xs=>match decEq σ τ with
    |.isTrue _=>idx i xs.length (K (quiet (.tp (.t σ (xs.getD i.toNat (Q9 σ))))))
    |.isFalse _=>none
   |.own j=>match row j with
    |some (.flat _ σ xs _ _)=>match decEq σ τ with
     |.isTrue _=>idx i xs.length (K (quiet (.ep j (some i.toNat) [])))
     |.isFalse _=>none
    |_=>none
   |_=>none
  |some (.arr n τ),.t (.int .i64) i=>match ev x with
   |.tp (.t (.arr m σ) xs)=>match decEq σ τ,Nat.beq m n with
    |.isTrue _,true=>cond (Nat.blt 1 n) (idx i n (K (quiet (.tp (.t σ (xs.getD i.toNat (Q9 σ))))))) none
    |_,_=>none
   |_=>none
  |_,_=>none
 |.index T x ix=>match E.ty T,ev x,ev ix with
  |some .str,.t .str s,.t (.int _) i=>idx i s.size (K (quiet (.t (.int .u8) (bt s i.toNat))))
  |some (.arr n .str),.t (.arr m .str) xs,.t (.int .i64) i=>cond (Nat.beq m n) (idx i n (K (quiet (.t .str (xs.getD i.toNat ⟨#[]⟩))))) none
  |_,_,_=>none
 |.extract x i=>match ev x with
  |.tup vs=>match vs[i]? with
   |some a=>K (quiet a)
   |none=>none
  |_=>none
 |.call c=>match c.callee with
  |.builtin b=>Gw E b c.argTypes (Qx ev c.args.toList) id row K
  |.value f=>match ev f with
   |.clo g caps=>match E.md g with
    |true=>Q6a C g (Qx ev c.args.toList++caps) (drM dr f g (Qx ev c.args.toList++caps)) id row K
    |false=>Q4v C (.f g) (Qx ev c.args.toList++caps) dr id row K
   |.par i=>Q4v C (.par i) (Qx ev c.args.toList) dr id row K
   |_=>none
  |_=>none
 |_=>none
def Q3B:AV->Bool
 |.ds _ _ _=>true
 |.dq _ _ _=>true
 |_=>false
def Q8I (ev:Operand->AV):List Operand->Bool
 |[]=>false
 |x::_=>Q3B (ev x)
def isD (E:Env)(ev:Operand->AV):Op->Bool
 |.load _ x=>Q3B (ev x)
 |.store _ x _=>Q3B (ev x)
 |.nilCheck x=>Q3B (ev x)
 |.fieldAddr _ x _=>Q3B (ev x)
 |.field _ x _=>Q3B (ev x)
 |.indexAddr _ x _=>Q3B (ev x)
 |.call c=>match c.callee with
  |.value f=>match ev f with
   |.clo g _=>E.pm g||(E.dm g&&Q8I ev c.args.toList)
   |_=>false
  |_=>false
 |_=>false
def dop (E:Env)(C:Orc)(dr:Bool)(o:Oper)(id:Nat)(ev:Operand->AV)(row:Nat->Option Row)(K:Upd->Option R):Option R:=
 match o.op with
 |.load T x=>match E.ty T,ev x with
  |some τ,.dq j (.sl e) y=>match decEq (.sl e) τ with
   |.isTrue _=>K (quiet (.ds j (.sl e) y))
   |_=>none
  |_,_=>none
 |.store T x v=>match E.ty T,ev x with
  |some τ,.dq j σ _=>match decEq σ τ,row j with
   |.isTrue _,some (.box ρ (.t .bool _))=>match agT τ||slT τ,ev v with
    |false,.t σ' _=>match decEq σ' τ with
     |.isTrue _=>K ⟨QV,[],[],none,some (j,.box ρ (.t .bool false))⟩
     |.isFalse _=>none
    |_,_=>none
   |_,_=>none
  |_,_=>none
 |.nilCheck x=>match ev x with
  |.dq j σ y=>K (quiet (.dq j σ y))
  |_=>none
 |.fieldAddr T x f=>match E.ty T,ev x with
  |some τ,.dq j σ y=>match decEq σ τ,QH (.t σ y) f with
   |.isTrue _,some (.t ρ z)=>cond (stT τ f) (K (quiet (.dq j ρ z))) none
   |_,_=>none
  |_,_=>none
 |.field T x f=>match E.ty T,ev x with
  |some τ,.ds j σ y=>match decEq σ τ,QH (.t σ y) f with
   |.isTrue _,some b=>cond (stT τ f) (K (quiet (dsF j b))) none
   |_,_=>none
  |_,_=>none
 |.indexAddr T x ix=>match E.ty T,ev x,ev ix with
  |some (.sl τ),.ds j (.sl σ) xs,.t (.int .i64) i=>match decEq σ τ with
   |.isTrue _=>idx i xs.length (K (quiet (.dq j σ (xs.getD i.toNat (Q9 σ)))))
   |.isFalse _=>none
  |_,_,_=>none
 |.call c=>match c.callee with
  |.value f=>match ev f with
   |.clo g caps=>match E.pm g with
    |false=>Q6c C g (Qx ev c.args.toList++caps) dr row K
    |true=>Q6b C g (Qx ev c.args.toList++caps) id row K
   |_=>none
  |_=>none
 |_=>none
def Q3C:AV->Bool
 |.tv _ _=>true
 |.tq _ _ _=>true
 |.vw _ _ _ _=>true
 |_=>false
def firstT (ev:Operand->AV):List Operand->Bool
 |[]=>false
 |x::_=>Q3C (ev x)
def isT (E:Env)(ev:Operand->AV):Op->Bool
 |.load _ x=>Q3C (ev x)
 |.store _ x _=>Q3C (ev x)
 |.nilCheck x=>Q3C (ev x)
 |.fieldAddr _ x _=>Q3C (ev x)
 |.field _ x _=>Q3C (ev x)
 |.indexAddr _ x _=>Q3C (ev x)
 |.buildSlice T _ ps=>E.tr&&(ps.toList.isEmpty&&match E.ty T with
  |some (.sl τ)=>slT τ
  |_=>false)
 |.call c=>match c.callee with
  |.builtin .len=>firstT ev c.args.toList
  |.value f=>match ev f with
   |.clo g _=>E.tm g||((E.vm g||E.dm g)&&firstT ev c.args.toList)
   |_=>false
  |_=>false
 |_=>false
def vw1 (id:Nat)(q:Option Nat)(p:List Nat)(τ:Ty)(y:den τ):AV:=match slT τ with
 |false=>.t τ y
 |true=>match τ with
  |.sl e=>.vw id q p e
  |_=>.any
def Q3D (row:Nat->Option Row)(E:Env):List Nat->List AV->Option Int
 |[T],[.tv j τ]=>match E.ty T,row j with
  |some (.sl ρ),some (.box _ (.tup [_,_,.t (.sl σ) xs]))=>match decEq (.sl σ) τ,decEq ρ σ with
   |.isTrue _,.isTrue _=>some (xs.length:Int)
   |_,_=>none
  |_,_=>none
 |[T],[.vw j q p τ]=>match E.ty T,row j with
  |some (.sl ρ),some (.box _ (.tup [_,_,.t σ x]))=>match viewAt σ x q p with
   |some (.t (.sl θ) xs)=>match decEq θ τ,decEq ρ τ with
    |.isTrue _,.isTrue _=>some (xs.length:Int)
    |_,_=>none
   |_=>none
  |_,_=>none
 |_,_=>none
def top (E:Env)(C:Orc)(dr:Bool)(o:Oper)(id:Nat)(ev:Operand->AV)(row:Nat->Option Row)(K:Upd->Option R):Option R:=
 match o.op with
 |.load T x=>match E.ty T,ev x with
  |some τ,.tq j i p=>match row j with
   |some (.box _ (.tup [_,_,.t σ x']))=>match viewAt σ x' (some i) p with
    |some (.t ρ y)=>match decEq ρ τ with
     |.isTrue _=>K (quiet (Q5a j (some i) p ρ y))
     |.isFalse _=>none
    |_=>none
   |_=>none
  |_,_=>none
 |.store T x v=>match E.ty T,ev x,ev v with
  |some τ,.tq j i p,.t σ' z=>match row j with
   |some (.box _ (.tup [_,_,.t σ x']))=>match decEq σ' τ,agT τ||slT τ,viewAt σ x' (some i) p with
    |.isTrue _,false,some (.t ρ _)=>match decEq ρ τ,setAt σ x' (some i) p (.t σ' z)with
     |.isTrue _,some y=>K ⟨QV,[],[],none,some (j,QP 0 false σ y)⟩
     |_,_=>none
    |_,_,_=>none
   |_=>none
  |_,_,_=>none
 |.nilCheck x=>match ev x with
  |.tq j i p=>K (quiet (.tq j i p))
  |_=>none
 |.fieldAddr T x f=>match E.ty T,ev x with
  |some τ,.tq j i p=>match row j with
   |some (.box (.sl σ) _)=>match tyP σ p with
    |some ρ=>match decEq ρ τ with
     |.isTrue _=>cond (stT τ f) (K (quiet (.tq j i (p++[f])))) none
     |.isFalse _=>none
    |none=>none
   |_=>none
  |_,_=>none
 |.field T x f=>match E.ty T,ev x with
  |some τ,.tv j τ'=>match row j with
   |some (.box _ (.tup [_,_,.t σ y]))=>match decEq σ τ,decEq τ' τ,QH (.t σ y) f with
    |.isTrue _,.isTrue _,some (.t ρ z)=>cond (stT τ f) (K (quiet (vw1 j none [f] ρ z))) none
    |_,_,_=>none
   |_=>none
  |_,_=>none
 |.indexAddr T x ix=>match E.ty T,ev x,ev ix with
  |some (.sl τ),.tv j τ',.t (.int .i64) i=>match row j with
   |some (.box _ (.tup [_,_,.t (.sl σ) xs]))=>match decEq σ τ,decEq τ' (.sl σ)with
    |.isTrue _,.isTrue _=>idx i xs.length (K (quiet (.tq j i.toNat [])))
    |_,_=>none
   |_=>none
  |_,_,_=>none
 |.buildSlice T n ps=>match E.ty T with
  |some (.sl τ)=>cond (Nat.beq n 0&&(slT τ&&ps.toList.isEmpty)) (K (makes (.tv id (.sl τ)) [(id,QP (E.el T) true (.sl τ) [])])) none
  |_=>none
 |.call c=>match c.callee with
  |.builtin .len=>match Q3D row E c.argTypes.toList (Qx ev c.args.toList)with
   |some n=>K (quiet (.t (.int .i64) n))
   |none=>none
  |.value f=>match ev f with
   |.clo g caps=>match E.vm g&&firstT ev c.args.toList with
    |true=>Q6e C g (Qx ev c.args.toList++caps) (dr&& !(Q3z g f&&E.md g)) row K
    |false=>match E.tm g with
     |true=>Q6d C g (Qx ev c.args.toList++caps) id row K
     |false=>Q6f C g (Qx ev c.args.toList++caps) dr row K
   |_=>none
  |_=>none
 |_=>none
def aop (E:Env)(C:Orc)(dr:Bool)(o:Oper)(id:Nat)(ev:Operand->AV)(row:Nat->Option Row)(K:Upd->Option R):Option R:=
 match isT E ev o.op with
 |true=>top E C dr o id ev row K
 |false=>match isD E ev o.op with
  |false=>Q3A E C dr o id ev row K
  |true=>dop E C dr o id ev row K
def Qy:List Nat->Bool
 |[]=>true
 |a::l=> !l.contains a&&Qy l
def QW:Nat->AV->List Nat
 |0,_=>[]
 |n+1,a=>match a with
  |.own id=>[id]
  |.tv id _=>[id]
  |.vw id _ _ _=>[id]
  |.agg _ fs=>J3.go (QW n) fs
  |_=>[]
def Y5 (l:List AV):List Nat:=J3.go (QW 6) l
def Yd (row:Nat->Option Row):Nat->AV->Bool
 |0,_=>false
 |n+1,a=>match a with
  |.t τ _=> !slT τ
  |.nil=>true
  |.own id=>match row id with
   |some (.flat _ τ _ false _)=> !slT τ
   |_=>false
  |.tv id _=>(row id).isSome
  |.vw id _ _ _=>(row id).isSome
  |.agg τ fs=>(match τ with
   |.name=>true
   |.entry=>true
   |.lib=>true
   |.query=>true
   |_=>false)&&Q0B.allL (Yd row n) fs
  |_=>false
def St.killL (st:St):List Nat->St
 |[]=>st
 |id::l=>(st.kill id (id+1)).killL l
def Q9s (E:Env)(ev:Operand->AV):Op->Bool
 |.buildSlice T _ ps=>E.tr&&(!ps.toList.isEmpty&&match E.ty T with
  |some (.sl τ)=>slT τ
  |_=>false)
 |.indexAddr _ x _=>E.tr&&match ev x with
  |.vw _ _ _ _=>true
  |_=>false
 |.call c=>match c.callee with
  |.builtin .append=>E.tr&&firstT ev c.args.toList
  |_=>false
 |_=>false
def mop (E:Env)(o:Oper)(id:Nat)(st:St)(K:St->Option R):Option R:=
 match o.op with
 |.buildSlice T n ps=>match E.ty T with
  |some (.sl τ)=>match Nat.ble (n*nc τ) 16777216,Jk (ev E st) (List.replicate n τ) ps.toList (List.replicate n (.t τ (Q9 τ)))with
   |true,some fs=>match Je st.row τ fs,Q0B.allL (Yd st.row 6) fs&&(slT τ&&(Qy (Y5 fs)&& !(Y5 fs).contains Q7))with
    |some xs,true=>K (((st.killL (Y5 fs)).setRow id (QP (E.el T) true (.sl τ) xs)).putO o.dst (.tv id (.sl τ)))
    |_,_=>none
   |_,_=>none
  |_=>none
 |.indexAddr T x ix=>match E.ty T,ev E st x,ev E st ix with
  |some (.sl τ),.vw j q p τ',.t (.int .i64) i=>match st.row j with
   |some (.box _ (.tup [_,_,.t σ x']))=>match viewAt σ x' q p with
    |some (.t (.sl θ) xs)=>match decEq θ τ,decEq τ' τ,Nat.beq j Q7 with
     |.isTrue _,.isTrue _,false=>idx i xs.length (K (((st.kill j (j+1)).setRow id (QP 0 false (.sl θ) xs)).putO o.dst (.tq id i.toNat [])))
     |_,_,_=>none
    |_=>none
   |_=>none
  |_,_,_=>none
 |.call {callee:=.builtin .append,args:=as,argTypes:=ats}=>match ats.toList,Qx (ev E st) as.toList with
  |[T,T'],[.tv j τ1,.tv k τ2]=>match Nat.beq T T',E.ty T,st.row j,st.row k with
   |true,some (.sl τ),some (.box _ (.tup [.t (.int .i64) e,.t .bool true,.t (.sl σ) xs])),some (.box _ (.tup [_,_,.t (.sl θ) ys]))=>
    match decEq σ τ,decEq θ τ,decEq τ1 (.sl τ),decEq τ2 (.sl τ)with
    |.isTrue h,.isTrue h',.isTrue _,.isTrue _=>match(e==(E.el T:Int))&&(!Nat.beq j k&&(!Nat.beq j Q7&& !Nat.beq k Q7))with
     |true=>cond (room (xs.length+ys.length) τ) (K ((((st.kill k (k+1)).kill j (j+1)).setRow j (QP (E.el T) true (.sl τ) ((h▸xs)++(h'▸ys)))).putO o.dst (.tv j (.sl τ)))) none
     |false=>none
    |_,_,_,_=>none
   |_,_,_,_=>none
  |_,_=>none
 |_=>none
def Env.soft (E:Env)(b:Bool)(pt pr:List Nat):Env:={E with so:=b,pt:=pt,pr:=pr}
def Q8J:Row->Bool
 |.box .cur _=>true
 |_=>false
def Q7U:List Nat->Nat->Nat
 |[],_=>0
 |a::l,n=>match Nat.beq a n with
  |true=>1
  |false=>match Q7U l n with
   |0=>0
   |k+1=>k+2
def YZ (E:Env)(id:Nat):Nat:=Q7U E.pr id
def QR (E:Env)(o:Oper):Nat:=match o.op with
 |.store _ (.tmp t) _=>Q7U E.pt t
 |_=>0
def hidR (E:Env)(id:Nat)(r:Row):Bool:=Q8J r|| !Nat.beq (YZ E id) 0
def Ym (E:Env)(row:Nat->Option Row):Nat->Option Row:=λid=>match row id with
 |some r=>match hidR E id r with
  |true=>none
  |false=>some r
 |none=>none
def UR (E:Env)(c:Nat)(row:Nat->Option Row):Nat->Option Row:=λid=>match row id with
 |some r=>match hidR E id r&& !Nat.beq (YZ E id) c with
  |true=>none
  |false=>some r
 |none=>none
def US (E:Env)(o:Oper):Bool:=match o.op with
 |.call {callee:=.value (.func g),.. }=>E.md g
 |.store _ (.tmp t) _=> !Nat.beq (Q7U E.pt t) 0
 |_=>false
def DO (E:Env)(o:Oper)(row:Nat->Option Row)(u:Upd):Bool:=match u.news,u.frz,u.app,u.sto with
 |[],[],none,some (i,r')=>match row i with
  |some r=>Nat.beq (YZ E i) (QR E o)&&(hidR E i r&&hidR E i r')
  |_=>false
 |_,_,_,_=>false
def DR (E:Env):List (Nat×Row)->Bool
 |[]=>true
 |p::l=> !hidR E p.1 p.2&&DR E l
def Q3E:Op->Bool
 |.buildSlice _ _ _=>true
 |_=>false
def Gy (u:Upd):Option Upd:=match u.v,u.news,u.frz,u.app,u.sto with
 |.own _,[(_,.flat _ τ xs false true)],[],none,none=>some (quiet (.t (.sl τ) xs))
 |_,_,_,_,_=>none
def sop (E:Env)(C:Orc)(o:Oper)(id:Nat)(ev:Operand->AV)(row:Nat->Option Row)(K:Upd->Option R):Option R:=
 match US E o with
 |true=>Q3A E C false o id ev (UR E (QR E o) row) λu=>cond (DO E o row u) (K u) none
 |false=>match isT E ev o.op with
  |true=>top E C true o id ev (Ym E row) λu=>cond (DR E u.news) (K u) none
  |false=>match Q3E o.op with
   |true=>Q3A E C true o id ev (Ym E row) λu=>match Gy u with
    |some u'=>K u'
    |none=>none
   |false=>Q3A E C true o id ev (Ym E row) λu=>cond (DR E u.news) (K u) none
def Q8K (E:Env)(C:Orc)(dr:Bool)(o:Oper)(id:Nat)(ev:Operand->AV)(row:Nat->Option Row)(K:Upd->Option R):Option R:=
 match E.so with
 |false=>aop E C dr o id ev row K
 |true=>sop E C o id ev row K
def Q1D (ops:Array Oper)(o:Oper)(st:St)(yes no:St->Option R):Option R:=
 match o.guard with
 |none=>yes st
 |some (j,want)=>match ops[j]? with
  |some g=>match g.dst with
   |some d=>match st.slot d with
    |.t .bool b=>match want with
     |true=>cond b (yes (st.put d (.t .bool true))) (no (st.put d (.t .bool false)))
     |false=>cond b (no (st.put d (.t .bool true))) (yes (st.put d (.t .bool false)))
    |.tup []=>no st
    |_=>none
   |none=>no st
  |none=>no st
def J9 (o:Oper)(n:Nat):Bool:=match o.dst with
 |some d=>Nat.blt d n
 |none=>true
def frT:AV->AV
 |.fr _ τ xs=>.t (.sl τ) xs
 |a=>a
def Q2t:List AV->Bool
 |[]=>false
 |a::l=>(match a with
  |.fr _ τ _=>slT τ
  |_=>false)||Q2t l
def clF (τ:Ty)(fs:List AV):AV:=match QA τ (fs.map frT)with
 |some a=>a
 |none=>.agg τ fs
def cl1 (m:Nat):AV->AV
 |.fr e τ xs=>match m with
  |0=>.fr e τ xs
  |1=>cond (slT τ) (.t (.sl τ) xs) (.fr e τ xs)
  |_=>.t (.sl τ) xs
 |.agg τ fs=>match m with
  |0=>.agg τ fs
  |1=>cond (Q2t fs) (clF τ fs) (.agg τ fs)
  |_=>clF τ fs
 |a=>a
def clT (m:Nat):AV->AV
 |.tup l=>.tup (l.map (cl1 m))
 |.fr e τ xs=>cl1 m (.fr e τ xs)
 |.agg τ fs=>cl1 m (.agg τ fs)
 |a=>a
def m3:Nat->Nat
 |3=>0
 |m=>m
def clA (m:Nat):AV->AV
 |.kep o r=>.kep o (clT (m3 m) r)
 |.tup l=>clT (m3 m) (.tup l)
 |.fr e τ xs=>clT (m3 m) (.fr e τ xs)
 |.agg τ fs=>clT (m3 m) (.agg τ fs)
 |.pc c τ x=>cond (c&&(slT τ&&Nat.blt 0 m)) (.t τ x) (.pc c τ x)
 |a=>a
def clC (m:Nat)(C:Orc):Orc:=λcal args K=>C cal args λr=>K (clA m r)
def Q4w (d:Nat):Operand->Bool
 |.tmp t=>Nat.beq t d
 |_=>false
def handed (ops:Array Oper)(o:Oper):Bool:=match o.dst with
 |some d=>ops.toList.any λp=>match p.op with
  |.call {callee:=.value _,args:=as,.. }=>as.toList.any (Q4w d)
  |_=>false
 |none=>false
def Q9c (ops:Array Oper)(o:Oper):Bool:=match o.dst with
 |some d=>ops.toList.any λp=>match p.op with
  |.store _ (.tmp q) v=>Q4w d v&&ops.toList.any λr=>match r.op,r.dst with
   |.indexAddr _ _ _,some e=>Nat.beq e q
   |_,_=>false
  |_=>false
 |none=>false
def Q9t (ops:Array Oper)(o:Oper):Bool:=match o.dst with
 |some d=>ops.toList.any λp=>match p.op with
  |.store _ (.tmp q) v=>Q4w d v&&ops.toList.any λr=>match r.op,r.dst with
   |.fieldAddr _ _ _,some e=>Nat.beq e q
   |_,_=>false
  |_=>false
 |none=>false
def clM (E:Env)(dr:Bool)(ops:Array Oper)(o:Oper):Nat:=match dr,o.op with
 |true,.call _=>cond E.so 2 (cond (handed ops o) 1 0)
 |false,.call _=>cond (!E.on&&(!E.tr&&Q9t ops o)) 2 (cond (!E.on&&(handed ops o||Q9c ops o)) 3 0)
 |_,_=>0
def Gg (E:Env)(ops:Array Oper):Bool:=ops.toList.any (US E)
def Dc (E:Env)(C:Orc)(dr:Bool)(ops:Array Oper)(rid:Nat):List Oper->Nat->St->(St->Option R)->Option R
 |[],_,st,K=>K st
 |o::l,i,st,K=>match J9 o st.nt with
  |true=>Q1D ops o st (λst=>match Q9s E (ev E st) o.op with
   |true=>cond (dr||E.so) none (mop E o ((rid*256+i)*4) st λst=>Dc E C dr ops rid l (i+1) st K)
   |false=>Q8K E (clC (clM E dr ops o) C) dr o ((rid*256+i)*4) (ev E st) st.row λu=>Dc E C dr ops rid l (i+1) (st.apply o.dst u) K)
   (λst=>Dc E C dr ops rid l (i+1) (st.putO o.dst QV) K)
  |false=>none
def Q3F (o:Oper):Bool:=match o.op with
 |.store ..=>true
 |.call {callee:=.builtin .append,.. }=>true
 |.call {callee:=.builtin .clear,.. }=>true
 |_=>false
def QF (E:Env)(o:Oper):Bool:=E.so&&US E o
def mdL (E:Env)(o:Oper):Bool:=match o.op with
 |.call {callee:=.value (.func g),.. }=>E.md g
 |_=>false
def XR (E:Env)(o:Oper):Bool:=(Q3F o||mdL E o)&& !QF E o
def looks (ops:Array Oper)(o:Oper):List Nat:=o.looksAt ops
def inOrder (B:List Nat)(i j:Nat):Bool:=Nat.beq i j||(B.getD (max i j) 0).testBit (min i j)
def XS (E:Env)(ops:Array Oper):Bool:=
 let B:=(Region.before ops).toList
 let n:=ops.size
 (List.range n).all λi=>match ops[i]? with
  |none=>false
  |some o=>(match o.op with|.select ..=>false|_=>true)&&o.after.toList.all (λe=> !Region.binds .any e||Nat.blt e.on i)&&
   Nat.beq (B.getD i 0) (o.after.toList.foldl (λs e=>if Region.binds .any e then s|||2 ^ e.on|||B.getD e.on 0 else s) 0)&&
   (List.range n).all λj=>match ops[j]? with
    |none=>false
    |some p=>inOrder B i j||(!XR E o&&(match p.dst with
     |some d=> !(looks ops o).contains d&&o.dst != some d
     |none=>true))
def Q6h (E:Env)(ops:Array Oper):Bool:=
 let B:=(Region.before ops).toList
 let n:=ops.size
 (List.range n).all λi=>match ops[i]? with
  |none=>true
  |some o=> !US E o||(List.range n).all λj=>match ops[j]? with
   |none=>true
   |some p=> !US E p||(!Nat.beq (QR E o) (QR E p)||inOrder B i j)
def Q9d (ops:Array Oper)(t:Nat):Bool:=ops.toList.all λp=>p.dst != some t&&(match p.op with
 |.store _ (.tmp u) v=>match Nat.beq u t with
  |true=> !Q4w t v&&p.guard.isNone
  |false=> !(looks ops p).contains t
 |_=> !(looks ops p).contains t)
def Q1E (ops:Array Oper):List Oper->List Nat
 |[]=>[]
 |p::l=>match p.op with
  |.store _ (.tmp t) _=>cond (Q9d ops t) (t::Q1E ops l) (Q1E ops l)
  |_=>Q1E ops l
def Q8x (st:St):List Nat->List Nat
 |[]=>[]
 |t::l=>(match st.slot t with
  |.ep j none []=>j
  |_=>1099511627791)::Q8x st l
def UO (E:Env)(dr:Bool)(ops:Array Oper)(st:St):Env:=
 let hard:=XS (E.soft false [] []) ops
 let pt:=cond (dr&& !hard) (Q1E ops ops.toList) []
 E.soft (dr&&(!hard&&Gg (E.soft false pt []) ops)) pt (Q8x st pt)
def Q7V (t:Nat):List Oper->Nat
 |[]=>t
 |o::l=>match o.op,o.dst with
  |.move (.tmp s),some d=>cond (Nat.beq d t) s (Q7V t l)
  |_,_=>Q7V t l
def Q5c (st:St)(all:List Oper):List Oper->List Nat
 |[]=>[]
 |o::l=>match o.op with
  |.slice _ (.tmp t) _ _ none=>match st.slot (Q7V t all)with
   |.own j=>match st.row j with
    |some (.flat _ _ _ false _)=>cond (Nat.blt j Q7) (j::Q5c st all l) (Q5c st all l)
    |_=>Q5c st all l
   |_=>Q5c st all l
  |_=>Q5c st all l
def Q9u (dr:Bool)(ops:Array Oper)(st:St):List Nat:=cond dr (Q5c st ops.toList ops.toList) []
def Q7W (ops:Array Oper)(o:Oper):Bool:=match o.op with
 |.call c=>match c.callee,c.args.toList with
  |.value (.func _),[_,_,.tmp t]=>ops.toList.any λp=>p.dst==some t&&Q3E p.op
  |_,_=>false
 |_=>false
def Q9v:Op->Bool
 |.fieldAddr ..=>true
 |_=>false
def Q8y (ops:Array Oper)(o:Oper):Option Nat:=match o.op with
 |.call c=>match c.callee,c.args.toList with
  |.builtin .append,.tmp t::_=>some t
  |.value (.func _),[.tmp t,_,_]=>cond (Q7W ops o) (some t) none
  |_,_=>none
 |_=>none
def QO (ops:Array Oper)(o:Oper):Bool:=Q3F o||Q7W ops o||(Q9v o.op&&ops.toList.any λp=>Q7W ops p)||ops.toList.any λp=>(match Q8y ops p with
 |some t=>o.dst==some t
 |none=>false)||(Q3F p&&match p.dst with
  |some d=>(looks ops o).contains d
  |none=>false)
def Q6i:AV->Bool
 |.t _ _=>true
 |.tp b=>match b with
  |.t _ _=>true
  |_=>false
 |.nil=>true
 |.tup fs=>match fs with
  |[]=>true
  |_=>false
 |_=>false
def apB (ops:Array Oper):Bool:=ops.toList.any λo=>(Q8y ops o).isSome
def Kw (ap:Bool)(v:AV):Bool:=!ap||Q6i v
def Q7X (ops:Array Oper)(i:Nat):Bool:=
 let B:=(Region.before ops).toList
 (List.range ops.size).all λj=>match ops[j]? with
  |some p=> !QO ops p||inOrder B i j
  |none=>true
def Q7Y (ops:Array Oper)(i:Nat)(row:Nat->Option Row):Nat->Option Row:=λid=>cond (Q7X ops i) (row id) none
def Q7Z (o:Oper)(u:Upd):Option AV:=match Q3E o.op with
 |true=>match Gy u with
  |some u'=>some u'.v
  |none=>none
 |false=>match u.news,u.frz,u.app,u.sto with
  |[],[],none,none=>some u.v
  |_,_,_,_=>none
def Q2u (ops:Array Oper)(st:St):Bool:=
 let B:=(Region.before ops).toList
 let n:=ops.size
 (List.range n).all λi=>match ops[i]? with
  |none=>false
  |some o=>o.after.toList.all (λe=> !Region.binds .any e||Nat.blt e.on i)&&
   (Nat.beq (B.getD i 0) (o.after.toList.foldl (λs e=>if Region.binds .any e then s|||2 ^ e.on|||B.getD e.on 0 else s) 0)&&
   ((List.range n).all λj=>match ops[j]? with
    |none=>false
    |some p=>match QO ops o with
     |true=> !QO ops p||inOrder B i j
     |false=>(match o.dst with
      |some d=>(!(looks ops p).contains d||(Nat.blt i j&&inOrder B i j))&&(Nat.beq i j||p.dst != some d)
      |none=>true)&&(!QO ops p||match p.dst with
      |some d=> !(looks ops o).contains d||(Nat.blt i j&&inOrder B i j)
      |none=>true))&&
   (QO ops o||(looks ops o).all λt=>(ops.toList.any λp=> !QO ops p&&p.dst==some t)||Kw (apB ops) (st.slot t)))
def Q0L (E:Env)(C:Orc)(ops:Array Oper)(rid:Nat):List Oper->Nat->St->(St->Option R)->Option R
 |[],_,st,K=>K st
 |o::l,i,st,K=>match J9 o st.nt,o.guard with
  |true,none=>match QO ops o with
   |true=>aop E C false o ((rid*256+i)*4) (ev E st) st.row λu=>cond (apB ops||u.app.isNone) (Q0L E C ops rid l (i+1) (st.apply o.dst u) K) none
   |false=>Q3A E C true o ((rid*256+i)*4) (ev E st) (Q7Y ops i st.row) λu=>match Q7Z o u with
    |some v=>cond (Kw (apB ops) v) (Q0L E C ops rid l (i+1) (st.putO o.dst v) K) none
    |none=>none
  |_,_=>none
def rdSlot (st:St)(t:Nat):St:=match st.slot t with
 |.own j=>match st.row j with
  |some (.flat _ τ xs true _)=>st.put t (.t (.sl τ) xs)
  |_=>st
 |_=>st
def rdSlots (st:St):List Nat->St
 |[]=>st
 |t::l=>rdSlots (rdSlot st t) l
def Q8z (ops:Array Oper):List Nat:=(ops.toList.flatMap λo=>match QO ops o with
 |true=>[]
 |false=>looks ops o).filter λt=> !(ops.toList.any λp=> !QO ops p&&p.dst==some t)
def Q2v (st:St):List Nat->List Nat
 |[]=>[]
 |t::l=>match st.slot t with
  |.own j=>match st.row j with
   |some (.flat _ _ _ _ _)=>cond (Nat.blt j Q7) (j::Q2v st l) (Q2v st l)
   |_=>Q2v st l
  |_=>Q2v st l
def clSlot (st:St)(t:Nat):St:=match J3 6 (st.slot t),JA 6 (st.slot t),Q2 st.row 6 (st.slot t)with
 |_::_,false,some b=>(st.freeze (J3 6 (st.slot t))).put t b
 |_,_,_=>st
def clBox (st:St)(t:Nat):St:=match st.slot t with
 |.ep j none []=>match st.row j with
  |some (.box τ b)=>match J3 6 b,JA 6 b,Q2 st.row 6 b with
   |_::_,false,some (.t σ x)=>match decEq σ τ with
    |.isTrue _=>(st.freeze (J3 6 b)).setRow j (.box τ (.t σ x))
    |.isFalse _=>st
   |_,_,_=>st
  |_=>st
 |_=>st
def Q1F (st:St):List Nat->St
 |[]=>st
 |t::l=>Q1F (clBox (clSlot st t) t) l
def Q8L (t:Nat):List Oper->Nat
 |[]=>t
 |o::l=>match o.op,o.dst with
  |.load _ (.tmp s),some d=>cond (Nat.beq d t) s (Q8L t l)
  |_,_=>Q8L t l
def Q3G (all:List Oper):List Operand->List Nat
 |[]=>[]
 |.tmp t::l=>Q8L (Q7V t all) all::Q3G all l
 |_::l=>Q3G all l
def Q5d (E:Env)(st:St)(all:List Oper):List Oper->List Nat
 |[]=>[]
 |o::l=>match o.op with
  |.call c=>match c.callee with
   |.value f=>match ev E st f with
    |.clo g _=>cond (E.md g) (Q3G all c.args.toList.tail++Q5d E st all l) (Q5d E st all l)
    |_=>Q5d E st all l
   |_=>Q5d E st all l
  |_=>Q5d E st all l
def Q9w (E:Env)(dr:Bool)(ops:Array Oper)(st:St):List Nat:=cond dr (Q5d E st ops.toList ops.toList) []
def Q9e (E:Env)(C:Orc)(rid:Nat)(ops:Array Oper)(dr:Bool)(st:St)(K:Ex->St->Option R):Option R:=
 match !Nat.ble ops.size 256||(!Nat.ble (rid*1024+1024) Q7||(dr&&(!XS (UO E dr ops (st.kill (rid*1024) (rid*1024+1024))) ops||(Gg (UO E dr ops (st.kill (rid*1024) (rid*1024+1024))) ops&& !Q6h (UO E dr ops (st.kill (rid*1024) (rid*1024+1024))) ops))))with
  |true=>none
  |false=>Dc (UO E dr ops (st.kill (rid*1024) (rid*1024+1024))) C dr ops rid ops.toList 0 (st.kill (rid*1024) (rid*1024+1024)) λst=>K .normal st
def Q9f (E:Env)(C:Orc)(rid:Nat)(ops:Array Oper)(st:St)(K:Ex->St->Option R):Option R:=
 match Nat.ble ops.size 256&&(Nat.ble (rid*1024+1024) Q7&&Q2u ops (st.kill (rid*1024) (rid*1024+1024)))with
 |true=>Q0L E C ops rid ops.toList 0 (st.kill (rid*1024) (rid*1024+1024)) λst=>K .normal st
 |false=>none
def QJ (E:Env)(C:Orc)(L:Kv):Nat->Code->St->(Ex->St->Option R)->Option R
 |_,.skip,st,K=>K .normal st
 |_,.region rid ops dr,st,K=>match dr&&((ops.toList.any λo=>Q7W ops o)|| !XS (UO E dr ops (st.kill (rid*1024) (rid*1024+1024))) ops)with
  |true=>Q9f E C rid ops (rdSlots (st.freeze (Q2v st (Q8z ops))) (Q8z ops)) K
  |false=>Q9e E C rid ops dr (Q1F (st.freeze (Q9u dr ops st)) (Q9w E dr ops st)) K
 |b,.seq x y,st,K=>QJ E C L b x st λe st=>match e with
  |.normal=>QJ E C L b y st K
  |e=>K e st
 |b,.cond c x y,st,K=>match ev E st c with
  |.t .bool v=>cond v (QJ E C L b x st K) (QJ E C L b y st K)
  |_=>none
 |_,.block id c,st,K=>QJ E C L id c st λe st=>match e with
  |.exit j=>match Nat.beq j id with
   |true=>K .normal st
   |false=>K (.exit j) st
  |e=>K e st
 |b,.loop _,st,K=>L b st K
 |_,.exit id,st,K=>K (.exit id) st
 |_,.ret,st,K=>K .ret st
 |_,_,_,_=>none
end
def Q9x:Ty->Option Nat
 |.name=>some 0
 |.lib=>some 0
 |.query=>some 3
 |_=>none
def Q0M:AV->Bool
 |.t τ _=> !slT τ
 |_=>false
def Gh:List AV->Bool
 |[]=>true
 |a::l=>Q0M a&&Gh l
def Gz:Nat->List AV->Bool
 |_,[]=>true
 |0,_::l=>Gh l
 |k+1,a::l=>Q0M a&&Gz k l
def Q9g (row:Nat->Option Row)(τ:Ty)(fs:List AV):Option AV:=match Q9x τ with
 |some k=>match fs[k]?,Gz k fs with
  |some (.own id),true=>match row id with
   |some (.flat e σ xs false true)=>some (.agg τ (fs.set k (.fr e σ xs)))
   |_=>none
  |some .nil,true=>some (.agg τ fs)
  |_,_=>none
 |none=>none
def Q3H (st:St)(a:AV):Option AV:=match a with
 |.own id=>match st.row id with
  |some (.flat e τ xs false true)=>some (.fr e τ xs)
  |some (.flat _ τ xs _ _)=>some (.t (.sl τ) xs)
  |_=>none
 |.agg τ fs=>match Q9g st.row τ fs with
  |some b=>some b
  |none=>Q2 st.row 6 (.agg τ fs)
 |a=>Q2 st.row 6 a
def Q80 (E:Env)(st:St):ResultVar->Option AV
 |.tmp t=>some (st.slot t)
 |.cell t T=>match E.ty T,st.slot t with
  |some τ,.ep j none []=>match st.row j with
   |some (.box σ a)=>match decEq σ τ with
    |.isTrue _=>some a
    |.isFalse _=>none
   |_=>none
  |_,_=>none
def Us (st:St):List AV->Option (List AV)
 |[]=>some []
 |a::l=>match Q3H st a with
  |some b=>match Us st l with
   |some m=>some (b::m)
   |none=>none
  |none=>none
def YE (E:Env)(st:St):List ResultVar->Option (List AV)
 |[]=>some []
 |a::l=>match Q80 E st a with
  |some b=>match YE E st l with
   |some m=>some (b::m)
   |none=>none
  |none=>none
def one:List AV->AV
 |[a]=>a
 |l=>.tup l
def start (nt:Nat)(args:List AV):St:=⟨λt=>match args[t]? with
 |some a=>a
 |none=>QV,λ_=>none,nt⟩
def QE {R:Type}(E:Env)(C:Orc)(L:Kv)(fn:Func)(args:List AV)(K:AV->Option R):Option R:=
 match fn.body with
 |some c=>QJ E C L 0 c (start fn.ntmps args) λe st=>match e with
  |.exit _=>none
  |_=>match YE E st fn.results.toList with
   |some rs=>match Qy (QQ rs)&& !JL (JA 6) rs with
    |true=>match Us st rs with
     |some as=>K (one as)
     |none=>none
    |false=>none
   |none=>none
 |none=>none
def Yu (nt mb:Nat)(a0:AV)(args:List AV):St:=⟨λt=>match t with
 |0=>(match a0 with
  |.fr _ _ _=>.own mb
  |_=>.ep mb none [])
 |t+1=>match args[t]? with
  |some a=>a
  |none=>QV,λid=>cond (Nat.beq id mb) (rowOf a0) none,nt⟩
def Q5e {R:Type}(st:St)(mb:Nat)(a0:AV)(K:AV->Option R):Option R:=match a0,st.row mb with
 |.fr e τ xs,some (.flat e' σ ys false true)=>match Gv (.fr e' σ ys) (.fr e τ xs)with
  |true=>cond (Nat.beq ys.length xs.length) (K (.fr e' σ ys)) none
  |false=>none
 |.bx τ _,some (.box σ b)=>match decEq σ τ,asT σ b with
  |.isTrue _,some y=>K (.bx σ y)
  |_,_=>none
 |_,_=>none
def Q9h {R:Type}(mb:Nat)(a0:AV)(rs:List AV)(K:AV->Option R):Option R:=match rs,a0,Nat.beq mb Q7 with
 |[.t τ y],.fr _ _ _,false=>cond (slT τ) none (K (.pc false τ y))
 |_,_,_=>none
def Q0N {R:Type}(st:St)(mb:Nat)(a0:AV)(rs:List AV)(K:AV->Option R):Option R:=match Nat.beq mb Q7&&(Qy (QQ rs)&&(!JL (JA 6) rs&& !(QQ rs).contains Q7))with
 |true=>match Us st rs with
  |some as=>Q5e st mb a0 λo=>K (.kep o (one as))
  |none=>none
 |false=>Q9h mb a0 rs K
def Kx {R:Type}(E:Env)(C:Orc)(L:Kv)(fn:Func)(mb:Nat)(a0:AV)(args:List AV)(K:AV->Option R):Option R:=
 match fn.body with
 |some c=>QJ E C L 0 c (Yu fn.ntmps mb a0 args) λe st=>match e with
  |.exit _=>none
  |_=>match YE E st fn.results.toList with
   |some rs=>match rs with
    |[.own i]=>match Nat.beq i mb&& !Nat.beq mb Q7 with
     |true=>match st.row mb with
      |some (.flat e τ ys false true)=>K (.mov e τ ys)
      |_=>none
     |false=>Q0N st mb a0 [.own i] K
    |rs=>Q0N st mb a0 rs K
   |none=>none
 |none=>none
end Go.Gx
end
section
/- Shapes of states at a loop's head and behind it. Definitions alone. -/
namespace Go.Gx
inductive Con where
 |clo (f:Nat)
 |par (i:Nat)
 |ep (id:Nat)
 |own (id:Nat)
 |undef
 |nil
def Con.val:Con->AV
 |.clo f=>.clo f []
 |.par i=>.par i
 |.ep id=>.ep id none []
 |.own id=>.own id
 |.undef=>QV
 |.nil=>.nil
def Con.fits:Con->AV->Bool
 |.clo f,.clo g []=>Nat.beq f g
 |.par i,.par j=>Nat.beq i j
 |.ep id,.ep j none []=>Nat.beq id j
 |.own id,.own j=>Nat.beq id j
 |.undef,.tup []=>true
 |.nil,.nil=>true
 |_,_=>false
inductive CK where
 |t (τ:Ty)
 |tp (τ:Ty)
@[reducible] def CK.X:CK->Type
 |.t τ=>den τ
 |.tp τ=>den τ
def CK.val:(k:CK)->k.X->AV
 |.t τ,x=>.t τ x
 |.tp τ,x=>.tp (.t τ x)
def CK.view:(k:CK)->AV->Option k.X
 |.t τ,a=>asT τ a
 |.tp τ,a=>match a with
  |.tp b=>asT τ b
  |_=>none
@[reducible] def CX:List CK->Type
 |[]=>Unit
 |k::l=>k.X×CX l
def Ky:(l:List CK)->CX l->List AV
 |[],_=>[]
 |k::l,x=>k.val x.1::Ky l x.2
def DT:(l:List CK)->List AV->Option (CX l)
 |[],[]=>some ()
 |k::l,a::al=>match k.view a with
  |some x=>match DT l al with
   |some y=>some (x,y)
   |none=>none
  |none=>none
 |_,_=>none
inductive Fp where
 |t (τ:Ty)
 |own (id e:Nat) (τ:Ty) (fz app:Bool)
 |con (a:Con)
 |tv (id e:Nat) (τ:Ty) (ap:Bool)
inductive Sp where
 |t (s:Nat) (τ:Ty)
 |own (s id e:Nat) (τ:Ty) (fz app:Bool)
 |con (s:Nat) (a:Con)
 |boxT (s id:Nat) (τ:Ty)
 |boxF (s id:Nat) (τ:Ty) (fs:List Fp)
 |cl (s g:Nat) (cs:List CK)
 |rd (s:Nat) (τ:Ty)
 |rp (s:Nat) (τ:Ty)
 |ds (s id:Nat) (σ τ:Ty)
 |tv (s id e:Nat) (τ:Ty) (ap:Bool)
 |bv (s b id e:Nat) (τ:Ty) (ap:Bool)
@[reducible] def Fp.X:Fp->Type
 |.t τ=>den τ
 |.own _ _ τ _ _=>List (den τ)
 |.con _=>Unit
 |.tv _ _ τ _=>den τ
@[reducible] def FX:List Fp->Type
 |[]=>Unit
 |f::l=>f.X×FX l
@[reducible] def Sp.X:Sp->Type
 |.t _ τ=>den τ
 |.own _ _ _ τ _ _=>List (den τ)
 |.con _ _=>Unit
 |.boxT _ _ τ=>den τ
 |.boxF _ _ _ fs=>FX fs
 |.cl _ _ cs=>CX cs
 |.rd _ τ=>List (den τ)
 |.rp _ τ=>den τ
 |.ds _ _ _ τ=>den τ
 |.tv _ _ _ τ _=>den τ
 |.bv _ _ _ _ τ _=>den τ
@[reducible] def SX:List Sp->Type
 |[]=>Unit
 |s::l=>s.X×SX l
def Fp.val:(f:Fp)->f.X->AV
 |.t τ,x=>.t τ x
 |.own id _ _ _ _,_=>.own id
 |.con a,_=>a.val
 |.tv id _ τ _,_=>.tv id τ
def U8:(l:List Fp)->FX l->List AV
 |[],_=>[]
 |f::l,x=>f.val x.1::U8 l x.2
def Fp.rowAt:(f:Fp)->f.X->Nat->Option Row->Option Row
 |.own id e τ fz app,xs,j,r=>cond (Nat.beq j id) (some (.flat e τ xs fz app)) r
 |.tv id e τ ap,x,j,r=>cond (Nat.beq j id) (some (QP e ap τ x)) r
 |_,_,_,r=>r
def UT:(l:List Fp)->FX l->Nat->Option Row->Option Row
 |[],_,_,r=>r
 |f::l,x,j,r=>f.rowAt x.1 j (UT l x.2 j r)
def Sp.slotAt:(s:Sp)->s.X->Nat->AV->AV
 |.t s τ,x,u,a=>cond (Nat.beq u s) (.t τ x) a
 |.own s id _ _ _ _,_,u,a=>cond (Nat.beq u s) (.own id) a
 |.con s b,_,u,a=>cond (Nat.beq u s) b.val a
 |.boxT s id _,_,u,a=>cond (Nat.beq u s) (.ep id none []) a
 |.boxF s id _ _,_,u,a=>cond (Nat.beq u s) (.ep id none []) a
 |.cl s g cs,x,u,a=>cond (Nat.beq u s) (.clo g (Ky cs x)) a
 |.rd s τ,x,u,a=>cond (Nat.beq u s) (.t (.sl τ) x) a
 |.rp s τ,x,u,a=>cond (Nat.beq u s) (.tp (.t τ x)) a
 |.ds s id _ τ,x,u,a=>cond (Nat.beq u s) (.ds id τ x) a
 |.tv s id _ τ _,_,u,a=>cond (Nat.beq u s) (.tv id τ) a
 |.bv s b _ _ _ _,_,u,a=>cond (Nat.beq u s) (.ep b none []) a
def Sp.rowAt:(s:Sp)->s.X->Nat->Option Row->Option Row
 |.own _ id e τ fz app,xs,j,r=>cond (Nat.beq j id) (some (.flat e τ xs fz app)) r
 |.boxT _ id τ,x,j,r=>cond (Nat.beq j id) (some (.box τ (.t τ x))) r
 |.boxF _ id τ fs,x,j,r=>cond (Nat.beq j id) (some (.box τ (.agg τ (U8 fs x)))) (UT fs x j r)
 |.ds _ id σ _,_,j,r=>cond (Nat.beq j id) (some (.box σ (.t .bool false))) r
 |.tv _ id e τ ap,x,j,r=>cond (Nat.beq j id) (some (QP e ap τ x)) r
 |.bv _ b id e τ ap,x,j,r=>cond (Nat.beq j b) (some (.box τ (.tv id τ))) (cond (Nat.beq j id) (some (QP e ap τ x)) r)
 |_,_,_,r=>r
def slotsOf:(l:List Sp)->SX l->Nat->AV
 |[],_,_=>.any
 |s::l,x,t=>s.slotAt x.1 t (slotsOf l x.2 t)
def rowsOf:(l:List Sp)->SX l->Nat->Option Row
 |[],_,_=>none
 |s::l,x,j=>s.rowAt x.1 j (rowsOf l x.2 j)
def J1 (nt:Nat)(l:List Sp)(x:SX l):St:=⟨slotsOf l x,rowsOf l x,nt⟩
def Xn (row:Nat->Option Row)(id e:Nat)(τ:Ty)(fz app:Bool):AV->Option (List (den τ))
 |.own j=>match Nat.beq j id,row id with
  |true,some (.flat e' σ xs fz' app')=>match decEq σ τ,Nat.beq e' e,fz'==fz,app'==app with
   |.isTrue h,true,true,true=>some (h▸xs)
   |_,_,_,_=>none
  |_,_=>none
 |.nil=>match row id,fz,app,Nat.blt 0 (nc τ),Nat.beq id Q7 with
  |none,false,true,true,false=>some []
  |_,_,_,_,_=>none
 |_=>none
def Q3I (row:Nat->Option Row)(id e:Nat)(τ:Ty)(ap:Bool):Option (den τ):=match row id with
 |some (.box σ (.tup [.t (.int .i64) e',.t .bool ap',.t θ x]))=>match decEq σ τ,decEq θ τ,e'==(e:Int),ap'==ap with
  |.isTrue _,.isTrue h,true,true=>some (h▸x)
  |_,_,_,_=>none
 |_=>none
def GA (row:Nat->Option Row)(id e:Nat)(τ:Ty)(ap:Bool):AV->Option (den τ)
 |.tv j σ=>match Nat.beq j id,decEq σ τ with
  |true,.isTrue _=>Q3I row id e τ ap
  |_,_=>none
 |_=>none
def Fp.view (row:Nat->Option Row):(f:Fp)->AV->Option f.X
 |.t τ,a=>asT τ a
 |.own id e τ fz app,a=>Xn row id e τ fz app a
 |.con c,a=>cond (c.fits a) (some ()) none
 |.tv id e τ ap,a=>GA row id e τ ap a
def Ye (row:Nat->Option Row):(l:List Fp)->List AV->Option (FX l)
 |[],[]=>some ()
 |f::l,a::as=>match f.view row a with
  |some x=>match Ye row l as with
   |some y=>some (x,y)
   |none=>none
  |none=>none
 |_,_=>none
def Sp.view (st:St):(s:Sp)->Option s.X
 |.t s τ=>asT τ (st.slot s)
 |.own s id e τ fz app=>Xn st.row id e τ fz app (st.slot s)
 |.con s c=>cond (c.fits (st.slot s)) (some ()) none
 |.boxT s id τ=>match st.slot s,st.row id with
  |.ep j none [],some (.box σ a)=>match Nat.beq j id,decEq σ τ with
   |true,.isTrue _=>asT τ a
   |_,_=>none
  |_,_=>none
 |.boxF s id τ fs=>match st.slot s,st.row id with
  |.ep j none [],some (.box σ (.agg _ as))=>match Nat.beq j id,decEq σ τ with
   |true,.isTrue _=>Ye st.row fs as
   |_,_=>none
  |.ep j none [],some (.box σ (.t ρ x))=>match Nat.beq j id,decEq σ τ,decEq ρ τ with
   |true,.isTrue _,.isTrue _=>Ye st.row fs (Q4 ρ x)
   |_,_,_=>none
  |_,_=>none
 |.cl s g cs=>match st.slot s with
  |.clo f caps=>match Nat.beq f g with
   |true=>DT cs caps
   |false=>none
  |_=>none
 |.rd s τ=>match st.slot s with
  |.own j=>match st.row j with
   |some (.flat _ σ xs true _)=>match decEq σ τ with
    |.isTrue h=>some (h▸xs)
    |.isFalse _=>none
   |_=>none
  |a=>asT (.sl τ) a
 |.rp s τ=>match st.slot s with
  |.tp (.t σ x)=>match decEq σ τ with
   |.isTrue h=>some (h▸x)
   |.isFalse _=>none
  |_=>none
 |.ds s id σ τ=>match st.slot s,st.row id with
  |.ds j τ' x,some (.box σ' (.t .bool _))=>match Nat.beq j id,decEq σ' σ,decEq τ' τ with
   |true,.isTrue _,.isTrue h=>some (h▸x)
   |_,_,_=>none
  |_,_=>none
 |.tv s id e τ ap=>GA st.row id e τ ap (st.slot s)
 |.bv s b id e τ ap=>match st.slot s,st.row b with
  |.ep j none [],some (.box σ a)=>match Nat.beq j b,decEq σ τ with
   |true,.isTrue _=>GA st.row id e τ ap a
   |_,_=>none
  |_,_=>none
def swn (i j k:Nat):Nat:=match Nat.beq k i with
 |true=>j
 |false=>match Nat.beq k j with
  |true=>i
  |false=>k
mutual
def AV.sw (i j:Nat):AV->AV
 |.own k=>.own (swn i j k)
 |.ep k q p=>.ep (swn i j k) q p
 |.ds k τ x=>.ds (swn i j k) τ x
 |.dq k τ x=>.dq (swn i j k) τ x
 |.tv k τ=>.tv (swn i j k) τ
 |.tq k q p=>.tq (swn i j k) q p
 |.vw k q p τ=>.vw (swn i j k) q p τ
 |.agg τ fs=>.agg τ (swL i j fs)
 |.tup vs=>.tup (swL i j vs)
 |.clo f cs=>.clo f (swL i j cs)
 |a=>a
def swL (i j:Nat):List AV->List AV
 |[]=>[]
 |a::l=>a.sw i j::swL i j l
end
def Row.sw (i j:Nat):Row->Row
 |.box τ a=>.box τ (a.sw i j)
 |.flat e τ xs fz app=>.flat e τ xs fz app
def swR (i j:Nat)(row:Nat->Option Row):Nat->Option Row:=λk=>match row (swn i j k)with
 |some r=>some (r.sw i j)
 |none=>none
def St.sw (st:St)(i j:Nat):St:=⟨λt=>(st.slot t).sw i j,swR i j st.row,st.nt⟩
def renF (st:St):List Fp->List AV->St
 |[],_=>st
 |_,[]=>st
 |f::fs,a::as=>match f,a with
  |.own id _ _ _ _,.own k=>match(Nat.beq k id||Nat.beq k Q7)||Nat.beq id Q7 with
   |true=>renF st fs as
   |false=>renF (st.sw k id) fs (swL k id as)
  |.tv id _ _ _,.tv k _=>match(Nat.beq k id||Nat.beq k Q7)||Nat.beq id Q7 with
   |true=>renF st fs as
   |false=>renF (st.sw k id) fs (swL k id as)
  |_,_=>renF st fs as
def renam (st:St):List Sp->St
 |[]=>st
 |.own s id _ _ _ _::l=>match st.slot s with
  |.own k=>match(Nat.beq k id||Nat.beq k Q7)||Nat.beq id Q7 with
   |true=>renam st l
   |false=>renam (st.sw k id) l
  |_=>renam st l
 |.tv s id _ _ _::l=>match st.slot s with
  |.tv k _=>match(Nat.beq k id||Nat.beq k Q7)||Nat.beq id Q7 with
   |true=>renam st l
   |false=>renam (st.sw k id) l
  |_=>renam st l
 |.bv s _ id _ _ _::l=>match st.slot s with
  |.ep j none []=>match st.row j with
   |some (.box _ (.tv k _))=>match(Nat.beq k id||Nat.beq k Q7)||Nat.beq id Q7 with
    |true=>renam st l
    |false=>renam (st.sw k id) l
   |_=>renam st l
  |_=>renam st l
 |.boxT s id _::l=>match st.slot s with
  |.ep k none []=>match(Nat.beq k id||Nat.beq k Q7)||Nat.beq id Q7 with
   |true=>renam st l
   |false=>renam (st.sw k id) l
  |_=>renam st l
 |.boxF s _ _ fs::l=>match st.slot s with
  |.ep j none []=>match st.row j with
   |some (.box _ (.agg _ as))=>renam (renF st fs as) l
   |_=>renam st l
  |_=>renam st l
 |_::l=>renam st l
def Kz (st:St):List Sp->List Nat
 |[]=>[]
 |.rd s _::l=>match st.slot s with
  |.own j=>j::Kz st l
  |_=>Kz st l
 |_::l=>Kz st l
def view (st:St):(l:List Sp)->Option (SX l)
 |[]=>some ()
 |s::l=>match s.view st with
  |some x=>match view st l with
   |some y=>some (x,y)
   |none=>none
  |none=>none
def unbox1 (st:St)(s:Nat):St:=match st.slot s with
 |.ep j none []=>match st.row j with
  |some (.box τ (.t σ y))=>match decEq τ σ,Nat.beq j Q7 with
   |.isTrue _,false=>(st.kill j (j+1)).put s (.tp (.t σ y))
   |_,_=>st
  |_=>st
 |_=>st
def unbox (st:St):List Sp->St
 |[]=>st
 |.rp s _::l=>unbox (unbox1 st s) l
 |_::l=>unbox st l
def UU (nt:Nat)(st:St)(l:List Sp):Option (SX l):=match Nat.beq st.nt nt with
 |true=>view ((renam (unbox st l) l).freeze (Kz (renam (unbox st l) l) l)) l
 |false=>none
def Fp.ids:Fp->List Nat
 |.own id _ _ _ _=>[id]
 |.tv id _ _ _=>[id]
 |_=>[]
def G7:List Fp->List Nat
 |[]=>[]
 |f::l=>f.ids++G7 l
def Sp.ids:Sp->List Nat
 |.own _ id _ _ _ _=>[id]
 |.boxT _ id _=>[id]
 |.boxF _ id _ fs=>id::G7 fs
 |.ds _ id _ _=>[id]
 |.tv _ id _ _ _=>[id]
 |.bv _ b id _ _ _=>[b,id]
 |_=>[]
def JF:List Sp->List Nat
 |[]=>[]
 |s::l=>s.ids++JF l
def Q0O (ids:List Nat):Con->Bool
 |.ep id=>ids.contains id
 |.own id=>ids.contains id
 |_=>true
def Fp.ok (ids:List Nat)(σ:Ty):Fp->Bool
 |.t τ=>match decEq τ σ with
  |.isTrue _=>true
  |.isFalse _=>false
 |.own _ _ _ _ _=>true
 |.con c=>Q0O ids c
 |.tv _ _ _ _=>true
def Q0P (ids:List Nat):List Ty->List Fp->Bool
 |[],[]=>true
 |σ::l,f::fs=>f.ok ids σ&&Q0P ids l fs
 |_,_=>false
def Sp.ok (ids:List Nat):Sp->Bool
 |.con _ c=>Q0O ids c
 |.boxF _ _ τ fs=>agT τ&&Q0P ids (fty τ) fs
 |_=>true
def Q0Q (ids:List Nat):List Sp->Bool
 |[]=>true
 |s::l=>s.ok ids&&Q0Q ids l
def Q2w (l:List Sp):Bool:=Q0Q (JF l) l
@[reducible] def TX:List Ty->Type
 |[]=>Unit
 |τ::l=>den τ×TX l
def Y6:(l:List Ty)->List AV->Option (TX l)
 |[],[]=>some ()
 |τ::l,a::as=>match asT τ a with
  |some x=>match Y6 l as with
   |some y=>some (x,y)
   |none=>none
  |none=>none
 |_,_=>none
inductive RK where
 |t (τ:Ty)
 |fr (e:Nat) (τ:Ty)
 |pc (τ:Ty)
 |sf (τ:Ty) (e:Nat)
@[reducible] def RK.X:RK->Type
 |.t τ=>den τ
 |.fr _ τ=>List (den τ)
 |.pc τ=>den τ
 |.sf τ _=>den τ
def frL (e:Nat)(τ:Ty):AV->Option (List (den τ))
 |.fr e' σ xs=>match decEq σ τ,Nat.beq e' e with
  |.isTrue h,true=>some (h▸xs)
  |_,_=>none
 |.nil=>match Nat.blt 0 (nc τ)with
  |true=>some []
  |false=>none
 |_=>none
def sfV (e:Nat):(τ:Ty)->den τ->AV
 |.name,n=>.agg .name [.fr e .str n.given,.t .str n.particle,.t .str n.family,.t .str n.suffix]
 |.lib,l=>.agg .lib [.fr e .entry l.entries]
 |.query,q=>.agg .query [.t (.int .i64) q.op,.t .str q.field,.t .str q.word,.fr e .query q.parts]
 |τ,x=>.t τ x
def Q1G (e:Nat):(τ:Ty)->AV->Option (den τ)
 |.name,a=>match a with
  |.agg .name [f,b,c,d]=>match frL e .str f,asT .str b,asT .str c,asT .str d with
   |some f,some b,some c,some d=>some ⟨f,b,c,d⟩
   |_,_,_,_=>none
  |_=>none
 |.lib,a=>match a with
  |.agg .lib [f]=>match frL e .entry f with
   |some f=>some ⟨f⟩
   |none=>none
  |_=>none
 |.query,a=>match a with
  |.agg .query [b,c,d,f]=>match asT (.int .i64) b,asT .str c,asT .str d,frL e .query f with
   |some b,some c,some d,some f=>some (.mk b c d f)
   |_,_,_,_=>none
  |_=>none
 |_,_=>none
def RK.view:(k:RK)->AV->Option k.X
 |.t τ,a=>match a with
  |.fr _ σ xs=>match τ with
   |.sl ρ=>match decEq σ ρ with
    |.isTrue h=>some (h▸xs)
    |.isFalse _=>none
   |_=>none
  |.agg σ fs=>match QA σ (fs.map frT)with
   |some b=>asT τ b
   |none=>none
  |a=>asT τ a
 |.fr e τ,a=>match a with
  |.fr e' σ xs=>match decEq σ τ,Nat.beq e' e with
   |.isTrue h,true=>some (h▸xs)
   |_,_=>none
  |.nil=>match Nat.blt 0 (nc τ)with
   |true=>some []
   |false=>none
  |_=>none
 |.pc τ,a=>match a with
  |.pc true σ x=>match decEq σ τ with
   |.isTrue h=>some (h▸x)
   |.isFalse _=>none
  |_=>none
 |.sf τ e,a=>Q1G e τ a
def Qe (k:RK)(a:AV):Option k.X:=k.view a
def YF (k l:RK):AV->Option (k.X×l.X)
 |.tup [a,b]=>match k.view a,l.view b with
  |some x,some y=>some (x,y)
  |_,_=>none
 |_=>none
def J0:Nat->Code->List (Nat×Code)
 |b,.seq x y=>J0 b x++J0 b y
 |b,.cond _ x y=>J0 b x++J0 b y
 |_,.block id c=>J0 id c
 |b,.loop c=>(b,c)::J0 b c
 |_,_=>[]
def Q4x (b:Nat):List (Nat×Code)->Code
 |[]=>.skip
 |p::l=>match Nat.beq p.1 b with
  |true=>p.2
  |false=>Q4x b l
def Qo (f:Func)(b:Nat):Code:=match f.body with
 |some c=>Q4x b (J0 0 c)
 |none=>.skip
def keysOf:List (Nat×Code)->List Nat
 |[]=>[]
 |p::l=>p.1::keysOf l
def KA (f:Func):Bool:=match f.body with
 |some c=>Qy (keysOf (J0 0 c))
 |none=>false
def Qb:(l:List Ty)->TX l->List AV
 |[],_=>[]
 |τ::l,x=>.t τ x.1::Qb l x.2
def RK.val:(k:RK)->k.X->AV
 |.t τ,x=>.t τ x
 |.fr e τ,x=>.fr e τ x
 |.pc τ,x=>.pc true τ x
 |.sf τ e,x=>sfV e τ x
end Go.Gx
end
section
/- How the interpreter's values lie in the machine's memory. -/
namespace Go.Gx
open Go.RowKit
inductive Loc where
 |at (g cap:Nat)
 |nilrow
 |soft (T:Nat->Prop) (v:World)
 |tree (cs:List Value) (T:Nat->Prop) (v:World)
def Loc.has:Loc->Nat->Prop
 |.at g _,b=>b=g
 |.nilrow,_=>False
 |.soft T _,b=>T b
 |.tree _ T _,b=>T b
structure Old where
 K:Nat->Prop
 pin:Option Loc
instance:CoeFun Old (λ_=>Nat->Prop):=⟨Old.K⟩
structure Blw (B:Old)(w w':World):Prop where
 os:w'.os=w.os
 tape:w'.tape=w.tape
 output:w'.output=w.output
 size:w.heap.size<=w'.heap.size
 block:∀k,B k->w'.heap[k]? =w.heap[k]?
theorem Blw.refl (B:Old)(w:World):Blw B w w:=⟨rfl,rfl,rfl,Nat.le_refl _,λ_ _=>rfl⟩
theorem Blw.trans {B:Old}{a b c:World}(h:Blw B a b)(k:Blw B b c):Blw B a c:=
 ⟨k.os.trans h.os,k.tape.trans h.tape,k.output.trans h.output,Nat.le_trans h.size k.size,λi hi=>(k.block i hi).trans (h.block i hi)⟩
theorem Blw.drew {B:Old}{a w:World}(h:Blw B a w):Blw B a w.drew:=⟨h.os,h.tape,h.output,h.size,h.block⟩
theorem Blw.alloc {B:Old}{a w:World}(h:Blw B a w)(hB:∀k,B k->k<w.heap.size)(o:Obj):Blw B a (w.alloc o):=
 h.trans ⟨rfl,rfl,rfl,by simp,λk hk=>Below.heap_alloc _ _ _ (hB k hk)⟩
theorem Blw.of {B:Old}{n:Nat}{w w':World}(h:Below n w w')(hB:∀k,B k->k<n):Blw B w w':=⟨h.os,h.tape,h.output,h.size,λk hk=>h.block k (hB k hk)⟩
theorem Blw.to {n:Nat}{w w':World}(h:Blw ⟨λb=>b<n,none⟩ w w'):Below n w w':=⟨h.os,h.tape,h.output,h.size,h.block⟩
inductive CR (S:Nat->Prop)(w:World):(τ:Ty)->den τ->List Value->Prop
 |int (k:IntKind) (n:Int):CR S w (.int k) n [.int k n]
 |bool (b:Bool):CR S w .bool b [.bool b]
 |str (s:ByteArray):CR S w .str s [.string s]
 |sl (e:Ty) (xs:List (den e)) (A:Option Addr) (c:Nat) (cv:Nat->List Value) (hc:xs.length<=c) (hm:c<=maxLen)
   (h1:∀i (h:i<xs.length),CR S w e xs[i] (cv i))
   (h2:∀i,i<xs.length->∃g o,A=some ⟨g,o,none⟩/\S g/\∀j v,(cv i)[j]? =some v->w.cell? ⟨g,o+(i*nc e+j),none⟩=some v) :
   CR S w (.sl e) xs [.slice A xs.length c]
 |arr (n:Nat) (e:Ty) (xs:List (den e)) (cv:Nat->List Value) (hl:xs.length=n) (h1:∀i (h:i<xs.length),CR S w e xs[i] (cv i)) :
   CR S w (.arr n e) xs ((List.range n).flatMap cv)
 |date (d:Date):CR S w .date d [.int .i64 d.y,.int .i64 d.m,.int .i64 d.d,.bool d.c]
 |name (n:Name) (v:Value) (h:CR S w (.sl .str) n.given [v]):CR S w .name n [v,.string n.particle,.string n.family,.string n.suffix]
 |entry (e:Entry) (va ve:Value) (ha:CR S w (.sl .name) e.authors [va]) (he:CR S w (.sl .name) e.editors [ve]) :
   CR S w .entry e [.string e.key,.int .i64 e.kind,va,ve,.string e.title,.string e.container,.string e.publisher,
    .int .i64 e.date.y,.int .i64 e.date.m,.int .i64 e.date.d,.bool e.date.c,.int .i64 e.volume,.string e.pages,.string e.cross]
 |lib (l:Library) (v:Value) (h:CR S w (.sl .entry) l.entries [v]):CR S w .lib l [v]
 |abbr (a:Abbr):CR S w .abbr a [.string a.word,.string a.short]
 |query (q:Query) (v:Value) (h:CR S w (.sl .query) q.parts [v]):CR S w .query q [.int .i64 q.op,.string q.field,.string q.word,v]
 |cur (q:Cur) (v:Value) (h:CR S w (.sl (.int .u8)) q.code [v]):CR S w .cur q [v,.int .i64 q.at_,.int .u64 q.seed]
theorem CR.mono {S S':Nat->Prop}{w w':World}(hS:∀b,S b->S' b)(hw:∀b,S b->w'.heap[b]? =w.heap[b]?){τ:Ty}{x:den τ}{cs:List Value}(h:CR S w τ x cs):CR S' w' τ x cs:=by
 induction h with
 |int k n=>exact .int k n
 |bool b=>exact .bool b
 |str s=>exact .str s
 |sl e xs A c cv hc hm _ h2 ih=>
  refine .sl e xs A c cv hc hm ih λi hi=>?_
  obtain⟨g,o,e1,hs,hcell⟩:=h2 i hi
  exact⟨g,o,e1,hS g hs,λj v hv=>(World.cell?_of_block (w:=w) (a:=⟨g,_,none⟩) (hw g hs)).trans (hcell j v hv)⟩
 |arr n e xs cv hl _ ih=>exact .arr n e xs cv hl ih
 |date d=>exact .date d
 |name n v _ ih=>exact .name n v ih
 |entry e va ve _ _ ih1 ih2=>exact .entry e va ve ih1 ih2
 |lib l v _ ih=>exact .lib l v ih
 |abbr a=>exact .abbr a
 |query q v _ ih=>exact .query q v ih
 |cur q v _ ih=>exact .cur q v ih
theorem J5 {S S':Nat->Prop}{w w':World}:∀{τ:Ty} {x:den τ} {cs:List Value},slT τ=false->CR S w τ x cs->CR S' w' τ x cs:=by
 intro τ x cs h hc
 induction hc with
 |int k n=>exact .int k n
 |bool b=>exact .bool b
 |str s=>exact .str s
 |sl=>cases h
 |arr n e xs cv hl _ ih=>exact .arr n e xs cv hl λi hi=>ih i hi h
 |date d=>exact .date d
 |name=>cases h
 |entry=>cases h
 |lib=>cases h
 |abbr a=>exact .abbr a
 |query=>cases h
 |cur=>cases h
theorem CR.len {S:Nat->Prop}{w:World}{τ:Ty}{x:den τ}{cs:List Value}(h:CR S w τ x cs):cs.length=nc τ:=by
 induction h with
 |arr n e xs cv hl _ ih=>
  have:∀m,m<=xs.length->((List.range m).flatMap cv).length=m*nc e:=by
   intro m
   induction m with
   |zero=>intro _;simp
   |succ m ihm=>
    intro hm
    rw[List.range_succ,List.flatMap_append,List.length_append,ihm (by omega)]
    simp[ih m (by omega),Nat.succ_mul]
  rw[<-hl]
  exact this _ (Nat.le_refl _)
 |_=>rfl
theorem CR.one {S:Nat->Prop}{w:World}{τ:Ty}{x:den τ}{cs:List Value}(h:CR S w τ x cs):∀v∈cs,v.oneCell'=true:=by
 induction h with
 |arr n e xs cv hl _ ih=>
  intro v hv
  obtain⟨i,hi,hv⟩:=List.mem_flatMap.1 hv
  exact ih i (by rw[hl];simpa using hi) v hv
 |name n v _ ih=>intro u hu;simp only[List.mem_cons,List.not_mem_nil,or_false]at hu;rcases hu with rfl|rfl|rfl|rfl<;>first|rfl|exact ih _ List.mem_cons_self
 |entry e va ve _ _ ih1 ih2=>intro u hu;simp only[List.mem_cons,List.not_mem_nil,or_false]at hu;rcases hu with rfl|rfl|rfl|rfl|rfl|rfl|rfl|rfl|rfl|rfl|rfl|rfl|rfl|rfl<;>first|rfl|exact ih1 _ List.mem_cons_self|exact ih2 _ List.mem_cons_self
 |lib l v _ ih=>exact ih
 |cur q v _ ih=>intro u hu;simp only[List.mem_cons,List.not_mem_nil,or_false]at hu;rcases hu with rfl|rfl|rfl<;>first|rfl|exact ih _ List.mem_cons_self
 |query q v _ ih=>intro u hu;simp only[List.mem_cons,List.not_mem_nil,or_false]at hu;rcases hu with rfl|rfl|rfl|rfl<;>first|rfl|exact ih _ List.mem_cons_self
 |_=>intro u hu;simp only[List.mem_cons,List.not_mem_nil,or_false]at hu;(repeat' (rcases hu with rfl|hu))<;>first|rfl|(subst hu;rfl)
def QB:List Ty->Nat->Nat
 |[],_=>0
 |_,0=>0
 |σ::l,n+1=>nc σ+QB l n
def Qk:Ty->List Nat->Nat
 |_,[]=>0
 |τ,f::p=>QB (fty τ) f+Qk ((fty τ).getD f .bool) p
def isAg:AV->Bool
 |.t τ _=>agT τ
 |.pc _ τ _=>agT τ
 |.ds _ τ _=>agT τ
 |.tv _ τ=>agT τ
 |.tr τ _=>agT τ
 |.agg _ _=>true
 |.hole τ=>agT τ
 |_=>false
def valOf (a:AV)(cs:List Value):Value:=cond (isAg a) (.agg cs.toArray) (cs.headD undef)
def valsOf:List AV->List (List Value)->List Value
 |a::l,cs::m=>valOf a cs::valsOf l m
 |_,_=>[]
def pvN (pv:Nat->Value):Nat:=match pv 1099511627776 with
 |.int _ n=>n.toNat
 |_=>0
def pvQ (pv:Nat->Value):Bool:=match pv 1099511627777 with
 |.bool b=>b
 |_=>false
def pvO (pv:Nat->Value):Bool:=match pv 1099511627778 with
 |.bool b=>b
 |_=>false
def OB (w:World)(b:Nat):Prop:=∃cur e f,w.heap[b]? =some (.cells cur e f)/\(f.2<=f.1\/cur.size<=f.1)
theorem OB.mono {w w':World}{b:Nat}(h:OB w b)(e:w'.heap[b]? =w.heap[b]?):OB w' b:=by unfold OB;rw[e];exact h
inductive TR (w:World):(Nat->Prop)->(τ:Ty)->den τ->List Value->Prop
 |flat (T:Nat->Prop) (τ:Ty) (x:den τ) (cs:List Value) (hs:slT τ=false) (h:CR (λ_=>False) w τ x cs):TR w T τ x cs
 |nil (T:Nat->Prop) (e:Ty):TR w T (.sl e) [] [.slice none 0 0]
 |sl (T:Nat->Prop) (e:Ty) (xs:List (den e)) (g c:Nat) (cv:Nat->List Value) (Ts:Nat->Nat->Prop) (hc:xs.length<=c) (hm:c<=maxLen) (hg:T g) (hO:OB w g)
   (h1:∀i (h:i<xs.length),TR w (Ts i) e xs[i] (cv i))
   (h2:∀i j v,i<xs.length->(cv i)[j]? =some v->w.cell? ⟨g,i*nc e+j,none⟩=some v)
   (h3:∀i b,i<xs.length->Ts i b->T b/\b≠g)
   (h4:∀i j b,i<xs.length->j<xs.length->i≠j->Ts i b->¬Ts j b):TR w T (.sl e) xs [.slice (some ⟨g,0,none⟩) xs.length c]
 |name (T:Nat->Prop) (n:Name) (v:Value) (h:TR w T (.sl .str) n.given [v]):TR w T .name n [v,.string n.particle,.string n.family,.string n.suffix]
 |entry (T T1 T2:Nat->Prop) (e:Entry) (va ve:Value) (ha:TR w T1 (.sl .name) e.authors [va]) (he:TR w T2 (.sl .name) e.editors [ve]) (h1:∀b,T1 b->T b) (h2:∀b,T2 b->T b) (hd:∀b,T1 b->¬T2 b) :
   TR w T .entry e [.string e.key,.int .i64 e.kind,va,ve,.string e.title,.string e.container,.string e.publisher,
    .int .i64 e.date.y,.int .i64 e.date.m,.int .i64 e.date.d,.bool e.date.c,.int .i64 e.volume,.string e.pages,.string e.cross]
 |lib (T:Nat->Prop) (l:Library) (v:Value) (h:TR w T (.sl .entry) l.entries [v]):TR w T .lib l [v]
 |query (T:Nat->Prop) (q:Query) (v:Value) (h:TR w T (.sl .query) q.parts [v]):TR w T .query q [.int .i64 q.op,.string q.field,.string q.word,v]
theorem TR.mono {T:Nat->Prop}{w:World}{τ:Ty}{x:den τ}{cs:List Value}(h:TR w T τ x cs):∀{T':Nat->Prop} {w':World},(∀b,T b->T' b)->(∀b,T b->w'.heap[b]? =w.heap[b]?)->TR w' T' τ x cs:=by
 induction h with
 |flat T τ x cs hs h=>exact λ_ _=>.flat _ _ _ _ hs (J5 hs h)
 |nil T e=>exact λ_ _=>.nil _ _
 |sl T e xs g c cv Ts hc hm hg hO _ h2 h3 h4 ih=>
  intro T' w' hT hw
  refine .sl T' e xs g c cv Ts hc hm (hT g hg) (hO.mono (hw g hg)) (λi hi=>ih i hi (λ_ h=>h) λb hb=>hw b (h3 i b hi hb).1) (λi j v hi hv=>?_) (λi b hi hb=>⟨hT b (h3 i b hi hb).1,(h3 i b hi hb).2⟩) h4
  exact(World.cell?_of_block (w:=w) (a:=⟨g,_,none⟩) (hw g hg)).trans (h2 i j v hi hv)
 |name T n v _ ih=>exact λhT hw=>.name _ n v (ih hT hw)
 |entry T T1 T2 e va ve _ _ h1 h2 hd ih1 ih2=>exact λhT hw=>.entry _ T1 T2 e va ve (ih1 (λ_ h=>h) λb hb=>hw b (h1 b hb)) (ih2 (λ_ h=>h) λb hb=>hw b (h2 b hb)) (λb hb=>hT b (h1 b hb)) (λb hb=>hT b (h2 b hb)) hd
 |lib T l v _ ih=>exact λhT hw=>.lib _ l v (ih hT hw)
 |query T q v _ ih=>exact λhT hw=>.query _ q v (ih hT hw)
theorem TR.cr {T:Nat->Prop}{w:World}{τ:Ty}{x:den τ}{cs:List Value}(h:TR w T τ x cs):CR T w τ x cs:=by
 induction h with
 |flat T τ x cs hs h=>exact J5 hs h
 |nil T e=>exact .sl e [] none 0 (λ_=>[]) (Nat.le_refl _) (Nat.zero_le _) (λi h=>absurd h (Nat.not_lt_zero i)) (λi h=>absurd h (Nat.not_lt_zero i))
 |sl T e xs g c cv Ts hc hm hg hO _ h2 h3 h4 ih=>
  refine .sl e xs _ c cv hc hm (λi hi=>(ih i hi).mono (λb hb=>(h3 i b hi hb).1) λ_ _=>rfl) λi hi=>⟨g,0,rfl,hg,λj v hv=>?_⟩
  rw[Nat.zero_add]
  exact h2 i j v hi hv
 |name T n v _ ih=>exact .name n v ih
 |entry T T1 T2 e va ve _ _ h1 h2 hd ih1 ih2=>exact .entry e va ve (ih1.mono h1 λ_ _=>rfl) (ih2.mono h2 λ_ _=>rfl)
 |lib T l v _ ih=>exact .lib l v ih
 |query T q v _ ih=>exact .query q v ih
theorem Q0C {S:Nat->Prop}{w:World}{τ:Ty}{x:den τ}{cs:List Value}(h:CR S w τ x cs):slT τ=false->∀v∈cs,∀A n c,v≠ .slice A n c:=by
 induction h with
 |sl=>intro hs;cases hs
 |arr n e xs cv hl _ ih=>
  intro hs v hv
  obtain⟨i,hi,hv⟩:=List.mem_flatMap.1 hv
  exact ih i (by rw[hl];simpa using hi) hs v hv
 |name=>intro hs;cases hs
 |entry=>intro hs;cases hs
 |lib=>intro hs;cases hs
 |query=>intro hs;cases hs
 |cur=>intro hs;cases hs
 |_=>intro _ v hv A n c e;subst e;simp at hv
theorem TR.root {T:Nat->Prop}{w:World}{τ:Ty}{x:den τ}{g n c:Nat}(h:TR w T τ x [.slice (some ⟨g,0,none⟩) n c]):T g:=by
 generalize hcs:[Value.slice (some ⟨g,0,none⟩) n c]=cs at h
 induction h with
 |flat T τ x cs hs h=>subst hcs;exact absurd rfl (Q0C h hs _ List.mem_cons_self _ _ _)
 |nil T e=>cases hcs
 |sl T e xs g' c' cv Ts hc hm hg=>cases hcs;exact hg
 |name T n v _=>cases hcs
 |entry=>cases hcs
 |lib T l v _ ih=>exact ih hcs
 |query=>cases hcs
def Q81 (pv:Nat->Value)(w:World)(c:Bool)(b:Nat):Prop:=match c with
 |true=>pvN pv<=b/\OB w b
 |false=>b<pvN pv
def cS (pv:Nat->Value)(S:Nat->Prop)(w:World):Nat->Prop:=λb=>S b/\(pvO pv=true->pvN pv<=b/\OB w b)
theorem Q81.mono {pv:Nat->Value}{w w':World}{c:Bool}{b:Nat}(h:Q81 pv w c b)(e:w'.heap[b]? =w.heap[b]?):Q81 pv w' c b:=by
 cases c with
 |true=>exact⟨h.1,h.2.mono e⟩
 |false=>exact h
theorem cS.mono {pv:Nat->Value}{S S':Nat->Prop}{w w':World}{b:Nat}(h:cS pv S w b)(hS:S b->S' b)(e:w'.heap[b]? =w.heap[b]?):cS pv S' w' b:=⟨hS h.1,λhq=>⟨(h.2 hq).1,(h.2 hq).2.mono e⟩⟩
def gS (pv:Nat->Value)(S:Nat->Prop):Nat->Prop:=λb=>S b/\(pvQ pv=true->b<pvN pv)
def tailV (l:Loc)(len i n:Nat):Value:=match l with
 |.at g cap=>.slice (some ⟨g,if cap=i then 0 else i*n,none⟩) (len-i) (cap-i)
 |.nilrow=>.slice none 0 0
 |.soft _ _=>.slice none 0 0
 |.tree _ _ _=>.slice none 0 0
def pOk:Ty->List Nat->Bool
 |_,[]=>true
 |τ,f::p=>stT τ f&&pOk ((fty τ).getD f .bool) p
inductive PlaceAt (v:World)(cs:List Value):(τ:Ty)->Option Nat->List Nat->(σ:Ty)->Value->Prop
 |root (τ:Ty) (p:List Nat) (σ:Ty) (u:Value) (hp:tyP τ p=some σ) (hq:pOk τ p=true) (hu:cs[Qk τ p]? =some u):PlaceAt v cs τ none p σ u
 |elem (e:Ty) (i:Nat) (p:List Nat) (σ:Ty) (u:Value) (g n c:Nat) (hc:cs=[.slice (some ⟨g,0,none⟩) n c]) (hi:i<n) (hp:tyP e p=some σ) (hq:pOk e p=true) (hu:v.cell? ⟨g,i*nc e+Qk e p,none⟩=some u):PlaceAt v cs (.sl e) (some i) p σ u
theorem CR.un {pv:Nat->Value}{S:Nat->Prop}{w:World}{τ:Ty}{x:den τ}{cs:List Value}(h:CR (cS pv S w) w τ x cs):CR S w τ x cs:=h.mono (λ_ h=>h.1) λ_ _=>rfl
theorem Q5f (l:Loc)(len i n:Nat):(tailV l len i n).oneCell'=true:=by cases l<;>rfl
section
variable (S:Nat->Prop) (w:World) (ρ:Nat->Option Loc) (row:Nat->Option Row) (pv:Nat->Value)
inductive AR:AV->List Value->Prop
 |t (τ:Ty) (x:den τ) (cs:List Value) (h:CR S w τ x cs):AR (.t τ x) cs
 |nil:AR .nil [.slice none 0 0]
 |own (id e:Nat) (τ:Ty) (xs:List (den τ)) (fz app:Bool) (g cap:Nat) (h:row id=some (.flat e τ xs fz app)) (hl:ρ id=some (.at g cap)) :
   AR (.own id) [.slice (some ⟨g,0,none⟩) xs.length cap]
 |ownNil (id e:Nat) (τ:Ty) (fz app:Bool) (h:row id=some (.flat e τ [] fz app)) (hl:ρ id=some .nilrow):AR (.own id) [.slice none 0 0]
 |epB (id:Nat) (τ σ:Ty) (a:AV) (g cap:Nat) (p:List Nat) (h:row id=some (.box τ a)) (hl:ρ id=some (.at g cap)) (hp:tyP τ p=some σ) :
   AR (.ep id none p) [.pointer (some ⟨g,Qk τ p,none⟩)]
 |epF (id e:Nat) (τ σ:Ty) (xs:List (den τ)) (fz app:Bool) (g cap i:Nat) (p:List Nat) (h:row id=some (.flat e τ xs fz app)) (hl:ρ id=some (.at g cap)) (hi:i<xs.length) (hp:tyP τ p=some σ) :
   AR (.ep id (some i) p) [.pointer (some ⟨g,i*nc τ+Qk τ p,none⟩)]
 |tl (id e:Nat) (τ:Ty) (xs:List (den τ)) (fz app:Bool) (l:Loc) (i:Nat) (h:row id=some (.flat e τ xs fz app)) (hl:ρ id=some l) (hi:i<=xs.length) (hm:agT τ=false) :
   AR (.ep id (some i) [Q2r]) [tailV l xs.length i (nc τ)]
 |tp (τ:Ty) (x:den τ) (cs:List Value) (g o:Nat) (h:CR S w τ x cs) (hS:S g) (hc:∀j v,cs[j]? =some v->w.cell? ⟨g,o+j,none⟩=some v) :
   AR (.tp (.t τ x)) [.pointer (some ⟨g,o,none⟩)]
 |agg (τ:Ty) (fs:List AV) (css:List (List Value)) (hl:fs.length=css.length) (h:∀(i:Nat) (a:AV) (cs:List Value),fs[i]? =some a->css[i]? =some cs->AR a cs):AR (.agg τ fs) css.flatten
 |hole (τ:Ty) (cs:List Value) (hl:cs.length=nc τ) (h1:∀v∈cs,v.oneCell'=true):AR (.hole τ) cs
 |tup (vs:List AV) (css:List (List Value)) (hl:vs.length=css.length) (h:∀(i:Nat) (a:AV) (cs:List Value),vs[i]? =some a->css[i]? =some cs->AR a cs):AR (.tup vs) [.tuple (valsOf vs css).toArray]
 |clo (f:Nat) (caps:List AV) (css:List (List Value)) (hl:caps.length=css.length) (h:∀(i:Nat) (a:AV) (cs:List Value),caps[i]? =some a->css[i]? =some cs->AR a cs) :
   AR (.clo f caps) [.func (.func f) #[] (valsOf caps css).toArray]
 |par (i:Nat) (h1:(pv i).oneCell'=true):AR (.par i) [pv i]
 |pc (c:Bool) (τ:Ty) (x:den τ) (cs:List Value) (h:CR (λb=>S b/\Q81 pv w c b) w τ x cs):AR (.pc c τ x) cs
 |ds (id:Nat) (τ:Ty) (x:den τ) (cs:List Value) (r:Row) (T:Nat->Prop) (v:World) (h:row id=some r) (hl:ρ id=some (.soft T v)) (hc:CR T v τ x cs):AR (.ds id τ x) cs
 |dq (id:Nat) (τ:Ty) (x:den τ) (cs:List Value) (r:Row) (T:Nat->Prop) (v:World) (g o:Nat) (h:row id=some r) (hl:ρ id=some (.soft T v)) (hT:T g) (hc:CR T v τ x cs)
   (hv:∀j u,cs[j]? =some u->v.cell? ⟨g,o+j,none⟩=some u):AR (.dq id τ x) [.pointer (some ⟨g,o,none⟩)]
 |tv (id:Nat) (τ:Ty) (b:AV) (cs:List Value) (T:Nat->Prop) (v:World) (h:row id=some (.box τ b)) (hl:ρ id=some (.tree cs T v)) (hc:cs.length=nc τ) (h1:∀u∈cs,u.oneCell'=true):AR (.tv id τ) cs
 |tq (id i:Nat) (p:List Nat) (e σ:Ty) (b:AV) (T:Nat->Prop) (v:World) (g n c:Nat) (h:row id=some (.box (.sl e) b)) (hl:ρ id=some (.tree [.slice (some ⟨g,0,none⟩) n c] T v)) (hi:i<n) (hp:tyP e p=some σ) (hq:pOk e p=true) :
   AR (.tq id i p) [.pointer (some ⟨g,i*nc e+Qk e p,none⟩)]
 |vw (id:Nat) (q:Option Nat) (p:List Nat) (τ σ:Ty) (b:AV) (cs:List Value) (T:Nat->Prop) (v:World) (u:Value) (h:row id=some (.box σ b)) (hl:ρ id=some (.tree cs T v)) (hv:PlaceAt v cs σ q p (.sl τ) u) (h1:u.oneCell'=true):AR (.vw id q p τ) [u]
def VR (a:AV)(v:Value):Prop:=a= .any\/∃cs,AR S w ρ row pv a cs/\v=valOf a cs
end
inductive Occ:AV->Nat->Prop
 |own (id:Nat):Occ (.own id) id
 |ep (id:Nat) (i:Option Nat) (p:List Nat):Occ (.ep id i p) id
 |ds (id:Nat) (τ:Ty) (x:den τ):Occ (.ds id τ x) id
 |dq (id:Nat) (τ:Ty) (x:den τ):Occ (.dq id τ x) id
 |tv (id:Nat) (τ:Ty):Occ (.tv id τ) id
 |tq (id i:Nat) (p:List Nat):Occ (.tq id i p) id
 |vw (id:Nat) (q:Option Nat) (p:List Nat) (τ:Ty):Occ (.vw id q p τ) id
 |agg (τ:Ty) (fs:List AV) (i:Nat) (a:AV) (id:Nat) (hi:fs[i]? =some a) (h:Occ a id):Occ (.agg τ fs) id
 |tup (fs:List AV) (i:Nat) (a:AV) (id:Nat) (hi:fs[i]? =some a) (h:Occ a id):Occ (.tup fs) id
 |clo (f:Nat) (fs:List AV) (i:Nat) (a:AV) (id:Nat) (hi:fs[i]? =some a) (h:Occ a id):Occ (.clo f fs) id
theorem QS {f:AV->Bool}:∀{l:List AV},JL f l=false->∀{i:Nat} {a:AV},l[i]? =some a->f a=false
 |[],_,i,a,hi=>by simp at hi
 |b::l,h,0,a,hi=>by
  simp only[JL,Bool.or_eq_false_iff]at h
  simp only[List.getElem?_cons_zero,Option.some.injEq]at hi
  exact hi▸h.1
 |b::l,h,i+1,a,hi=>by
  simp only[JL,Bool.or_eq_false_iff]at h
  exact QS h.2 (by simpa using hi)
theorem JM {lo hi id:Nat}(h:(Nat.ble lo id&&Nat.blt id hi)=false):¬(lo<=id/\id<hi):=by
 rintro⟨h1,h2⟩
 rw[Bool.and_eq_false_iff]at h
 rcases h with h|h
 ·rw[Nat.ble_eq_true_of_le h1]at h;cases h
 ·have:Nat.blt id hi=true:=Nat.ble_eq_true_of_le h2
  rw[this]at h;cases h
theorem Yx {lo hi:Nat}:∀{n:Nat} {a:AV},YY lo hi n a=false->∀{id:Nat},Occ a id->¬(lo<=id/\id<hi)
 |0,a,h,_,_=>by simp[YY]at h
 |n+1,a,h,id,ho=>by
  cases ho with
  |own=>exact JM h
  |ep=>exact JM h
  |ds=>exact JM h
  |dq=>exact JM h
  |tv=>exact JM h
  |tq=>exact JM h
  |vw=>exact JM h
  |agg τ fs i b _ hi hb=>exact Yx (QS (f:=YY lo _ n) h hi) hb
  |tup fs i b _ hi hb=>exact Yx (QS (f:=YY lo _ n) h hi) hb
  |clo f fs i b _ hi hb=>exact Yx (QS (f:=YY lo _ n) h hi) hb
inductive Same:Row->Row->Prop
 |flat (e τ xs fz app e' ys fz' app') (h:xs.length=ys.length):Same (.flat e τ xs fz app) (.flat e' τ ys fz' app')
 |box (τ a b):Same (.box τ a) (.box τ b)
theorem Same.refl (r:Row):Same r r:=by
 cases r with
 |flat e τ xs fz app=>exact .flat _ _ _ _ _ _ _ _ _ rfl
 |box τ a=>exact .box _ _ _
section
variable {S S':Nat->Prop} {w w':World} {ρ ρ':Nat->Option Loc} {row row':Nat->Option Row} {pv:Nat->Value}
theorem AR.ext {P:Nat->Prop}(hS:∀b,S b->S' b)(hw:∀b,S b->w'.heap[b]? =w.heap[b]?)
  (hk:∀id l r,P id->ρ id=some l->row id=some r->ρ' id=some l/\∃r',row' id=some r'/\Same r r') {a:AV} {cs:List Value} (h:AR S w ρ row pv a cs) :
  (∀id,Occ a id->P id)->AR S' w' ρ' row' pv a cs:=by
 induction h with
 |t τ x cs h=>exact λ_=>.t τ x cs (h.mono hS hw)
 |nil=>exact λ_=>.nil
 |own id e τ xs fz app g cap h hl=>
  intro hP
  obtain⟨h1,r',h2,h3⟩:=hk id _ _ (hP id (.own id)) hl h
  cases h3 with
  |flat _ _ _ _ _ e' ys fz' app' hlen=>
   rw[hlen]
   exact .own id e' τ ys fz' app' g cap h2 h1
 |ownNil id e τ fz app h hl=>
  intro hP
  obtain⟨h1,r',h2,h3⟩:=hk id _ _ (hP id (.own id)) hl h
  cases h3 with
  |flat _ _ _ _ _ e' ys fz' app' hlen=>
   have:ys=[]:=List.eq_nil_of_length_eq_zero (by simpa using hlen.symm)
   subst this
   exact .ownNil id e' τ fz' app' h2 h1
 |epB id τ σ a g cap p h hl hp=>
  intro hP
  obtain⟨h1,r',h2,h3⟩:=hk id _ _ (hP id (.ep id none p)) hl h
  cases h3 with
  |box _ _ b=>exact .epB id τ σ b g cap p h2 h1 hp
 |epF id e τ σ xs fz app g cap i p h hl hi hp=>
  intro hP
  obtain⟨h1,r',h2,h3⟩:=hk id _ _ (hP id (.ep id (some i) p)) hl h
  cases h3 with
  |flat _ _ _ _ _ e' ys fz' app' hlen=>exact .epF id e' τ σ ys fz' app' g cap i p h2 h1 (by rw[<-hlen];exact hi) hp
 |tl id e τ xs fz app l i h hl hi hm=>
  intro hP
  obtain⟨h1,r',h2,h3⟩:=hk id _ _ (hP id (.ep id (some i) [Q2r])) hl h
  cases h3 with
  |flat _ _ _ _ _ e' ys fz' app' hlen=>rw[hlen]at hi ⊢;exact .tl id e' τ ys fz' app' l i h2 h1 hi hm
 |tp τ x cs g o h hS' hc=>
  intro _
  exact .tp τ x cs g o (h.mono hS hw) (hS g hS') λj v hv=>(World.cell?_of_block (w:=w) (a:=⟨g,_,none⟩) (hw g hS')).trans (hc j v hv)
 |agg τ fs css hl _ ih=>exact λhP=>.agg τ fs css hl λi a cs ha hcs=>ih i a cs ha hcs λid ho=>hP id (.agg τ fs i a id ha ho)
 |hole τ cs hl h1=>exact λ_=>.hole τ cs hl h1
 |tup vs css hl _ ih=>exact λhP=>.tup vs css hl λi a cs ha hcs=>ih i a cs ha hcs λid ho=>hP id (.tup vs i a id ha ho)
 |clo f caps css hl _ ih=>exact λhP=>.clo f caps css hl λi a cs ha hcs=>ih i a cs ha hcs λid ho=>hP id (.clo f caps i a id ha ho)
 |par i h1=>exact λ_=>.par i h1
 |pc c τ x cs h=>exact λ_=>.pc c τ x cs (h.mono (λb hb=>⟨hS b hb.1,hb.2.mono (hw b hb.1)⟩) λb hb=>hw b hb.1)
 |ds id τ x cs r T v h hl hc=>
  intro hP
  obtain⟨h1,r',h2,_⟩:=hk id _ _ (hP id (.ds id τ x)) hl h
  exact .ds id τ x cs r' T v h2 h1 hc
 |dq id τ x cs r T v g o h hl hT hc hv=>
  intro hP
  obtain⟨h1,r',h2,_⟩:=hk id _ _ (hP id (.dq id τ x)) hl h
  exact .dq id τ x cs r' T v g o h2 h1 hT hc hv
 |tv id τ b cs T v h hl hc h1=>
  intro hP
  obtain⟨h2,r',h3,h4⟩:=hk id _ _ (hP id (.tv id τ)) hl h
  cases h4
  exact .tv id τ _ cs T v h3 h2 hc h1
 |tq id i p e σ b T v g n c h hl hi hp hq=>
  intro hP
  obtain⟨h2,r',h3,h4⟩:=hk id _ _ (hP id (.tq id i p)) hl h
  cases h4
  exact .tq id i p e σ _ T v g n c h3 h2 hi hp hq
 |vw id q p τ σ b cs T v u h hl hv h1=>
  intro hP
  obtain⟨h2,r',h3,h4⟩:=hk id _ _ (hP id (.vw id q p τ)) hl h
  cases h4
  exact .vw id q p τ σ _ cs T v u h3 h2 hv h1
theorem VR.ext {P:Nat->Prop}(hS:∀b,S b->S' b)(hw:∀b,S b->w'.heap[b]? =w.heap[b]?)
  (hk:∀id l r,P id->ρ id=some l->row id=some r->ρ' id=some l/\∃r',row' id=some r'/\Same r r') {a:AV} {v:Value} (h:VR S w ρ row pv a v) (hP:∀id,Occ a id->P id):VR S' w' ρ' row' pv a v:=by
 rcases h with h|⟨cs,h,e⟩
 ·exact .inl h
 ·exact .inr ⟨cs,h.ext hS hw hk hP,e⟩
end
end Go.Gx
end
section
/- Fields,paths: what they are in memory. -/
namespace Go.Gx
open Go.RowKit
inductive Fit:Ty->AV->Prop
 |t (τ:Ty) (x:den τ):Fit τ (.t τ x)
 |nil (e:Ty):Fit (.sl e) .nil
 |own (e:Ty) (id:Nat):Fit (.sl e) (.own id)
 |ep (τ:Ty) (id:Nat) (i:Option Nat) (p:List Nat) (h0:agT τ=false) (h1:nc τ=1):Fit τ (.ep id i p)
 |tp (τ:Ty) (a:AV) (h0:agT τ=false) (h1:nc τ=1):Fit τ (.tp a)
 |clo (τ:Ty) (f:Nat) (l:List AV) (h0:agT τ=false) (h1:nc τ=1):Fit τ (.clo f l)
 |par (τ:Ty) (i:Nat) (h0:agT τ=false) (h1:nc τ=1):Fit τ (.par i)
 |agg (τ:Ty) (fs:List AV) (hg:agT τ=true) (hl:fs.length=(fty τ).length) (h:∀(i:Nat) (σ:Ty) (a:AV),(fty τ)[i]? =some σ->fs[i]? =some a->Fit σ a):Fit τ (.agg τ fs)
 |hole (τ:Ty):Fit τ (.hole τ)
 |pc (c:Bool) (τ:Ty) (x:den τ):Fit τ (.pc c τ x)
 |ds (id:Nat) (τ:Ty) (x:den τ):Fit τ (.ds id τ x)
 |tv (id:Nat) (τ:Ty):Fit τ (.tv id τ)
 |vw (id:Nat) (q:Option Nat) (p:List Nat) (τ:Ty):Fit (.sl τ) (.vw id q p τ)
 |tq (τ:Ty) (id i:Nat) (p:List Nat) (h0:agT τ=false) (h1:nc τ=1):Fit τ (.tq id i p)
theorem Q0R {f:Ty->AV->Bool}:∀{l:List Ty} {fs:List AV},Yl.all2 f l fs=true->fs.length=l.length/\∀(i:Nat) (σ:Ty) (a:AV),l[i]? =some σ->fs[i]? =some a->f σ a=true
 |[],[],_=>⟨rfl,λi σ a h=>by simp at h⟩
 |[],_::_,h=>by simp[Yl.all2]at h
 |_::_,[],h=>by simp[Yl.all2]at h
 |σ::l,a::fs,h=>by
  simp only[Yl.all2,Bool.and_eq_true]at h
  obtain⟨h1,h2⟩:=Q0R h.2
  refine⟨by simp[h1],λi=>?_⟩
  cases i with
  |zero=>intro ρ b hρ hb;simp only[List.getElem?_cons_zero,Option.some.injEq]at hρ hb;subst hρ;subst hb;exact h.1
  |succ i=>intro ρ b hρ hb;exact h2 i ρ b (by simpa using hρ) (by simpa using hb)
theorem Q2x:∀{n:Nat} {τ:Ty} {a:AV},Yl n τ a=true->Fit τ a
 |0,_,_,h=>by simp[Yl]at h
 |n+1,τ,a,h=>by
  cases a with
  |t σ x=>
   simp only[Yl]at h
   split at h
   ·rename_i e _;subst e;exact .t _ x
   ·cases h
  |nil=>cases τ<;>simp[Yl]at h;exact .nil _
  |own id=>cases τ<;>simp[Yl]at h;exact .own _ id
  |ep id i p=>simp only[Yl,Bool.and_eq_true,Bool.not_eq_true']at h;exact .ep τ id i p h.1 (Nat.eq_of_beq_eq_true h.2)
  |tp a=>simp only[Yl,Bool.and_eq_true,Bool.not_eq_true']at h;exact .tp τ a h.1 (Nat.eq_of_beq_eq_true h.2)
  |clo f l=>simp only[Yl,Bool.and_eq_true,Bool.not_eq_true']at h;exact .clo τ f l h.1 (Nat.eq_of_beq_eq_true h.2)
  |par i=>simp only[Yl,Bool.and_eq_true,Bool.not_eq_true']at h;exact .par τ i h.1 (Nat.eq_of_beq_eq_true h.2)
  |bx _ _|kep _ _|mov _ _ _|dq _ _ _|tr _ _=>simp[Yl]at h
  |tv id σ=>
   simp only[Yl]at h
   split at h
   ·rename_i e _;subst e;exact .tv id _
   ·cases h
  |vw id q p σ=>
   simp only[Yl]at h
   split at h
   ·rename_i e _;subst e;exact .vw id q p _
   ·cases h
  |tq id i p=>simp only[Yl,Bool.and_eq_true,Bool.not_eq_true']at h;exact .tq τ id i p h.1 (Nat.eq_of_beq_eq_true h.2)
  |agg σ fs=>
   simp only[Yl]at h
   split at h
   ·rename_i e _;subst e
    simp only[Bool.and_eq_true]at h
    obtain⟨h1,h2⟩:=Q0R h.2
    exact .agg _ fs h.1 h1 λi ρ b hρ hb=>Q2x (h2 i ρ b hρ hb)
   ·cases h
  |hole σ=>
   simp only[Yl]at h
   split at h
   ·rename_i e _;subst e;exact .hole _
   ·cases h
  |pc c σ x=>
   simp only[Yl]at h
   split at h
   ·rename_i e _;subst e;exact .pc c _ x
   ·cases h
  |ds id σ x=>
   simp only[Yl]at h
   split at h
   ·rename_i e _;subst e;exact .ds id _ x
   ·cases h
  |tup _=>simp[Yl]at h
  |fr _ _ _=>simp[Yl]at h
  |any=>simp[Yl]at h
theorem KB {τ:Ty}{a:AV}(h:fit τ a=true):Fit τ a:=Q2x h
def GB:List Ty->Nat
 |[]=>0
 |σ::l=>nc σ+GB l
theorem JV (n:Nat)(e:Ty):GB (List.replicate n e)=n*nc e:=by
 induction n with
 |zero=>simp[GB]
 |succ n ih=>rw[List.replicate_succ,GB,ih,Nat.succ_mul];omega
theorem Q8M {τ:Ty}(h:agT τ=true):nc τ=GB (fty τ):=by
 cases τ<;>simp[agT]at h<;>first|rfl|(simp only[fty,JV];rfl)
theorem seg:∀{l:List Ty} {css:List (List Value)},css.length=l.length->(∀(i:Nat) (σ:Ty) (c:List Value),l[i]? =some σ->css[i]? =some c->c.length=nc σ)->
  css.flatten.length=GB l/\∀(i:Nat) (c:List Value) (σ:Ty),css[i]? =some c->l[i]? =some σ->(css.flatten.drop (QB l i)).take (nc σ)=c/\QB l i+nc σ<=css.flatten.length
 |[],[],_,_=>⟨rfl,λi c σ h=>by simp at h⟩
 |[],_::_,h,_=>by simp at h
 |_::_,[],h,_=>by simp at h
 |σ::l,c::css,h,hc=>by
  have hl:css.length=l.length:=by simpa using h
  have h0:c.length=nc σ:=hc 0 σ c rfl rfl
  obtain⟨h1,h2⟩:=seg hl (λi ρ d hρ hd=>hc (i+1) ρ d (by simpa using hρ) (by simpa using hd))
  refine⟨by simp[GB,h0,h1],λi=>?_⟩
  cases i with
  |zero=>
   intro d ρ hd hρ
   simp only[List.getElem?_cons_zero,Option.some.injEq]at hd hρ
   subst hd;subst hρ
   refine⟨?_,by simp[QB,h0]⟩
   simp only[QB,List.drop_zero,List.flatten_cons]
   rw[<-h0,List.take_left]
  |succ i=>
   intro d ρ hd hρ
   obtain⟨h3,h4⟩:=h2 i d ρ (by simpa using hd) (by simpa using hρ)
   refine⟨?_,by simp only[QB,List.flatten_cons,List.length_append];omega⟩
   simp only[QB,List.flatten_cons]
   rw[<-h0,List.drop_append,List.drop_eq_nil_of_le (by omega)]
   simpa using h3
section
variable {S:Nat->Prop} {w:World} {ρ:Nat->Option Loc} {row:Nat->Option Row} {pv:Nat->Value}
theorem AR.len {τ:Ty}{a:AV}(hf:Fit τ a):∀{cs:List Value},AR S w ρ row pv a cs->cs.length=nc τ:=by
 induction hf with
 |t τ x=>intro cs h;cases h with|t _ _ _ h=>exact h.len
 |nil e=>intro cs h;cases h;rfl
 |own e id=>intro cs h;cases h<;>rfl
 |ep τ id i p _ h1=>intro cs h;rw[h1];cases h<;>rfl
 |tp τ a _ h1=>intro cs h;rw[h1];cases h;rfl
 |clo τ f l _ h1=>intro cs h;rw[h1];cases h;rfl
 |par τ i _ h1=>intro cs h;rw[h1];cases h;rfl
 |agg τ fs hg hl _ ih=>
  intro cs h
  cases h with
  |agg _ _ css hl2 h=>
   rw[Q8M hg]
   refine(seg (by omega) λi σ c hσ hc=>?_).1
   have hi:i<fs.length:=by rw[hl2];exact(List.getElem?_eq_some_iff.1 hc).1
   exact ih i σ fs[i] hσ (List.getElem?_eq_getElem hi) (h i fs[i] c (List.getElem?_eq_getElem hi) hc)
 |hole τ=>intro cs h;cases h with|hole _ _ hl _=>exact hl
 |pc c τ x=>intro cs h;cases h with|pc _ _ _ _ h=>exact h.len
 |ds id τ x=>intro cs h;cases h with|ds _ _ _ _ _ _ _ _ _ h=>exact h.len
 |tv id τ=>intro cs h;cases h;assumption
 |vw id q p τ=>intro cs h;cases h;rfl
 |tq τ id i p _ h1=>intro cs h;rw[h1];cases h;rfl
theorem AR.ones {τ:Ty}{a:AV}(hf:Fit τ a):∀{cs:List Value},AR S w ρ row pv a cs->∀v∈cs,v.oneCell'=true:=by
 induction hf with
 |t τ x=>intro cs h;cases h with|t _ _ _ h=>exact h.one
 |nil e=>intro cs h;cases h;intro v hv;simp only[List.mem_singleton]at hv;subst hv;rfl
 |own e id=>intro cs h;cases h<;>(intro v hv;simp only[List.mem_singleton]at hv;subst hv;rfl)
 |ep τ id i p _ h1=>intro cs h;cases h<;>(intro v hv;simp only[List.mem_singleton]at hv;subst hv;first|rfl|exact Q5f _ _ _ _)
 |tp τ a _ h1=>intro cs h;cases h;intro v hv;simp only[List.mem_singleton]at hv;subst hv;rfl
 |clo τ f l _ h1=>intro cs h;cases h;intro v hv;simp only[List.mem_singleton]at hv;subst hv;rfl
 |par τ i _ h1=>intro cs h;cases h with|par _ h=>intro v hv;simp only[List.mem_singleton]at hv;subst hv;exact h
 |agg τ fs hg hl _ ih=>
  intro cs h
  cases h with
  |agg _ _ css hl2 h=>
   intro v hv
   obtain⟨c,hc,hvc⟩:=List.mem_flatten.1 hv
   obtain⟨i,hi,rfl⟩:=List.getElem_of_mem hc
   have hi2:i<fs.length:=by omega
   have hi3:i<(fty τ).length:=by omega
   exact ih i (fty τ)[i] fs[i] (List.getElem?_eq_getElem hi3) (List.getElem?_eq_getElem hi2) (h i fs[i] css[i] (List.getElem?_eq_getElem hi2) (List.getElem?_eq_getElem hi)) v hvc
 |hole τ=>intro cs h;cases h with|hole _ _ _ h1=>exact h1
 |pc c τ x=>intro cs h;cases h with|pc _ _ _ _ h=>exact h.one
 |ds id τ x=>intro cs h;cases h with|ds _ _ _ _ _ _ _ _ _ h=>exact h.one
 |tv id τ=>intro cs h;cases h;assumption
 |vw id q p τ=>intro cs h;cases h;intro v hv;simp only[List.mem_singleton]at hv;subst hv;assumption
 |tq τ id i p _ h1=>intro cs h;cases h;intro v hv;simp only[List.mem_singleton]at hv;subst hv;rfl
theorem YG {k:IntKind}{n:Int}{cs:List Value}(h:CR S w (.int k) n cs):cs=[.int k n]:=by cases h;rfl
theorem Q1H {b:Bool}{cs:List Value}(h:CR S w .bool b cs):cs=[.bool b]:=by cases h;rfl
theorem JP {s:ByteArray}{cs:List Value}(h:CR S w .str s cs):cs=[.string s]:=by cases h;rfl
theorem UV {e:Ty}{xs:List (den e)}{cs:List Value}(h:CR S w (.sl e) xs cs):∃v,cs=[v]:=by cases h;exact⟨_,rfl⟩
theorem Q1I {d:Date}{cs:List Value}(h:CR S w .date d cs):cs=[.int .i64 d.y,.int .i64 d.m,.int .i64 d.d,.bool d.c]:=by cases h;rfl
theorem Q4y {a:Abbr}{cs:List Value}(h:CR S w .abbr a cs):cs=[.string a.word,.string a.short]:=by cases h;rfl
theorem Qq {τ:Ty}{a:AV}{x:den τ}(h:asT τ a=some x){cs:List Value}(ha:AR S w ρ row pv a cs):CR S w τ x cs:=by
 cases a with
 |t σ y=>
  simp only[asT]at h
  split at h
  ·rename_i e;subst e
   simp only[Option.some.injEq]at h
   cases ha with|t _ _ _ h2=>exact h▸h2
  ·cases h
 |nil=>
  cases τ<;>simp[asT]at h
  subst h
  cases ha
  exact CR.sl _ [] none 0 (λ_=>[]) (by simp) (Nat.zero_le _) (λi hi=>by simp at hi) (λi hi=>by simp at hi)
 |_=>simp[asT]at h
theorem U9 {τ:Ty}{a:AV}{x:den τ}(h:asT τ a=some x):a= .t τ x\/a= .nil:=by
 cases a with
 |t σ y=>
  simp only[asT]at h
  split at h
  ·rename_i e;subst e;simp only[Option.some.injEq]at h;exact .inl (h▸rfl)
  ·cases h
 |nil=>exact .inr rfl
 |_=>simp[asT]at h
theorem AR.agg_parts {τ:Ty}{fs:List AV}{cs:List Value}(h:AR S w ρ row pv (.agg τ fs) cs):∃css:List (List Value),cs=css.flatten/\fs.length=css.length/\∀(i:Nat) (a:AV) (c:List Value),fs[i]? =some a->css[i]? =some c->AR S w ρ row pv a c:=by
 cases h with|agg _ _ css hl h=>exact⟨css,rfl,hl,h⟩
theorem YH {τ:Ty}(hg:agT τ=true){x:den τ}{cs:List Value}(h:CR S w τ x cs):AR S w ρ row pv (.agg τ (Q4 τ x)) cs/\Fit τ (.agg τ (Q4 τ x)):=by
 cases h with
 |int _ _|bool _|str _|sl _ _ _ _ _ _ _ _ _=>simp[agT]at hg
 |arr n e xs cv hl h1=>
  constructor
  ·have e1:(List.range n).flatMap cv=((List.range n).map cv).flatten:=by rw[List.flatMap_def]
   rw[e1]
   refine .agg _ _ _ (by simp[Q4,hl]) λi a c ha hc=>?_
   simp only[Q4,List.getElem?_map,Option.map_eq_some_iff]at ha hc
   obtain⟨y,hy,rfl⟩:=ha
   obtain⟨j,hj,rfl⟩:=hc
   have hi:i<xs.length:=(List.getElem?_eq_some_iff.1 hy).1
   have hjn:j=i:=by
    have:=List.getElem?_range (n:=n) (i:=i) (by omega)
    rw[this]at hj
    simpa using hj.symm
   subst hjn
   have:xs[j]=y:=by rw[List.getElem?_eq_getElem hi]at hy;simpa using hy
   exact .t e y _ (this▸h1 j hi)
  ·refine .agg _ _ hg (by simp[Q4,fty,hl]) λi σ a hσ ha=>?_
   simp only[Q4,List.getElem?_map,Option.map_eq_some_iff,fty]at ha hσ
   obtain⟨y,hy,rfl⟩:=ha
   have:σ=e:=by
    rw[List.getElem?_replicate]at hσ
    split at hσ
    ·simpa using hσ.symm
    ·cases hσ
   subst this
   exact .t _ y
 |date d=>
  constructor
  ·refine .agg .date _ [[_],[_],[_],[_]] rfl λi a c ha hc=>?_
   match i with
   |0|1|2=>simp[Q4]at ha hc;subst ha;subst hc;exact .t _ _ _ (.int _ _)
   |3=>simp[Q4]at ha hc;subst ha;subst hc;exact .t _ _ _ (.bool _)
   |i+4=>simp[Q4]at ha
  ·refine .agg _ _ hg rfl λi σ a hσ ha=>?_
   match i with
   |0|1|2|3=>simp[Q4,fty]at ha hσ;subst ha;subst hσ;exact .t _ _
   |i+4=>simp[Q4]at ha
 |name n v h=>
  constructor
  ·refine .agg .name _ [[v],[_],[_],[_]] rfl λi a c ha hc=>?_
   match i with
   |0=>simp[Q4]at ha hc;subst ha;subst hc;exact .t _ _ _ h
   |1|2|3=>simp[Q4]at ha hc;subst ha;subst hc;exact .t _ _ _ (.str _)
   |i+4=>simp[Q4]at ha
  ·refine .agg _ _ hg rfl λi σ a hσ ha=>?_
   match i with
   |0|1|2|3=>simp[Q4,fty]at ha hσ;subst ha;subst hσ;exact .t _ _
   |i+4=>simp[Q4]at ha
 |entry e va ve h1 h2=>
  constructor
  ·refine .agg .entry _ [[_],[_],[va],[ve],[_],[_],[_],[_,_,_,_],[_],[_],[_]] rfl λi a c ha hc=>?_
   match i with
   |0|4|5|6|9|10=>simp[Q4]at ha hc;subst ha;subst hc;exact .t _ _ _ (.str _)
   |1|8=>simp[Q4]at ha hc;subst ha;subst hc;exact .t _ _ _ (.int _ _)
   |2=>simp[Q4]at ha hc;subst ha;subst hc;exact .t _ _ _ h1
   |3=>simp[Q4]at ha hc;subst ha;subst hc;exact .t _ _ _ h2
   |7=>simp[Q4]at ha hc;subst ha;subst hc;exact .t _ _ _ (.date _)
   |i+11=>simp[Q4]at ha
  ·refine .agg _ _ hg rfl λi σ a hσ ha=>?_
   match i with
   |0|1|2|3|4|5|6|7|8|9|10=>simp[Q4,fty]at ha hσ;subst ha;subst hσ;exact .t _ _
   |i+11=>simp[Q4]at ha
 |lib l v h=>
  constructor
  ·refine .agg .lib _ [[v]] rfl λi a c ha hc=>?_
   match i with
   |0=>simp[Q4]at ha hc;subst ha;subst hc;exact .t _ _ _ h
   |i+1=>simp[Q4]at ha
  ·refine .agg _ _ hg rfl λi σ a hσ ha=>?_
   match i with
   |0=>simp[Q4,fty]at ha hσ;subst ha;subst hσ;exact .t _ _
   |i+1=>simp[Q4]at ha
 |abbr b=>
  constructor
  ·refine .agg .abbr _ [[_],[_]] rfl λi a c ha hc=>?_
   match i with
   |0|1=>simp[Q4]at ha hc;subst ha;subst hc;exact .t _ _ _ (.str _)
   |i+2=>simp[Q4]at ha
  ·refine .agg _ _ hg rfl λi σ a hσ ha=>?_
   match i with
   |0|1=>simp[Q4,fty]at ha hσ;subst ha;subst hσ;exact .t _ _
   |i+2=>simp[Q4]at ha
 |cur q v h=>
  constructor
  ·refine .agg .cur _ [[v],[_],[_]] rfl λi a c ha hc=>?_
   match i with
   |0=>simp[Q4]at ha hc;subst ha;subst hc;exact .t _ _ _ h
   |1|2=>simp[Q4]at ha hc;subst ha;subst hc;exact .t _ _ _ (.int _ _)
   |i+3=>simp[Q4]at ha
  ·refine .agg _ _ hg rfl λi σ a hσ ha=>?_
   match i with
   |0|1|2=>simp[Q4,fty]at ha hσ;subst ha;subst hσ;exact .t _ _
   |i+3=>simp[Q4]at ha
 |query q v h=>
  constructor
  ·refine .agg .query _ [[_],[_],[_],[v]] rfl λi a c ha hc=>?_
   match i with
   |0=>simp[Q4]at ha hc;subst ha;subst hc;exact .t _ _ _ (.int _ _)
   |1|2=>simp[Q4]at ha hc;subst ha;subst hc;exact .t _ _ _ (.str _)
   |3=>simp[Q4]at ha hc;subst ha;subst hc;exact .t _ _ _ h
   |i+4=>simp[Q4]at ha
  ·refine .agg _ _ hg rfl λi σ a hσ ha=>?_
   match i with
   |0|1|2|3=>simp[Q4,fty]at ha hσ;subst ha;subst hσ;exact .t _ _
   |i+4=>simp[Q4]at ha
end
end Go.Gx
end
section
/- Structs put together;paths read and written. -/
namespace Go.Gx
open Go.RowKit
section
variable {S:Nat->Prop} {w:World} {ρ:Nat->Option Loc} {row:Nat->Option Row} {pv:Nat->Value}
def ARs (S:Nat->Prop)(w:World)(ρ:Nat->Option Loc)(row:Nat->Option Row)(pv:Nat->Value)(fs:List AV)(cs:List Value):Prop:=
 ∃css:List (List Value),cs=css.flatten/\fs.length=css.length/\∀(i:Nat) (a:AV) (c:List Value),fs[i]? =some a->css[i]? =some c->AR S w ρ row pv a c
theorem ARs.cons {a:AV}{fs:List AV}{cs:List Value}(h:ARs S w ρ row pv (a::fs) cs):∃c cs',cs=c++cs'/\AR S w ρ row pv a c/\ARs S w ρ row pv fs cs':=by
 obtain⟨css,e,hl,h⟩:=h
 cases css with
 |nil=>simp at hl
 |cons c css=>exact⟨c,css.flatten,e,h 0 a c rfl rfl,css,rfl,by simpa using hl,λi b d hb hd=>h (i+1) b d (by simpa using hb) (by simpa using hd)⟩
theorem ARs.nil {cs:List Value}(h:ARs S w ρ row pv [] cs):cs=[]:=by
 obtain⟨css,e,hl,_⟩:=h
 have:css=[]:=List.eq_nil_of_length_eq_zero (by simpa using hl.symm)
 subst this
 exact e
theorem Q4z {e:Ty}:∀{fs:List AV} {xs:List (den e)} {cs:List Value},Q64 e fs=some xs->ARs S w ρ row pv fs cs->xs.length=fs.length/\∃cv:Nat->List Value,(∀i (h:i<xs.length),CR S w e xs[i] (cv i))/\cs=(List.range xs.length).flatMap cv
 |[],xs,cs,h,ha=>by
  simp only[Q64,Option.some.injEq]at h
  subst h
  rw[ha.nil]
  exact⟨rfl,λ_=>[],λi hi=>by simp at hi,by simp⟩
 |a::fs,xs,cs,h,ha=>by
  simp only[Q64]at h
  split at h
  ·rename_i x hx
   split at h
   ·rename_i ys hys
    simp only[Option.some.injEq]at h
    subst h
    obtain⟨c,cs',rfl,h1,h2⟩:=ha.cons
    obtain⟨hl,cv,h3,h4⟩:=Q4z hys h2
    refine⟨by simp[hl],λi=>if i=0 then c else cv (i-1),λi hi=>?_,?_⟩
    ·cases i with
     |zero=>simpa using Qq hx h1
     |succ i=>simpa using h3 i (by simpa using hi)
    ·rw[h4,List.length_cons,List.range_succ_eq_map,List.flatMap_cons,List.flatMap_map]
     simp
   ·cases h
  ·cases h
theorem YI {τ:Ty}{fs:List AV}{a:AV}{cs:List Value}(h:QA τ fs=some a)(ha:ARs S w ρ row pv fs cs):∃x,a= .t τ x/\CR S w τ x cs:=by
 cases τ with
 |int _|bool|str|sl _=>simp[QA]at h
 |arr n e=>
  simp only[QA]at h
  split at h
  ·rename_i xs hxs
   split at h
   ·rename_i hn
    simp only[Option.some.injEq]at h
    obtain⟨_,cv,h1,h2⟩:=Q4z hxs ha
    refine⟨xs,h.symm,?_⟩
    rw[h2,hn]
    exact .arr n e xs cv hn h1
   ·cases h
  ·cases h
 |date=>
  match fs,h with
  |[a,b,c,d],h=>
   simp only[QA]at h
   split at h
   ·rename_i a' b' c' d' e1 e2 e3 e4
    simp only[Option.some.injEq]at h
    obtain⟨c1,r1,rfl,h1,ha⟩:=ha.cons
    obtain⟨c2,r2,rfl,h2,ha⟩:=ha.cons
    obtain⟨c3,r3,rfl,h3,ha⟩:=ha.cons
    obtain⟨c4,r4,rfl,h4,ha⟩:=ha.cons
    rw[ha.nil,YG (Qq e1 h1),YG (Qq e2 h2),YG (Qq e3 h3),Q1H (Qq e4 h4)]
    exact⟨_,h.symm,.date ⟨a',b',c',d'⟩⟩
   ·cases h
 |name=>
  match fs,h with
  |[a,b,c,d],h=>
   simp only[QA]at h
   split at h
   ·rename_i a' b' c' d' e1 e2 e3 e4
    simp only[Option.some.injEq]at h
    obtain⟨c1,r1,rfl,h1,ha⟩:=ha.cons
    obtain⟨c2,r2,rfl,h2,ha⟩:=ha.cons
    obtain⟨c3,r3,rfl,h3,ha⟩:=ha.cons
    obtain⟨c4,r4,rfl,h4,ha⟩:=ha.cons
    have hn:=ha.nil
    subst hn
    have g1:=Qq e1 h1
    obtain⟨v,rfl⟩:=UV g1
    rw[JP (Qq e2 h2),JP (Qq e3 h3),JP (Qq e4 h4)]
    exact⟨_,h.symm,.name ⟨a',b',c',d'⟩ v g1⟩
   ·cases h
 |entry=>
  match fs,h with
  |[a,b,c,d,e,f,g,i,j,k,l],h=>
   simp only[QA]at h
   split at h
   ·rename_i a' b' c' d' e' f' e1 e2 e3 e4 e5 e6
    split at h
    ·rename_i g' i' j' k' l' e7 e8 e9 e10 e11
     simp only[Option.some.injEq]at h
     obtain⟨c1,r1,rfl,h1,ha⟩:=ha.cons
     obtain⟨c2,r2,rfl,h2,ha⟩:=ha.cons
     obtain⟨c3,r3,rfl,h3,ha⟩:=ha.cons
     obtain⟨c4,r4,rfl,h4,ha⟩:=ha.cons
     obtain⟨c5,r5,rfl,h5,ha⟩:=ha.cons
     obtain⟨c6,r6,rfl,h6,ha⟩:=ha.cons
     obtain⟨c7,r7,rfl,h7,ha⟩:=ha.cons
     obtain⟨c8,r8,rfl,h8,ha⟩:=ha.cons
     obtain⟨c9,r9,rfl,h9,ha⟩:=ha.cons
     obtain⟨c10,r10,rfl,h10,ha⟩:=ha.cons
     obtain⟨c11,r11,rfl,h11,ha⟩:=ha.cons
     have hn:=ha.nil
     subst hn
     have g3:=Qq e3 h3
     obtain⟨va,rfl⟩:=UV g3
     have g4:=Qq e4 h4
     obtain⟨ve,rfl⟩:=UV g4
     rw[JP (Qq e1 h1),YG (Qq e2 h2),JP (Qq e5 h5),JP (Qq e6 h6),JP (Qq e7 h7),Q1I (Qq e8 h8),YG (Qq e9 h9),JP (Qq e10 h10),JP (Qq e11 h11)]
     exact⟨_,h.symm,.entry ⟨a',b',c',d',e',f',g',i',j',k',l'⟩ va ve g3 g4⟩
    ·cases h
   ·cases h
 |lib=>
  match fs,h with
  |[a],h=>
   simp only[QA]at h
   split at h
   ·rename_i a' e1
    simp only[Option.some.injEq]at h
    obtain⟨c1,r1,rfl,h1,ha⟩:=ha.cons
    have hn:=ha.nil
    subst hn
    have g1:=Qq e1 h1
    obtain⟨v,rfl⟩:=UV g1
    exact⟨_,h.symm,.lib ⟨a'⟩ v g1⟩
   ·cases h
 |cur=>
  match fs,h with
  |[a,b,c],h=>
   simp only[QA]at h
   split at h
   ·rename_i a' b' c' e1 e2 e3
    simp only[Option.some.injEq]at h
    obtain⟨c1,r1,rfl,h1,ha⟩:=ha.cons
    obtain⟨c2,r2,rfl,h2,ha⟩:=ha.cons
    obtain⟨c3,r3,rfl,h3,ha⟩:=ha.cons
    have hn:=ha.nil
    subst hn
    have g1:=Qq e1 h1
    obtain⟨v,rfl⟩:=UV g1
    rw[YG (Qq e2 h2),YG (Qq e3 h3)]
    exact⟨_,h.symm,.cur ⟨a',b',c'⟩ v g1⟩
   ·cases h
 |abbr=>
  match fs,h with
  |[a,b],h=>
   simp only[QA]at h
   split at h
   ·rename_i a' b' e1 e2
    simp only[Option.some.injEq]at h
    obtain⟨c1,r1,rfl,h1,ha⟩:=ha.cons
    obtain⟨c2,r2,rfl,h2,ha⟩:=ha.cons
    rw[ha.nil,JP (Qq e1 h1),JP (Qq e2 h2)]
    exact⟨_,h.symm,.abbr ⟨a',b'⟩⟩
   ·cases h
 |query=>
  match fs,h with
  |[a,b,c,d],h=>
   simp only[QA]at h
   split at h
   ·rename_i a' b' c' d' e1 e2 e3 e4
    simp only[Option.some.injEq]at h
    obtain⟨c1,r1,rfl,h1,ha⟩:=ha.cons
    obtain⟨c2,r2,rfl,h2,ha⟩:=ha.cons
    obtain⟨c3,r3,rfl,h3,ha⟩:=ha.cons
    obtain⟨c4,r4,rfl,h4,ha⟩:=ha.cons
    have hn:=ha.nil
    subst hn
    have g4:=Qq e4 h4
    obtain⟨v,rfl⟩:=UV g4
    rw[YG (Qq e1 h1),JP (Qq e2 h2),JP (Qq e3 h3)]
    exact⟨_,h.symm,.query (.mk a' b' c' d') v g4⟩
   ·cases h
theorem AR.aggs {τ:Ty}{fs:List AV}{cs:List Value}(h:AR S w ρ row pv (.agg τ fs) cs):ARs S w ρ row pv fs cs:=h.agg_parts
theorem Q4A {τ:Ty}{fs:List AV}{cs:List Value}(hf:Fit τ (.agg τ fs))(ha:AR S w ρ row pv (.agg τ fs) cs):AR S w ρ row pv (Q1A τ fs) cs/\Fit τ (Q1A τ fs):=by
 unfold Q1A
 split
 ·exact⟨ha,hf⟩
 split
 ·rename_i a h
  obtain⟨x,rfl,hx⟩:=YI h ha.aggs
  exact⟨.t τ x cs hx,.t τ x⟩
 ·exact⟨ha,hf⟩
theorem Q6j {τ:Ty}{a:AV}{cs:List Value}(hf:Fit τ a)(h:AR S w ρ row pv a cs){f:Nat}{b:AV}(hb:QH a f=some b)(hnd:∀id σ x,a≠ .ds id σ x)(hnt:∀id σ,a≠ .tv id σ) :
  ∃fs,AR S w ρ row pv (.agg τ fs) cs/\Fit τ (.agg τ fs)/\fs[f]? =some b/\(∀c,U7 a f c=some (Q1A τ (fs.set f c))):=by
 cases hf with
 |t _ x=>
  simp only[QH]at hb
  have hg:agT τ=true:=by
   cases τ<;>first|rfl|(simp[Q4]at hb)
  cases h with
  |t _ _ _ h=>
   obtain⟨h1,h2⟩:=YH (ρ:=ρ) (row:=row) (pv:=pv) hg h
   exact⟨_,h1,h2,hb,λc=>by simp only[U7,hb]⟩
 |agg _ fs hg hl hh=>
  simp only[QH]at hb
  exact⟨fs,h,.agg τ fs hg hl hh,hb,λc=>by simp only[U7,hb]⟩
 |ds id _ x=>exact absurd rfl (hnd id _ x)
 |tv id _=>exact absurd rfl (hnt id _)
 |_=>simp[QH]at hb
def splice (cs:List Value)(o:Nat)(c:List Value):List Value:=cs.take o++c++cs.drop (o+c.length)
theorem Jh {cs:List Value}{o:Nat}{c:List Value}(h:o+c.length<=cs.length):(splice cs o c).length=cs.length:=by
 simp only[splice,List.length_append,List.length_take,List.length_drop];omega
theorem Q0D (d f:List Value)(o:Nat)(c:List Value):splice (d++f) (d.length+o) c=d++splice f o c:=by
 have e1:d.take (d.length+o)=d:=List.take_of_length_le (by omega)
 have e2:d.drop (d.length+o+c.length)=[]:=List.drop_eq_nil_of_le (by omega)
 simp only[splice,List.take_append,List.drop_append,e1,e2,List.append_assoc,List.nil_append]
 congr 3
 ·congr 1;omega
 ·congr 1;omega
theorem Q1J:∀{l:List Ty} {css:List (List Value)},css.length=l.length->(∀(i:Nat) (σ:Ty) (c:List Value),l[i]? =some σ->css[i]? =some c->c.length=nc σ)->
  ∀(i:Nat) (c:List Value) (σ:Ty),l[i]? =some σ->c.length=nc σ->(css.set i c).flatten=splice css.flatten (QB l i) c
 |[],_,_,_,i,c,σ,h,_=>by simp at h
 |_::_,[],h,_,_,_,_,_,_=>by simp at h
 |σ::l,d::css,h,hc,i,c,τ,hτ,hcl=>by
  have hl:css.length=l.length:=by simpa using h
  have h0:d.length=nc σ:=hc 0 σ d rfl rfl
  cases i with
  |zero=>
   simp only[List.getElem?_cons_zero,Option.some.injEq]at hτ
   subst hτ
   simp only[List.set_cons_zero,List.flatten_cons,QB,splice,List.take_zero,List.nil_append,Nat.zero_add]
   rw[hcl,<-h0,List.drop_left]
  |succ i=>
   have ih:=Q1J hl (λj ρ e hρ he=>hc (j+1) ρ e (by simpa using hρ) (by simpa using he)) i c τ (by simpa using hτ) hcl
   simp only[List.set_cons_succ,List.flatten_cons,ih,QB]
   rw[<-h0,Q0D]
theorem Fit.agg_len {τ:Ty}{fs:List AV}(h:Fit τ (.agg τ fs)):agT τ=true/\fs.length=(fty τ).length/\∀(i:Nat) (σ:Ty) (a:AV),(fty τ)[i]? =some σ->fs[i]? =some a->Fit σ a:=by
 cases h with|agg _ _ h1 h2 h3=>exact⟨h1,h2,h3⟩
theorem Q0S {τ:Ty}{a:AV}{cs:List Value}(hf:Fit τ a)(h:AR S w ρ row pv a cs){f:Nat}{b:AV}(hb:QH a f=some b)(hnd:∀id σ x,a≠ .ds id σ x)(hnt:∀id σ,a≠ .tv id σ) :
  ∃σ,(fty τ)[f]? =some σ/\Fit σ b/\AR S w ρ row pv b ((cs.drop (QB (fty τ) f)).take (nc σ))/\QB (fty τ) f+nc σ<=cs.length:=by
 obtain⟨fs,h1,h2,h3,_⟩:=Q6j hf h hb hnd hnt
 obtain⟨hg,hl,hh⟩:=h2.agg_len
 obtain⟨css,rfl,hl2,hc⟩:=h1.agg_parts
 have hfl:f<fs.length:=(List.getElem?_eq_some_iff.1 h3).1
 have hσ:(fty τ)[f]? =some ((fty τ)[f]'(by omega)):=List.getElem?_eq_getElem _
 have hcf:css[f]? =some (css[f]'(by omega)):=List.getElem?_eq_getElem _
 have hlen:∀(i:Nat) (σ:Ty) (c:List Value),(fty τ)[i]? =some σ->css[i]? =some c->c.length=nc σ:=λi σ c hσ hci=>by
  have hi:i<css.length:=(List.getElem?_eq_some_iff.1 hci).1
  have hfi:fs[i]? =some (fs[i]'(by omega)):=List.getElem?_eq_getElem _
  exact AR.len (hh i σ _ hσ hfi) (hc i _ c hfi hci)
 obtain⟨h5,h6⟩:=(seg (by omega) hlen).2 f _ _ hcf hσ
 refine⟨_,hσ,hh f _ b hσ h3,?_,h6⟩
 rw[h5]
 exact hc f b _ h3 hcf
theorem GE {τ:Ty}{x:den τ}{b:AV}{f:Nat}(h:(Q4 τ x)[f]? =some b):∃σ y,b= .t σ y:=by
 have hb:=List.mem_of_getElem? h
 cases τ<;>simp only[Q4,List.mem_cons,List.not_mem_nil,or_false,List.mem_map]at hb
 case arr n e=>obtain⟨y,_,rfl⟩:=hb;exact⟨_,_,rfl⟩
 case date=>rcases hb with rfl|rfl|rfl|rfl<;>exact⟨_,_,rfl⟩
 case name=>rcases hb with rfl|rfl|rfl|rfl<;>exact⟨_,_,rfl⟩
 case entry=>rcases hb with rfl|rfl|rfl|rfl|rfl|rfl|rfl|rfl|rfl|rfl|rfl<;>exact⟨_,_,rfl⟩
 case lib=>subst hb;exact⟨_,_,rfl⟩
 case abbr=>rcases hb with rfl|rfl<;>exact⟨_,_,rfl⟩
 case cur=>rcases hb with rfl|rfl|rfl<;>exact⟨_,_,rfl⟩
 case query=>rcases hb with rfl|rfl|rfl|rfl<;>exact⟨_,_,rfl⟩
theorem Ua {τ:Ty}{a:AV}{cs:List Value}(hf:Fit τ a)(h:AR S w ρ row pv a cs){f:Nat}{b:AV}(hb:QH a f=some b) :
  ∃σ,(fty τ)[f]? =some σ/\Fit σ b/\AR S w ρ row pv b ((cs.drop (QB (fty τ) f)).take (nc σ))/\QB (fty τ) f+nc σ<=cs.length:=by
 by_cases hd:∃id σ x,a= .ds id σ x
 ·obtain⟨id,σ,x,rfl⟩:=hd
  have e:σ=τ:=by cases hf;rfl
  subst e
  simp only[QH]at hb
  split at hb
  ·rename_i c hc
   cases hb
   obtain⟨σ3,y,rfl⟩:=GE hc
   cases h with
   |ds _ _ _ _ r T v hr hl hx=>
    obtain⟨σ2,h1,h2,h3,h4⟩:=Q0S (S:=T) (w:=v) (ρ:=ρ) (row:=row) (pv:=pv) (f:=f) (.t σ x) (.t σ x cs hx) hc (by simp) (by simp)
    have e2:σ2=σ3:=by cases h2;rfl
    subst e2
    cases h3 with
    |t _ _ _ h3=>
     refine⟨_,h1,?_,?_,h4⟩
     ·simp only[dsF]
      cases slT σ2
      ·exact Fit.t σ2 y
      ·exact Fit.ds id σ2 y
     ·simp only[dsF]
      cases hs:slT σ2
      ·exact .t _ _ _ (J5 hs h3)
      ·exact .ds id _ _ _ r T v hr hl h3
  ·cases hb
 ·by_cases ht:∃id σ,a= .tv id σ
  ·obtain⟨id,σ,rfl⟩:=ht
   have e:σ=τ:=by cases hf;rfl
   subst e
   cases h with
   |tv _ _ b' _ T v hr hl hc h1=>
    have key:∀e,(fty σ)[f]? =some (.sl e)->pOk σ [f]=true->QB (fty σ) f+1<=nc σ->b= .vw id none [f] e->
      ∃ρ',(fty σ)[f]? =some ρ'/\Fit ρ' b/\AR S w ρ row pv b ((cs.drop (QB (fty σ) f)).take (nc ρ'))/\QB (fty σ) f+nc ρ'<=cs.length:=λe h2 h3 h4 h5=>by
     subst h5
     have hlt:QB (fty σ) f<cs.length:=by omega
     refine⟨_,h2,.vw id none [f] e,?_,by rw[hc];exact h4⟩
     have hd:(cs.drop (QB (fty σ) f)).take (nc (.sl e))=[cs[QB (fty σ) f]]:=by
      rw[List.drop_eq_getElem_cons hlt];rfl
     rw[hd]
     exact .vw id none [f] e σ b' cs T v _ hr hl (.root σ [f] _ _ (by simp only[tyP,h2]) h3 (by simp only[Qk,Nat.add_zero];exact List.getElem?_eq_getElem hlt)) (h1 _ (List.getElem_mem hlt))
    simp only[QH,tvF]at hb
    split at hb<;>cases hb<;>exact key _ rfl rfl (by decide) rfl
  ·exact Q0S hf h hb (λid σ x e=>hd ⟨id,σ,x,e⟩) λid σ e=>ht ⟨id,σ,e⟩
theorem Q8N {τ:Ty}{a:AV}{cs:List Value}(hf:Fit τ a)(h:AR S w ρ row pv a cs){f:Nat}{b a':AV}(hb:QH a f=some b){σ:Ty}(hσ:(fty τ)[f]? =some σ){c:AV}{d:List Value}(hfc:Fit σ c)(hc:AR S w ρ row pv c d)
  (hs:U7 a f c=some a'):Fit τ a'/\AR S w ρ row pv a' (splice cs (QB (fty τ) f) d):=by
 obtain⟨fs,h1,h2,h3,h4⟩:=Q6j hf h hb (λid σ x e=>by subst e;cases hs) (λid σ e=>by subst e;cases hs)
 rw[h4 c]at hs
 simp only[Option.some.injEq]at hs
 subst hs
 obtain⟨hg,hl,hh⟩:=h2.agg_len
 obtain⟨css,rfl,hl2,hcc⟩:=h1.agg_parts
 have hlen:∀(i:Nat) (σ:Ty) (c:List Value),(fty τ)[i]? =some σ->css[i]? =some c->c.length=nc σ:=λi σ c hσ hci=>by
  have hi:i<css.length:=(List.getElem?_eq_some_iff.1 hci).1
  have hfi:fs[i]? =some (fs[i]'(by omega)):=List.getElem?_eq_getElem _
  exact AR.len (hh i σ _ hσ hfi) (hcc i _ c hfi hci)
 rw[<-Q1J (by omega) hlen f d σ hσ (AR.len hfc hc)]
 have hfit:Fit τ (.agg τ (fs.set f c)):=.agg τ _ hg (by simp[hl]) λi ρ' b' hρ hb'=>by
  rw[List.getElem?_set]at hb'
  split at hb'
  ·rename_i e
   subst e
   split at hb'
   ·simp only[Option.some.injEq]at hb'
    subst hb'
    rw[hσ]at hρ
    simp only[Option.some.injEq]at hρ
    exact hρ▸hfc
   ·cases hb'
  ·exact hh i ρ' b' hρ hb'
 have har:AR S w ρ row pv (.agg τ (fs.set f c)) (css.set f d).flatten:=.agg τ _ _ (by simp[hl2]) λi b' c' hb' hc'=>by
  rw[List.getElem?_set]at hb' hc'
  split at hb'
  ·rename_i e
   subst e
   rw[if_pos rfl]at hc'
   split at hb'
   ·split at hc'
    ·simp only[Option.some.injEq]at hb' hc'
     subst hb';subst hc'
     exact hc
    ·cases hc'
   ·cases hb'
  ·rename_i e
   rw[if_neg e]at hc'
   exact hcc i b' c' hb' hc'
 obtain⟨g1,g2⟩:=Q4A hfit har
 exact⟨g2,g1⟩
theorem YW:∀{p:List Nat} {τ:Ty} {a:AV} {cs:List Value},Fit τ a->AR S w ρ row pv a cs->∀{b:AV},YT a p=some b->
  ∃σ,tyP τ p=some σ/\Fit σ b/\AR S w ρ row pv b ((cs.drop (Qk τ p)).take (nc σ))/\Qk τ p+nc σ<=cs.length
 |[],τ,a,cs,hf,h,b,hb=>by
  simp only[YT,Option.some.injEq]at hb
  subst hb
  have:=AR.len hf h
  refine⟨τ,rfl,hf,?_,by simp[Qk,this]⟩
  simp only[Qk,List.drop_zero]
  rw[<-this,List.take_length]
  exact h
 |f::p,τ,a,cs,hf,h,b,hb=>by
  simp only[YT]at hb
  split at hb
  ·rename_i c hc
   obtain⟨σ,h1,h2,h3,h4⟩:=Ua hf h hc
   obtain⟨θ,h5,h6,h7,h8⟩:=YW h2 h3 hb
   have hl:((cs.drop (QB (fty τ) f)).take (nc σ)).length=nc σ:=by simp;omega
   have hd:(fty τ).getD f .bool=σ:=by rw[List.getD_eq_getElem?_getD,h1];rfl
   refine⟨θ,by simp only[tyP,h1];exact h5,h6,?_,by simp only[Qk,hd];omega⟩
   simp only[Qk,hd]
   have e:(List.drop (Qk σ p) (List.take (nc σ) (List.drop (QB (fty τ) f) cs))).take (nc θ)=(cs.drop (QB (fty τ) f+Qk σ p)).take (nc θ):=by
    rw[List.drop_take,List.take_take,List.drop_drop]
    congr 1
    omega
   rw[e]at h7
   exact h7
  ·cases hb
theorem QT {cs c:List Value}{o:Nat}(h:o+c.length<=cs.length)(i:Nat):(splice cs o c)[i]? =if i<o then cs[i]? else if i<o+c.length then c[i-o]? else cs[i]?:=by
 have e1:(cs.take o).length=o:=by simp;omega
 simp only[splice,List.append_assoc]
 by_cases h1:i<o
 ·rw[if_pos h1,List.getElem?_append_left (by omega),List.getElem?_take,if_pos h1]
 ·rw[if_neg h1,List.getElem?_append_right (by omega),e1]
  by_cases h2:i<o+c.length
  ·rw[if_pos h2,List.getElem?_append_left (by omega)]
  ·rw[if_neg h2,List.getElem?_append_right (by omega),List.getElem?_drop]
   congr 1;omega
theorem XJ {cs c:List Value}{o n m:Nat}(h:o+n<=cs.length)(hm:m+c.length<=n):splice cs o (splice ((cs.drop o).take n) m c)=splice cs (o+m) c:=by
 have hl0:((cs.drop o).take n).length=n:=by simp;omega
 have hl:(splice ((cs.drop o).take n) m c).length=n:=by rw[Jh (by omega),hl0]
 apply List.ext_getElem?
 intro i
 have A:=QT (cs:=cs) (c:=splice ((cs.drop o).take n) m c) (o:=o) (by omega) i
 have B:=QT (cs:=(cs.drop o).take n) (c:=c) (o:=m) (by omega) (i-o)
 have C:=QT (cs:=cs) (c:=c) (o:=o+m) (by omega) i
 have D:i<o+n->¬i<o->((cs.drop o).take n)[i-o]? =cs[i]?:=λh1 h2=>by
  rw[List.getElem?_take,if_pos (by omega),List.getElem?_drop]
  congr 1;omega
 rw[A,C,hl,B]
 by_cases h1:i<o
 ·rw[if_pos h1,if_pos (by omega)]
 ·rw[if_neg h1]
  by_cases h2:i<o+n
  ·rw[if_pos h2,D h2 h1]
   by_cases h3:i<o+m
   ·rw[if_pos (show i-o<m by omega),if_pos h3]
   ·rw[if_neg (show¬i-o<m by omega),if_neg h3]
    by_cases h4:i<o+m+c.length
    ·rw[if_pos (show i-o<m+c.length by omega),if_pos h4]
     congr 1;omega
    ·rw[if_neg (show¬i-o<m+c.length by omega),if_neg h4]
  ·rw[if_neg h2,if_neg (by omega),if_neg (by omega)]
theorem Q1K:∀{p:List Nat} {τ:Ty} {a:AV} {cs:List Value},Fit τ a->AR S w ρ row pv a cs->∀{σ:Ty} {b a':AV} {d:List Value},tyP τ p=some σ->Fit σ b->AR S w ρ row pv b d->XG a p b=some a'->
  Fit τ a'/\AR S w ρ row pv a' (splice cs (Qk τ p) d)/\Qk τ p+nc σ<=cs.length
 |[],τ,a,cs,hf,h,σ,b,a',d,ht,hfb,hb,hs=>by
  simp only[tyP,Option.some.injEq]at ht
  subst ht
  simp only[XG,Option.some.injEq]at hs
  subst hs
  have h1:=AR.len hf h
  have h2:=AR.len hfb hb
  refine⟨hfb,?_,by simp[Qk,h1]⟩
  simp only[Qk,splice,List.take_zero,List.nil_append,Nat.zero_add,List.drop_eq_nil_of_le (show cs.length<=d.length by omega),List.append_nil]
  exact hb
 |f::p,τ,a,cs,hf,h,σ,b,a',d,ht,hfb,hb,hs=>by
  simp only[XG]at hs
  split at hs
  ·rename_i c hc
   split at hs
   ·rename_i c' hc'
    obtain⟨θ,h1,h2,h3,h4⟩:=Ua hf h hc
    simp only[tyP,h1]at ht
    obtain⟨h5,h6,h7⟩:=Q1K h2 h3 ht hfb hb hc'
    obtain⟨h8,h9⟩:=Q8N hf h hc h1 h5 h6 hs
    have hl:((cs.drop (QB (fty τ) f)).take (nc θ)).length=nc θ:=by simp;omega
    have hd:(fty τ).getD f .bool=θ:=by rw[List.getD_eq_getElem?_getD,h1];rfl
    have hbl:=AR.len hfb hb
    refine⟨h8,?_,by simp only[Qk,hd];omega⟩
    simp only[Qk,hd]
    rw[<-XJ h4 (by omega)]
    exact h9
   ·cases hs
  ·cases hs
end
end Go.Gx
end
section
/- Memory as the interpreter has it: rows,and how they live on. -/
namespace Go.Gx
open Go.RowKit
def Yn:Value->Value->Prop
 |.int k _,.int k' _=>k'=k
 |.bool _,.bool _=>True
 |.string _,.string _=>True
 |u,v=>v=u
theorem XT (v:Value):Yn v v:=by cases v<;>simp[Yn]
theorem Q2y {a b c:Value}(h:Yn a b)(k:Yn b c):Yn a c:=by
 cases a<;>cases b<;>simp only[Yn]at h<;>(try cases h)<;>cases c<;>simp only[Yn]at k ⊢ <;>first
  |exact k
  |(cases k;rfl)
  |(subst h;exact k)
  |trivial
  |(cases k;done)
def GF (o o':Option Obj):Prop:=∀cur e f,o=some (.cells cur e f)->∃cur',o'=some (.cells cur' e f)/\cur'.size=cur.size/\∀(i:Nat) u u',cur[i]? =some u->cur'[i]? =some u'->Yn u u'
theorem GF.refl (o:Option Obj):GF o o:=λcur e f h=>⟨cur,h,rfl,λi u u' h1 h2=>by rw[h1]at h2;cases h2;exact XT u⟩
theorem GF.trans {a b c:Option Obj}(h:GF a b)(k:GF b c):GF a c:=by
 intro c1 e f h0
 obtain⟨c2,h3,h1,h2⟩:=h c1 e f h0
 obtain⟨c3,h6,h4,h5⟩:=k c2 e f h3
 refine⟨c3,h6,h4.trans h1,λi u u' hu hu'=>?_⟩
 have hi:i<c2.size:=by have:=(Array.getElem?_eq_some_iff.1 hu).1;omega
 exact Q2y (h2 i u _ hu (Array.getElem?_eq_getElem hi)) (h5 i _ u' (Array.getElem?_eq_getElem hi) hu')
def JD (T:Nat->Prop)(v w:World):Prop:=∀g,T g->g<w.heap.size/\OB v g/\GF v.heap[g]? w.heap[g]?
theorem JD.trans {T:Nat->Prop}{u v w:World}(h:JD T u v)(k:JD T v w):JD T u w:=λg hg=>⟨(k g hg).1,(h g hg).2.1,(h g hg).2.2.trans (k g hg).2.2⟩
theorem Xo {T:Nat->Prop}{v w:World}(h:JD T v w){g o:Nat}(hg:T g){u:Value}(hu:v.cell? ⟨g,o,none⟩=some u):∃cur e f,w.heap[g]? =some (.cells cur e f)/\(f.2<=f.1\/cur.size<=f.1)/\∃u',cur[o]? =some u'/\Yn u u':=by
 obtain⟨_,⟨cur,e,f,h1,h2⟩,h3⟩:=h g hg
 obtain⟨cur',h4,h5,h6⟩:=h3 cur e f h1
 simp only[World.cell?,h1]at hu
 have ho:o<cur.size:=(Array.getElem?_eq_some_iff.1 hu).1
 refine⟨cur',e,f,h4,by rw[h5];exact h2,cur'[o]'(by omega),Array.getElem?_eq_getElem (by omega),h6 o u _ hu (Array.getElem?_eq_getElem (by omega))⟩
def Q9i (w:World)(e:Nat)(τ:Ty)(x:den τ)(cs:List Value):Prop:=∃σ,∃xs:List (den σ),τ= .sl σ/\HEq x xs/\0<nc σ/\(cs=[.slice none 0 0]\/∃g c cur,cs=[.slice (some ⟨g,0,none⟩) xs.length c]/\w.heap[g]? =some (.cells cur e (0,0))/\cur.size=c*nc σ)
def frz:Row->Bool
 |.flat _ _ _ fz _=>fz
 |.box _ _=>false
section
variable (S:Nat->Prop) (w:World) (ρ:Nat->Option Loc) (row:Nat->Option Row) (pv:Nat->Value)
def QG:Row->Loc->Prop
 |.flat e τ xs _ app,.at g cap=>∃cur f,w.heap[g]? =some (.cells cur e f)/\cur.size=cap*nc τ/\xs.length<=cap/\cap<=maxLen/\(app=true->f=(0,0))/\(f.2<=f.1\/cur.size<=f.1)/\0<nc τ/\
   ∀i (h:i<xs.length),∃cs,CR (cS pv S w) w τ xs[i] cs/\∀j v,cs[j]? =some v->cur[i*nc τ+j]? =some v
 |.flat _ τ xs _ app,.nilrow=>xs=[]/\app=true/\0<nc τ
 |.flat ..,.soft _ _=>False
 |.flat ..,.tree _ _ _=>False
 |.box τ a,.tree cs T v=>slT τ=true/\JD T v w/\∃e ap,∃x:den τ,a= .tup [.t (.int .i64) ((e:Nat):Int),.t .bool ap,.t τ x]/\TR w T τ x cs/\(ap=true->Q9i w e τ x cs)
 |.box τ a,.at g _=>∃cur T,w.heap[g]? =some (.cells cur T (0,0))/\Fit τ a/\AR S w ρ row pv a cur.toList
 |.box _ _,.nilrow=>False
 |.box τ a,.soft T v=>slT τ=true/\(∃b,a= .t .bool b/\(b=true->∀g,T g->w.heap[g]? =v.heap[g]?))/\JD T v w
structure HS (B:Old):Prop where
 stab:∀b,S b->b<w.heap.size
 rows:∀id r l,row id=some r->ρ id=some l->QG S w ρ row pv r l
 inj0:∀id id' l l' b,ρ id=some l->ρ id'=some l'->row id≠none->row id'≠none->l.has b->l'.has b->id=id'
 apart0:∀id r l b,ρ id=some l->row id=some r->l.has b->¬B b/\(frz r=false->¬S b)/\(frz r=true->S b)
 pin:∀l,B.pin=some l->ρ Q7=some l
end
theorem HS.inj {S:Nat->Prop}{w:World}{ρ:Nat->Option Loc}{row:Nat->Option Row}{pv:Nat->Value}{B:Old}(h:HS S w ρ row pv B):∀id id' g c c',ρ id=some (.at g c)->ρ id'=some (.at g c')->row id≠none->row id'≠none->id=id':=
 λid id' g _ _ h1 h2 h3 h4=>h.inj0 id id' _ _ g h1 h2 h3 h4 rfl rfl
theorem HS.apart {S:Nat->Prop}{w:World}{ρ:Nat->Option Loc}{row:Nat->Option Row}{pv:Nat->Value}{B:Old}(h:HS S w ρ row pv B):∀id r g c,ρ id=some (.at g c)->row id=some r->¬B g/\(frz r=false->¬S g)/\(frz r=true->S g):=
 λid r g _ h1 h2=>h.apart0 id r _ g h1 h2 rfl
section
variable {S S':Nat->Prop} {w w':World} {ρ ρ':Nat->Option Loc} {row row':Nat->Option Row} {pv:Nat->Value} {B:Old}
theorem QG.lt {r:Row}{g c:Nat}(h:QG S w ρ row pv r (.at g c)):g<w.heap.size:=by
 cases r with
 |flat e τ xs fz app=>obtain⟨cur,f,h,_⟩:=h;exact(Array.getElem?_eq_some_iff.1 h).1
 |box τ a=>obtain⟨cur,T,h,_⟩:=h;exact(Array.getElem?_eq_some_iff.1 h).1
theorem QG.ext {P:Nat->Prop}(hS:∀b,S b->S' b)(hw:∀b,S b->w'.heap[b]? =w.heap[b]?)
  (hk:∀id l r,P id->ρ id=some l->row id=some r->ρ' id=some l/\∃r',row' id=some r'/\Same r r') {r:Row} {l:Loc} (h:QG S w ρ row pv r l)
  (hb:∀g,l.has g->w'.heap[g]? =w.heap[g]?) (hP:∀τ a,r= .box τ a->∀id,Occ a id->P id):QG S' w' ρ' row' pv r l:=by
 cases r with
 |flat e τ xs fz app=>
  cases l with
  |nilrow=>exact h
  |soft T v=>exact h
  |tree cs T v=>exact h
  |«at» g c=>
   obtain⟨cur,f,h1,h2,h3,h4,h5,h6,h7,h8⟩:=h
   refine⟨cur,f,(hb g rfl).trans h1,h2,h3,h4,h5,h6,h7,λi hi=>?_⟩
   obtain⟨cs,hc,hv⟩:=h8 i hi
   exact⟨cs,hc.mono (λb hb=>hb.mono (hS b) (hw b hb.1)) λb hb=>hw b hb.1,hv⟩
 |box τ a=>
  cases l with
  |nilrow=>exact h
  |soft T v=>
   obtain⟨h0,⟨b,h1,h2⟩,h3⟩:=h
   refine⟨h0,⟨b,h1,λhb' g hg=>(hb g hg).trans (h2 hb' g hg)⟩,λg hg=>?_⟩
   obtain⟨h4,h4',h5⟩:=h3 g hg
   have e:=hb g hg
   refine⟨?_,h4',by rw[e];exact h5⟩
   rw[Array.getElem?_eq_getElem h4]at e
   exact(Array.getElem?_eq_some_iff.1 e).1
  |tree cs T v=>
   obtain⟨h0,h1,e,ap,x,h2,h3,h4⟩:=h
   refine⟨h0,λg hg=>?_,e,ap,x,h2,h3.mono (λ_ h=>h) hb,λhap=>?_⟩
   ·obtain⟨h4,h4',h5⟩:=h1 g hg
    have e:=hb g hg
    refine⟨?_,h4',by rw[e];exact h5⟩
    rw[Array.getElem?_eq_getElem h4]at e
    exact(Array.getElem?_eq_some_iff.1 e).1
   ·obtain⟨σ,xs,k1,k2,k3,k4⟩:=h4 hap
    refine⟨σ,xs,k1,k2,k3,k4.imp_right λ⟨g,c,cur,k5,k6,k7⟩=>⟨g,c,cur,k5,?_,k7⟩⟩
    subst k5
    exact(hb g (h3.root)).trans k6
  |«at» g c=>
   obtain⟨cur,T,h1,h2,h3⟩:=h
   exact⟨cur,T,(hb g rfl).trans h1,h2,h3.ext hS hw hk (hP τ a rfl)⟩
theorem QG.has_lt {r:Row}{l:Loc}(h:QG S w ρ row pv r l){b:Nat}(hb:l.has b):b<w.heap.size:=by
 cases l with
 |«at» g c=>cases hb;exact h.lt
 |nilrow=>exact hb.elim
 |soft T v=>
  cases r with
  |flat e τ xs fz app=>exact h.elim
  |box τ a=>exact(h.2.2 b hb).1
 |tree cs T v=>
  cases r with
  |flat e τ xs fz app=>exact h.elim
  |box τ a=>exact(h.2.1 b hb).1
theorem HS.grow (h:HS S w ρ row pv B)(hB:∀k,B k->k<w.heap.size)(hsz:w.heap.size<=w'.heap.size)(hold:∀b,b<w.heap.size->w'.heap[b]? =w.heap[b]?)(hS:∀b,S b->S' b)(hS':∀b,S' b->S b\/(w.heap.size<=b/\b<w'.heap.size))
  (hk:∀id l,ρ id=some l->ρ' id=some l/\row' id=row id)
  (hn:∀id r l,ρ id=none->ρ' id=some l->row' id=some r->QG S' w' ρ' row' pv r l/\frz r=false/\∀g,l.has g->w.heap.size<=g/\¬S' g)
  (hi:∀id id' l l' b,ρ id=none->ρ id'=none->ρ' id=some l->ρ' id'=some l'->row' id≠none->row' id'≠none->l.has b->l'.has b->id=id'):HS S' w' ρ' row' pv B:=by
 have hw:∀b,S b->w'.heap[b]? =w.heap[b]?:=λb hb=>hold b (h.stab b hb)
 have hkk:∀id l r,True->ρ id=some l->row id=some r->ρ' id=some l/\∃r',row' id=some r'/\Same r r':=λid l r _ h1 h2=>by
  obtain⟨h3,h4⟩:=hk id l h1
  exact⟨h3,r,h4.trans h2,.refl r⟩
 have back:∀id l,ρ id=some l->∀l',ρ' id=some l'->l'=l:=λid l h1 l' h2=>by rw[(hk id l h1).1]at h2;exact(Option.some.inj h2).symm
 have oldlt:∀id r l b,ρ id=some l->row id=some r->l.has b->b<w.heap.size:=λid r l b h1 h2 h3=>(h.rows id r _ h2 h1).has_lt h3
 refine⟨λb hb=>?_,λid r l h1 h2=>?_,λid id' l l' b h1 h2 h3 h4 h5 h6=>?_,λid r l b h1 h2 h3=>?_,λl hl=>(hk Q7 l (h.pin l hl)).1⟩
 ·rcases hS' b hb with h1|h1
  ·exact Nat.lt_of_lt_of_le (h.stab b h1) hsz
  ·exact h1.2
 ·cases hr:ρ id with
  |none=>exact(hn id r l hr h2 h1).1
  |some l0=>
   have:=back id l0 hr l h2
   subst this
   have h1':row id=some r:=(hk id l hr).2▸h1
   exact(h.rows id r l h1' hr).ext hS hw hkk (λg e=>hold g (oldlt id r l g hr h1' e)) (λ_ _ _ _ _=>trivial)
 ·cases hr:ρ id with
  |none=>
   cases hr':ρ id' with
   |none=>exact hi id id' l l' b hr hr' h1 h2 h3 h4 h5 h6
   |some l0=>
    exfalso
    have:=back id' l0 hr' _ h2
    subst this
    cases hrow:row' id with
    |none=>exact h3 hrow
    |some r=>
     have h7:=((hn id r _ hr h1 hrow).2.2 b h5).1
     cases hrow':row' id' with
     |none=>exact h4 hrow'
     |some r'=>have:=oldlt id' r' l' b hr' ((hk id' _ hr').2▸hrow') h6;omega
  |some l0=>
   have:=back id l0 hr _ h1
   subst this
   cases hr':ρ id' with
   |none=>
    exfalso
    cases hrow:row' id' with
    |none=>exact h4 hrow
    |some r=>
     have h7:=((hn id' r _ hr' h2 hrow).2.2 b h6).1
     cases hrow':row' id with
     |none=>exact h3 hrow'
     |some r'=>have:=oldlt id r' l b hr ((hk id _ hr).2▸hrow') h5;omega
   |some l1=>
    have:=back id' l1 hr' _ h2
    subst this
    exact h.inj0 id id' l l' b hr hr' ((hk id _ hr).2▸h3) ((hk id' _ hr').2▸h4) h5 h6
 ·cases hr:ρ id with
  |none=>
   obtain⟨_,h4,h5⟩:=hn id r _ hr h1 h2
   obtain⟨h6,h7⟩:=h5 b h3
   exact⟨λhb=>absurd (hB b hb) (by omega),λ_=>h7,λh8=>by rw[h4]at h8;cases h8⟩
  |some l0=>
   have:=back id l0 hr _ h1
   subst this
   have h2':row id=some r:=(hk id _ hr).2▸h2
   obtain⟨h4,h5,h6⟩:=h.apart0 id r l b hr h2' h3
   refine⟨h4,λh7 h8=>?_,λh7=>hS b (h6 h7)⟩
   rcases hS' b h8 with h9|h9
   ·exact h5 h7 h9
   ·have:=oldlt id r l b hr h2' h3
    omega
theorem HS.put (h:HS S w ρ row pv B){id:Nat}{r r':Row}{l:Loc}(hr:row id=some r)(hl:ρ id=some l)(hs:Same r r')(hz:frz r'=frz r)(hf:frz r=false)(hsz:w.heap.size<=w'.heap.size)
  (hold:∀b,b<w.heap.size->¬l.has b->w'.heap[b]? =w.heap[b]?) (hrow:∀j,row' j=if j=id then some r' else row j)
  (hok:QG S w' ρ row' pv r' l):HS S w' ρ row' pv B:=by
 have hSg:∀b,l.has b->¬S b:=λb e=>(h.apart0 id r l b hl hr e).2.1 hf
 have hw:∀b,S b->w'.heap[b]? =w.heap[b]?:=λb hb=>hold b (h.stab b hb) λe=>hSg b e hb
 have hkk:∀j l0 r0,True->ρ j=some l0->row j=some r0->ρ j=some l0/\∃r1,row' j=some r1/\Same r0 r1:=λj l0 r0 _ h1 h2=>by
  refine⟨h1,?_⟩
  rw[hrow]
  by_cases e:j=id
  ·subst e
   rw[hr]at h2
   simp only[Option.some.injEq]at h2
   exact⟨r',by simp,h2▸hs⟩
  ·exact⟨r0,by simp[e,h2],.refl _⟩
 refine⟨λb hb=>Nat.lt_of_lt_of_le (h.stab b hb) hsz,λj r0 l0 h1 h2=>?_,λj j' l0 l0' b h1 h2 h3 h4=>?_,λj r0 l0 b h1 h2 h3=>?_,h.pin⟩
 ·by_cases e:j=id
  ·subst e
   rw[hrow,if_pos rfl]at h1
   simp only[Option.some.injEq]at h1
   rw[hl]at h2
   simp only[Option.some.injEq]at h2
   exact h1▸h2▸hok
  ·have h1':row j=some r0:=by rw[hrow,if_neg e]at h1;exact h1
   refine(h.rows j r0 l0 h1' h2).ext (λ_ h=>h) hw hkk (λg e2=>hold g ((h.rows j r0 l0 h1' h2).has_lt e2) λe3=>e ?_) (λ_ _ _ _ _=>trivial)
   exact h.inj0 j id l0 l g h2 hl (by simp[h1']) (by simp[hr]) e2 e3
 ·have aux:∀j,row' j≠none->row j≠none:=λj hj hn=>hj (by
   rw[hrow]
   by_cases e:j=id
   ·subst e;rw[hr]at hn;cases hn
   ·simp[e,hn])
  exact h.inj0 j j' l0 l0' b h1 h2 (aux j h3) (aux j' h4)
 ·by_cases e:j=id
  ·subst e
   rw[hrow,if_pos rfl]at h2
   simp only[Option.some.injEq]at h2
   obtain⟨h4,h5,h6⟩:=h.apart0 j r l0 b h1 hr h3
   exact⟨h4,λh7=>h5 (by rw[<-hz,h2];exact h7),λh7=>h6 (by rw[<-hz,h2];exact h7)⟩
  ·exact h.apart0 j r0 l0 b h1 (by rw[hrow,if_neg e]at h2;exact h2) h3
theorem HS.world (h:HS S w ρ row pv B)(hh:w'.heap=w.heap):HS S w' ρ row pv B:=by
 have hkk:∀id l r,True->ρ id=some l->row id=some r->ρ id=some l/\∃r',row id=some r'/\Same r r':=λid l r _ h1 h2=>⟨h1,r,h2,.refl r⟩
 exact⟨λb hb=>by rw[hh];exact h.stab b hb,λid r l h1 h2=>(h.rows id r l h1 h2).ext (λ_ h=>h) (λ_ _=>by rw[hh]) hkk (λ_ _=>by rw[hh]) (λ_ _ _ _ _=>trivial),h.inj0,h.apart0,h.pin⟩
theorem HS.freeze (h:HS S w ρ row pv B){ids:List Nat}(hrow:∀j r,row j=some r->row' j=some (if j∈ids then JC r else r))(hno:∀j,row j=none->row' j=none)
  (hS:∀b,S' b ↔ S b\/∃id∈ids,∃r c,row id=some r/\frz (JC r)=true/\ρ id=some (.at b c)):HS S' w ρ row' pv B:=by
 have sub:∀b,S b->S' b:=λb hb=>(hS b).2 (.inl hb)
 have same:∀r,Same r (JC r):=λr=>by
  cases r with
  |flat e τ xs fz app=>exact .flat _ _ _ _ _ _ _ _ _ rfl
  |box τ a=>exact .box _ _ _
 have hkk:∀id l r,True->ρ id=some l->row id=some r->ρ id=some l/\∃r',row' id=some r'/\Same r r':=λid l r _ h1 h2=>by
  refine⟨h1,_,hrow id r h2,?_⟩
  split
  ·exact same r
  ·exact .refl r
 have up:∀j r,row' j=some r->∃r0,row j=some r0/\r=if j∈ids then JC r0 else r0:=λj r h1=>by
  cases h2:row j with
  |none=>rw[hno j h2]at h1;cases h1
  |some r0=>rw[hrow j r0 h2]at h1;exact⟨r0,rfl,(Option.some.inj h1).symm⟩
 refine⟨λb hb=>?_,λid r l h1 h2=>?_,λid id' l l' b h1 h2 h3 h4=>?_,λid r l b h1 h2 hb=>?_,h.pin⟩
 ·rcases(hS b).1 hb with h1|⟨id,_,r,c,h1,_,h2⟩
  ·exact h.stab b h1
  ·exact(h.rows id r _ h1 h2).lt
 ·obtain⟨r0,h3,rfl⟩:=up id r h1
  have h4:=(h.rows id r0 l h3 h2).ext sub (λ_ _=>rfl) hkk (λ_ _=>rfl) (λ_ _ _ _ _=>trivial)
  split
  ·cases r0 with
   |flat e τ xs fz app=>cases l<;>exact h4
   |box τ a=>exact h4
  ·exact h4
 ·refine h.inj0 id id' l l' b h1 h2 (λh5=>h3 (hno _ h5)) (λh5=>h4 (hno _ h5))
 ·obtain⟨r0,h3,rfl⟩:=up id r h2
  obtain⟨h4,h5,h6⟩:=h.apart0 id r0 l b h1 h3 hb
  refine⟨h4,λh7 h8=>?_,λh7=>?_⟩
  ·have h9:frz r0=false:=by
    split at h7
    ·cases r0 with
     |flat e τ xs fz app=>cases h7
     |box τ a=>rfl
    ·exact h7
   rcases(hS b).1 h8 with h10|⟨id',hm,r',c',h10,h11,h12⟩
   ·exact h5 h9 h10
   ·have:=h.inj0 id id' l _ b h1 h12 (by simp[h3]) (by simp[h10]) hb rfl
    subst this
    rw[h3]at h10
    simp only[Option.some.injEq]at h10
    subst h10
    rw[if_pos hm]at h7
    rw[h7]at h11
    cases h11
  ·split at h7
   ·rename_i hm
    cases l with
    |«at» g c=>
     cases hb
     exact(hS _).2 (.inr ⟨id,hm,r0,c,h3,h7,h1⟩)
    |nilrow=>exact hb.elim
    |soft T v=>
     have:=h.rows id r0 _ h3 h1
     cases r0 with
     |flat e τ xs fz app=>exact this.elim
     |box τ a=>cases h7
    |tree cs T v=>
     have:=h.rows id r0 _ h3 h1
     cases r0 with
     |flat e τ xs fz app=>exact this.elim
     |box τ a=>cases h7
   ·exact sub b (h6 h7)
end
end Go.Gx
end
section
/- Rows forgotten;the relation of a frame. -/
namespace Go.Gx
open Go.RowKit
def inR (lo hi id:Nat):Bool:=Nat.ble lo id&&Nat.blt id hi
def killL (lo hi:Nat)(ρ:Nat->Option Loc):Nat->Option Loc:=λid=>cond (inR lo hi id) none (ρ id)
theorem Q2z {f:Ty->AV->AV}:∀{l:List Ty} {fs:List AV},fs.length=l.length->(Q1B f l fs).length=fs.length/\∀(i:Nat) (b:AV),(Q1B f l fs)[i]? =some b->∃σ a,l[i]? =some σ/\fs[i]? =some a/\b=f σ a
 |[],[],_=>⟨rfl,λi b h=>by simp[Q1B]at h⟩
 |[],_::_,h=>by simp at h
 |_::_,[],h=>by simp at h
 |σ::l,a::fs,h=>by
  obtain⟨h1,h2⟩:=Q2z (f:=f) (l:=l) (fs:=fs) (by simpa using h)
  refine⟨by simp[Q1B,h1],λi b hb=>?_⟩
  cases i with
  |zero=>simp only[Q1B,List.getElem?_cons_zero,Option.some.injEq]at hb;exact⟨σ,a,rfl,rfl,hb.symm⟩
  |succ i=>
   simp only[Q1B,List.getElem?_cons_succ]at hb
   obtain⟨τ,c,h3,h4,h5⟩:=h2 i b hb
   exact⟨τ,c,by simpa using h3,by simpa using h4,h5⟩
section
variable {S S':Nat->Prop} {w w':World} {ρ ρ':Nat->Option Loc} {row row':Nat->Option Row} {pv:Nat->Value} {B:Old}
theorem GG {lo hi:Nat}{id:Nat}{r:Row}(h:inR lo hi id=false):∃r',Jj lo hi id (some r)=some r'/\Same r r'/\frz r'=frz r:=by
 unfold inR at h
 unfold Jj
 rw[h]
 cases r with
 |flat e τ xs fz app=>exact⟨_,rfl,.refl _,rfl⟩
 |box τ a=>exact⟨_,rfl,.box _ _ _,rfl⟩
theorem Q6k {lo hi:Nat}{id:Nat}{r:Option Row}(h:inR lo hi id=true):Jj lo hi id r=none:=by
 unfold inR at h
 unfold Jj
 rw[h];rfl
theorem Ji {lo hi:Nat}{id:Nat}:Jj lo hi id none=none:=by
 unfold Jj
 cases (Nat.ble lo id&&Nat.blt id hi)<;>rfl
theorem Q1L {lo hi:Nat}:∀id l r,inR lo hi id=false->ρ id=some l->row id=some r->killL lo hi ρ id=some l/\∃r',Jj lo hi id (row id)=some r'/\Same r r':=λid l r h h1 h2=>by
 obtain⟨r',h3,h4,_⟩:=GG (r:=r) h
 exact⟨by simp[killL,h,h1],r',by rw[h2];exact h3,h4⟩
theorem Q4B {lo hi:Nat}{n:Nat}{a:AV}(h:YY lo hi n a=false):∀id,Occ a id->inR lo hi id=false:=λid ho=>by
 cases hb:inR lo hi id with
 |false=>rfl
 |true=>
  simp only[inR,Bool.and_eq_true]at hb
  exact absurd ⟨Nat.le_of_ble_eq_true hb.1,Nat.le_of_ble_eq_true hb.2⟩ (Yx h ho)
theorem Df {lo hi:Nat}:∀{n:Nat} {τ:Ty} {a:AV} {cs:List Value},Fit τ a->AR S w ρ row pv a cs->
  Fit τ (XQ lo hi n τ a)/\AR S w (killL lo hi ρ) (λid=>Jj lo hi id (row id)) pv (XQ lo hi n τ a) cs
 |0,τ,a,cs,hf,h=>⟨.hole τ,.hole τ cs (AR.len hf h) (AR.ones hf h)⟩
 |n+1,τ,a,cs,hf,h=>by
  have other:Fit τ (cond (Gu lo hi a) (.hole τ) a)/\AR S w (killL lo hi ρ) (λid=>Jj lo hi id (row id)) pv (cond (Gu lo hi a) (.hole τ) a) cs:=by
   cases hb:Gu lo hi a with
   |true=>exact⟨.hole τ,.hole τ cs (AR.len hf h) (AR.ones hf h)⟩
   |false=>exact⟨hf,h.ext (λ_ h=>h) (λ_ _=>rfl) Q1L (Q4B hb)⟩
  cases hf with
  |agg _ fs hg hl hh=>
   have h1:XQ lo hi (n+1) τ (.agg τ fs)= .agg τ (Q1B (XQ lo hi n) (fty τ) fs):=rfl
   rw[h1]
   obtain⟨css,rfl,hl2,hc⟩:=h.agg_parts
   obtain⟨h2,h3⟩:=Q2z (f:=XQ lo hi n) hl
   constructor
   ·refine .agg τ _ hg (by omega) λi σ b hσ hb=>?_
    obtain⟨σ',c,h4,h5,rfl⟩:=h3 i b hb
    rw[hσ]at h4
    simp only[Option.some.injEq]at h4
    subst h4
    have hi:i<css.length:=by have:=(List.getElem?_eq_some_iff.1 h5).1;omega
    exact(Df (hh i σ c hσ h5) (hc i c _ h5 (List.getElem?_eq_getElem hi))).1
   ·refine .agg τ _ css (by omega) λi b c hb hcc=>?_
    obtain⟨σ',d,h4,h5,rfl⟩:=h3 i b hb
    exact(Df (hh i σ' d h4 h5) (hc i d c h5 hcc)).2
  |t _ x=>exact other
  |nil e=>exact other
  |own e id=>exact other
  |ep _ id i p h0 h1=>exact other
  |tp _ a h0 h1=>exact other
  |clo _ f l h0 h1=>exact other
  |par _ i h0 h1=>exact other
  |hole _=>exact other
  |pc _ _ _=>exact other
  |ds _ _ _=>exact other
  |tv _ _=>exact other
  |vw _ _ _ _=>exact other
  |tq _ _ _ _ _ _=>exact other
theorem Ut {i j:Nat}(h:i≠j):inR i (i+1) j=false:=by
 unfold inR
 rw[Bool.and_eq_false_iff]
 by_cases c:i<=j
 ·refine .inr ?_
  cases hb:Nat.blt j (i+1)with
  |false=>rfl
  |true=>have:=Nat.le_of_ble_eq_true hb;omega
 ·refine .inl ?_
  cases hb:Nat.ble i j with
  |false=>rfl
  |true=>exact absurd (Nat.le_of_ble_eq_true hb) c
theorem Q5g {lo hi j:Nat}{ρ:Nat->Option Loc}(h:inR lo hi j=false):killL lo hi ρ j=ρ j:=by unfold killL;rw[h];rfl
theorem HS.kill (h:HS S w ρ row pv B)(lo hi:Nat)(hm:inR lo hi Q7=false):HS S w (killL lo hi ρ) (λid=>Jj lo hi id (row id)) pv B:=by
 have out:∀id l,killL lo hi ρ id=some l->inR lo hi id=false/\ρ id=some l:=λid l h1=>by
  unfold killL at h1
  cases hb:inR lo hi id with
  |true=>rw[hb]at h1;cases h1
  |false=>rw[hb]at h1;exact⟨rfl,h1⟩
 have up:∀id r,inR lo hi id=false->Jj lo hi id (row id)=some r->∃r0,row id=some r0/\Same r0 r/\frz r=frz r0:=λid r hb h1=>by
  cases h2:row id with
  |none=>rw[h2,Ji]at h1;cases h1
  |some r0=>
   obtain⟨r',h3,h4,h5⟩:=GG (r:=r0) hb
   rw[h2,h3]at h1
   simp only[Option.some.injEq]at h1
   subst h1
   exact⟨r0,rfl,h4,h5⟩
 refine⟨h.stab,λid r l h1 h2=>?_,λid id' l l' b h1 h2 h3 h4=>?_,λid r l b h1 h2 h3=>?_,λl hl=>(Q5g hm).trans (h.pin l hl)⟩
 ·obtain⟨hb,hl⟩:=out id l h2
  cases h3:row id with
  |none=>rw[h3,Ji]at h1;cases h1
  |some r0=>
   have ok:=h.rows id r0 l h3 hl
   rw[h3]at h1
   unfold Jj at h1
   unfold inR at hb
   rw[hb]at h1
   cases r0 with
   |flat e τ xs fz app=>
    simp only[cond_false,Option.some.injEq]at h1
    subst h1
    exact ok.ext (λ_ h=>h) (λ_ _=>rfl) Q1L (λ_ _=>rfl) (λ_ _ e=>by cases e)
   |box τ a=>
    simp only[cond_false,Option.some.injEq]at h1
    subst h1
    cases l with
    |nilrow=>exact ok
    |soft T v=>
     obtain⟨h0,⟨b,rfl,h4⟩,h5⟩:=ok
     exact⟨h0,⟨b,rfl,h4⟩,h5⟩
    |tree cs T v=>
     obtain⟨h0,h4,e,ap,x,rfl,h5⟩:=ok
     exact⟨h0,h4,e,ap,x,rfl,h5⟩
    |«at» g c=>
     obtain⟨cur,T,h4,h5,h6⟩:=ok
     obtain⟨h7,h8⟩:=Df (lo:=lo) (hi:=hi) (n:=6) h5 h6
     exact⟨cur,T,h4,h7,h8⟩
 ·obtain⟨hb,hl⟩:=out id _ h1
  obtain⟨hb',hl'⟩:=out id' _ h2
  refine h.inj0 id id' l l' b hl hl' (λh5=>h3 (by simp only[h5,Ji])) (λh5=>h4 (by simp only[h5,Ji]))
 ·obtain⟨hb,hl⟩:=out id _ h1
  obtain⟨r0,h5,_,h4⟩:=up id r hb h2
  rw[h4]
  exact h.apart0 id r0 l b hl h5 h3
theorem VR.kill {a:AV}{v:Value}(h:VR S w ρ row pv a v)(lo hi:Nat):VR S w (killL lo hi ρ) (λid=>Jj lo hi id (row id)) pv (Ku lo hi a) v:=by
 unfold Ku
 cases hb:Gu lo hi a with
 |true=>exact .inl rfl
 |false=>exact h.ext (λ_ h=>h) (λ_ _=>rfl) Q1L (Q4B hb)
end
structure Sim (w0:World)(B:Old)(pv:Nat->Value)(S:Nat->Prop)(ρ:Nat->Option Loc)(st:St)(a:Act)(w:World):Prop where
 size:a.tmps.size=st.nt
 defers:a.defers=[]
 slots:∀t,VR S w ρ st.row pv (st.slot t) (a.tmps.getD t undef)
 hs:HS S w ρ st.row pv B
 below:Blw B w0 w
 hB:∀k,B k->k<w.heap.size
section
variable {w0:World} {B:Old} {pv:Nat->Value} {S:Nat->Prop} {ρ:Nat->Option Loc} {st:St} {a:Act} {w:World}
theorem Q6l {a:Act}{d:Nat}{v:Value}(hd:d<a.tmps.size)(t:Nat):(a.put (some d) v).tmps.getD t undef=if t=d then v else a.tmps.getD t undef:=by
 simp only[Act.put]
 by_cases h:t=d
 ·subst h;simp[hd]
 ·rw[if_neg h]
  simp[Array.getElem?_setIfInBounds_ne (Ne.symm h)]
theorem Sim.put (h:Sim w0 B pv S ρ st a w){d:Option Nat}(hd:∀n,d=some n->n<st.nt){b:AV}{v:Value}(hv:VR S w ρ st.row pv b v):Sim w0 B pv S ρ (st.putO d b) (a.put d v) w:=by
 cases d with
 |none=>exact h
 |some d=>
  have hd:=hd d rfl
  refine⟨by simp[Act.put,h.size,St.putO,St.put],h.defers,λt=>?_,h.hs,h.below,h.hB⟩
  rw[Q6l (by rw[h.size];exact hd)]
  simp only[St.putO,St.put]
  by_cases e:t=d
  ·subst e
   simp only[Nat.beq_refl,cond_true,if_true]
   exact hv
  ·rw[if_neg e]
   have:Nat.beq t d=false:=by
    cases hb:Nat.beq t d with
    |false=>rfl
    |true=>exact absurd (Nat.eq_of_beq_eq_true hb) e
   simp only[this,cond_false]
   exact h.slots t
theorem Sim.kill (h:Sim w0 B pv S ρ st a w)(lo hi:Nat)(hm:inR lo hi Q7=false):Sim w0 B pv S (killL lo hi ρ) (st.kill lo hi) a w:=
 ⟨h.size,h.defers,λt=>(h.slots t).kill lo hi,h.hs.kill lo hi hm,h.below,h.hB⟩
theorem Sim.drew (h:Sim w0 B pv S ρ st a w):Sim w0 B pv S ρ st a w.drew:=by
 have hkk:∀id l r,True->ρ id=some l->st.row id=some r->ρ id=some l/\∃r',st.row id=some r'/\Same r r':=λid l r _ h1 h2=>⟨h1,r,h2,.refl r⟩
 exact⟨h.size,h.defers,λt=>VR.ext (w:=w) (w':=w.drew) (λ_ h=>h) (λ_ _=>rfl) hkk (h.slots t) (λ_ _=>trivial),h.hs.world rfl,h.below.drew,h.hB⟩
end
end Go.Gx
end
section
/- What an operation does,as a relation;the interpreter's steps meet it;it hangs on the operands and the rows that are there. -/
namespace Go.Gx
def DU (G:Cal->List AV->AV->Prop)(row:Nat->Option Row)(dr:Bool)(id:Nat)(cal:Cal)(args:List AV)(u:Upd):Prop:=
 ∃cl r av news,Yt (Q2 row 6) args=some cl/\G cal cl r/\Jp id r (λa l=>some (a,l))=some (av,news)/\
  ((leads 4 r=false/\u=makes av news)\/(JL (JA 6) args=false/\(QQ args=[]\/dr=false)/\u=⟨av,news,QQ args,none,none⟩))
def Q4C (G:Cal->List AV->AV->Prop)(row:Nat->Option Row)(dr:Bool)(id:Nat)(g:Nat)(args:List AV)(u:Upd):Prop:=
 dr=false/\∃a0 rest i x0 cl r,args=a0::rest/\Q1C row a0=some (i,x0)/\Yt (Q2 row 6) rest=some cl/\(JL (JA 6) rest=false\/Ur row i rest=true)/\i ∉ QQ rest/\G (.f g) (x0::cl) r/\
  ((∃o r' ro av news,r= .kep o r'/\Gv o x0=true/\rowOf o=some ro/\Jp id r' (λa l=>some (a,l))=some (av,news)/\
    ((leads 4 r'=false/\slR ro=false/\u=⟨av,news,[],none,some (i,ro)⟩)\/(JL (JA 6) rest=false/\u=⟨av,news,QQ rest,none,some (i,ro)⟩)))\/
   (∃e τ,∃ys:List (den τ),r= .mov e τ ys/\Gv (.fr e τ ys) x0=true/\i≠Q7/\((slT τ=false/\u=⟨.own i,[],[],some (i,.flat e τ ys false true),none⟩)\/(JL (JA 6) rest=false/\u=⟨.own i,[],QQ rest,some (i,.flat e τ ys false true),none⟩)))\/
   (∃e σ,∃xs:List (den σ),∃τ,∃y:den τ,r= .pc false τ y/\x0= .fr e σ xs/\i≠Q7/\slT τ=false/\u=⟨.t τ y,[],[],some (i,.flat e σ [] false true),none⟩))
def Q2A (E:Env)(G:Cal->List AV->AV->Prop)(row:Nat->Option Row)(dr d':Bool)(id:Nat)(g:Nat)(args:List AV)(u:Upd):Prop:=
 (E.md g=false/\DU G row dr id (.f g) args u)\/(E.md g=true/\Q4C G row d' id g args u)
def Q6m (G:Cal->List AV->AV->Prop)(row:Nat->Option Row)(id:Nat)(g:Nat)(args:List AV)(u:Upd):Prop:=
 ∃cl τ x,Yt (Q2 row 6) args=some cl/\slT τ=true/\((G (.f g) (.pc false .bool true::cl) (.pc true τ x)/\u=makes (.ds id τ x) [(id,.box τ (.t .bool true))])\/(G (.f g) (.pc false .bool true::cl) (.t τ x)/\u=makes (.t τ x) []))
def Q6n (G:Cal->List AV->AV->Prop)(row:Nat->Option Row)(dr:Bool)(g:Nat)(args:List AV)(u:Upd):Prop:=
 dr=false/\∃j τ x k σ b m,args=[.ds j τ x,.t (.int .i64) k]/\row j=some (.box σ (.t .bool b))/\G (.f g) [.pc true τ x,.t (.int .i64) k] (.t (.int .i64) m)/\
  u=⟨.t (.int .i64) m,[],[],none,some (j,.box σ (.t .bool false))⟩
def DOp (E:Env)(G:Cal->List AV->AV->Prop)(dr:Bool)(o:Oper)(id:Nat)(ev:Operand->AV)(row:Nat->Option Row)(u:Upd):Prop:=
 match o.op with
 |.load T x=>∃j e,∃y:List (den e),E.ty T=some (.sl e)/\ev x= .dq j (.sl e) y/\u=quiet (.ds j (.sl e) y)
 |.store T x v=>∃τ j,∃y z:den τ,∃ρ b,E.ty T=some τ/\ev x= .dq j τ y/\row j=some (.box ρ (.t .bool b))/\agT τ=false/\slT τ=false/\ev v= .t τ z/\u=⟨QV,[],[],none,some (j,.box ρ (.t .bool false))⟩
 |.nilCheck x=>∃j σ,∃y:den σ,ev x= .dq j σ y/\u=quiet (.dq j σ y)
 |.fieldAddr T x f=>∃τ j,∃y:den τ,∃ρ,∃z:den ρ,E.ty T=some τ/\stT τ f=true/\ev x= .dq j τ y/\QH (.t τ y) f=some (.t ρ z)/\u=quiet (.dq j ρ z)
 |.field T x f=>∃τ j,∃y:den τ,∃b,E.ty T=some τ/\stT τ f=true/\ev x= .ds j τ y/\QH (.t τ y) f=some b/\u=quiet (dsF j b)
 |.indexAddr T x ix=>∃τ j,∃xs:List (den τ),∃i:Int,E.ty T=some (.sl τ)/\ev x= .ds j (.sl τ) xs/\ev ix= .t (.int .i64) i/\0<=i/\i<(xs.length:Int)/\u=quiet (.dq j τ (xs.getD i.toNat (Q9 τ)))
 |.call c=>∃f g caps,c.callee= .value f/\ev f= .clo g caps/\(Q6m G row id g (Qx ev c.args.toList++caps) u\/Q6n G row dr g (Qx ev c.args.toList++caps) u)
 |_=>False
def Q6o (E:Env)(sT:Nat)(a b:AV)(id:Nat)(row:Nat->Option Row)(u:Upd):Prop:=
 ∃τ ys,E.ty sT=some (.sl τ)/\(E.on&&slT τ)=false/\listOf row τ b=some ys/\
  ((a= .nil/\room ys.length τ=true/\u=makes (.own id) [(id,.flat (E.el sT) τ ys false true)])\/
   (∃j xs,a= .own j/\j≠Q7/\row j=some (.flat (E.el sT) τ xs false true)/\room (xs.length+ys.length) τ=true/\u=⟨.own j,[],[],some (j,.flat (E.el sT) τ (xs++ys) false true),none⟩))
def Q1M (E:Env)(b:Builtin)(argTypes:Array Nat)(args:List AV)(id:Nat)(row:Nat->Option Row)(u:Upd):Prop:=
 (b= .len/\∃a n T,args=[a]/\argTypes= #[T]/\Q3y row (E.ty T) a=some n/\u=quiet (.t (.int .i64) n))\/
 (b= .append/\∃a x T,args=[a,x]/\argTypes= #[T,T]/\Q6o E T a x id row u)\/
 (b= .min/\∃x y:Int,args=[.t (.int .i64) x,.t (.int .i64) y]/\u=quiet (.t (.int .i64) (if y<x then y else x)))\/
 (b= .max/\∃x y:Int,args=[.t (.int .i64) x,.t (.int .i64) y]/\u=quiet (.t (.int .i64) (if y > x then y else x)))\/
 (b= .min/\∃x y z:Int,args=[.t (.int .i64) x,.t (.int .i64) y,.t (.int .i64) z]/\u=quiet (.t (.int .i64) (if z<(if y<x then y else x)then z else(if y<x then y else x))))\/
 (b= .clear/\∃j i e τ,∃xs:List (den τ),∃app p T,args=[.ep j (some i) p]/\argTypes= #[T]/\E.ty T=some (.sl τ)/\Gs p=true/\row j=some (.flat e τ xs false app)/\agT τ=false/\u=⟨QV,[],[],none,some (j,.flat e τ (xs.take i++List.replicate (xs.length-i) (Q9 τ)) false app)⟩)
def YV (lo hi:Option Int)(n a b:Nat):Prop:=cut lo hi n (λa b=>some (a,b))=some (a,b)
def Q6p (E:Env)(T:Nat)(l h:Option Int)(x:AV)(row:Nat->Option Row)(u:Upd):Prop:=
 ∃j e τ,∃xs:List (den τ),∃app a b,E.ty T=some (.sl τ)/\x= .own j/\row j=some (.flat e τ xs false app)/\agT τ=false/\j≠Q7/\YV l h xs.length a b/\
  ((∃l0,l=some l0/\h=none/\u=quiet (.ep j (some a) [Q2r]))\/
   (∃h0,l=none/\h=some h0/\u=⟨.own j,[],[],some (j,.flat e τ (Jg l h xs a b) false app),none⟩))
def U0 (E:Env)(G:Cal->List AV->AV->Prop)(dr:Bool)(o:Oper)(id:Nat)(ev:Operand->AV)(row:Nat->Option Row)(u:Upd):Prop:=
 match o.op with
 |.move x=>u=quiet (ev x)
 |.assign x=>u=quiet (ev x)
 |.pick c a b=>∃v,ev c= .t .bool v/\u=quiet (cond v (ev a) (ev b))
 |.alloc T=>∃τ,E.ty T=some τ/\u=makes (.ep id none []) [(id,.box τ (Q2q τ))]
 |.box T x=>∃τ,E.ty T=some τ/\Fit τ (ev x)/\u=makes (.ep id none []) [(id,.box τ (ev x))]
 |.build T ps=>∃τ fs,E.ty T=some τ/\agT τ=true/\Jk ev (fty τ) ps.toList (XH τ)=some fs/\u=quiet (Q1A τ fs)
 |.buildSlice T n ps=>∃τ fs xs,E.ty T=some (.sl τ)/\(E.on&&slT τ)=false/\n*nc τ<=16777216/\Jk ev (List.replicate n τ) ps.toList (List.replicate n (.t τ (Q9 τ)))=some fs/\Je row τ fs=some xs/\JL (JA 6) fs=false/\(QQ fs=[]\/dr=false)/\
   u=⟨.own id,[(id,.flat (E.el T) τ xs false true)],QQ fs,none,none⟩
 |.load T x=>∃τ,E.ty T=some τ/\((∃y,ev x= .tp (.t τ y)/\u=quiet (.t τ y))\/
   (∃j p σ a b,ev x= .ep j none p/\row j=some (.box σ a)/\tyP σ p=some τ/\YT a p=some b/\u=quiet b)\/
   (∃j i p e σ xs fz app b,ev x= .ep j (some i) p/\row j=some (.flat e σ xs fz app)/\tyP σ p=some τ/\YT (.t σ (xs.getD i (Q9 σ))) p=some b/\u=quiet b))
 |.store T x v=>∃τ,E.ty T=some τ/\Fit τ (ev v)/\
   ((∃j p σ a b,ev x= .ep j none p/\row j=some (.box σ a)/\tyP σ p=some τ/\XG a p (ev v)=some b/\u=⟨QV,[],[],none,some (j,.box σ b)⟩)\/
    (∃j i p e σ xs app b y,ev x= .ep j (some i) p/\row j=some (.flat e σ xs false app)/\tyP σ p=some τ/\XG (.t σ (xs.getD i (Q9 σ))) p (ev v)=some b/\asC E.on p σ b=some y/\
     u=⟨QV,[],[],none,some (j,.flat e σ (xs.set i y) false app)⟩))
 |.nilCheck x=>u=quiet (ev x)/\((∃j i p,ev x= .ep j i p/\Gs p=false)\/(∃a,ev x= .tp a)\/(∃f c,ev x= .clo f c))
 |.binOp op T x y _=>∃b,Q3x op (E.ty T) (ev x) (ev y) some=some b/\u=quiet b
 |.unOp op _ x=>∃b,unA op (ev x) some=some b/\u=quiet b
 |.convert S T x=>
   (∃j k n,∃i,E.ty S=some (.int i)/\E.ty T=some (.int k)/\ev x= .t (.int j) n/\u=quiet (.t (.int k) (k.wrap n)))\/
   (∃s,E.ty S=some .str/\E.ty T=some .str/\ev x= .t .str s/\u=quiet (.t .str s))\/
   (∃s,E.ty S=some .str/\E.ty T=some (.sl (.int .u8))/\ev x= .t .str s/\s.size<=9223372036854775807/\u=makes (.own id) [(id,.flat (E.el T) (.int .u8) (Q6 s) false false)])\/
   (∃xs,E.ty S=some (.sl (.int .u8))/\E.ty T=some .str/\listOf row (.int .u8) (ev x)=some xs/\u=quiet (.t .str (YU xs)))\/
   (∃i j n,E.ty S=some (.int i)/\E.ty T=some .str/\ev x= .t (.int j) n/\u=quiet (.t .str (Utf8.encode n)))
 |.makeFunc fn first caps=>∃f,fn= .func f/\first= #[]/\JL Q6g (Qx ev caps.toList)=false/\u=quiet (.clo f (Qx ev caps.toList))
 |.makeSlice T l c=>∃τ,∃n:Int,E.ty T=some (.sl τ)/\ev l= .t (.int .i64) n/\ev c= .t (.int .i64) n/\0<=n/\n.toNat*nb τ<=140737488355328/\
   u=makes (.own id) [(id,.flat (E.el T) τ (List.replicate n.toNat (Q9 τ)) false true)]
 |.slice T x lo hi mx=>mx=none/\∃l h,evO ev lo=some l/\evO ev hi=some h/\
   ((dr=false/\Q6p E T l h (ev x) row u)\/(∃s a b,E.ty T=some .str/\ev x= .t .str s/\YV l h s.size a b/\u=quiet (.t .str (s.extract a b)))\/
    (∃τ,∃xs:List (den τ),∃a b,E.ty T=some (.sl τ)/\ev x= .t (.sl τ) xs/\YV l h xs.length a b/\u=quiet (.t (.sl τ) (Jg l h xs a b)))\/
    (dr=false/\∃j e τ,∃xs:List (den τ),∃fz app a b,E.ty T=some (.sl τ)/\ev x= .own j/\row j=some (.flat e τ xs fz app)/\YV l h xs.length a b/\u=⟨.t (.sl τ) (Jg l h xs a b),[],[j],none,none⟩)\/
    (∃n τ,∃xs:List (den τ),l=none/\h=none/\ev x= .tp (.t (.arr n τ) xs)/\E.ty T=some (.arr n τ)/\n<=9223372036854775807/\u=quiet (.t (.sl τ) xs))\/
    (∃j e τ,∃xs:List (den τ),∃app a b,E.ty T=some (.sl τ)/\ev x= .own j/\row j=some (.flat e τ xs true app)/\YV l h xs.length a b/\u=quiet (.t (.sl τ) (Jg l h xs a b))))
 |.fieldAddr T x f=>∃τ,E.ty T=some τ/\stT τ f=true/\((∃y b,ev x= .tp (.t τ y)/\QH (.t τ y) f=some b/\u=quiet (.tp b))\/
   (∃j i p σ r,ev x= .ep j i p/\row j=some r/\((∃a,r= .box σ a)\/(∃e xs fz app,r= .flat e σ xs fz app))/\tyP σ p=some τ/\u=quiet (.ep j i (p++[f]))))
 |.field T x f=>∃τ b,E.ty T=some τ/\stT τ f=true/\Fit τ (ev x)/\QH (ev x) f=some b/\u=quiet b
 |.indexAddr T x ix=>∃i:Int,ev ix= .t (.int .i64) i/\0<=i/\
   ((∃τ,∃xs:List (den τ),E.ty T=some (.sl τ)/\ev x= .t (.sl τ) xs/\i<(xs.length:Int)/\u=quiet (.tp (.t τ (xs.getD i.toNat (Q9 τ)))))\/
    (∃j e τ,∃xs:List (den τ),∃fz app,E.ty T=some (.sl τ)/\ev x= .own j/\row j=some (.flat e τ xs fz app)/\i<(xs.length:Int)/\u=quiet (.ep j (some i.toNat) []))\/
    (∃n τ,∃xs:List (den τ),E.ty T=some (.arr n τ)/\ev x= .tp (.t (.arr n τ) xs)/\1<n/\i<(n:Int)/\u=quiet (.tp (.t τ (xs.getD i.toNat (Q9 τ))))))
 |.index T x ix=>(∃s k,∃i:Int,E.ty T=some .str/\ev x= .t .str s/\ev ix= .t (.int k) i/\0<=i/\i<(s.size:Int)/\u=quiet (.t (.int .u8) (bt s i.toNat)))\/
   (∃n xs,∃i:Int,E.ty T=some (.arr n .str)/\ev x= .t (.arr n .str) xs/\ev ix= .t (.int .i64) i/\0<=i/\i<(n:Int)/\u=quiet (.t .str (xs.getD i.toNat ⟨#[]⟩)))
 |.extract x i=>∃vs a,ev x= .tup vs/\vs[i]? =some a/\u=quiet a
 |.call c=>(∃b,c.callee= .builtin b/\Q1M E b c.argTypes (Qx ev c.args.toList) id row u)\/
   (∃f,c.callee= .value f/\((∃g caps,ev f= .clo g caps/\Q2A E G row dr (drM dr f g (Qx ev c.args.toList++caps)) id g (Qx ev c.args.toList++caps) u)\/(∃i,ev f= .par i/\DU G row dr id (.par i) (Qx ev c.args.toList) u)))
 |_=>False
def Q6q (G:Cal->List AV->AV->Prop)(row:Nat->Option Row)(id:Nat)(g:Nat)(args:List AV)(u:Upd):Prop:=
 ∃cl r av news,Yt (Q2 row 6) args=some cl/\G (.f g) (.pc false .bool false::cl) r/\JQ id r (λa l=>some (a,l))=some (av,news)/\u=makes av news
def Q6r (G:Cal->List AV->AV->Prop)(row:Nat->Option Row)(dr:Bool)(g:Nat)(args:List AV)(u:Upd):Prop:=
 dr=false/\∃j τ rest σ0 a b,∃x y:den τ,∃cl,args= .tv j τ::rest/\row j=some (.box σ0 (.tup [a,b,.t τ x]))/\Yt (Q2 row 6) rest=some cl/\Q0B.allL (Q0K j 6) rest=true/\j≠Q7/\
  G (.f g) (.pc false τ x::cl) (.tr τ y)/\u=⟨.tv j τ,[],[],some (j,QP 0 false τ y),none⟩
def Q3J (G:Cal->List AV->AV->Prop)(row:Nat->Option Row)(dr:Bool)(g:Nat)(args:List AV)(u:Upd):Prop:=
 dr=false/\∃k m:Int,(∃j τ σ0 a b,∃x y:den τ,args=[.tv j τ,.t (.int .i64) k]/\row j=some (.box σ0 (.tup [a,b,.t τ x]))/\G (.f g) [.pc false τ x,.t (.int .i64) k] (.kep (.t τ y) (.t (.int .i64) m))/\
   u=⟨.t (.int .i64) m,[],[],none,some (j,QP 0 false τ y)⟩)\/
  (∃j q p τ σ0 a b σ,∃x x':den σ,∃z y:den (.sl τ),args=[.vw j q p τ,.t (.int .i64) k]/\row j=some (.box σ0 (.tup [a,b,.t σ x]))/\viewAt σ x q p=some (.t (.sl τ) z)/\G (.f g) [.pc false (.sl τ) z,.t (.int .i64) k] (.kep (.t (.sl τ) y) (.t (.int .i64) m))/\
   setAt σ x q p (.t (.sl τ) y)=some x'/\u=⟨.t (.int .i64) m,[],[],none,some (j,QP 0 false σ x')⟩)
def TOp (E:Env)(G:Cal->List AV->AV->Prop)(dr:Bool)(o:Oper)(id:Nat)(ev:Operand->AV)(row:Nat->Option Row)(u:Upd):Prop:=
 match o.op with
 |.load T x=>∃τ j i p σ0 a b σ,∃x':den σ,∃y:den τ,E.ty T=some τ/\ev x= .tq j i p/\row j=some (.box σ0 (.tup [a,b,.t σ x']))/\viewAt σ x' (some i) p=some (.t τ y)/\u=quiet (Q5a j (some i) p τ y)
 |.store T x v=>∃τ j i p σ0 a b σ,∃x' y:den σ,∃z z0:den τ,E.ty T=some τ/\ev x= .tq j i p/\ev v= .t τ z/\row j=some (.box σ0 (.tup [a,b,.t σ x']))/\agT τ=false/\slT τ=false/\viewAt σ x' (some i) p=some (.t τ z0)/\
   setAt σ x' (some i) p (.t τ z)=some y/\u=⟨QV,[],[],none,some (j,QP 0 false σ y)⟩
 |.nilCheck x=>∃j i p,ev x= .tq j i p/\u=quiet (.tq j i p)
 |.fieldAddr T x f=>∃τ j i p σ a,E.ty T=some τ/\ev x= .tq j i p/\row j=some (.box (.sl σ) a)/\tyP σ p=some τ/\stT τ f=true/\u=quiet (.tq j i (p++[f]))
 |.field T x f=>∃τ j σ0 a b,∃y:den τ,∃ρ,∃z:den ρ,E.ty T=some τ/\ev x= .tv j τ/\row j=some (.box σ0 (.tup [a,b,.t τ y]))/\QH (.t τ y) f=some (.t ρ z)/\stT τ f=true/\u=quiet (vw1 j none [f] ρ z)
 |.indexAddr T x ix=>∃τ j σ0 a b,∃xs:List (den τ),∃i:Int,E.ty T=some (.sl τ)/\ev x= .tv j (.sl τ)/\ev ix= .t (.int .i64) i/\row j=some (.box σ0 (.tup [a,b,.t (.sl τ) xs]))/\0<=i/\i<(xs.length:Int)/\u=quiet (.tq j i.toNat [])
 |.buildSlice T n ps=>∃τ,E.ty T=some (.sl τ)/\n=0/\slT τ=true/\ps.toList=[]/\u=makes (.tv id (.sl τ)) [(id,QP (E.el T) true (.sl τ) [])]
 |.call c=>(∃n,c.callee= .builtin .len/\Q3D row E c.argTypes.toList (Qx ev c.args.toList)=some n/\u=quiet (.t (.int .i64) n))\/
  ∃f g caps,c.callee= .value f/\ev f= .clo g caps/\(Q6r G row (dr&& !(Q3z g f&&E.md g)) g (Qx ev c.args.toList++caps) u\/Q6q G row id g (Qx ev c.args.toList++caps) u\/Q3J G row dr g (Qx ev c.args.toList++caps) u)
 |_=>False
def MOp (E:Env)(o:Oper)(id:Nat)(st st':St):Prop:=
 match o.op with
 |.buildSlice T n ps=>∃τ fs,∃xs:List (den τ),E.ty T=some (.sl τ)/\n*nc τ<=16777216/\Jk (ev E st) (List.replicate n τ) ps.toList (List.replicate n (.t τ (Q9 τ)))=some fs/\Je st.row τ fs=some xs/\Q0B.allL (Yd st.row 6) fs=true/\slT τ=true/\
   Qy (Y5 fs)=true/\Q7 ∉ Y5 fs/\st'=((st.killL (Y5 fs)).setRow id (QP (E.el T) true (.sl τ) xs)).putO o.dst (.tv id (.sl τ))
 |.indexAddr T x ix=>∃τ j q p σ0 a b σ,∃x':den σ,∃xs:List (den τ),∃i:Int,E.ty T=some (.sl τ)/\ev E st x= .vw j q p τ/\ev E st ix= .t (.int .i64) i/\st.row j=some (.box σ0 (.tup [a,b,.t σ x']))/\viewAt σ x' q p=some (.t (.sl τ) xs)/\j≠Q7/\
   0<=i/\i<(xs.length:Int)/\st'=((st.kill j (j+1)).setRow id (QP 0 false (.sl τ) xs)).putO o.dst (.tq id i.toNat [])
 |.call c=>∃T j k τ σ1 σ2 a b,∃xs ys:List (den τ),c.callee= .builtin .append/\c.argTypes= #[T,T]/\Qx (ev E st) c.args.toList=[.tv j (.sl τ),.tv k (.sl τ)]/\E.ty T=some (.sl τ)/\st.row j=some (.box σ1 (.tup [.t (.int .i64) ((E.el T:Nat):Int),.t .bool true,.t (.sl τ) xs]))/\
   st.row k=some (.box σ2 (.tup [a,b,.t (.sl τ) ys]))/\j≠k/\j≠Q7/\k≠Q7/\room (xs.length+ys.length) τ=true/\
   st'=(((st.kill k (k+1)).kill j (j+1)).setRow j (QP (E.el T) true (.sl τ) (xs++ys))).putO o.dst (.tv j (.sl τ))
 |_=>False
def AOp (E:Env)(G:Cal->List AV->AV->Prop)(dr:Bool)(o:Oper)(id:Nat)(ev:Operand->AV)(row:Nat->Option Row)(u:Upd):Prop:=
 U0 E G dr o id ev row u\/DOp E G dr o id ev row u\/TOp E G dr o id ev row u
def SOp (E:Env)(G:Cal->List AV->AV->Prop)(o:Oper)(id:Nat)(ev:Operand->AV)(row:Nat->Option Row)(u:Upd):Prop:=
 (US E o=true/\U0 E G false o id ev (UR E (QR E o) row) u/\DO E o row u=true)\/
 (US E o=false/\Q3E o.op=true/\∃u0,U0 E G true o id ev (Ym E row) u0/\Gy u0=some u)\/
 (US E o=false/\Q3E o.op=false/\U0 E G true o id ev (Ym E row) u/\DR E u.news=true)\/
 (US E o=false/\TOp E G true o id ev (Ym E row) u/\DR E u.news=true)
def Q2B (E:Env)(G:Cal->List AV->AV->Prop)(dr:Bool)(o:Oper)(id:Nat)(ev:Operand->AV)(row:Nat->Option Row)(u:Upd):Prop:=
 (E.so=false/\AOp E G dr o id ev row u)\/(E.so=true/\SOp E G o id ev row u)
def JE (C:Orc)(G:Cal->List AV->AV->Prop):Prop:=∀(R:Type) cal args (K:AV->Option R) r,C cal args K=some r->∃res,G cal args res/\K res=some r
section
variable {R:Type} {r:R}
theorem Q5 {b:Bool}{x:Option R}(h:cond b x none=some r):b=true/\x=some r:=by
 cases b with
 |false=>cases h
 |true=>exact⟨rfl,h⟩
theorem Q6s {op:BinOp}{k:IntKind}{x y:Int}{K:AV->Option R}(h:Q67 op k x y K=some r):∃b,Q67 op k x y some=some b/\K b=some r:=by
 cases op<;>simp only[Q67]at h ⊢ <;>first
  |exact⟨_,rfl,h⟩
  |(cases hy:(y==0)<;>rw[hy]at h<;>simp at h ⊢ <;>exact h)
  |cases h
theorem Q6t {op:BinOp}{x y:ByteArray}{K:AV->Option R}(h:Q68 op x y K=some r):∃b,Q68 op x y some=some b/\K b=some r:=by
 cases op<;>simp only[Q68]at h ⊢ <;>first
  |exact⟨_,rfl,h⟩
  |(cases hy:(Nat.ble (x.size+y.size) 9223372036854775807)<;>rw[hy]at h<;>simp at h ⊢ <;>exact h)
  |cases h
theorem Q6u {op:BinOp}{a b:AV}{K:AV->Option R}(h:Q5b op a b K=some r):∃c,Q5b op a b some=some c/\K c=some r:=by
 unfold Q5b at h ⊢
 split at h
 ·split at h
  ·obtain⟨h1,h⟩:=Q5 h
   exact⟨_,by unfold Q9b;rw[h1];rfl,h⟩
  ·split at h
   ·exact Q6s h
   ·cases h
 ·exact Q6t h
 ·cases h
theorem Q6v {op:BinOp}{t:Option Ty}{a b:AV}{K:AV->Option R}(h:Q3x op t a b K=some r):∃c,Q3x op t a b some=some c/\K c=some r:=by
 unfold Q3x at h ⊢
 split at h
 ·cases op<;>first
   |exact⟨_,rfl,h⟩
   |cases h
 ·cases op<;>first
   |exact⟨_,rfl,h⟩
   |cases h
 ·cases op<;>first
   |exact⟨_,rfl,h⟩
   |cases h
 ·exact Q6u h
theorem Q82 {op:UnOp}{a:AV}{K:AV->Option R}(h:unA op a K=some r):∃c,unA op a some=some c/\K c=some r:=by
 unfold unA at h ⊢
 split at h
 ·exact⟨_,rfl,h⟩
 ·exact⟨_,rfl,h⟩
 ·cases h
theorem Yo {i:Int}{n:Nat}{K:Option R}(h:idx i n K=some r):0<=i/\i<(n:Int)/\K=some r:=by
 unfold idx at h
 cases h1:decide (0<=i)with
 |false=>rw[h1]at h;cases h
 |true=>
  cases h2:decide (i<(n:Int))with
  |false=>rw[h1,h2]at h;cases h
  |true=>rw[h1,h2]at h;exact⟨of_decide_eq_true h1,of_decide_eq_true h2,h⟩
theorem Ub {lo hi:Option Int}{n:Nat}{K:Nat->Nat->Option R}(h:cut lo hi n K=some r):∃a b,YV lo hi n a b/\K a b=some r:=by
 unfold YV
 cases lo with
 |none=>
  cases hi with
  |none=>exact⟨_,_,rfl,h⟩
  |some b=>
   simp only[cut]at h ⊢
   obtain⟨h1,h⟩:=Q5 h
   obtain⟨h2,h⟩:=Q5 h
   exact⟨_,_,by rw[h1,h2];rfl,h⟩
 |some a=>
  cases hi with
  |none=>
   simp only[cut]at h ⊢
   obtain⟨h1,h⟩:=Q5 h
   obtain⟨h2,h⟩:=Q5 h
   exact⟨_,_,by rw[h1,h2];rfl,h⟩
  |some b=>
   simp only[cut]at h ⊢
   obtain⟨h1,h⟩:=Q5 h
   obtain⟨h2,h⟩:=Q5 h
   obtain⟨h3,h⟩:=Q5 h
   obtain⟨h4,h⟩:=Q5 h
   exact⟨_,_,by rw[h1,h2,h3,h4];rfl,h⟩
theorem QN {id:Nat}{a:AV}{K:AV->List (Nat×Row)->Option R}(h:Y0 id a K=some r):∃b l,Y0 id a (λb l=>some (b,l))=some (b,l)/\K b l=some r:=by
 cases a<;>exact⟨_,_,rfl,h⟩
theorem UW {id:Nat}{a b:AV}{l:List (Nat×Row)}{R':Type}(h:Y0 id a (λb l=>some (b,l))=some (b,l))(K:AV->List (Nat×Row)->Option R'):Y0 id a K=K b l:=by
 cases a<;>simp only[Y0,Option.some.injEq,Prod.mk.injEq]at h ⊢ <;>(obtain⟨rfl,rfl⟩:=h;rfl)
theorem Uc {id:Nat}{a:AV}{K:AV->List (Nat×Row)->Option R}(h:Jp id a K=some r):∃b l,Jp id a (λb l=>some (b,l))=some (b,l)/\K b l=some r:=by
 cases a with
 |tup vs=>
  match vs,h with
  |[],h=>exact⟨_,_,rfl,h⟩
  |[_],h=>simp[Jp]at h
  |[x,y],h=>
   simp only[Jp]at h ⊢
   obtain⟨b1,l1,e1,h⟩:=QN h
   obtain⟨b2,l2,e2,h⟩:=QN h
   exact⟨_,_,by rw[UW e1,UW e2],h⟩
  |[x,y,z],h=>
   simp only[Jp]at h ⊢
   obtain⟨b1,l1,e1,h⟩:=QN h
   obtain⟨b2,l2,e2,h⟩:=QN h
   obtain⟨b3,l3,e3,h⟩:=QN h
   exact⟨_,_,by rw[UW e1,UW e2,UW e3],h⟩
  |_::_::_::_::_,h=>simp[Jp]at h
 |_=>simp only[Jp]at h ⊢;exact QN h
variable {E:Env} {C:Orc} {G:Cal->List AV->AV->Prop}
theorem Q0T (hC:JE C G){cal:Cal}{args:List AV}{dr:Bool}{id:Nat}{row:Nat->Option Row}{K:Upd->Option R}(h:Q4v C cal args dr id row K=some r):∃u,DU G row dr id cal args u/\K u=some r:=by
 unfold Q4v at h
 split at h
 ·cases h
 ·rename_i cl hcl
  obtain⟨res,hres,h⟩:=hC _ _ _ _ _ h
  split at h
  ·rename_i hl
   obtain⟨b,l,e,h⟩:=Uc h
   exact⟨_,⟨cl,res,b,l,hcl,hres,e,.inl ⟨hl,rfl⟩⟩,h⟩
  ·split at h
   ·rename_i h1 h2
    obtain⟨b,l,e,h⟩:=Uc h
    exact⟨_,⟨cl,res,b,l,hcl,hres,e,.inr ⟨h2,.inl h1,by rw[h1];rfl⟩⟩,h⟩
   ·rename_i h1 h2 _
    split at h
    ·obtain⟨b,l,e,h⟩:=Uc h
     exact⟨_,⟨cl,res,b,l,hcl,hres,e,.inr ⟨h2,.inr rfl,rfl⟩⟩,h⟩
    ·cases h
   ·cases h
theorem Q5h (hC:JE C G){g:Nat}{args:List AV}{dr:Bool}{id:Nat}{row:Nat->Option Row}{K:Upd->Option R}(h:Q6a C g args dr id row K=some r):∃u,Q4C G row dr id g args u/\K u=some r:=by
 unfold Q6a at h
 split at h
 ·rename_i a0 rest
  split at h
  ·rename_i i x0 cl hh hcl
   split at h
   ·rename_i hg
    simp only[Bool.and_eq_true,Bool.or_eq_true,Bool.not_eq_true']at hg
    obtain⟨res,hres,h⟩:=hC _ _ _ _ _ h
    have hi:i ∉ QQ rest:=by simpa using hg.2
    split at h
    ·rename_i o r'
     split at h
     ·rename_i ro hk hro
      split at h
      ·rename_i hl
       obtain⟨b,l,e,h⟩:=Uc h
       exact⟨_,⟨rfl,a0,rest,i,x0,cl,_,rfl,hh,hcl,hg.1,hi,hres,.inl ⟨o,r',ro,b,l,rfl,hk,hro,e,.inl ⟨(Bool.or_eq_false_iff.1 hl).1,(Bool.or_eq_false_iff.1 hl).2,rfl⟩⟩⟩,h⟩
      ·split at h
       ·rename_i he
        obtain⟨b,l,e,h⟩:=Uc h
        exact⟨_,⟨rfl,a0,rest,i,x0,cl,_,rfl,hh,hcl,hg.1,hi,hres,.inl ⟨o,r',ro,b,l,rfl,hk,hro,e,.inr ⟨he,rfl⟩⟩⟩,h⟩
       ·cases h
     ·cases h
    ·rename_i e τ ys
     split at h
     ·rename_i hk
      split at h
      ·cases h
      ·rename_i hne
       have hne:i≠Q7:=λe=>by rw[e,Nat.beq_refl]at hne;cases hne
       split at h
       ·rename_i hsl
        exact⟨_,⟨rfl,a0,rest,i,x0,cl,_,rfl,hh,hcl,hg.1,hi,hres,.inr (.inl ⟨e,τ,ys,rfl,hk,hne,.inl ⟨hsl,rfl⟩⟩)⟩,h⟩
       ·split at h
        ·rename_i he
         exact⟨_,⟨rfl,a0,rest,i,x0,cl,_,rfl,hh,hcl,hg.1,hi,hres,.inr (.inl ⟨e,τ,ys,rfl,hk,hne,.inr ⟨he,rfl⟩⟩)⟩,h⟩
        ·cases h
     ·cases h
    ·rename_i τ y
     cases hb:(Nat.beq i Q7||slT τ)with
     |true=>rw[hb]at h;cases x0<;>cases h
     |false=>
      rw[hb]at h
      simp only[Bool.or_eq_false_iff]at hb
      cases x0 with
      |fr e σ xs=>exact⟨_,⟨rfl,a0,rest,i,_,cl,_,rfl,hh,hcl,hg.1,hi,hres,.inr (.inr ⟨e,σ,xs,τ,y,rfl,rfl,(λe=>by rw[e,Nat.beq_refl]at hb;cases hb.1),hb.2,rfl⟩)⟩,h⟩
      |_=>cases h
    ·cases h
   ·cases h
  ·cases h
 ·cases h
theorem Q6w {sT:Nat}{a b:AV}{id:Nat}{row:Nat->Option Row}{K:Upd->Option R}(h:Q8H E sT a b id row K=some r):∃u,Q6o E sT a b id row u/\K u=some r:=by
 unfold Q8H at h
 split at h
 ·rename_i τ hτ
  split at h
  ·cases h
  ·rename_i ys hon hys
   split at h
   ·obtain⟨h1,h⟩:=Q5 h
    exact⟨_,⟨τ,ys,hτ,hon,hys,.inl ⟨rfl,h1,rfl⟩⟩,h⟩
   ·rename_i j
    split at h
    ·rename_i e σ xs hrow
     split at h
     ·rename_i hst _
      split at h
      ·rename_i he
       subst hst
       obtain⟨h1,h⟩:=Q5 h
       simp only[Bool.and_eq_true,Bool.not_eq_true']at he
       obtain⟨he,hne⟩:=he
       have hne:j≠Q7:=λe=>by rw[e,Nat.beq_refl]at hne;cases hne
       have he:=Nat.eq_of_beq_eq_true he
       subst he
       exact⟨_,⟨σ,ys,hτ,hon,hys,.inr ⟨j,xs,rfl,hne,hrow,h1,rfl⟩⟩,h⟩
      ·cases h
     ·cases h
    ·cases h
   ·cases h
  ·cases h
 ·cases h
theorem Q1N {b:Builtin}{ats:Array Nat}{args:List AV}{id:Nat}{row:Nat->Option Row}{K:Upd->Option R}(h:Gw E b ats args id row K=some r):∃u,Q1M E b ats args id row u/\K u=some r:=by
 unfold Gw at h
 split at h
 ·split at h
  ·rename_i T hT
   split at h
   ·rename_i n hn
    exact⟨_,.inl ⟨rfl,_,n,T,rfl,Array.toList_inj.1 hT,hn,rfl⟩,h⟩
   ·cases h
  ·cases h
 ·split at h
  ·rename_i T T' hT
   split at h
   ·rename_i e
    have e:=Nat.eq_of_beq_eq_true e
    subst e
    obtain⟨u,h1,h2⟩:=Q6w h
    exact⟨u,.inr (.inl ⟨rfl,_,_,T,rfl,Array.toList_inj.1 hT,h1⟩),h2⟩
   ·cases h
  ·cases h
 ·exact⟨_,.inr (.inr (.inl ⟨rfl,_,_,rfl,rfl⟩)),h⟩
 ·exact⟨_,.inr (.inr (.inr (.inl ⟨rfl,_,_,rfl,rfl⟩))),h⟩
 ·exact⟨_,.inr (.inr (.inr (.inr (.inl ⟨rfl,_,_,_,rfl,rfl⟩)))),h⟩
 ·split at h
  ·rename_i ht hr
   split at h
   ·rename_i T hT hag
    split at h
    ·rename_i σ hty
     split at h
     ·rename_i e _
      subst e
      exact⟨_,.inr (.inr (.inr (.inr (.inr ⟨rfl,_,_,_,_,_,_,_,T,rfl,Array.toList_inj.1 hT,hty,ht,hr,hag,rfl⟩)))),h⟩
     ·cases h
    ·cases h
   ·cases h
  ·cases h
 ·cases h
end
end Go.Gx
end
section
/- The interpreter's operations meet the relation. -/
namespace Go.Gx
section
variable {R:Type} {r:R} {E:Env} {C:Orc} {G:Cal->List AV->AV->Prop}
theorem Q0U (j:Nat)(l h:Option Int)(fz ag:Bool) :
  (Q69 j l h fz ag=1->j≠Q7/\fz=false/\ag=false/\(∃l0,l=some l0)/\h=none)/\
  (Q69 j l h fz ag≠0->Q69 j l h fz ag≠1->j≠Q7/\fz=false/\ag=false/\(∃h0,h=some h0)/\l=none):=by
 have hne:∀{b:Bool},(Nat.beq j Kt&&b)=true->j≠Q7:=λhb e=>by
  subst e
  exact absurd hb (by simp[Q7,Kt])
 unfold Q69
 refine⟨λhk=>?_,λh0 h1=>?_⟩
 ·split at hk
  ·rename_i hb
   refine⟨hne hb,?_⟩
   simp only[Bool.and_eq_true,Bool.not_eq_true']at hb
   exact⟨hb.2.1,hb.2.2,⟨_,rfl⟩,rfl⟩
  ·cases hk
  ·cases hk
 ·split at h0
  ·rename_i hb
   rw[hb]at h1
   exact absurd rfl h1
  ·rename_i hb
   refine⟨hne hb,?_⟩
   simp only[Bool.and_eq_true,Bool.not_eq_true']at hb
   exact⟨hb.2.1,hb.2.2,⟨_,rfl⟩,rfl⟩
  ·exact absurd rfl h0
theorem UX (hC:JE C G){dr:Bool}{o:Oper}{id:Nat}{ev:Operand->AV}{row:Nat->Option Row}{K:Upd->Option R}(h:Q3A E C dr o id ev row K=some r):∃u,U0 E G dr o id ev row u/\K u=some r:=by
 obtain⟨dst,op,type,pos,after,guard⟩:=o
 unfold U0
 cases op<;>simp only[Q3A]at h ⊢
 case move x=>exact⟨_,rfl,h⟩
 case assign x=>exact⟨_,rfl,h⟩
 case pick c a b=>
  split at h
  ·rename_i v hv
   refine⟨_,⟨v,hv,rfl⟩,?_⟩
   cases v<;>exact h
  ·cases h
 case alloc T=>
  split at h
  ·rename_i τ hτ
   exact⟨_,⟨τ,hτ,rfl⟩,h⟩
  ·cases h
 case box T x=>
  split at h
  ·rename_i τ hτ
   split at h
   ·rename_i hf
    exact⟨_,⟨τ,hτ,KB hf,rfl⟩,h⟩
   ·cases h
  ·cases h
 case build T ps=>
  split at h
  ·rename_i τ hτ
   split at h
   ·rename_i hg
    split at h
    ·rename_i fs hfs
     exact⟨_,⟨τ,fs,hτ,hg,hfs,rfl⟩,h⟩
    ·cases h
   ·cases h
  ·cases h
 case buildSlice T n ps=>
  split at h
  ·rename_i τ hτ
   split at h
   ·rename_i fs hb hfs
    simp only[Bool.and_eq_true,Bool.not_eq_true']at hb
    obtain⟨hb,hon⟩:=hb
    split at h
    ·rename_i xs hxs
     split at h
     ·rename_i hi he
      exact⟨_,⟨τ,fs,xs,hτ,hon,Nat.le_of_ble_eq_true hb,hfs,hxs,he,.inl hi,rfl⟩,by rw[hi];exact h⟩
     ·rename_i he _
      split at h
      ·exact⟨_,⟨τ,fs,xs,hτ,hon,Nat.le_of_ble_eq_true hb,hfs,hxs,he,.inr rfl,rfl⟩,h⟩
      ·cases h
     ·cases h
    ·cases h
   ·cases h
  ·cases h
 case load T x=>
  split at h
  ·rename_i τ σ y hτ hx
   split at h
   ·rename_i e _
    subst e
    exact⟨_,⟨_,hτ,.inl ⟨y,hx,rfl⟩⟩,h⟩
   ·cases h
  ·rename_i τ j p hτ hx
   split at h
   ·rename_i σ a hr
    split at h
    ·rename_i ρ hp
     split at h
     ·rename_i e _
      subst e
      split at h
      ·rename_i b hb
       exact⟨_,⟨_,hτ,.inr (.inl ⟨j,p,σ,a,b,hx,hr,hp,hb,rfl⟩)⟩,h⟩
      ·cases h
     ·cases h
    ·cases h
   ·cases h
  ·rename_i τ j i p hτ hx
   split at h
   ·rename_i e σ xs fz app hr
    split at h
    ·rename_i ρ hp
     split at h
     ·rename_i e _
      subst e
      split at h
      ·rename_i b hb
       exact⟨_,⟨_,hτ,.inr (.inr ⟨j,i,p,_,σ,xs,fz,app,b,hx,hr,hp,hb,rfl⟩)⟩,h⟩
      ·cases h
     ·cases h
    ·cases h
   ·cases h
  ·cases h
 case store T x v=>
  split at h
  ·rename_i τ j p hτ hx
   split at h
   ·rename_i σ a hr
    split at h
    ·rename_i ρ hp
     split at h
     ·rename_i e _ hf
      subst e
      split at h
      ·rename_i b hb
       exact⟨_,⟨_,hτ,KB hf,.inl ⟨j,p,σ,a,b,hx,hr,hp,hb,rfl⟩⟩,h⟩
      ·cases h
     ·cases h
    ·cases h
   ·cases h
  ·rename_i τ j i p hτ hx
   split at h
   ·rename_i e σ xs app hr
    split at h
    ·rename_i ρ hp
     split at h
     ·rename_i e' _ hf
      subst e'
      split at h
      ·rename_i b hb
       split at h
       ·rename_i y hy
        exact⟨_,⟨_,hτ,KB hf,.inr ⟨j,i,p,e,σ,xs,_,b,y,hx,hr,hp,hb,hy,rfl⟩⟩,h⟩
       ·cases h
      ·cases h
     ·cases h
    ·cases h
   ·cases h
  ·cases h
 case nilCheck x=>
  split at h
  ·rename_i j i p hx
   split at h
   ·rename_i hp
    exact⟨_,⟨rfl,.inl ⟨j,i,p,hx,hp⟩⟩,by rw[hx];exact h⟩
   ·cases h
  ·rename_i a hx
   exact⟨_,⟨rfl,.inr (.inl ⟨a,hx⟩)⟩,by rw[hx];exact h⟩
  ·rename_i f c hx
   exact⟨_,⟨rfl,.inr (.inr ⟨f,c,hx⟩)⟩,by rw[hx];exact h⟩
  ·cases h
 case binOp bo t x y z=>
  obtain⟨b,hb,h⟩:=Q6v h
  exact⟨_,⟨b,hb,rfl⟩,h⟩
 case unOp uo t x=>
  obtain⟨b,hb,h⟩:=Q82 h
  exact⟨_,⟨b,hb,rfl⟩,h⟩
 case convert S T x=>
  split at h
  ·rename_i i k j n hS hT hx
   exact⟨_,.inl ⟨j,k,n,i,hS,hT,hx,rfl⟩,h⟩
  ·rename_i s hS hT hx
   exact⟨_,.inr (.inl ⟨s,hS,hT,hx,rfl⟩),h⟩
  ·rename_i s hS hT hx
   obtain⟨h0,h⟩:=Q5 h
   exact⟨_,.inr (.inr (.inl ⟨s,hS,hT,hx,Nat.le_of_ble_eq_true h0,rfl⟩)),h⟩
  ·rename_i hS hT
   split at h
   ·rename_i xs hxs
    exact⟨_,.inr (.inr (.inr (.inl ⟨xs,hS,hT,hxs,rfl⟩))),h⟩
   ·cases h
  ·rename_i i j n hS hT hx
   exact⟨_,.inr (.inr (.inr (.inr ⟨i,j,n,hS,hT,hx,rfl⟩))),h⟩
  ·cases h
 case makeFunc fn first caps=>
  cases fn<;>simp only at h
  case func f=>
   split at h
   ·rename_i hf
    split at h
    ·rename_i hn
     exact⟨_,⟨f,rfl,Array.toList_eq_nil_iff.1 hf,hn,rfl⟩,h⟩
    ·cases h
   ·cases h
  all_goals cases h
 case makeSlice T l c=>
  split at h
  ·rename_i τ n m hT hl hc
   obtain⟨h1,g1⟩:=Q5 h
   obtain⟨h2,g2⟩:=Q5 g1
   obtain⟨h3,g3⟩:=Q5 g2
   have e:n=m:=by simpa using h1
   subst e
   exact⟨_,⟨τ,n,hT,hl,hc,of_decide_eq_true h2,Nat.le_of_ble_eq_true h3,rfl⟩,g3⟩
  ·cases h
 case slice T x lo hi mx=>
  cases mx with
  |some _=>cases h
  |none=>
   simp only at h
   split at h
   ·rename_i l h' s hT hl hh hx
    obtain⟨a,b,hc,h⟩:=Ub h
    exact⟨_,⟨rfl,l,h',hl,hh,.inr (.inl ⟨s,a,b,hT,hx,hc,rfl⟩)⟩,h⟩
   ·rename_i σ l h' τ xs hT hl hh hx
    split at h
    ·rename_i e _
     subst e
     obtain⟨a,b,hc,h⟩:=Ub h
     exact⟨_,⟨rfl,l,h',hl,hh,.inr (.inr (.inl ⟨_,xs,a,b,hT,hx,hc,rfl⟩))⟩,h⟩
    ·cases h
   ·rename_i σ l h' j hT hl hh hx
    split at h
    ·rename_i e τ xs fz app hr
     split at h
     ·rename_i e' _
      subst e'
      split at h
      ·obtain⟨a,b,hc,h⟩:=Ub h
       exact⟨_,⟨rfl,l,h',hl,hh,.inr (.inr (.inr (.inl ⟨rfl,j,e,_,xs,fz,app,a,b,hT,hx,hr,hc,rfl⟩)))⟩,h⟩
      ·rename_i h1
       obtain⟨a,b,hc,h⟩:=Ub h
       obtain⟨k1,k2,k3,k4⟩:=(Q0U _ _ _ _ _).1 h1
       subst k2
       exact⟨_,⟨rfl,l,h',hl,hh,.inl ⟨rfl,j,e,_,xs,app,a,b,hT,hx,hr,k3,k1,hc,.inl ⟨k4.1.choose,k4.1.choose_spec,k4.2,rfl⟩⟩⟩,h⟩
      ·rename_i h0 h1
       obtain⟨a,b,hc,h⟩:=Ub h
       obtain⟨k1,k2,k3,k4⟩:=(Q0U _ _ _ _ _).2 h0 h1
       subst k2
       exact⟨_,⟨rfl,l,h',hl,hh,.inl ⟨rfl,j,e,_,xs,app,a,b,hT,hx,hr,k3,k1,hc,.inr ⟨k4.1.choose,k4.2,k4.1.choose_spec,rfl⟩⟩⟩,h⟩
     ·cases h
    ·rename_i e τ xs app hr
     split at h
     ·rename_i e' _
      subst e'
      obtain⟨a,b,hc,h⟩:=Ub h
      exact⟨_,⟨rfl,l,h',hl,hh,.inr (.inr (.inr (.inr (.inr ⟨j,e,_,xs,app,a,b,hT,hx,hr,hc,rfl⟩))))⟩,h⟩
     ·cases h
    ·cases h
   ·rename_i m σ n τ xs hT hl hh hx
    split at h
    ·rename_i e _ hn
     subst e
     have:=Nat.eq_of_beq_eq_true hn
     subst this
     obtain⟨h0,h⟩:=Q5 h
     exact⟨_,⟨rfl,none,none,hl,hh,.inr (.inr (.inr (.inr (.inl ⟨_,_,xs,rfl,rfl,hx,hT,Nat.le_of_ble_eq_true h0,rfl⟩))))⟩,h⟩
    ·cases h
   ·cases h
 case fieldAddr T x f=>
  split at h
  ·rename_i τ σ y hτ hx
   split at h
   ·rename_i e b _ hb
    subst e
    obtain⟨hst,h⟩:=Q5 h
    exact⟨_,⟨_,hτ,hst,.inl ⟨y,b,hx,hb,rfl⟩⟩,h⟩
   ·cases h
  ·rename_i τ j i p hτ hx
   split at h
   ·rename_i σ a hr
    split at h
    ·rename_i ρ hp
     split at h
     ·rename_i e _
      subst e
      obtain⟨hst,h⟩:=Q5 h
      exact⟨_,⟨_,hτ,hst,.inr ⟨j,i,p,σ,_,hx,hr,.inl ⟨a,rfl⟩,hp,rfl⟩⟩,h⟩
     ·cases h
    ·cases h
   ·rename_i e σ xs fz app hr
    split at h
    ·rename_i ρ hp
     split at h
     ·rename_i e' _
      subst e'
      obtain⟨hst,h⟩:=Q5 h
      exact⟨_,⟨_,hτ,hst,.inr ⟨j,i,p,σ,_,hx,hr,.inr ⟨e,xs,fz,app,rfl⟩,hp,rfl⟩⟩,h⟩
     ·cases h
    ·cases h
   ·cases h
  ·cases h
 case field T x f=>
  split at h
  ·rename_i τ σ y hτ hx
   split at h
   ·rename_i e b _ hb
    subst e
    obtain⟨hst,h⟩:=Q5 h
    exact⟨_,⟨_,b,hτ,hst,by rw[hx];exact .t _ y,by rw[hx];exact hb,rfl⟩,h⟩
   ·cases h
  ·rename_i τ σ fs hτ hx
   split at h
   ·rename_i e b _ hb
    subst e
    split at h
    ·rename_i hf
     obtain⟨hst,h⟩:=Q5 h
     exact⟨_,⟨_,b,hτ,hst,by rw[hx];exact KB hf,by rw[hx];exact hb,rfl⟩,h⟩
    ·cases h
   ·cases h
  ·cases h
 case indexAddr T x ix=>
  split at h
  ·rename_i τ i hT hi
   split at h
   ·rename_i σ xs hx
    split at h
    ·rename_i e _
     subst e
     obtain⟨h1,h2,h⟩:=Yo h
     exact⟨_,⟨i,hi,h1,.inl ⟨_,xs,hT,hx,h2,rfl⟩⟩,h⟩
    ·cases h
   ·rename_i j hx
    split at h
    ·rename_i e σ xs fz app hr
     split at h
     ·rename_i e' _
      subst e'
      obtain⟨h1,h2,h⟩:=Yo h
      exact⟨_,⟨i,hi,h1,.inr (.inl ⟨j,e,_,xs,fz,app,hT,hx,hr,h2,rfl⟩)⟩,h⟩
     ·cases h
    ·cases h
   ·cases h
  ·rename_i n τ i hT hi
   split at h
   ·rename_i m σ xs hx
    split at h
    ·rename_i e _ hm
     subst e
     have:=Nat.eq_of_beq_eq_true hm
     subst this
     obtain⟨h0,h⟩:=Q5 h
     obtain⟨h1,h2,h⟩:=Yo h
     exact⟨_,⟨i,hi,h1,.inr (.inr ⟨_,_,xs,hT,hx,Nat.le_of_ble_eq_true h0,h2,rfl⟩)⟩,h⟩
    ·cases h
   ·cases h
  ·cases h
 case index T x ix=>
  split at h
  ·rename_i s k i hT hx hi
   obtain⟨h1,h2,h⟩:=Yo h
   exact⟨_,.inl ⟨s,k,i,hT,hx,hi,h1,h2,rfl⟩,h⟩
  ·rename_i n m xs i hT hx hi
   obtain⟨hm,h⟩:=Q5 h
   have hm:=Nat.eq_of_beq_eq_true hm
   subst hm
   obtain⟨h1,h2,h⟩:=Yo h
   exact⟨_,.inr ⟨_,xs,i,hT,hx,hi,h1,h2,rfl⟩,h⟩
  ·cases h
 case extract x i=>
  split at h
  ·rename_i vs hx
   split at h
   ·rename_i a ha
    exact⟨_,⟨vs,a,hx,ha,rfl⟩,h⟩
   ·cases h
  ·cases h
 case call c=>
  split at h
  ·rename_i b hb
   obtain⟨u,h1,h2⟩:=Q1N h
   exact⟨u,.inl ⟨b,hb,h1⟩,h2⟩
  ·rename_i f hf
   split at h
   ·rename_i g caps hg
    split at h
    ·rename_i hm
     obtain⟨u,h1,h2⟩:=Q5h hC h
     exact⟨u,.inr ⟨f,hf,.inl ⟨g,caps,hg,.inr ⟨hm,h1⟩⟩⟩,h2⟩
    ·rename_i hm
     obtain⟨u,h1,h2⟩:=Q0T hC h
     exact⟨u,.inr ⟨f,hf,.inl ⟨g,caps,hg,.inl ⟨hm,h1⟩⟩⟩,h2⟩
   ·rename_i i hg
    obtain⟨u,h1,h2⟩:=Q0T hC h
    exact⟨u,.inr ⟨f,hf,.inr ⟨i,hg,h1⟩⟩,h2⟩
   ·cases h
  ·cases h
 all_goals cases h
theorem Q5i (hC:JE C G){g:Nat}{args:List AV}{id:Nat}{row:Nat->Option Row}{K:Upd->Option R}(h:Q6b C g args id row K=some r):∃u,Q6m G row id g args u/\K u=some r:=by
 unfold Q6b at h
 split at h
 ·cases h
 ·rename_i cl hcl
  obtain⟨res,hres,h⟩:=hC _ _ _ _ _ h
  split at h
  ·obtain⟨h0,h⟩:=Q5 h
   exact⟨_,⟨cl,_,_,hcl,h0,.inl ⟨hres,rfl⟩⟩,h⟩
  ·obtain⟨h0,h⟩:=Q5 h
   exact⟨_,⟨cl,_,_,hcl,h0,.inr ⟨hres,rfl⟩⟩,h⟩
  ·cases h
theorem Q5j (hC:JE C G){g:Nat}{args:List AV}{dr:Bool}{row:Nat->Option Row}{K:Upd->Option R}(h:Q6c C g args dr row K=some r):∃u,Q6n G row dr g args u/\K u=some r:=by
 unfold Q6c at h
 split at h
 ·rename_i j τ x k
  split at h
  ·rename_i σ b hr
   obtain⟨res,hres,h⟩:=hC _ _ _ _ _ h
   split at h
   ·exact⟨_,⟨rfl,j,τ,x,k,σ,b,_,rfl,hr,hres,rfl⟩,h⟩
   ·cases h
  ·cases h
 ·cases h
theorem Q83 (hC:JE C G){dr:Bool}{o:Oper}{id:Nat}{ev:Operand->AV}{row:Nat->Option Row}{K:Upd->Option R}(h:dop E C dr o id ev row K=some r):∃u,DOp E G dr o id ev row u/\K u=some r:=by
 obtain⟨dst,op,type,pos,after,guard⟩:=o
 unfold DOp
 cases op<;>simp only[dop]at h ⊢
 case load T x=>
  split at h
  ·rename_i τ j e y hτ hx
   split at h
   ·rename_i h0 _
    subst h0
    exact⟨_,⟨j,e,y,hτ,hx,rfl⟩,h⟩
   ·cases h
  ·cases h
 case store T x v=>
  split at h
  ·rename_i τ j σ y hτ hx
   split at h
   ·rename_i h0 ρ b _ hr
    subst h0
    split at h
    ·rename_i σ' z hb hv
     split at h
     ·rename_i h1 _
      subst h1
      simp only[Bool.or_eq_false_iff]at hb
      exact⟨_,⟨_,j,y,z,ρ,b,hτ,hx,hr,hb.1,hb.2,hv,rfl⟩,h⟩
     ·cases h
    ·cases h
   ·cases h
  ·cases h
 case nilCheck x=>
  split at h
  ·rename_i j σ y hx
   exact⟨_,⟨j,σ,y,hx,rfl⟩,h⟩
  ·cases h
 case fieldAddr T x f=>
  split at h
  ·rename_i τ j σ y hτ hx
   split at h
   ·rename_i h0 ρ z _ hz
    subst h0
    obtain⟨hst,h⟩:=Q5 h
    exact⟨_,⟨_,j,y,ρ,z,hτ,hst,hx,hz,rfl⟩,h⟩
   ·cases h
  ·cases h
 case field T x f=>
  split at h
  ·rename_i τ j σ y hτ hx
   split at h
   ·rename_i h0 b _ hz
    subst h0
    obtain⟨hst,h⟩:=Q5 h
    exact⟨_,⟨_,j,y,b,hτ,hst,hx,hz,rfl⟩,h⟩
   ·cases h
  ·cases h
 case indexAddr T x ix=>
  split at h
  ·rename_i τ j σ xs i hT hx hi
   split at h
   ·rename_i h0 _
    subst h0
    obtain⟨h1,h2,h⟩:=Yo h
    exact⟨_,⟨_,j,xs,i,hT,hx,hi,h1,h2,rfl⟩,h⟩
   ·cases h
  ·cases h
 case call c=>
  split at h
  ·rename_i f hf
   split at h
   ·rename_i g caps hg
    split at h
    ·obtain⟨u,h1,h2⟩:=Q5j hC h
     exact⟨u,⟨f,g,caps,hf,hg,.inr h1⟩,h2⟩
    ·obtain⟨u,h1,h2⟩:=Q5i hC h
     exact⟨u,⟨f,g,caps,hf,hg,.inl h1⟩,h2⟩
   ·cases h
  ·cases h
 all_goals cases h
theorem QC {id:Nat}{a:AV}{K:AV->List (Nat×Row)->Option R}(h:Jb id a K=some r):∃b l,Jb id a (λb l=>some (b,l))=some (b,l)/\K b l=some r:=by
 cases a<;>simp only[Jb]at h ⊢ <;>first
  |(cases h;done)
  |exact⟨_,_,rfl,h⟩
  |(obtain⟨h1,h2⟩:=Q5 h;rw[h1];exact⟨_,_,rfl,h2⟩)
  |(split at h;(·cases h);(·rename_i h1;rw[h1];exact⟨_,_,rfl,h⟩))
  |skip
 all_goals
  rename_i x
  cases hb:slT _<;>rw[hb]at h
  ·exact⟨_,_,rfl,h⟩
  ·cases h
theorem Ud {id:Nat}{a b:AV}{l:List (Nat×Row)}{R':Type}(h:Jb id a (λb l=>some (b,l))=some (b,l))(K:AV->List (Nat×Row)->Option R'):Jb id a K=K b l:=by
 obtain⟨b',l',h1,h2⟩:=QC (K:=λb l=>some (b,l)) h
 cases a<;>simp only[Jb]at h ⊢ <;>first
  |(cases h;done)
  |(cases h;rfl)
  |(cases hb:slT _<;>rw[hb]at h<;>cases h<;>rfl)
theorem Q5k {id:Nat}{a:AV}{K:AV->List (Nat×Row)->Option R}(h:JQ id a K=some r):∃b l,JQ id a (λb l=>some (b,l))=some (b,l)/\K b l=some r:=by
 cases a with
 |tup vs=>
  match vs,h with
  |[a,b],h=>
   simp only[JQ]at h ⊢
   obtain⟨b1,l1,e1,h⟩:=QC h
   obtain⟨b2,l2,e2,h⟩:=QC h
   refine⟨_,_,?_,h⟩
   rw[Ud e1,Ud e2]
  |[a,b,c],h=>
   simp only[JQ]at h ⊢
   obtain⟨b1,l1,e1,h⟩:=QC h
   obtain⟨b2,l2,e2,h⟩:=QC h
   obtain⟨b3,l3,e3,h⟩:=QC h
   refine⟨_,_,?_,h⟩
   rw[Ud e1,Ud e2,Ud e3]
  |[],h=>cases h
  |[_],h=>cases h
  |_::_::_::_::_,h=>cases h
 |_=>simp only[JQ]at h ⊢;exact QC h
theorem Q5l (hC:JE C G){g:Nat}{args:List AV}{id:Nat}{row:Nat->Option Row}{K:Upd->Option R}(h:Q6d C g args id row K=some r):∃u,Q6q G row id g args u/\K u=some r:=by
 unfold Q6d at h
 split at h
 ·cases h
 ·rename_i cl hcl
  obtain⟨res,hres,h⟩:=hC _ _ _ _ _ h
  obtain⟨av,news,h1,h2⟩:=Q5k h
  exact⟨_,⟨cl,res,av,news,hcl,hres,h1,rfl⟩,h2⟩
theorem Q5m (hC:JE C G){g:Nat}{args:List AV}{dr:Bool}{row:Nat->Option Row}{K:Upd->Option R}(h:Q6e C g args dr row K=some r):∃u,Q6r G row dr g args u/\K u=some r:=by
 unfold Q6e at h
 split at h
 ·rename_i j τ rest
  split at h
  ·rename_i σ0 a b σ x cl hr hcl
   split at h
   ·rename_i e _ hf
    subst e
    simp only[Bool.and_eq_true,Bool.not_eq_true']at hf
    obtain⟨res,hres,hh⟩:=hC _ _ _ _ _ h
    clear h
    have h:=hh
    clear hh
    split at h
    ·split at h
     ·rename_i e _
      subst e
      exact⟨_,⟨rfl,j,_,rest,σ0,a,b,x,_,cl,rfl,hr,hcl,hf.1,λe=>by rw[e,Nat.beq_refl]at hf;exact absurd hf.2 (by simp),hres,rfl⟩,h⟩
     ·cases h
    ·cases h
   ·cases h
  ·cases h
 ·cases h
theorem Q3K (hC:JE C G){g:Nat}{args:List AV}{dr:Bool}{row:Nat->Option Row}{K:Upd->Option R}(h:Q6f C g args dr row K=some r):∃u,Q3J G row dr g args u/\K u=some r:=by
 unfold Q6f at h
 split at h
 ·rename_i j τ k
  split at h
  ·rename_i σ0 a b σ x hr
   split at h
   ·rename_i e _
    subst e
    obtain⟨res,hres,hh⟩:=hC _ _ _ _ _ h
    clear h
    have h:=hh
    clear hh
    split at h
    ·split at h
     ·rename_i e _
      subst e
      exact⟨_,⟨rfl,k,_,.inl ⟨j,_,σ0,a,b,x,_,rfl,hr,hres,rfl⟩⟩,h⟩
     ·cases h
    ·cases h
   ·cases h
  ·cases h
 ·rename_i j q p τ k
  split at h
  ·rename_i σ0 a b σ x hr
   split at h
   ·rename_i ρ z hz
    split at h
    ·rename_i e _
     subst e
     obtain⟨res,hres,hh⟩:=hC _ _ _ _ _ h
     clear h
     have h:=hh
     clear hh
     split at h
     ·split at h
      ·rename_i e x' _ hx'
       subst e
       exact⟨_,⟨rfl,k,_,.inr ⟨j,q,p,τ,σ0,a,b,σ,x,x',z,_,rfl,hr,hz,hres,hx',rfl⟩⟩,h⟩
      ·cases h
     ·cases h
    ·cases h
   ·cases h
  ·cases h
 ·cases h
theorem Q4D (hC:JE C G){dr:Bool}{o:Oper}{id:Nat}{ev:Operand->AV}{row:Nat->Option Row}{K:Upd->Option R}(h:top E C dr o id ev row K=some r):∃u,TOp E G dr o id ev row u/\K u=some r:=by
 obtain⟨dst,op,type,pos,after,guard⟩:=o
 unfold top at h
 unfold TOp
 cases op<;>simp only at h ⊢
 case load T x=>
  split at h
  ·rename_i τ j i p hT hx
   split at h
   ·rename_i σ0 a b σ x' hr
    split at h
    ·rename_i ρ y hy
     split at h
     ·rename_i e _
      subst e
      exact⟨_,⟨_,j,i,p,σ0,a,b,σ,x',y,hT,hx,hr,hy,rfl⟩,h⟩
     ·cases h
    ·cases h
   ·cases h
  ·cases h
 case store T x v=>
  split at h
  ·rename_i τ j i p σ' z hT hx hv
   split at h
   ·rename_i σ0 a b σ x' hr
    split at h
    ·rename_i e ρ z0 _ hag hz
     subst e
     simp only[Bool.or_eq_false_iff]at hag
     split at h
     ·rename_i e y _ hy
      subst e
      exact⟨_,⟨_,j,i,p,σ0,a,b,σ,x',y,z,z0,hT,hx,hv,hr,hag.1,hag.2,hz,hy,rfl⟩,h⟩
     ·cases h
    ·cases h
   ·cases h
  ·cases h
 case nilCheck x=>
  split at h
  ·rename_i j i p hx
   exact⟨_,⟨j,i,p,hx,rfl⟩,h⟩
  ·cases h
 case fieldAddr T x f=>
  split at h
  ·rename_i τ j i p hT hx
   split at h
   ·rename_i σ a hr
    split at h
    ·rename_i ρ hρ
     split at h
     ·rename_i e _
      subst e
      obtain⟨h1,h⟩:=Q5 h
      exact⟨_,⟨_,j,i,p,σ,a,hT,hx,hr,hρ,h1,rfl⟩,h⟩
     ·cases h
    ·cases h
   ·cases h
  ·cases h
 case field T x f=>
  split at h
  ·rename_i τ j τ' hT hx
   split at h
   ·rename_i σ0 a b σ y hr
    split at h
    ·rename_i e e' ρ z _ _ hz
     subst e;subst e'
     obtain⟨h1,h⟩:=Q5 h
     exact⟨_,⟨_,j,σ0,a,b,y,ρ,z,hT,hx,hr,hz,h1,rfl⟩,h⟩
    ·cases h
   ·cases h
  ·cases h
 case indexAddr T x ix=>
  split at h
  ·rename_i τ j τ' i hT hx hi
   split at h
   ·rename_i σ0 a b σ xs hr
    split at h
    ·rename_i e e' _ _
     subst e;subst e'
     obtain⟨h0,h1,h⟩:=Yo h
     exact⟨_,⟨_,j,σ0,a,b,xs,i,hT,hx,hi,hr,h0,h1,rfl⟩,h⟩
    ·cases h
   ·cases h
  ·cases h
 case buildSlice T n ps=>
  split at h
  ·rename_i τ hT
   obtain⟨h1,h⟩:=Q5 h
   simp only[Bool.and_eq_true]at h1
   exact⟨_,⟨τ,hT,Nat.eq_of_beq_eq_true h1.1,h1.2.1,by simpa using h1.2.2,rfl⟩,h⟩
  ·cases h
 case call c=>
  split at h
  ·rename_i hc
   split at h
   ·rename_i n hn
    exact⟨_,.inl ⟨n,hc,hn,rfl⟩,h⟩
   ·cases h
  ·rename_i f hc
   split at h
   ·rename_i g caps hf
    split at h
    ·obtain⟨u,h1,h2⟩:=Q5m hC h
     exact⟨u,.inr ⟨f,g,caps,hc,hf,.inl h1⟩,h2⟩
    ·split at h
     ·obtain⟨u,h1,h2⟩:=Q5l hC h
      exact⟨u,.inr ⟨f,g,caps,hc,hf,.inr (.inl h1)⟩,h2⟩
     ·obtain⟨u,h1,h2⟩:=Q3K hC h
      exact⟨u,.inr ⟨f,g,caps,hc,hf,.inr (.inr h1)⟩,h2⟩
   ·cases h
  ·cases h
 all_goals cases h
theorem Q84 {o:Oper}{id:Nat}{st:St}{K:St->Option R}(h:mop E o id st K=some r):∃st',MOp E o id st st'/\K st'=some r:=by
 obtain⟨dst,op,type,pos,after,guard⟩:=o
 unfold mop at h
 unfold MOp
 cases op<;>simp only at h ⊢
 case buildSlice T n ps=>
  split at h
  ·rename_i τ hT
   split at h
   ·rename_i fs hn hfs
    split at h
    ·rename_i xs hxs hb
     simp only[Bool.and_eq_true,Bool.not_eq_true']at hb
     exact⟨_,⟨τ,fs,xs,hT,Nat.le_of_ble_eq_true hn,hfs,hxs,hb.1,hb.2.1,hb.2.2.1,by simpa using hb.2.2.2,rfl⟩,h⟩
    ·cases h
   ·cases h
  ·cases h
 case indexAddr T x ix=>
  split at h
  ·rename_i τ j q p τ' i hT hx hi
   split at h
   ·rename_i σ0 a b σ x' hr
    split at h
    ·rename_i θ xs hxs
     split at h
     ·rename_i e e' _ _ hm
      subst e;subst e'
      obtain⟨h0,h1,h⟩:=Yo h
      exact⟨_,⟨_,j,q,p,σ0,a,b,σ,x',xs,i,hT,hx,hi,hr,hxs,(λe=>by rw[e,Nat.beq_refl]at hm;cases hm),h0,h1,rfl⟩,h⟩
     ·cases h
    ·cases h
   ·cases h
  ·cases h
 case call c=>
  split at h
  ·rename_i heq;cases heq
  ·rename_i heq;cases heq
  ·rename_i as ats heq
   cases heq
   split at h
   ·rename_i T T' j τ1 k τ2 hats hargs
    split at h
    ·rename_i τ σ1 e σ xs σ2 a b θ ys hTT hT hr1 hr2
     split at h
     ·rename_i e1 e2 e3 e4 _ _ _ _
      subst e1;subst e2;subst e3;subst e4
      split at h
      ·rename_i hb
       simp only[Bool.and_eq_true,Bool.not_eq_true',beq_iff_eq]at hb
       obtain⟨hb1,hb2,hb3,hb4⟩:=hb
       obtain rfl:=Nat.eq_of_beq_eq_true hTT
       subst hb1
       obtain⟨hrm,h⟩:=Q5 h
       exact⟨_,⟨T,j,k,_,σ1,σ2,a,b,xs,ys,rfl,by apply Array.ext';exact hats,hargs,hT,hr1,hr2,(λe=>by rw[e,Nat.beq_refl]at hb2;cases hb2),(λe=>by rw[e,Nat.beq_refl]at hb3;cases hb3),(λe=>by rw[e,Nat.beq_refl]at hb4;cases hb4),hrm,rfl⟩,h⟩
      ·cases h
     ·cases h
    ·cases h
   ·cases h
  ·cases h
 all_goals first
  |(cases h;done)
  |(split at h<;>first
    |(cases h;done)
    |(rename_i heq;cases heq;done))
theorem Q4E (hC:JE C G){dr:Bool}{o:Oper}{id:Nat}{ev:Operand->AV}{row:Nat->Option Row}{K:Upd->Option R}(h:aop E C dr o id ev row K=some r):∃u,AOp E G dr o id ev row u/\K u=some r:=by
 unfold aop at h
 split at h
 ·obtain⟨u,h1,h2⟩:=Q4D hC h
  exact⟨u,.inr (.inr h1),h2⟩
 ·split at h
  ·obtain⟨u,h1,h2⟩:=UX hC h
   exact⟨u,.inl h1,h2⟩
  ·obtain⟨u,h1,h2⟩:=Q83 hC h
   exact⟨u,.inr (.inl h1),h2⟩
theorem Q6x (hC:JE C G){dr:Bool}{o:Oper}{id:Nat}{ev:Operand->AV}{row:Nat->Option Row}{K:Upd->Option R}(h:Q8K E C dr o id ev row K=some r):∃u,Q2B E G dr o id ev row u/\K u=some r:=by
 unfold Q8K at h
 split at h
 ·rename_i hs
  obtain⟨u,h1,h2⟩:=Q4E hC h
  exact⟨u,.inl ⟨hs,h1⟩,h2⟩
 ·rename_i hs
  unfold sop at h
  split at h
  ·rename_i hf
   obtain⟨u,h1,h2⟩:=UX hC h
   obtain⟨h3,h2⟩:=Q5 h2
   exact⟨u,.inr ⟨hs,.inl ⟨hf,h1,h3⟩⟩,h2⟩
  ·rename_i hf
   split at h
   ·obtain⟨u,h1,h2⟩:=Q4D hC h
    obtain⟨h3,h2⟩:=Q5 h2
    exact⟨u,.inr ⟨hs,.inr (.inr (.inr ⟨hf,h1,h3⟩))⟩,h2⟩
   split at h
   ·rename_i hb
    obtain⟨u,h1,h2⟩:=UX hC h
    split at h2
    ·rename_i u' hu
     exact⟨u',.inr ⟨hs,.inr (.inl ⟨hf,hb,u,h1,hu⟩)⟩,h2⟩
    ·cases h2
   ·rename_i hb
    obtain⟨u,h1,h2⟩:=UX hC h
    obtain⟨h3,h2⟩:=Q5 h2
    exact⟨u,.inr ⟨hs,.inr (.inr (.inl ⟨hf,hb,h1,h3⟩))⟩,h2⟩
end
end Go.Gx
end
section
/- What the interpreter is told of a program;operands. -/
namespace Go.Gx
open Go.RowKit
def zc:Ty->List Value
 |.int k=>[.int k 0]
 |.bool=>[.bool false]
 |.str=>[.string ⟨#[]⟩]
 |.sl _=>[.slice none 0 0]
 |.arr n e=>(List.range n).flatMap λ_=>zc e
 |.date=>[.int .i64 0,.int .i64 0,.int .i64 0,.bool false]
 |.name=>[.slice none 0 0,.string ⟨#[]⟩,.string ⟨#[]⟩,.string ⟨#[]⟩]
 |.entry=>[.string ⟨#[]⟩,.int .i64 0,.slice none 0 0,.slice none 0 0,.string ⟨#[]⟩,.string ⟨#[]⟩,.string ⟨#[]⟩,.int .i64 0,.int .i64 0,.int .i64 0,.bool false,.int .i64 0,.string ⟨#[]⟩,.string ⟨#[]⟩]
 |.lib=>[.slice none 0 0]
 |.abbr=>[.string ⟨#[]⟩,.string ⟨#[]⟩]
 |.query=>[.int .i64 0,.string ⟨#[]⟩,.string ⟨#[]⟩,.slice none 0 0]
 |.cur=>[.slice none 0 0,.int .i64 0,.int .u64 0]
theorem Jr (S:Nat->Prop)(w:World)(e:Ty):CR S w (.sl e) [] [.slice none 0 0]:=
 .sl e [] none 0 (λ_=>[]) (Nat.le_refl _) (Nat.zero_le _) (λi h=>absurd h (Nat.not_lt_zero i)) (λi h=>absurd h (Nat.not_lt_zero i))
theorem Jl (S:Nat->Prop)(w:World):∀τ:Ty,CR S w τ (Q9 τ) (zc τ)
 |.int k=>.int k 0
 |.bool=>.bool false
 |.str=>.str _
 |.sl e=>Jr S w e
 |.arr n e=>.arr n e _ (λ_=>zc e) (by simp[Q9]) λi h=>by
   have:(Q9 (.arr n e))[i]=Q9 e:=by simp[Q9]
   rw[this]
   exact Jl S w e
 |.date=>.date ⟨0,0,0,false⟩
 |.name=>.name ⟨[],⟨#[]⟩,⟨#[]⟩,⟨#[]⟩⟩ _ (Jr S w .str)
 |.entry=>.entry (Q9 .entry) _ _ (Jr S w .name) (Jr S w .name)
 |.lib=>.lib ⟨[]⟩ _ (Jr S w .entry)
 |.abbr=>.abbr ⟨⟨#[]⟩,⟨#[]⟩⟩
 |.query=>.query (.mk 0 ⟨#[]⟩ ⟨#[]⟩ []) _ (Jr S w .query)
 |.cur=>.cur ⟨[],0,0⟩ _ (Jr S w (.int .u8))
section
variable {ρ:Nat->Option Loc} {row:Nat->Option Row} {pv:Nat->Value} (S:Nat->Prop) (w:World)
theorem Ue {τ:Ty}(hg:agT τ=true):AR S w ρ row pv (.agg τ (XH τ)) (zc τ)/\Fit τ (.agg τ (XH τ)):=by
 have one:∀(σ:Ty) (c:List Value),(σ= .str/\c=[.string ⟨#[]⟩])\/(σ= .int .i64/\c=[.int .i64 0])\/(σ= .int .u64/\c=[.int .u64 0])->AR S w ρ row pv (.t σ (Q9 σ)) c:=λσ c h=>by
  rcases h with⟨rfl,rfl⟩|⟨rfl,rfl⟩|⟨rfl,rfl⟩
  ·exact .t _ _ _ (.str _)
  ·exact .t _ _ _ (.int _ _)
  ·exact .t _ _ _ (.int _ _)
 cases τ with
 |arr n e=>exact YH hg (Jl S w (.arr n e))
 |date=>exact YH hg (Jl S w .date)
 |abbr=>exact YH hg (Jl S w .abbr)
 |name=>
  refine⟨.agg .name [.nil,.t .str _,.t .str _,.t .str _] [[.slice none 0 0],[.string ⟨#[]⟩],[.string ⟨#[]⟩],[.string ⟨#[]⟩]] rfl λi a cs h1 h2=>?_,.agg _ _ rfl rfl λi σ a h1 h2=>?_⟩
  ·match i,h1,h2 with
   |0,h1,h2=>cases h1;cases h2;exact .nil
   |1,h1,h2|2,h1,h2|3,h1,h2=>cases h1;cases h2;exact .t _ _ _ (.str _)
   |i+4,h1,_=>simp at h1
  ·match i,h1,h2 with
   |0,h1,h2=>cases h1;cases h2;exact .nil _
   |1,h1,h2|2,h1,h2|3,h1,h2=>cases h1;cases h2;exact .t _ _
   |i+4,h1,_=>simp[fty]at h1
 |lib=>
  refine⟨.agg .lib [.nil] [[.slice none 0 0]] rfl λi a cs h1 h2=>?_,.agg _ _ rfl rfl λi σ a h1 h2=>?_⟩
  ·match i,h1,h2 with
   |0,h1,h2=>cases h1;cases h2;exact .nil
   |i+1,h1,_=>simp at h1
  ·match i,h1,h2 with
   |0,h1,h2=>cases h1;cases h2;exact .nil _
   |i+1,h1,_=>simp[fty]at h1
 |query=>
  refine⟨.agg .query [.t (.int .i64) _,.t .str _,.t .str _,.nil] [[.int .i64 0],[.string ⟨#[]⟩],[.string ⟨#[]⟩],[.slice none 0 0]] rfl λi a cs h1 h2=>?_,.agg _ _ rfl rfl λi σ a h1 h2=>?_⟩
  ·match i,h1,h2 with
   |0,h1,h2=>cases h1;cases h2;exact .t _ _ _ (.int _ _)
   |1,h1,h2|2,h1,h2=>cases h1;cases h2;exact .t _ _ _ (.str _)
   |3,h1,h2=>cases h1;cases h2;exact .nil
   |i+4,h1,_=>simp at h1
  ·match i,h1,h2 with
   |0,h1,h2|1,h1,h2|2,h1,h2=>cases h1;cases h2;exact .t _ _
   |3,h1,h2=>cases h1;cases h2;exact .nil _
   |i+4,h1,_=>simp[fty]at h1
 |cur=>
  refine⟨.agg .cur [.nil,.t (.int .i64) _,.t (.int .u64) _] [[.slice none 0 0],[.int .i64 0],[.int .u64 0]] rfl λi a cs h1 h2=>?_,.agg _ _ rfl rfl λi σ a h1 h2=>?_⟩
  ·match i,h1,h2 with
   |0,h1,h2=>cases h1;cases h2;exact .nil
   |1,h1,h2|2,h1,h2=>cases h1;cases h2;exact .t _ _ _ (.int _ _)
   |i+3,h1,_=>simp at h1
  ·match i,h1,h2 with
   |0,h1,h2=>cases h1;cases h2;exact .nil _
   |1,h1,h2|2,h1,h2=>cases h1;cases h2;exact .t _ _
   |i+3,h1,_=>simp[fty]at h1
 |entry=>
  refine⟨.agg .entry [.t .str _,.t (.int .i64) _,.nil,.nil,.t .str _,.t .str _,.t .str _,.t .date _,.t (.int .i64) _,.t .str _,.t .str _] [[.string ⟨#[]⟩],[.int .i64 0],[.slice none 0 0],[.slice none 0 0],[.string ⟨#[]⟩],[.string ⟨#[]⟩],[.string ⟨#[]⟩],[.int .i64 0,.int .i64 0,.int .i64 0,.bool false],[.int .i64 0],[.string ⟨#[]⟩],[.string ⟨#[]⟩]] rfl λi a cs h1 h2=>?_,.agg _ _ rfl rfl λi σ a h1 h2=>?_⟩
  ·match i,h1,h2 with
   |0,h1,h2|4,h1,h2|5,h1,h2|6,h1,h2|9,h1,h2|10,h1,h2=>cases h1;cases h2;exact .t _ _ _ (.str _)
   |1,h1,h2|8,h1,h2=>cases h1;cases h2;exact .t _ _ _ (.int _ _)
   |2,h1,h2|3,h1,h2=>cases h1;cases h2;exact .nil
   |7,h1,h2=>cases h1;cases h2;exact .t _ _ _ (.date _)
   |i+11,h1,_=>simp at h1
  ·match i,h1,h2 with
   |0,h1,h2|1,h1,h2|4,h1,h2|5,h1,h2|6,h1,h2|7,h1,h2|8,h1,h2|9,h1,h2|10,h1,h2=>cases h1;cases h2;exact .t _ _
   |2,h1,h2|3,h1,h2=>cases h1;cases h2;exact .nil _
   |i+11,h1,_=>simp[fty]at h1
 |_=>cases hg
theorem Q2C (τ:Ty):AR S w ρ row pv (Q2q τ) (zc τ)/\Fit τ (Q2q τ):=by
 cases τ with
 |name=>exact Ue S w rfl
 |entry=>exact Ue S w rfl
 |lib=>exact Ue S w rfl
 |query=>exact Ue S w rfl
 |cur=>exact Ue S w rfl
 |_=>exact⟨.t _ _ _ (Jl S w _),.t _ _⟩
end
def Q2D (P:Program)(E:Env)(T:Nat):Ty->Prop
 |.int k=>P.underlying T=some (.int k)
 |.bool=>P.underlying T=some .bool
 |.str=>P.underlying T=some .string
 |.sl e=>∃t,P.underlying T=some (.slice t)/\E.el T=t/\E.ty t=some e/\0<nc e/\0<nb e
 |.arr n e=>∃t,P.underlying T=some (.array n t)/\E.ty t=some e
 |τ=>∃fs,P.underlying T=some (.struct fs)/\fs.size=(fty τ).length/\∀(f:Nat) (d:Field),fs[f]? =some d->∃σ,(fty τ)[f]? =some σ/\d.offset=QB (fty τ) f/\E.ty d.type=some σ
structure TyOk (P:Program)(E:Env)(T:Nat)(τ:Ty):Prop where
 info:∃i,P.info? T=some i/\i.size=nc τ/\i.bytes=nb τ/\i.zero=some (valOf (.t τ (Q9 τ)) (zc τ))
 und:Q2D P E T τ
def Xp (E:Env)(τ:Ty):List Field->Nat->Bool
 |[],_=>true
 |d::l,f=>match(fty τ)[f]?,E.ty d.type with
  |some σ,some σ'=>(match decEq σ σ' with
   |.isTrue _=>true
   |.isFalse _=>false)&&(Nat.beq d.offset (QB (fty τ) f)&&Xp E τ l (f+1))
  |_,_=>false
def GH (a b:Ty):Bool:=match decEq a b with
 |.isTrue _=>true
 |.isFalse _=>false
def Q3L (P:Program)(E:Env)(T:Nat)(τ:Ty):Bool:=match P.underlying T,τ with
 |some (.int k),.int k'=>match decEq k k' with
  |.isTrue _=>true
  |.isFalse _=>false
 |some .bool,.bool=>true
 |some .string,.str=>true
 |some (.slice t),.sl e=>Nat.beq (E.el T) t&&(Nat.blt 0 (nc e)&&(Nat.blt 0 (nb e)&&(match E.ty t with
  |some e'=>GH e e'
  |none=>false)))
 |some (.array m t),.arr n e=>Nat.beq m n&&(match E.ty t with
  |some e'=>GH e e'
  |none=>false)
 |some (.struct fs),τ=>(match τ with
  |.date|.name|.entry|.lib|.abbr|.query|.cur=>true
  |_=>false)&&(Nat.beq fs.size (fty τ).length&&Xp E τ fs.toList 0)
 |_,_=>false
theorem Xq {a b:Ty}(h:GH a b=true):a=b:=by
 unfold GH at h
 split at h
 ·rename_i e _;exact e
 ·cases h
theorem KC {E:Env}{τ:Ty}:∀{l:List Field} {k:Nat},Xp E τ l k=true->∀(f:Nat) (d:Field),l[f]? =some d->∃σ,(fty τ)[k+f]? =some σ/\d.offset=QB (fty τ) (k+f)/\E.ty d.type=some σ
 |[],_,_,f,d,h=>by simp at h
 |x::l,k,h,f,d,hd=>by
  unfold Xp at h
  split at h
  ·rename_i σ σ' h1 h2
   simp only[Bool.and_eq_true]at h
   obtain⟨h3,h4,h5⟩:=h
   have e:σ=σ':=Xq h3
   subst e
   cases f with
   |zero=>
    simp only[List.getElem?_cons_zero,Option.some.injEq]at hd
    subst hd
    exact⟨σ,h1,Nat.eq_of_beq_eq_true h4,h2⟩
   |succ f=>
    have:=KC h5 f d (by simpa using hd)
    rw[show k+1+f=k+(f+1) by omega]at this
    exact this
  ·cases h
theorem Q5n {P:Program}{E:Env}{T:Nat}{τ:Ty}(h:Q3L P E T τ=true):Q2D P E T τ:=by
 unfold Q3L at h
 split at h
 ·rename_i k k' hu
  split at h
  ·rename_i e _;subst e;exact hu
  ·cases h
 ·rename_i hu;exact hu
 ·rename_i hu;exact hu
 ·rename_i t e hu
  simp only[Bool.and_eq_true]at h
  obtain⟨h1,h2,h2',h3⟩:=h
  split at h3
  ·rename_i e' he
   exact⟨t,hu,Nat.eq_of_beq_eq_true h1,by rw[he,Xq h3],Nat.le_of_ble_eq_true h2,Nat.le_of_ble_eq_true h2'⟩
  ·cases h3
 ·rename_i m t n e hu
  simp only[Bool.and_eq_true]at h
  obtain⟨h1,h3⟩:=h
  split at h3
  ·rename_i e' he
   exact⟨t,by rw[hu,Nat.eq_of_beq_eq_true h1],by rw[he,Xq h3]⟩
  ·cases h3
 ·rename_i τ0 x1 τ1 fs hu
  simp only[Bool.and_eq_true]at h
  obtain⟨h0,h1,h2⟩:=h
  have hf:∀(f:Nat) (d:Field),fs[f]? =some d->∃σ,(fty τ0)[f]? =some σ/\d.offset=QB (fty τ0) f/\E.ty d.type=some σ:=λf d hd=>by
   have:=KC h2 f d (by simpa using hd)
   simpa using this
  have h1:=Nat.eq_of_beq_eq_true h1
  cases τ0<;>first
   |exact⟨fs,hu,h1,hf⟩
   |cases h0
 ·cases h
theorem Q85 {P:Program}{E:Env}{T:Nat}{τ:Ty}(h:Q3L P E T τ=true)(hi:(P.info? T).map (λi=>(i.size,i.bytes,i.zero))=some (nc τ,nb τ,some (valOf (.t τ (Q9 τ)) (zc τ)))):TyOk P E T τ:=by
 refine⟨?_,Q5n h⟩
 cases hp:P.info? T with
 |none=>rw[hp]at hi;cases hi
 |some i=>
  rw[hp]at hi
  simp only[Option.map_some,Option.some.injEq,Prod.mk.injEq]at hi
  exact⟨i,rfl,hi.1,hi.2.1,hi.2.2⟩
structure EnvOk (P:Program)(E:Env):Prop where
 ty:∀T τ,E.ty T=some τ->TyOk P E T τ
 mixed:P.follows .mixedOrders=true
 eqDate:∀T,E.ty T=some .date->P.eqGuardType P.depth T=false/\∀(x y:Date) (w:World),(Op.equalIn 10000 T (.agg #[.int .i64 x.y,.int .i64 x.m,.int .i64 x.d,.bool x.c]) (.agg #[.int .i64 y.y,.int .i64 y.m,.int .i64 y.d,.bool y.c])).run P w= .ok (x.y==y.y&&(x.m==y.m&&(x.d==y.d&&x.c==y.c))) w
 eqAbbr:∀T,E.ty T=some .abbr->P.eqGuardType P.depth T=false/\∀(x y:Abbr) (w:World),(Op.equalIn 10000 T (.agg #[.string x.word,.string x.short]) (.agg #[.string y.word,.string y.short])).run P w= .ok (Ql x.word y.word&&Ql x.short y.short) w
def Qr (E:Env)(pv:Nat->Value)(S:Nat->Prop)(w:World):Prop:=(∀g b,E.gl g=some b->∃τ,∃x:den τ,∃cs,b= .t τ x/\CR (gS pv S) w τ x cs/\gS pv S g/\∃t f,w.heap[g]? =some (.cells cs.toArray t f))/\(∀g,E.gi g=true->gS pv S g/\∃m,w.cell? ⟨g,0,none⟩=some (.int .i64 m))/\(pvO pv=true->E.on=true)/\(pvQ pv=true->pvN pv=0\/S (pvN pv-1))
theorem Qr.mk0 {E:Env}{S:Nat->Prop}{w:World}(h1:∀g b,E.gl g=some b->∃τ,∃x:den τ,∃cs,b= .t τ x/\CR S w τ x cs/\S g/\∃t f,w.heap[g]? =some (.cells cs.toArray t f))(h2:∀g,E.gi g=true->S g/\∃m,w.cell? ⟨g,0,none⟩=some (.int .i64 m)):Qr E (λ_=>undef) S w:=by
 refine⟨λg b hb=>?_,λg hg=>?_,λh=>(by cases h),λh=>(by cases h)⟩
 ·obtain⟨τ,x,cs,e,hc,hg,hv⟩:=h1 g b hb
  exact⟨τ,x,cs,e,hc.mono (λb hb=>⟨hb,λh=>(by cases h)⟩) (λ_ _=>rfl),⟨hg,λh=>(by cases h)⟩,hv⟩
 ·obtain⟨h3,h4⟩:=h2 g hg
  exact⟨⟨h3,λh=>(by cases h)⟩,h4⟩
theorem Qr.mono {E:Env}{pv:Nat->Value}{S S':Nat->Prop}{w w':World}(h:Qr E pv S w)(hS:∀b,S b->S' b)(hw:∀b,S b->w'.heap[b]? =w.heap[b]?):Qr E pv S' w':=by
 refine⟨λg b hb=>?_,λg hg=>?_,h.2.2.1,λhq=>(h.2.2.2 hq).imp _root_.id (hS _)⟩
 ·obtain⟨τ,x,cs,e,hc,hg,hv⟩:=h.1 g b hb
  exact⟨τ,x,cs,e,hc.mono (λb hb=>⟨hS b hb.1,hb.2⟩) (λb hb=>hw b hb.1),⟨hS g hg.1,hg.2⟩,hv.imp λt hv=>hv.imp λf hv=>(hw g hg.1).trans hv⟩
 ·obtain⟨h1,m,h2⟩:=h.2.1 g hg
  exact⟨⟨hS g h1.1,h1.2⟩,m,(World.cell?_of_block (w:=w) (a:=⟨g,_,none⟩) (hw g h1.1)).trans h2⟩
theorem Q6y {w:World}{g:Nat}{cs:List Value}(h:∃t f,w.heap[g]? =some (.cells cs.toArray t f)):∀j v,cs[j]? =some v->w.cell? ⟨g,0+j,none⟩=some v:=λj v hj=>by
 obtain⟨t,f,h⟩:=h
 simp only[World.cell?,h,Nat.zero_add]
 simpa using hj
theorem Q8O {S:Nat->Prop}{w:World}{ρ:Nat->Option Loc}{row:Nat->Option Row}{pv:Nat->Value}{τ:Ty}{b:AV}{y:den τ}{cs:List Value}(hy:asI τ b=some y)(hb:AR S w ρ row pv b cs):CR S w τ y cs:=by
 unfold asI at hy
 split at hy
 ·split at hy
  ·rename_i c hc
   cases hb with
   |agg _ _ css hl hh=>
    obtain⟨x,rfl,hx⟩:=YI (S:=S) (w:=w) (ρ:=ρ) (row:=row) (pv:=pv) hc ⟨css,rfl,hl,hh⟩
    simp only[asT]at hy
    split at hy
    ·rename_i e
     subst e
     cases hy
     exact hx
    ·cases hy
  ·cases hy
 ·exact Qq hy hb
theorem Qr.up {E:Env}{pv:Nat->Value}{S S':Nat->Prop}{w w':World}(h:Qr E pv S' w'){τ:Ty}{x:den τ}{cs:List Value}(hon:(E.on&&slT τ)=false)(hc:CR S w τ x cs):CR (cS pv S w) w τ x cs:=by
 cases ho:E.on with
 |true=>rw[ho]at hon;exact J5 (by simpa using hon) hc
 |false=>exact hc.mono (λb hb=>⟨hb,λhq=>by rw[h.2.2.1 hq]at ho;cases ho⟩) λ_ _=>rfl
theorem Qr.upC {E:Env}{pv:Nat->Value}{S S':Nat->Prop}{w w':World}{ρ:Nat->Option Loc}{row:Nat->Option Row}(h:Qr E pv S' w'){p:List Nat}{τ:Ty}{b:AV}{y:den τ}{cs:List Value}(hy:asC E.on p τ b=some y)(hb:AR S w ρ row pv b cs):CR (cS pv S w) w τ y cs:=by
 unfold asC at hy
 split at hy
 ·rename_i hon
  exact h.up hon (Q8O hy hb)
 ·split at hy
  ·split at hy
   ·rename_i e _
    subst e
    cases hy
    cases hb with
    |pc _ _ _ _ hx=>exact hx.mono (λb hb=>⟨hb.1,λ_=>hb.2⟩) λ_ _=>rfl
   ·cases hy
  ·cases hy
section
variable {w0:World} {B:Old} {pv:Nat->Value} {S:Nat->Prop} {ρ:Nat->Option Loc} {st:St} {a:Act} {w:World} {row:Nat->Option Row}
theorem Jm:VR S w ρ row pv QV undef:=.inr ⟨_,.tup [] [] rfl (λi a cs h=>by simp at h),rfl⟩
theorem Q6z (v:Value):VR S w ρ row pv (Q66 v) v:=by
 unfold Q66
 split
 ·exact .inr ⟨_,.t _ _ _ (.int _ _),rfl⟩
 ·exact .inr ⟨_,.t _ _ _ (.bool _),rfl⟩
 ·exact .inr ⟨_,.t _ _ _ (.str _),rfl⟩
 ·exact .inr ⟨_,.nil,rfl⟩
 ·exact .inl rfl
theorem Qj {E:Env}(hgl:Qr E pv S w)(hs:Sim w0 B pv S ρ st a w)(x:Operand):VR S w ρ st.row pv (ev E st x) (a.eval x):=by
 cases x with
 |tmp t=>exact hs.slots t
 |const v=>exact Q6z v
 |global g=>
  simp only[ev]
  split
  ·rename_i b hb
   obtain⟨τ,x,cs,rfl,hc,hg,hv⟩:=hgl.1 g b hb
   exact .inr ⟨_,.tp τ x cs g 0 (hc.mono (λ_ h=>h.1) λ_ _=>rfl) hg.1 (Q6y hv),rfl⟩
  ·exact .inl rfl
 |func f=>exact .inr ⟨_,.clo f [] [] rfl (λi a cs h=>by simp at h),rfl⟩
theorem Qm {k:IntKind}{n:Int}{v:Value}(h:VR S w ρ row pv (.t (.int k) n) v):v= .int k n:=by
 rcases h with h|⟨cs,h,rfl⟩
 ·cases h
 ·cases h with
  |t _ _ _ h=>rw[YG h];rfl
theorem Yy {b:Bool}{v:Value}(h:VR S w ρ row pv (.t .bool b) v):v= .bool b:=by
 rcases h with h|⟨cs,h,rfl⟩
 ·cases h
 ·cases h with
  |t _ _ _ h=>rw[Q1H h];rfl
theorem Js {s:ByteArray}{v:Value}(h:VR S w ρ row pv (.t .str s) v):v= .string s:=by
 rcases h with h|⟨cs,h,rfl⟩
 ·cases h
 ·cases h with
  |t _ _ _ h=>rw[JP h];rfl
theorem Q1O {v:Value}(h:VR S w ρ row pv .nil v):v= .slice none 0 0:=by
 rcases h with h|⟨cs,h,rfl⟩
 ·cases h
 ·cases h;rfl
theorem Q2E {e:Ty}{xs:List (den e)}{v:Value}(h:VR S w ρ row pv (.t (.sl e) xs) v):CR S w (.sl e) xs [v]:=by
 rcases h with h|⟨cs,h,rfl⟩
 ·cases h
 ·cases h with
  |t _ _ _ h=>obtain⟨v,rfl⟩:=UV h;exact h
theorem Fit.isAg {τ:Ty}{b:AV}(h:Fit τ b):isAg b=agT τ:=by
 cases h with
 |agg _ _ h=>exact h.symm
 |ep _ _ _ _ h=>exact h.symm
 |tp _ _ h=>exact h.symm
 |clo _ _ _ h=>exact h.symm
 |par _ _ h=>exact h.symm
 |tq _ _ _ _ h=>exact h.symm
 |_=>rfl
theorem UY {τ:Ty}(h:agT τ=false):nc τ=1:=by cases τ<;>first|rfl|cases h
theorem Fit.not_any {τ:Ty}{b:AV}(h:Fit τ b):b≠ .any:=by intro e;subst e;cases h
theorem GI {τ:Ty}{b:AV}{v:Value}(hf:Fit τ b)(h:VR S w ρ row pv b v):∃cs,AR S w ρ row pv b cs/\v=valOf b cs/\v.cells.toList=cs:=by
 rcases h with h|⟨cs,h,rfl⟩
 ·exact absurd h hf.not_any
 ·refine⟨cs,h,rfl,?_⟩
  have hl:=AR.len hf h
  have h1:=AR.ones hf h
  unfold valOf
  rw[hf.isAg]
  cases hg:agT τ with
  |true=>simp[Value.cells]
  |false=>
   rw[UY hg]at hl
   match cs,hl,h1 with
   |[v],_,h1=>
    have:=h1 v List.mem_cons_self
    cases v<;>first
     |rfl
     |cases this
end
end Go.Gx
end
section
/- The machine's own steps at what the interpreter knows;how a frame lives on. -/
namespace Go.Gx
open Go.RowKit
section
variable {P:Program} {E:Env} {T:Nat} {τ:Ty}
theorem YD (h:TyOk P E T τ)(w:World):(isAgg T).run P w= .ok (agT τ) w:=by
 have hu:=h.und
 cases τ<;>simp only[Q2D]at hu
 case int k=>simp[isAgg,run_underlying hu,agT]
 case bool=>simp[isAgg,run_underlying hu,agT]
 case str=>simp[isAgg,run_underlying hu,agT]
 case sl e=>obtain⟨t,hu,_⟩:=hu;simp[isAgg,run_underlying hu,agT]
 case arr n e=>obtain⟨t,hu,_⟩:=hu;simp[isAgg,run_underlying hu,agT]
 all_goals (obtain⟨t,hu,_⟩:=hu;simp[isAgg,run_underlying hu,agT])
theorem Qz (h:TyOk P E T τ)(w:World):(sizeOf T).run P w= .ok (nc τ) w:=by
 obtain⟨i,hi,hs,_⟩:=h.info
 simp[sizeOf,typeInfo,hi,hs]
theorem Q0V (h:TyOk P E T τ)(w:World):(zeroValue T).run P w= .ok (valOf (.t τ (Q9 τ)) (zc τ)) w:=by
 obtain⟨i,hi,_,_,hz⟩:=h.info
 simp[zeroValue,typeInfo,hi,hz]
variable {S:Nat->Prop} {w:World} {ρ:Nat->Option Loc} {row:Nat->Option Row} {pv:Nat->Value}
theorem Dh (h:TyOk P E T τ){b:AV}{cs:List Value}(hf:Fit τ b)(hb:AR S w ρ row pv b cs){g o:Nat}(hc:∀j v,cs[j]? =some v->w.cell? ⟨g,o+j,none⟩=some v) :
  (Instr.loadAt T (.pointer (some ⟨g,o,none⟩))).run P w= .ok (valOf b cs) w:=by
 have hl:=AR.len hf hb
 unfold valOf
 rw[hf.isAg]
 cases hg:agT τ with
 |true=>
  have hld:=run_loadCells_list (P:=P) w ⟨g,o,none⟩ cs (λj v hj=>by rw[Addr.add_lit];exact hc j v hj)
  rw[hl]at hld
  simp[Instr.loadAt,Instr.sureAddr,loadVar,YD h,hg,Qz h,hld]
 |false=>
  rw[UY hg]at hl
  match cs,hl,hc with
  |[v],_,hc=>
   have:=hc 0 v rfl
   simp only[Nat.add_zero]at this
   simp[Instr.loadAt,Instr.sureAddr,loadVar,YD h,hg,this]
theorem J7 {b:AV}{cs:List Value}(hf:Fit τ b)(hb:AR S w ρ row pv b cs):(valOf b cs).cells.toList=cs:=by
 obtain⟨cs',h1,h2,h3⟩:=GI hf (.inr ⟨cs,hb,rfl⟩)
 rw[h3]
 have hl:=AR.len hf hb
 have hl':=AR.len hf h1
 unfold valOf at h2
 rw[hf.isAg]at h2
 cases hg:agT τ with
 |true=>rw[hg]at h2;simpa using h2.symm
 |false=>
  rw[UY hg]at hl hl'
  rw[hg]at h2
  match cs,cs',hl,hl' with
  |[v],[u],_,_=>simpa using h2.symm
theorem UZ (P:Program)(g o:Nat)(t:TypeId)(f:Nat×Nat):∀(vs:List Value) (i:Nat) (cur:Array Value) (w:World),w.heap[g]? =some (.cells cur t f)->(f.2<=f.1\/cur.size<=f.1)->o+i+vs.length<=cur.size->(∀v∈vs,v.oneCell'=true)->
  (storeCells ⟨g,o,none⟩ vs i).run P w= .ok () (w.setRow g (cur.toList.take (o+i)++vs++cur.toList.drop (o+i+vs.length)).toArray)
 |[],i,cur,w,hg,_,_,_=>by
  simp only[storeCells,List.append_nil,List.length_nil,Nat.add_zero,List.take_append_drop,Array.toArray_toList]
  rw[setRow_self w g cur t f hg]
  rfl
 |v::rest,i,cur,w,hg,hff,hl,h1=>by
  have hi:o+i<cur.size:=by simp at hl;omega
  have hadd:(⟨g,o,none⟩:Addr).add i=⟨g,o+i,none⟩:=by unfold Addr.add;split<;>simp_all
  have hcell:w.cell? ⟨g,o+i,none⟩=some cur[o+i]:=by simp[World.cell?,hg,hi]
  have hfro:w.frozen? ⟨g,o+i,none⟩=false:=by
   simp only[World.frozen?,hg]
   rcases hff with h|h
   ·simp;omega
   ·simp;omega
  have hst:(store ((⟨g,o,none⟩:Addr).add i) v).run P w= .ok () (w.setRow g (cur.setIfInBounds (o+i) v)):=by
   rw[hadd,run_store P w _ v _ (h1 v (by simp)),hcell]
   simp[hfro,setCell_eq_setRow w g (o+i) cur t f v hg]
  have ih:=UZ P g o t f rest (i+1) (cur.setIfInBounds (o+i) v) (w.setRow g (cur.setIfInBounds (o+i) v)) (setRow_heap w g cur _ t _ hg) (by simpa using hff) (by simp at hl ⊢;omega) (λx hx=>h1 x (by simp[hx]))
  simp only[storeCells,Sem.run_bind,hst,Result.andThen_ok,ih,setRow_setRow]
  congr 3
  have e:=list_seg_step cur.toList (o+i) v rest (by simp at hl ⊢;omega)
  simpa[Array.toList_setIfInBounds,Nat.add_assoc]using e
theorem Uu (h:TyOk P E T τ){b:AV}{cs:List Value}(hf:Fit τ b)(hb:AR S w ρ row pv b cs){g o:Nat}{t:TypeId}{cur:Array Value}{f:Nat×Nat}(hg:w.heap[g]? =some (.cells cur t f))(hff:f.2<=f.1\/cur.size<=f.1)(ho:o+nc τ<=cur.size) :
  (Instr.storeAt T (.pointer (some ⟨g,o,none⟩)) (valOf b cs)).run P w= .ok () (w.setRow g (splice cur.toList o cs).toArray):=by
 have hl:=AR.len hf hb
 have hv:=J7 hf hb
 have hsz:(valOf b cs).cells.size=nc τ:=by rw[<-Array.length_toList,hv,hl]
 have hst:=UZ P g o t f cs 0 cur w hg hff (by omega) (AR.ones hf hb)
 simp only[Nat.add_zero]at hst
 simp only[Instr.storeAt,Instr.sureAddr,storeVar,Sem.run_bind,Qz h,Result.andThen_ok,Sem.run_pure]
 rw[if_neg (by simpa using hsz),hv,hst]
 rfl
theorem KD (h:TyOk P E T τ){b:AV}{cur:List Value}(hf:Fit τ b){o:Nat}(_:AR S w ρ row pv b ((cur.drop o).take (nc τ)))(ho:o+nc τ<=cur.length) :
  (part T cur.toArray o).run P w= .ok (valOf b ((cur.drop o).take (nc τ))) w:=by
 unfold valOf
 rw[hf.isAg]
 cases hg:agT τ with
 |true=>
  simp only[part,Sem.run_bind,YD h,hg,Result.andThen_ok,if_true,Qz h,Sem.run_pure,cond_true]
  congr 2
  apply Array.ext'
  simp[List.extract_eq_take_drop]
 |false=>
  rw[UY hg]at ho ⊢
  have:o<cur.length:=by omega
  simp only[part,Sem.run_bind,YD h,hg,Result.andThen_ok,cond_false]
  simp[this,List.take_one,List.head?_drop]
end
end Go.Gx
end
section
/- How a frame lives on: new rows,rows written,rows appended to,rows that never change any more. -/
namespace Go.Gx
open Go.RowKit
def upd (ρ:Nat->Option Loc)(id:Nat)(l:Loc):Nat->Option Loc:=λj=>if j=id then some l else ρ j
theorem Qn {a b:Nat}:Nat.beq a b=decide (a=b):=by
 by_cases h:a=b
 ·subst h;simp
 ·rw[decide_eq_false h]
  cases hb:Nat.beq a b with
  |false=>rfl
  |true=>exact absurd (Nat.eq_of_beq_eq_true hb) h
theorem Q1 (st:St)(id:Nat)(r:Row)(j:Nat):(st.setRow id r).row j=if j=id then some r else st.row j:=by
 simp only[St.setRow,Qn]
 by_cases h:j=id<;>simp[h]
section
variable {S S':Nat->Prop} {w w':World} {ρ ρ':Nat->Option Loc} {row row':Nat->Option Row} {pv:Nat->Value} {B:Old}
theorem HS.app (h:HS S w ρ row pv B)(hB:∀k,B k->k<w.heap.size){j:Nat}(hj:j≠Q7){r r':Row}{l l':Loc}(hr:row j=some r)(hl:ρ j=some l)(hf:frz r=false)(hf':frz r'=false)
  (hsz:w.heap.size<=w'.heap.size) (hold:∀b,b<w.heap.size->¬l.has b->w'.heap[b]? =w.heap[b]?)
  (hl':∀b,l'.has b->l.has b\/w.heap.size<=b) (hrow:∀i,row' i=if i=j then some r' else Jj j (j+1) i (row i))
  (hok:QG S w' (upd (killL j (j+1) ρ) j l') row' pv r' l'):HS S w' (upd (killL j (j+1) ρ) j l') row' pv B:=by
 have hk:=h.kill j (j+1) (Ut hj)
 have hne:∀i l0,killL j (j+1) ρ i=some l0->i≠j/\ρ i=some l0:=λi l0 h1=>by
  unfold killL at h1
  cases hb:inR j (j+1) i with
  |true=>rw[hb]at h1;cases h1
  |false=>
   rw[hb]at h1
   refine⟨?_,h1⟩
   rintro rfl
   exact(JM (by simpa[inR]using hb)) ⟨Nat.le_refl _,Nat.lt_succ_self _⟩
 have hw:∀b,S b->w'.heap[b]? =w.heap[b]?:=λb hb=>hold b (h.stab b hb) λe=>(h.apart0 j r l b hl hr e).2.1 hf hb
 have hrn:∀i,i≠j->Jj j (j+1) i (row i)≠none->row i≠none:=λi _ h1 h2=>h1 (by rw[h2];exact Ji)
 refine⟨λb hb=>Nat.lt_of_lt_of_le (h.stab b hb) hsz,λid r0 l0 h1 h2=>?_,λid id' l0 l1 b h1 h2 h3 h4 h5 h6=>?_,λid r0 l0 b h1 h2 hb=>?_,λl0 hl0=>?_⟩
 rotate_left 3
 ·simp only[upd,if_neg (Ne.symm hj)]
  exact hk.pin l0 hl0
 ·by_cases e:id=j
  ·subst e
   rw[hrow,if_pos rfl]at h1
   simp only[Option.some.injEq]at h1
   subst h1
   simp only[upd,if_true,Option.some.injEq]at h2
   subst h2
   exact hok
  ·rw[hrow,if_neg e]at h1
   simp only[upd,if_neg e]at h2
   refine QG.ext (P:=λ_=>True) (λ_ h=>h) hw ?_ (hk.rows id r0 l0 h1 h2) ?_ (λ_ _ _ _ _=>trivial)
   ·intro i l1 r1 _ h3 h4
    have hi:=(hne i l1 h3).1
    refine⟨by simp only[upd,if_neg hi];exact h3,r1,?_,.refl r1⟩
    rw[hrow,if_neg hi];exact h4
   ·intro g hg
    refine hold g ((hk.rows id r0 _ h1 h2).has_lt hg) λe'=>e ?_
    exact h.inj0 id j l0 l g (hne id _ h2).2 hl (hrn id e (by rw[h1];simp)) (by rw[hr];simp) hg e'
 ·rw[hrow]at h3 h4
  by_cases e:id=j<;>by_cases e':id'=j
  ·exact e.trans e'.symm
  ·exfalso
   subst e
   simp only[upd,if_true,Option.some.injEq]at h1
   simp only[upd,if_neg e']at h2
   rw[if_neg e']at h4
   subst h1
   rcases hl' b h5 with h7|h7
   ·exact e' (h.inj0 id' id l1 l b (hne id' _ h2).2 hl (hrn id' e' h4) (by rw[hr];simp) h6 h7)
   ·cases h8:Jj id (id+1) id' (row id')with
    |none=>exact h4 h8
    |some r0=>have:=(hk.rows id' r0 _ h8 h2).has_lt h6;omega
  ·exfalso
   subst e'
   simp only[upd,if_true,Option.some.injEq]at h2
   simp only[upd,if_neg e]at h1
   rw[if_neg e]at h3
   subst h2
   rcases hl' b h6 with h7|h7
   ·exact e (h.inj0 id id' l0 l b (hne id _ h1).2 hl (hrn id e h3) (by rw[hr];simp) h5 h7)
   ·cases h8:Jj id' (id'+1) id (row id)with
    |none=>exact h3 h8
    |some r0=>have:=(hk.rows id r0 _ h8 h1).has_lt h5;omega
  ·simp only[upd,if_neg e]at h1
   simp only[upd,if_neg e']at h2
   rw[if_neg e]at h3
   rw[if_neg e']at h4
   exact h.inj0 id id' l0 l1 b (hne id _ h1).2 (hne id' _ h2).2 (hrn id e h3) (hrn id' e' h4) h5 h6
 ·by_cases e:id=j
  ·subst e
   rw[hrow,if_pos rfl]at h2
   simp only[Option.some.injEq]at h2
   subst h2
   simp only[upd,if_true,Option.some.injEq]at h1
   subst h1
   refine⟨?_,λ_ hS=>?_,λh3=>?_⟩
   ·rcases hl' b hb with h5|h5
    ·exact(h.apart0 id r l b hl hr h5).1
    ·exact λhb=>absurd (hB b hb) (by omega)
   ·rcases hl' b hb with h5|h5
    ·exact(h.apart0 id r l b hl hr h5).2.1 hf hS
    ·have:=h.stab b hS;omega
   ·rw[hf']at h3;cases h3
  ·rw[hrow,if_neg e]at h2
   simp only[upd,if_neg e]at h1
   exact hk.apart0 id r0 l0 b h1 h2 hb
end
section
variable {w0:World} {B:Old} {pv:Nat->Value} {S S':Nat->Prop} {ρ ρ':Nat->Option Loc} {st:St} {a:Act} {w w':World} {row':Nat->Option Row}
theorem Sim.grow (h:Sim w0 B pv S ρ st a w)(hb:Blw B w0 w')(hsz:w.heap.size<=w'.heap.size)(hold:∀b,b<w.heap.size->w'.heap[b]? =w.heap[b]?)(hS:∀b,S b->S' b)(hS':∀b,S' b->S b\/(w.heap.size<=b/\b<w'.heap.size))
  (hk:∀id l,ρ id=some l->ρ' id=some l/\row' id=st.row id)
  (hn:∀id r l,ρ id=none->ρ' id=some l->row' id=some r->QG S' w' ρ' row' pv r l/\frz r=false/\∀g,l.has g->w.heap.size<=g/\¬S' g)
  (hi:∀id id' l l' b,ρ id=none->ρ id'=none->ρ' id=some l->ρ' id'=some l'->row' id≠none->row' id'≠none->l.has b->l'.has b->id=id'):Sim w0 B pv S' ρ' ⟨st.slot,row',st.nt⟩ a w':=by
 refine⟨h.size,h.defers,λt=>?_,h.hs.grow h.hB hsz hold hS hS' hk hn hi,hb,λk hk=>Nat.lt_of_lt_of_le (h.hB k hk) hsz⟩
 exact VR.ext (P:=λ_=>True) hS (λb hb=>hold b (h.hs.stab b hb)) (λid l r _ h1 h2=>by
  obtain⟨h3,h4⟩:=hk id l h1
  exact⟨h3,r,h4.trans h2,.refl r⟩) (h.slots t) (λ_ _=>trivial)
theorem Sim.cong {st':St}(h:Sim w0 B pv S ρ st a w)(h1:st'.slot=st.slot)(h2:st'.row=st.row)(h3:st'.nt=st.nt):Sim w0 B pv S ρ st' a w:=by
 cases st;cases st'
 simp only at h1 h2 h3
 subst h1;subst h2;subst h3
 exact h
theorem Sim.make (h:Sim w0 B pv S ρ st a w)(hb:Blw B w0 w')(hsz:w.heap.size<=w'.heap.size)(hold:∀b,b<w.heap.size->w'.heap[b]? =w.heap[b]?){id:Nat}(hid:ρ id=none){r:Row}(hf:frz r=false){l:Loc}
  (hl:∀g,l.has g->w.heap.size<=g)
  (hok:∀ρ' row',(∀i l,ρ i=some l->ρ' i=some l/\row' i=st.row i)->QG S w' ρ' row' pv r l):Sim w0 B pv S (upd ρ id l) (st.setRow id r) a w':=by
 have hk:∀i l0,ρ i=some l0->upd ρ id l i=some l0/\(st.setRow id r).row i=st.row i:=λi l0 h1=>by
  have:i≠id:=by rintro rfl;rw[hid]at h1;cases h1
  rw[Q1]
  simp[upd,this,h1]
 refine(h.grow (S':=S) (ρ':=upd ρ id l) (row':=(st.setRow id r).row) hb hsz hold (λ_ h=>h) (λ_ h=>.inl h) hk ?_ ?_).cong rfl rfl rfl
 ·intro i r0 l0 h1 h2 h3
  have e:i=id:=by
   apply Classical.byContradiction
   intro e
   simp only[upd,if_neg e,h1]at h2
   cases h2
  subst e
  simp only[upd,if_true,Option.some.injEq]at h2
  rw[Q1,if_pos rfl]at h3
  simp only[Option.some.injEq]at h3
  subst h2;subst h3
  refine⟨hok _ _ hk,hf,λg e=>⟨hl g e,λhS=>?_⟩⟩
  have:=h.hs.stab g hS
  have:=hl g e
  omega
 ·intro i i' l1 l2 b h1 h2 h3 h4 _ _ _ _
  have e:∀i,ρ i=none->∀l0,upd ρ id l i=some l0->i=id:=λi h1 l0 h2=>by
   apply Classical.byContradiction
   intro e
   simp only[upd,if_neg e,h1]at h2
   cases h2
  rw[e i h1 _ h3,e i' h2 _ h4]
theorem Sim.sto (h:Sim w0 B pv S ρ st a w)(hb:Blw B w0 w'){id:Nat}{r r':Row}{l:Loc}(hr:st.row id=some r)(hl:ρ id=some l)(hs:Same r r')(hz:frz r'=frz r)(hf:frz r=false)(hsz:w.heap.size<=w'.heap.size)
  (hold:∀b,b<w.heap.size->¬l.has b->w'.heap[b]? =w.heap[b]?)
  (hok:∀row',(∀i l r,ρ i=some l->st.row i=some r->∃r',row' i=some r'/\Same r r')->QG S w' ρ row' pv r' l):Sim w0 B pv S ρ (st.setRow id r') a w':=by
 have hrow:=Q1 st id r'
 have hkk:∀i l r0,ρ i=some l->st.row i=some r0->∃r1,(st.setRow id r').row i=some r1/\Same r0 r1:=λi l r0 _ h2=>by
  rw[hrow]
  by_cases e:i=id
  ·subst e
   rw[hr]at h2
   simp only[Option.some.injEq]at h2
   subst h2
   exact⟨r',by rw[if_pos rfl],hs⟩
  ·exact⟨r0,by rw[if_neg e];exact h2,.refl _⟩
 have hw:∀b,S b->w'.heap[b]? =w.heap[b]?:=λb hb=>hold b (h.hs.stab b hb) λe=>(h.hs.apart0 id r l b hl hr e).2.1 hf hb
 refine⟨h.size,h.defers,λt=>?_,h.hs.put hr hl hs hz hf hsz hold hrow (hok _ hkk),hb,λk hk=>Nat.lt_of_lt_of_le (h.hB k hk) hsz⟩
 exact VR.ext (P:=λ_=>True) (λ_ h=>h) hw (λi l r0 _ h1 h2=>⟨h1,hkk i l r0 h1 h2⟩) (h.slots t) (λ_ _=>trivial)
theorem Sim.growX (h:Sim w0 B pv S ρ st a w)(hb:Blw B w0 w')(hsz:w.heap.size<=w'.heap.size)(hw:∀b,S b->w'.heap[b]? =w.heap[b]?)(hr:∀id r l g,ρ id=some l->st.row id=some r->l.has g->w'.heap[g]? =w.heap[g]?)
  (hS:∀b,S b->S' b) (hS':∀b,S' b->S b\/((∀id r l,ρ id=some l->st.row id=some r->¬l.has b)/\b<w'.heap.size)):Sim w0 B pv S' ρ st a w':=by
 have hkk:∀i l r0,True->ρ i=some l->st.row i=some r0->ρ i=some l/\∃r1,st.row i=some r1/\Same r0 r1:=λi l r0 _ h1 h2=>⟨h1,r0,h2,.refl _⟩
 refine⟨h.size,h.defers,λt=>VR.ext (P:=λ_=>True) hS hw hkk (h.slots t) (λ_ _=>trivial),⟨λb hb'=>?_,λj r0 l0 h1 h2=>?_,h.hs.inj0,λj r0 l0 g h1 h2 h6=>?_,h.hs.pin⟩,hb,λk hk=>Nat.lt_of_lt_of_le (h.hB k hk) hsz⟩
 ·rcases hS' b hb' with h1|h1
  ·exact Nat.lt_of_lt_of_le (h.hs.stab b h1) hsz
  ·exact h1.2
 ·exact(h.hs.rows j r0 l0 h1 h2).ext hS hw hkk (λg e=>hr j r0 l0 g h2 h1 e) (λ_ _ _ _ _=>trivial)
 ·obtain⟨k1,k2,k3⟩:=h.hs.apart0 j r0 l0 g h1 h2 h6
  refine⟨k1,λh3 h4=>?_,λh3=>hS g (k3 h3)⟩
  rcases hS' g h4 with h5|h5
  ·exact k2 h3 h5
  ·exact h5.1 j r0 l0 h1 h2 h6
theorem Sim.app (h:Sim w0 B pv S ρ st a w)(hb:Blw B w0 w'){j:Nat}(hj:j≠Q7){r r':Row}{l l':Loc}(hr:st.row j=some r)(hl:ρ j=some l)(hf:frz r=false)(hf':frz r'=false)
  (hsz:w.heap.size<=w'.heap.size) (hold:∀b,b<w.heap.size->¬l.has b->w'.heap[b]? =w.heap[b]?)
  (hl':∀b,l'.has b->l.has b\/w.heap.size<=b)
  (hok:∀ρ' row',QG S w' ρ' row' pv r' l'):Sim w0 B pv S (upd (killL j (j+1) ρ) j l') ((st.kill j (j+1)).setRow j r') a w':=by
 have hrow:=Q1 (st.kill j (j+1)) j r'
 have hw:∀b,S b->w'.heap[b]? =w.heap[b]?:=λb hb=>hold b (h.hs.stab b hb) λe=>(h.hs.apart0 j r l b hl hr e).2.1 hf hb
 refine⟨h.size,h.defers,λt=>?_,h.hs.app h.hB hj hr hl hf hf' hsz hold hl' hrow (hok _ _),hb,λk hk=>Nat.lt_of_lt_of_le (h.hB k hk) hsz⟩
 refine VR.ext (P:=λ_=>True) (λ_ h=>h) hw (λi l0 r0 _ h1 h2=>?_) ((h.slots t).kill j (j+1)) (λ_ _=>trivial)
 have hi:i≠j:=by
  rintro rfl
  unfold killL at h1
  have:inR i (i+1) i=true:=by simp[inR,Nat.blt,Nat.ble_eq]
  rw[this]at h1
  cases h1
 refine⟨by simp only[upd,if_neg hi];exact h1,r0,?_,.refl _⟩
 rw[hrow,if_neg hi]
 exact h2
theorem JG:∀(ids:List Nat) (st:St) (j:Nat),(st.freeze ids).row j=(st.row j).map (λr=>if j∈ids then JC r else r)
 |[],st,j=>by simp[St.freeze]
 |id::ids,st,j=>by
  unfold St.freeze
  have ff:∀r,JC (JC r)=JC r:=λr=>by cases r<;>rfl
  split
  ·rename_i r hr
   rw[JG ids,Q1]
   by_cases e:j=id
   ·subst e
    simp only[if_true,hr,Option.map_some,List.mem_cons,true_or]
    by_cases h:j∈ids<;>simp[h,ff]
   ·simp[e]
  ·rename_i hr
   rw[JG ids]
   by_cases e:j=id
   ·subst e;simp[hr]
   ·simp[e]
theorem QL:∀(ids:List Nat) (st:St),(st.freeze ids).slot=st.slot/\(st.freeze ids).nt=st.nt
 |[],st=>⟨rfl,rfl⟩
 |id::ids,st=>by
  unfold St.freeze
  split
  ·exact QL ids _
  ·exact QL ids _
def Y4 (S:Nat->Prop)(ρ:Nat->Option Loc)(row:Nat->Option Row)(ids:List Nat):Nat->Prop:=λb=>S b\/∃id∈ids,∃r c,row id=some r/\frz (JC r)=true/\ρ id=some (.at b c)
theorem Sim.frzs (h:Sim w0 B pv S ρ st a w)(ids:List Nat):Sim w0 B pv (Y4 S ρ st.row ids) ρ (st.freeze ids) a w:=by
 have hrow:=JG ids st
 have same:∀r,Same r (JC r):=λr=>by
  cases r with
  |flat e τ xs fz app=>exact .flat _ _ _ _ _ _ _ _ _ rfl
  |box τ a=>exact .box _ _ _
 refine⟨h.size.trans (QL ids st).2.symm,h.defers,λt=>?_,?_,h.below,h.hB⟩
 ·rw[(QL ids st).1]
  refine VR.ext (P:=λ_=>True) (λ_ h=>.inl h) (λ_ _=>rfl) (λi l r _ h1 h2=>⟨h1,?_⟩) (h.slots t) (λ_ _=>trivial)
  rw[hrow,h2]
  by_cases e:i∈ids
  ·exact⟨JC r,by simp[e],same r⟩
  ·exact⟨r,by simp[e],.refl r⟩
 ·refine h.hs.freeze (ids:=ids) (λj r hj=>by rw[hrow,hj];rfl) (λj hj=>by rw[hrow,hj];rfl) (λb=>Iff.rfl)
end
end Go.Gx
end
section
/- Values handed to a callee: plain data. -/
namespace Go.Gx
open Go.RowKit
theorem JH {f:AV->Option AV}:∀{fs gs:List AV},Yt f fs=some gs->gs.length=fs.length/\∀(i:Nat) (b:AV),gs[i]? =some b->∃a,fs[i]? =some a/\f a=some b
 |[],gs,h=>by
  simp only[Yt,Option.some.injEq]at h
  subst h
  exact⟨rfl,λi b h=>by simp at h⟩
 |a::l,gs,h=>by
  simp only[Yt]at h
  split at h
  ·rename_i b hb
   split at h
   ·rename_i m hm
    simp only[Option.some.injEq]at h
    subst h
    obtain⟨h1,h2⟩:=JH hm
    refine⟨by simp[h1],λi c hc=>?_⟩
    cases i with
    |zero=>
     simp only[List.getElem?_cons_zero,Option.some.injEq]at hc
     subst hc
     exact⟨a,rfl,hb⟩
    |succ i=>simpa using h2 i c (by simpa using hc)
   ·cases h
  ·cases h
theorem XU {τ:Ty}{fs:List AV}{a:AV}(h:QA τ fs=some a):isAg a=true:=by
 unfold QA at h
 repeat' split at h
 all_goals first
  |(cases h;done)
  |(cases h;rfl)
theorem Jy {row:Nat->Option Row}{n:Nat}{a b:AV}(h:Q2 row n a=some b):isAg b=isAg a:=by
 cases n with
 |zero=>cases h
 |succ n=>
  cases a with
  |agg τ fs=>
   simp only[Q2]at h
   split at h
   ·rw[XU h];rfl
   ·cases h
  |ep id i p=>
   cases i<;>simp only[Q2]at h<;>(repeat' split at h)<;>first
    |(cases h;done)
    |(cases h;rfl)
  |_=>
   simp only[Q2]at h
   (repeat' split at h)<;>first
    |(cases h;done)
    |(cases h;rfl)
    |(rename_i e _;subst e;cases h;rfl)
theorem Uw {row:Nat->Option Row}{n:Nat}:∀{fs gs:List AV},Yt (Q2 row n) fs=some gs->∀css,valsOf gs css=valsOf fs css
 |[],gs,h,css=>by
  simp only[Yt,Option.some.injEq]at h
  subst h;rfl
 |a::l,gs,h,css=>by
  simp only[Yt]at h
  split at h
  ·rename_i b hb
   split at h
   ·rename_i m hm
    simp only[Option.some.injEq]at h
    subst h
    cases css with
    |nil=>rfl
    |cons c css=>simp only[valsOf,valOf,Jy hb,Uw hm css]
   ·cases h
  ·cases h
theorem Ux {f:AV->List Nat}{id:Nat}:∀{l:List AV} {i:Nat} {a:AV},l[i]? =some a->id∈f a->id∈J3.go f l
 |[],i,a,h,_=>by simp at h
 |b::l,0,a,h,hm=>by
  simp only[List.getElem?_cons_zero,Option.some.injEq]at h
  subst h
  exact List.mem_append_left _ hm
 |b::l,i+1,a,h,hm=>List.mem_append_right _ (Ux (i:=i) (by simpa using h) hm)
section
variable {S S1:Nat->Prop} {w:World} {ρ ρ0:Nat->Option Loc} {row row0:Nat->Option Row} {pv:Nat->Value} {B:Old}
def Cov (S1:Nat->Prop)(w:World)(ρ:Nat->Option Loc)(row:Nat->Option Row)(n:Nat)(a:AV):Prop:=
 (∀b,b<w.heap.size->S1 b)\/(JA n a=false/\∀id,id∈J3 n a->∀r g c,row id=some r->frz (JC r)=true->ρ id=some (.at g c)->S1 g)
theorem XV (h:HS S w ρ row pv B)(hsub:∀b,S b->S1 b){id e:Nat}{τ:Ty}{xs:List (den τ)}{fz app:Bool}{g c:Nat}(hr:row id=some (.flat e τ xs fz app))(hl:ρ id=some (.at g c))(hg:S1 g) :
  CR S1 w (.sl τ) xs [.slice (some ⟨g,0,none⟩) xs.length c]:=by
 obtain⟨cur,f,h1,h2,h3,h4,h5,h6,h7,h8⟩:=h.rows id _ _ hr hl
 have hw:∀b,S b->w.heap[b]? =w.heap[b]?:=λ_ _=>rfl
 have:∀i,∃cs,∀(hi:i<xs.length),CR S w τ xs[i] cs/\∀j v,cs[j]? =some v->cur[i*nc τ+j]? =some v:=λi=>by
  by_cases hi:i<xs.length
  ·obtain⟨cs,hc⟩:=h8 i hi
   exact⟨cs,λ_=>⟨hc.1.un,hc.2⟩⟩
  ·exact⟨[],λh=>absurd h hi⟩
 let cv:=λi=>Classical.choose (this i)
 have hcv:=λi=>Classical.choose_spec (this i)
 refine .sl τ xs _ c cv h3 h4 (λi hi=>((hcv i hi).1.mono hsub hw)) λi hi=>⟨g,0,rfl,hg,λj v hv=>?_⟩
 have:=(hcv i hi).2 j v hv
 simp only[World.cell?,h1,Nat.zero_add]
 simpa using this
theorem Q5o {T:Nat->Prop}{w:World}{e:Ty}{xs:List (den e)}{g n c:Nat}(h:CR T w (.sl e) xs [.slice (some ⟨g,0,none⟩) n c]){i:Nat}(hi:i<n):∃hl:i<xs.length,T g/\∃cs,CR T w e xs[i] cs/\∀j v,cs[j]? =some v->w.cell? ⟨g,i*nc e+j,none⟩=some v:=by
 generalize hv:Value.slice (some ⟨g,0,none⟩) n c=v at h
 cases h with
 |sl _ _ A c' cv hc hm h1 h2=>
  cases hv
  obtain⟨g',o,e1,hS,h3⟩:=h2 i hi
  cases e1
  exact⟨hi,hS,cv i,h1 i hi,λj v hv=>by have:=h3 j v hv;rwa [Nat.zero_add]at this⟩
theorem Q0W {T:Nat->Prop}{v w:World}(hs:JD T v w){σ:Ty}{x:den σ}{cs:List Value}(h:CR T w σ x cs){q:Option Nat}{p:List Nat}{τ:Ty}{y:den (.sl τ)}{u:Value}(hy:viewAt σ x q p=some (.t (.sl τ) y))(hp:PlaceAt v cs σ q p (.sl τ) u):CR T w (.sl τ) y [u]:=by
 cases hp with
 |root _ _ _ _ h1 _ h2=>
  obtain⟨σ',h3,_,h4,h5⟩:=YW (S:=T) (w:=w) (ρ:=λ_=>none) (row:=λ_=>none) (pv:=λ_=>undef) (.t σ x) (.t σ x cs h) hy
  rw[h1]at h3
  cases h3
  cases h4 with
  |t _ _ _ h4=>
   have e:((cs.drop (Qk σ p)).take (nc (.sl τ)))=[u]:=by
    rw[show nc (.sl τ)=1 from rfl,List.take_one,List.head?_drop,h2];rfl
   rwa [e]at h4
 |elem e i _ _ _ g n c hcs hi h1 _ h2=>
  subst hcs
  obtain⟨hl,hT,ds,k1,k2⟩:=Q5o h hi
  have hy:YT (.t e (List.getD x i (Q9 e))) p=some (.t (.sl τ) y):=by
   simpa only[viewAt]using hy
  have e1:List.getD x i (Q9 e)=x[i]:=by simp[List.getD,hl]
  rw[e1]at hy
  obtain⟨σ',h3,_,h4,h5⟩:=YW (S:=T) (w:=w) (ρ:=λ_=>none) (row:=λ_=>none) (pv:=λ_=>undef) (.t e _) (.t e _ ds k1) hy
  rw[h1]at h3
  cases h3
  cases h4 with
  |t _ _ _ h4=>
   obtain⟨cur,t,f,k3,k4,u',k5,k6⟩:=Xo hs hT h2
   have hlt:Qk e p<ds.length:=by simp[nc]at h5;omega
   have k7:=k2 (Qk e p) ds[Qk e p] (List.getElem?_eq_getElem hlt)
   have e2:((ds.drop (Qk e p)).take (nc (.sl τ)))=[ds[Qk e p]]:=by
    rw[show nc (.sl τ)=1 from rfl,List.take_one,List.head?_drop,List.getElem?_eq_getElem hlt];rfl
   rw[e2]at h4
   have k8:w.cell? ⟨g,i*nc e+Qk e p,none⟩=some u':=by simp only[World.cell?,k3];simpa using k5
   rw[k7]at k8
   cases k8
   generalize ds[Qk e p]=d at h4 k6
   cases h4 with
   |sl _ _ A c' cv a b c d=>
    cases u<;>simp only[Yn]at k6<;>first
     |(cases k6;done)
     |(cases k6;exact .sl _ _ A c' cv a b c d)
theorem Jc (h:HS S w ρ row pv B)(hsub:∀b,S b->S1 b):∀{n:Nat} {a b:AV} {cs:List Value},Q2 row n a=some b->AR S w ρ row pv a cs->Cov S1 w ρ row n a->AR S1 w ρ0 row0 pv b cs
 |0,a,b,cs,hc,_,_=>by simp[Q2]at hc
 |n+1,a,b,cs,hc,ha,hcov=>by
  have hw:∀b,S b->w.heap[b]? =w.heap[b]?:=λ_ _=>rfl
  have kids:∀(fs:List AV),(∀x,x∈fs->Cov S1 w ρ row n x)->∀(gs:List AV),Yt (Q2 row n) fs=some gs->∀(css:List (List Value)),fs.length=css.length->(∀(i:Nat) (a:AV) (cs:List Value),fs[i]? =some a->css[i]? =some cs->AR S w ρ row pv a cs)->
    gs.length=css.length/\∀(i:Nat) (a:AV) (cs:List Value),gs[i]? =some a->css[i]? =some cs->AR S1 w ρ0 row0 pv a cs:=λfs hcv gs hm css hl hh=>by
   obtain⟨h1,h2⟩:=JH hm
   refine⟨h1.trans hl,λi b cs hb hcs=>?_⟩
   obtain⟨a,h3,h4⟩:=h2 i b hb
   exact Jc h hsub h4 (hh i a cs h3 hcs) (hcv a (List.mem_of_getElem? h3))
  have eps:∀{id i p},a= .ep id i p->∀b,b<w.heap.size->S1 b:=λ{id i p} e=>by
   rcases hcov with h1|⟨h1,_⟩
   ·exact h1
   ·subst e;simp[JA]at h1
  cases ha with
  |t τ x _ hx=>
   simp only[Q2,Option.some.injEq]at hc
   subst hc
   exact .t τ x _ (hx.mono hsub hw)
  |nil=>
   simp only[Q2,Option.some.injEq]at hc
   subst hc
   exact .nil
  |own id e τ xs fz app g cap hr hl=>
   simp only[Q2,hr,Option.some.injEq]at hc
   subst hc
   refine .t _ _ _ (XV h hsub hr hl ?_)
   rcases hcov with h1|⟨_,h1⟩
   ·exact h1 g (h.rows id _ _ hr hl).lt
   ·exact h1 id (by simp[J3]) _ g cap hr rfl hl
  |ownNil id e τ fz app hr hl=>
   simp only[Q2,hr,Option.some.injEq]at hc
   subst hc
   exact .t _ _ _ (Jr S1 w τ)
  |epB id τ σ b0 g cap p hr hl hp=>
   have hall:=eps rfl
   simp only[Q2,hr,hp]at hc
   split at hc
   ·rename_i c τ' hg hτ'
    simp only[Option.some.injEq]at hτ'
    subst hτ'
    split at hc
    ·rename_i d hd
     split at hc
     ·rename_i x hx
      simp only[Option.some.injEq]at hc
      subst hc
      obtain⟨cur,T,h1,h2,h3⟩:=h.rows id _ _ hr hl
      obtain⟨σ',h4,h5,h6,h7⟩:=YW h2 h3 hg
      rw[hp]at h4
      simp only[Option.some.injEq]at h4
      subst h4
      have:=Jc h hsub hd h6 (.inl hall)
      refine .tp _ x _ g _ (Qq hx this) (hall g (h.rows id _ _ hr hl).lt) λj v hj=>?_
      simp only[World.cell?,h1]
      obtain⟨hj1,hj2⟩:=List.getElem?_eq_some_iff.1 hj
      simp only[List.getElem_take,List.getElem_drop,Array.getElem_toList]at hj2
      simp only[List.length_take,List.length_drop,Array.length_toList]at hj1
      simp[<-hj2]
     ·cases hc
    ·cases hc
   ·cases hc
  |epF id e τ σ xs fz app g cap i p hr hl hi hp=>
   have hall:=eps rfl
   simp only[Q2,hr]at hc
   split at hc
   ·rename_i σ' x hg
    simp only[Option.some.injEq]at hc
    subst hc
    obtain⟨cur,f,h1,h2,h3,h4,h5,h6,h7,h8⟩:=h.rows id _ _ hr hl
    obtain⟨c,hc1,hc2⟩:=h8 i hi
    have hc1:=hc1.un
    have e1:xs.getD i (Q9 τ)=xs[i]:=by simp[List.getD,hi]
    rw[e1]at hg
    obtain⟨σ2,h9,h10,h11,h12⟩:=YW (ρ:=ρ) (row:=row) (pv:=pv) (.t τ _) (.t τ _ c hc1) hg
    cases h10
    cases h11 with
    |t _ _ _ h11=>
     refine .tp σ' x _ g _ (h11.mono hsub hw) (hall g (h.rows id _ _ hr hl).lt) λj v hj=>?_
     simp only[World.cell?,h1]
     have:c[Qk τ p+j]? =some v:=by
      obtain⟨hj1,hj2⟩:=List.getElem?_eq_some_iff.1 hj
      simp only[List.getElem_take,List.getElem_drop]at hj2
      simp only[List.length_take,List.length_drop]at hj1
      rw[List.getElem?_eq_getElem (by omega),hj2]
     have:=hc2 _ v this
     simpa[Nat.add_assoc]using this
   ·cases hc
  |tl id e τ xs fz app l i hr hl hi hm=>
   simp only[Q2,hr,Q59 hm]at hc
   cases hc
  |tp τ x cs g o hx hS hcell=>
   simp only[Q2,Option.some.injEq]at hc
   subst hc
   exact .tp τ x cs g o (hx.mono hsub hw) (hsub g hS) hcell
  |agg τ fs css hl hh=>
   simp only[Q2]at hc
   split at hc
   ·rename_i gs hgs
    have hcv:∀x,x∈fs->Cov S1 w ρ row n x:=λx hx=>by
     rcases hcov with h1|⟨h0,h1⟩
     ·exact .inl h1
     ·obtain⟨i,hi⟩:=List.getElem?_of_mem hx
      exact .inr ⟨QS (f:=JA n) h0 hi,λid hm=>h1 id (Ux (f:=J3 n) hi hm)⟩
    obtain⟨h1,h2⟩:=kids fs hcv gs hgs css hl hh
    ·obtain⟨x,rfl,hx⟩:=YI (ρ:=ρ0) (row:=row0) (pv:=pv) hc ⟨css,rfl,h1,h2⟩
     exact .t τ x _ hx
   ·cases hc
  |hole τ _ hl h1=>simp[Q2]at hc
  |tup vs css hl hh=>simp[Q2]at hc
  |clo f caps css hl hh=>
   simp only[Q2]at hc
   split at hc
   ·rename_i gs hgs
    simp only[Option.some.injEq]at hc
    subst hc
    have hcv:∀x,x∈caps->Cov S1 w ρ row n x:=λx hx=>by
     rcases hcov with h1|⟨h0,h1⟩
     ·exact .inl h1
     ·obtain⟨i,hi⟩:=List.getElem?_of_mem hx
      exact .inr ⟨QS (f:=JA n) h0 hi,λid hm=>h1 id (Ux (f:=J3 n) hi hm)⟩
    obtain⟨h1,h2⟩:=kids caps hcv gs hgs css hl hh
    rw[<-Uw hgs css]
    exact .clo f gs css h1 h2
   ·cases hc
  |par i h1=>
   simp only[Q2,Option.some.injEq]at hc
   subst hc
   exact .par i h1
  |pc c τ x _ hx=>
   simp only[Q2,Option.some.injEq]at hc
   subst hc
   exact .t τ x _ (hx.mono (λb hb=>hsub b hb.1) λ_ _=>rfl)
  |ds id τ x _ r T v hr hl hx=>
   have hall:∀b,b<w.heap.size->S1 b:=by
    rcases hcov with h1|⟨h1,_⟩
    ·exact h1
    ·simp[JA]at h1
   simp only[Q2]at hc
   split at hc
   ·rename_i σ hrow
    cases hc
    obtain⟨_,⟨b',e,h2⟩,h3⟩:=h.rows id _ _ hrow hl
    cases e
    exact .t τ x _ (hx.mono (λb hb=>hall b (h3 b hb).1) λb hb=>h2 rfl b hb)
   ·cases hc
  |dq id τ x _ r T v g o hr hl hT hx hv=>simp[Q2]at hc
  |tq id i p e σ b T v g n c hr hl hi hp _=>simp[Q2]at hc
  |tv id τ b _ T v hr hl hcl h1=>
   have hall:∀b,b<w.heap.size->S1 b:=by
    rcases hcov with h1|⟨h1,_⟩
    ·exact h1
    ·simp[JA]at h1
   obtain⟨_,h2,e,ap,x,rfl,h3,_⟩:=h.rows id _ _ hr hl
   simp only[Q2,hr]at hc
   split at hc
   ·cases hc
    exact .t τ x _ (h3.cr.mono (λb hb=>hall b (h2 b hb).1) λ_ _=>rfl)
   ·cases hc
  |vw id q p τ σ b cs T v u hr hl hv h1=>
   have hall:∀b,b<w.heap.size->S1 b:=by
    rcases hcov with h1|⟨h1,_⟩
    ·exact h1
    ·simp[JA]at h1
   obtain⟨_,h2,e,ap,x,rfl,h3,_⟩:=h.rows id _ _ hr hl
   simp only[Q2,hr]at hc
   split at hc
   ·rename_i ρ' y hy
    split at hc
    ·rename_i e' _
     subst e'
     cases hc
     exact .t _ y _ ((Q0W h2 h3.cr hy hv).mono (λb hb=>hall b (h2 b hb).1) λ_ _=>rfl)
    ·cases hc
   ·cases hc
end
end Go.Gx
end
section
/- The interpreter's operations are the machine's: those that look,those that make. -/
namespace Go.Gx
open Go.RowKit
structure Grew (B:Old)(S S':Nat->Prop):Prop where
 sub:∀b,S b->B b->S' b
 new:∀b,S' b->S b\/¬B b
theorem Grew.refl (B:Old)(S:Nat->Prop):Grew B S S:=⟨λ_ h _=>h,λ_ h=>.inl h⟩
theorem Grew.trans {B:Old}{S S1 S2:Nat->Prop}(h:Grew B S S1)(k:Grew B S1 S2):Grew B S S2:=
 ⟨λb hb hB=>k.sub b (h.sub b hb hB) hB,λb hb=>(k.new b hb).elim (h.new b) .inr⟩
theorem JR {w0:World}{B:Old}{pv:Nat->Value}{S:Nat->Prop}{ρ:Nat->Option Loc}{st:St}{a:Act}{w:World}(h:Sim w0 B pv S ρ st a w)(ids:List Nat):Grew B S (Y4 S ρ st.row ids):=
 ⟨λ_ hb _=>.inl hb,λb hb=>hb.imp _root_.id λ⟨id,_,r,c,hr,_,hl⟩=>(h.hs.apart id r b c hl hr).1⟩
def Nx (E:Env)(w0:World)(B:Old)(pv:Nat->Value)(S:Nat->Prop)(ρ:Nat->Option Loc)(st:St)(dst:Option Nat)(u:Upd)(id:Nat)(K:Act->World->Prop):Prop:=
 ∀S' ρ' a' w',Sim w0 B pv S' ρ' (st.apply dst u) a' w'->Qr E pv S' w'->Grew B S S'->(∀j,ρ j=none->¬(id<=j/\j<id+4)->ρ' j=none)->K a' w'
theorem Oper.wp_value {P:Program}{o:Oper}{a:Act}{w w':World}{K:Act->World->Prop}{Q:Exit->Act->World->Prop}{v:Value}(h:(execOp a.eval o).run P w= .ok (.value v) w')(hK:K (a.put o.dst v) w'):o.wp P a w K Q:=by
 unfold Oper.wp;rw[h];exact hK
theorem Oper.wp_skip {P:Program}{o:Oper}{a:Act}{w w':World}{K:Act->World->Prop}{Q:Exit->Act->World->Prop}(h:(execOp a.eval o).run P w= .ok .skip w')(hK:K (a.put o.dst undef) w'):o.wp P a w K Q:=by
 unfold Oper.wp;rw[h];exact hK
section
variable {P:Program} {E:Env} {w0:World} {B:Old} {pv:Nat->Value} {S:Nat->Prop} {ρ:Nat->Option Loc} {st:St} {a:Act} {w:World} {o:Oper} {id:Nat} {K:Act->World->Prop} {Q:Exit->Act->World->Prop}
theorem QK {o:Oper}{n:Nat}(h:J9 o n=true):∀d,o.dst=some d->d<n:=λd hd=>by
 unfold J9 at h
 rw[hd]at h
 exact Nat.le_of_ble_eq_true h
theorem Q8 (hs:Sim w0 B pv S ρ st a w)(hgl:Qr E pv S w)(hd:J9 o st.nt=true){b:AV}{v:Value}(hrun:(execOp a.eval o).run P w= .ok (.value v) w)(hv:VR S w ρ st.row pv b v)
  (hK:Nx E w0 B pv S ρ st o.dst (quiet b) id K):o.wp P a w K Q:=
 Oper.wp_value hrun (hK S ρ _ w (hs.put (QK hd) hv) hgl (Grew.refl _ _) (λ_ h _=>h))
theorem Qp (ρ:Nat->Option Loc)(id:Nat)(l:Loc):upd ρ id l id=some l:=by simp[upd]
theorem Xr {ρ:Nat->Option Loc}{id:Nat}{l:Loc}{id0:Nat}(h:id0<=id/\id<id0+4):∀j,ρ j=none->¬(id0<=j/\j<id0+4)->upd ρ id l j=none:=λj h1 h2=>by
 have:j≠id:=by rintro rfl;exact h2 h
 simp[upd,this,h1]
theorem World.size_alloc' (w:World)(o:Obj):(w.alloc o).heap.size=w.heap.size+1:=by
 show(w.heap.push o).size=_
 exact Array.size_push _
theorem Sim.alloc (hs:Sim w0 B pv S ρ st a w)(hgl:Qr E pv S w)(hid:ρ id=none){cur:Array Value}{T:TypeId}{r:Row}{c:Nat}(hf:frz r=false)
  (hok:∀ρ' row',(∀i l,ρ i=some l->ρ' i=some l/\row' i=st.row i)->QG S (w.alloc (.cells cur T)) ρ' row' pv r (.at w.heap.size c)) :
  Sim w0 B pv S (upd ρ id (.at w.heap.size c)) (st.setRow id r) a (w.alloc (.cells cur T))/\Qr E pv S (w.alloc (.cells cur T)):=by
 have hold:∀b,b<w.heap.size->(w.alloc (.cells cur T)).heap[b]? =w.heap[b]?:=λb hb=>heap_alloc_old w _ b hb
 exact⟨hs.make (hs.below.alloc hs.hB _) (by rw[World.size_alloc'];omega) hold hid hf (λg e=>by cases e;exact Nat.le_refl _) hok,hgl.mono (λ_ h=>h) λb hb=>hold b (hs.hs.stab b hb)⟩
theorem Q1P (hs:Sim w0 B pv S ρ st a w)(hgl:Qr E pv S w)(hd:J9 o st.nt=true)(hid:ρ id=none){cur:Array Value}{T:TypeId}{r:Row}{c:Nat}(hf:frz r=false){b:AV}{v:Value}
  (hrun:(execOp a.eval o).run P w= .ok (.value v) (w.alloc (.cells cur T)))
  (hok:∀ρ' row',(∀i l,ρ i=some l->ρ' i=some l/\row' i=st.row i)->QG S (w.alloc (.cells cur T)) ρ' row' pv r (.at w.heap.size c))
  (hv:∀w' ρ' row',ρ' id=some (.at w.heap.size c)->row' id=some r->VR S w' ρ' row' pv b v)
  (hK:Nx E w0 B pv S ρ st o.dst (makes b [(id,r)]) id K):o.wp P a w K Q:=by
 obtain⟨h1,h2⟩:=hs.alloc (E:=E) hgl hid hf hok
 refine Oper.wp_value hrun (hK S (upd ρ id (.at w.heap.size c)) _ _ ?_ h2 (Grew.refl _ _) (Xr ⟨Nat.le_refl _,by omega⟩))
 exact h1.put (QK hd) (hv _ _ _ (Qp _ _ _) (by rw[Q1,if_pos rfl]))
variable {row:Nat->Option Row}
theorem Qw {b:AV}{v:Value}(h:VR S w ρ row pv b v)(hb:b≠ .any):∃cs,AR S w ρ row pv b cs/\v=valOf b cs:=h.resolve_left hb
theorem Q9j {i:Option Nat}{p:List Nat}{j:Nat}{v:Value}(h:VR S w ρ row pv (.ep j i p) v)(hp:Gs p=false):∃A,v= .pointer (some A):=by
 obtain⟨cs,h',rfl⟩:=Qw h (by simp)
 cases h'<;>first
  |exact⟨_,rfl⟩
  |cases hp
theorem Q2F {b:AV}{v:Value}(h:VR S w ρ row pv (.tp b) v):∃τ x cs g o,b= .t τ x/\v= .pointer (some ⟨g,o,none⟩)/\CR S w τ x cs/\S g/\∀j u,cs[j]? =some u->w.cell? ⟨g,o+j,none⟩=some u:=by
 obtain⟨cs,h',rfl⟩:=Qw h (by simp)
 cases h' with
 |tp τ x cs g o hx hS hc=>exact⟨τ,x,cs,g,o,rfl,rfl,hx,hS,hc⟩
theorem Q1Q {p:List Nat}{j:Nat}{v:Value}{σ:Ty}{b:AV}(h:VR S w ρ row pv (.ep j none p) v)(hr:row j=some (.box σ b)) :
  ∃g c τ,tyP σ p=some τ/\ρ j=some (.at g c)/\v= .pointer (some ⟨g,Qk σ p,none⟩):=by
 obtain⟨cs,h',rfl⟩:=Qw h (by simp)
 cases h' with
 |epB _ τ' σ' a g cap _ h1 hl hp=>
  rw[hr]at h1
  cases h1
  exact⟨g,cap,_,hp,hl,rfl⟩
theorem Q6A {p:List Nat}{j i e:Nat}{v:Value}{τ:Ty}{xs:List (den τ)}{fz app:Bool}(h:VR S w ρ row pv (.ep j (some i) p) v)(hr:row j=some (.flat e τ xs fz app))(hp0:(tyP τ p).isSome=true) :
  ∃g c σ,tyP τ p=some σ/\ρ j=some (.at g c)/\i<xs.length/\v= .pointer (some ⟨g,i*nc τ+Qk τ p,none⟩):=by
 obtain⟨cs,h',rfl⟩:=Qw h (by simp)
 cases h' with
 |epF _ e' τ' σ' xs' fz' app' g cap _ _ h1 hl hi hp=>
  rw[hr]at h1
  cases h1
  exact⟨g,cap,_,hp,hl,hi,rfl⟩
 |tl _ e' τ' xs' fz' app' l _ h1 hl hi hm=>
  rw[hr]at h1
  cases h1
  rw[Gt hm]at hp0
  cases hp0
theorem Q86 {i:Option Nat}{p:List Nat}{j:Nat}{v:Value}{r:Row}{σ:Ty}(h:VR S w ρ row pv (.ep j i p) v)(hr:row j=some r)(hσ:(∃a,r= .box σ a)\/(∃e xs fz app,r= .flat e σ xs fz app))(hp0:(tyP σ p).isSome=true) :
  ∃g c off τ,tyP σ p=some τ/\ρ j=some (.at g c)/\v= .pointer (some ⟨g,off+Qk σ p,none⟩)/\
   ∀p',(tyP σ p').isSome=true->AR S w ρ row pv (.ep j i p') [.pointer (some ⟨g,off+Qk σ p',none⟩)]:=by
 cases i with
 |none=>
  obtain⟨cs,h',rfl⟩:=Qw h (by simp)
  cases h' with
  |epB _ τ' σ' b g cap _ h1 hl hp=>
   rw[h1]at hr
   cases hr
   rcases hσ with⟨_,e⟩|⟨_,_,_,_,e⟩<;>cases e
   refine⟨g,cap,0,_,hp,hl,by rw[Nat.zero_add];rfl,λp' hp'=>?_⟩
   obtain⟨σ',hp'⟩:=Option.isSome_iff_exists.1 hp'
   rw[Nat.zero_add]
   exact .epB j _ σ' _ g cap p' h1 hl hp'
 |some i=>
  obtain⟨cs,h',rfl⟩:=Qw h (by simp)
  cases h' with
  |epF _ e' τ' σ' xs' fz' app' g cap _ _ h1 hl hi hp=>
   rw[h1]at hr
   cases hr
   rcases hσ with⟨_,e⟩|⟨_,_,_,_,e⟩<;>cases e
   refine⟨g,cap,i*nc σ,_,hp,hl,rfl,λp' hp'=>?_⟩
   obtain⟨σ',hp'⟩:=Option.isSome_iff_exists.1 hp'
   exact .epF j _ _ σ' _ _ _ g cap i p' h1 hl hi hp'
  |tl _ e' τ' xs' fz' app' l _ h1 hl hi hm=>
   rw[h1]at hr
   cases hr
   rcases hσ with⟨_,e⟩|⟨_,_,_,_,e⟩<;>cases e
   rw[Gt hm]at hp0
   cases hp0
theorem Yv {j e:Nat}{v:Value}{τ:Ty}{xs:List (den τ)}{fz app:Bool}(h:VR S w ρ row pv (.own j) v)(hr:row j=some (.flat e τ xs fz app)) :
  (∃g c,ρ j=some (.at g c)/\v= .slice (some ⟨g,0,none⟩) xs.length c)\/(ρ j=some .nilrow/\xs=[]/\v= .slice none 0 0):=by
 obtain⟨cs,h',rfl⟩:=Qw h (by simp)
 cases h' with
 |own _ e' τ' xs' fz' app' g cap h1 hl=>
  rw[hr]at h1;cases h1
  exact .inl ⟨g,cap,hl,rfl⟩
 |ownNil _ e' τ' fz' app' h1 hl=>
  rw[hr]at h1;cases h1
  exact .inr ⟨hl,rfl,rfl⟩
theorem Jn {e:Ty}{xs:List (den e)}{v:Value}(h:CR S w (.sl e) xs [v]):∃A c,∃cv:Nat->List Value,v= .slice A xs.length c/\xs.length<=c/\c<=maxLen/\(∀i (h:i<xs.length),CR S w e xs[i] (cv i))/\
  (∀i,i<xs.length->∃g o,A=some ⟨g,o,none⟩/\S g/\∀j v,(cv i)[j]? =some v->w.cell? ⟨g,o+(i*nc e+j),none⟩=some v):=by
 cases h with
 |sl _ _ A c cv hc hm h1 h2=>exact⟨A,c,cv,rfl,hc,hm,h1,h2⟩
theorem Q4F:∀{p:List Nat} {σ τ:Ty} {f:Nat} {τ':Ty},tyP σ p=some τ->(fty τ)[f]? =some τ'->tyP σ (p++[f])=some τ'/\Qk σ (p++[f])=Qk σ p+QB (fty τ) f
 |[],σ,τ,f,τ',h,hf=>by
  simp only[tyP,Option.some.injEq]at h
  subst h
  simp[tyP,Qk,hf]
 |g::p,σ,τ,f,τ',h,hf=>by
  simp only[tyP]at h
  split at h
  ·rename_i σ' hσ
   obtain⟨h1,h2⟩:=Q4F h hf
   simp only[List.cons_append,tyP,Qk,hσ,h1,true_and]
   have:(fty σ).getD g .bool=σ':=by simp[List.getD,hσ]
   rw[this,h2,Nat.add_assoc]
  ·cases h
theorem Q0X {τ:Ty}{x:den τ}{b:AV}{f:Nat}(h:(Q4 τ x)[f]? =some b):∃σ y,b= .t σ y:=by
 have hb:=List.mem_of_getElem? h
 cases τ<;>simp only[Q4,List.mem_cons,List.not_mem_nil,or_false,List.mem_map]at hb
 case arr n e=>obtain⟨y,_,rfl⟩:=hb;exact⟨_,_,rfl⟩
 case date=>rcases hb with rfl|rfl|rfl|rfl<;>exact⟨_,_,rfl⟩
 case name=>rcases hb with rfl|rfl|rfl|rfl<;>exact⟨_,_,rfl⟩
 case entry=>rcases hb with rfl|rfl|rfl|rfl|rfl|rfl|rfl|rfl|rfl|rfl|rfl<;>exact⟨_,_,rfl⟩
 case lib=>subst hb;exact⟨_,_,rfl⟩
 case abbr=>rcases hb with rfl|rfl<;>exact⟨_,_,rfl⟩
 case cur=>rcases hb with rfl|rfl|rfl<;>exact⟨_,_,rfl⟩
 case query=>rcases hb with rfl|rfl|rfl|rfl<;>exact⟨_,_,rfl⟩
theorem KE {τ:Ty}{x:den τ}{cs:List Value}(h:AR S w ρ row pv (.t τ x) cs):CR S w τ x cs:=by
 cases h with|t _ _ _ h=>exact h
theorem Xs {cs:List Value}{o n:Nat}{g b:Nat}(hc:∀j u,cs[j]? =some u->w.cell? ⟨g,b+j,none⟩=some u):∀j u,((cs.drop o).take n)[j]? =some u->w.cell? ⟨g,b+o+j,none⟩=some u:=λj u hj=>by
 rw[Nat.add_assoc]
 refine hc (o+j) u ?_
 rw[List.getElem?_take]at hj
 split at hj
 ·simpa using hj
 ·cases hj
theorem Xt {P:Program}{E:Env}{T:Nat}{τ:Ty}{f:Nat}(h:TyOk P E T τ)(hf:stT τ f=true):∃(fs:Array Field) (d:Field) (σ:Ty),P.underlying T=some (.struct fs)/\fs[f]? =some d/\(fty τ)[f]? =some σ/\d.offset=QB (fty τ) f/\E.ty d.type=some σ/\0<nc σ:=by
 have hlt:f<(fty τ).length:=by
  cases τ<;>simp only[stT]at hf<;>first|exact Nat.le_of_ble_eq_true hf|cases hf
 have hpos:∀σ,(fty τ)[f]? =some σ->0<nc σ:=λσ hσ=>by
  have hm:=List.mem_of_getElem? hσ
  cases τ<;>simp only[stT]at hf<;>simp only[fty,List.mem_cons,List.not_mem_nil,or_false]at hm<;>first
   |cases hf
   |(repeat' (rcases hm with rfl|hm))<;>first
    |decide
    |(subst hm;decide)
 have go:(∃fs,P.underlying T=some (.struct fs)/\fs.size=(fty τ).length/\∀(f:Nat) (d:Field),fs[f]? =some d->∃σ,(fty τ)[f]? =some σ/\d.offset=QB (fty τ) f/\E.ty d.type=some σ)->∃(fs:Array Field) (d:Field) (σ:Ty),P.underlying T=some (.struct fs)/\fs[f]? =some d/\(fty τ)[f]? =some σ/\d.offset=QB (fty τ) f/\E.ty d.type=some σ/\0<nc σ:=λ⟨fs,h1,h2,h3⟩=>by
  have:f<fs.size:=by omega
  obtain⟨σ,h4,h5,h6⟩:=h3 f fs[f] (Array.getElem?_eq_getElem this)
  exact⟨fs,_,σ,h1,Array.getElem?_eq_getElem this,h4,h5,h6,hpos σ h4⟩
 have hu:=h.und
 cases τ<;>simp only[Q2D]at hu<;>first
  |exact go hu
  |(simp[fty]at hlt;done)
  |cases hf
end
end Go.Gx
end
section
/- The interpreter's operations are the machine's: one by one. -/
namespace Go.Gx
open Go.RowKit
theorem KF {w:World}{g:Nat}{cur:Array Value}{T:TypeId}{f:Nat×Nat}(h:w.heap[g]? =some (.cells cur T f)):∀j v,cur.toList[j]? =some v->w.cell? ⟨g,0+j,none⟩=some v:=λj v hj=>by
 simp only[World.cell?,h,Nat.zero_add]
 simpa using hj
section
variable {P:Program} {E:Env} {w0:World} {B:Old} {pv:Nat->Value} {S:Nat->Prop} {ρ:Nat->Option Loc} {st:St} {a:Act} {w:World} {o:Oper} {id:Nat} {K:Act->World->Prop} {Q:Exit->Act->World->Prop}
variable (hE:EnvOk P E) (hs:Sim w0 B pv S ρ st a w) (hgl:Qr E pv S w) (hd:J9 o st.nt=true)
include hs hgl hd
theorem Q0Y {x:Operand}(ho:o.op= .move x\/o.op= .assign x)(hK:Nx E w0 B pv S ρ st o.dst (quiet (ev E st x)) id K):o.wp P a w K Q:=
 Q8 hs hgl hd (by unfold execOp;rcases ho with ho|ho<;>simp[ho]) (Qj hgl hs x) hK
theorem Q5p {c x y:Operand}{v:Bool}(ho:o.op= .pick c x y)(hc:ev E st c= .t .bool v)(hK:Nx E w0 B pv S ρ st o.dst (quiet (cond v (ev E st x) (ev E st y))) id K):o.wp P a w K Q:=by
 have h1:=Qj hgl hs c
 rw[hc]at h1
 refine Q8 hs hgl hd (v:=if v then a.eval x else a.eval y) (by unfold execOp;simp[ho,Yy h1,asBool]) ?_ hK
 cases v
 ·exact Qj hgl hs y
 ·exact Qj hgl hs x
include hE in
theorem Q3M {T:TypeId}{τ:Ty}(hid:ρ id=none)(ho:o.op= .alloc T)(hτ:E.ty T=some τ)(hK:Nx E w0 B pv S ρ st o.dst (makes (.ep id none []) [(id,.box τ (Q2q τ))]) id K):o.wp P a w K Q:=by
 have ht:=hE.ty T τ hτ
 have har:AR S w ρ st.row pv (.t τ (Q9 τ)) (zc τ):=.t τ _ _ (Jl S w τ)
 have hc:=J7 (.t τ (Q9 τ)) har
 refine Q1P (cur:=(valOf (.t τ (Q9 τ)) (zc τ)).cells) (T:=T) (c:=0) (v:=.pointer (some ⟨w.heap.size,0,none⟩)) hs hgl hd hid rfl ?_ ?_ ?_ hK
 ·unfold execOp
  simp only[ho,Instr.alloc,Sem.run_bind,Q0V ht,Result.andThen_ok,newVar,newRow,run_newObj,Sem.run_pure]
  rfl
 ·intro ρ' row' _
  exact⟨_,_,heap_alloc_new w _,(Q2C (ρ:=ρ) (row:=st.row) (pv:=pv) S w τ).2,by rw[hc];exact(Q2C S _ τ).1⟩
 ·intro w' ρ' row' h1 h2
  exact .inr ⟨_,.epB id τ τ _ w.heap.size 0 [] h2 h1 rfl,rfl⟩
theorem Q6B {T:TypeId}{τ:Ty}{x:Operand}(hid:ρ id=none)(ho:o.op= .box T x)(hf:Fit τ (ev E st x))(hK:Nx E w0 B pv S ρ st o.dst (makes (.ep id none []) [(id,.box τ (ev E st x))]) id K):o.wp P a w K Q:=by
 obtain⟨cs,h1,h2,h3⟩:=GI hf (Qj hgl hs x)
 refine Q1P (cur:=(a.eval x).cells) (T:=T) (c:=0) (v:=.pointer (some ⟨w.heap.size,0,none⟩)) hs hgl hd hid rfl ?_ ?_ ?_ hK
 ·unfold execOp
  simp only[ho,Instr.box,Sem.run_bind,Result.andThen_ok,newVar,newRow,run_newObj,Sem.run_pure]
  rfl
 ·intro ρ' row' hk
  refine⟨_,_,heap_alloc_new w _,hf,?_⟩
  rw[h3]
  exact h1.ext (P:=λ_=>True) (λ_ h=>h) (λb hb=>heap_alloc_old w _ b (hs.hs.stab b hb)) (λi l r _ h4 h5=>⟨(hk i l h4).1,r,(hk i l h4).2.trans h5,.refl r⟩) (λ_ _=>trivial)
 ·intro w' ρ' row' h4 h5
  exact .inr ⟨_,.epB id τ τ _ w.heap.size 0 [] h5 h4 rfl,rfl⟩
include hE in
theorem Q5q {T:TypeId}{τ:Ty}{x:Operand}{u:Upd}(ho:o.op= .load T x)(hτ:E.ty T=some τ)(h:(∃y,ev E st x= .tp (.t τ y)/\u=quiet (.t τ y))\/
   (∃j p σ b c,ev E st x= .ep j none p/\st.row j=some (.box σ b)/\tyP σ p=some τ/\YT b p=some c/\u=quiet c)\/
   (∃j i p e σ xs fz app b,ev E st x= .ep j (some i) p/\st.row j=some (.flat e σ xs fz app)/\tyP σ p=some τ/\YT (.t σ (xs.getD i (Q9 σ))) p=some b/\u=quiet b))
  (hK:Nx E w0 B pv S ρ st o.dst u id K):o.wp P a w K Q:=by
 have ht:=hE.ty T τ hτ
 have hx:=Qj hgl hs x
 have fin:∀{b:AV} {cs:List Value} {g off:Nat},a.eval x= .pointer (some ⟨g,off,none⟩)->Fit τ b->AR S w ρ st.row pv b cs->(∀j v,cs[j]? =some v->w.cell? ⟨g,off+j,none⟩=some v)->u=quiet b->o.wp P a w K Q:=λh1 h2 h3 h4 e=>by
  subst e
  refine Q8 hs hgl hd ?_ (.inr ⟨_,h3,rfl⟩) hK
  unfold execOp
  simp only[ho,h1,Sem.run_bind,Dh ht h2 h3 h4,Result.andThen_ok,Sem.run_pure]
 rcases h with⟨y,h1,h2⟩|⟨j,p,σ,b,c,h1,hr,hp,hg,h2⟩|⟨j,i,p,e,σ,xs,fz,app,b,h1,hr,hp,hg,h2⟩
 ·rw[h1]at hx
  obtain⟨τ',y',cs,g,off,e,h3,h4,h5,h6⟩:=Q2F hx
  cases e
  exact fin h3 (.t τ y) (.t τ y cs h4) h6 h2
 ·rw[h1]at hx
  obtain⟨g,cap,τ',h3,h4,h5⟩:=Q1Q hx hr
  obtain⟨cur,T',h6,h7,h8⟩:=hs.hs.rows j _ _ hr h4
  obtain⟨τ2,h9,h10,h11,h12⟩:=YW h7 h8 hg
  rw[hp]at h9
  cases h9
  exact fin h5 h10 h11 (λj v hj=>by have:=Xs (KF h6) j v hj;simpa using this) h2
 ·rw[h1]at hx
  obtain⟨g,cap,τ',h3,h4,hi,h5⟩:=Q6A hx hr (by rw[hp];rfl)
  obtain⟨cur,f,h6,_,_,_,_,_,_,h8⟩:=hs.hs.rows j _ _ hr h4
  obtain⟨cs,hc1,hc2⟩:=h8 i hi
  have hc1:=hc1.un
  have e1:xs.getD i (Q9 σ)=xs[i]:=by simp[List.getD,hi]
  rw[e1]at hg
  obtain⟨τ2,h9,h10,h11,h12⟩:=YW (ρ:=ρ) (row:=st.row) (pv:=pv) (.t σ _) (.t σ _ cs hc1) hg
  rw[hp]at h9
  cases h9
  exact fin h5 h10 h11 (Xs λj v hj=>by
   have:=hc2 j v hj
   simp only[World.cell?,h6]
   simpa using this) h2
theorem Q0E {x:Operand}(ho:o.op= .nilCheck x)(h:(∃j i p,ev E st x= .ep j i p/\Gs p=false)\/(∃b,ev E st x= .tp b)\/(∃f c,ev E st x= .clo f c))(hK:Nx E w0 B pv S ρ st o.dst (quiet (ev E st x)) id K):o.wp P a w K Q:=by
 have hx:=Qj hgl hs x
 refine Q8 hs hgl hd (v:=a.eval x) ?_ hx hK
 unfold execOp
 rcases h with⟨j,i,p,e,hp⟩|⟨b,e⟩|⟨f,c,e⟩
 ·rw[e]at hx
  obtain⟨A,hA⟩:=Q9j hx hp
  simp[ho,hA]
 ·rw[e]at hx
  obtain⟨_,_,_,_,_,_,hA,_⟩:=Q2F hx
  simp[ho,hA]
 ·rw[e]at hx
  obtain⟨cs,h',h2⟩:=Qw hx (by simp)
  cases h' with
  |clo _ _ css _ _=>
   simp only[valOf,isAg,cond_false,List.headD_cons]at h2
   simp[ho,h2]
include hE in
theorem GK {T:TypeId}{τ:Ty}{x:Operand}{f:Nat}{u:Upd}(ho:o.op= .fieldAddr T x f)(hτ:E.ty T=some τ)(hst:stT τ f=true)(h:(∃y b,ev E st x= .tp (.t τ y)/\QH (.t τ y) f=some b/\u=quiet (.tp b))\/
   (∃j i p σ r,ev E st x= .ep j i p/\st.row j=some r/\((∃a,r= .box σ a)\/(∃e xs fz app,r= .flat e σ xs fz app))/\tyP σ p=some τ/\u=quiet (.ep j i (p++[f]))))
  (hK:Nx E w0 B pv S ρ st o.dst u id K):o.wp P a w K Q:=by
 have ht:=hE.ty T τ hτ
 obtain⟨fs,d,σ',hu,hfd,hσ,hoff,hdt,hpos⟩:=Xt ht hst
 have hx:=Qj hgl hs x
 have hrun:∀{g off:Nat},a.eval x= .pointer (some ⟨g,off,none⟩)->(execOp a.eval o).run P w= .ok (.value (.pointer (some ⟨g,off+QB (fty τ) f,none⟩))) w:=λ{g off} hA=>by
  unfold execOp
  simp[ho,Instr.fieldAt,run_underlying hu,hfd,hA,Instr.sureAddr,fieldPlace,Qz (hE.ty _ _ hdt),Nat.ne_of_gt hpos,hoff,Addr.add_lit]
 rcases h with⟨y,b,h1,hb,h2⟩|⟨j,i,p,σ,r,h1,hr,hrr,hp,h2⟩
 ·rw[h1]at hx
  obtain⟨τ',y',cs,g,off,e,h3,h4,h5,h6⟩:=Q2F hx
  cases e
  subst h2
  obtain⟨σ2,h7,h8,h9,h10⟩:=Ua (ρ:=ρ) (row:=st.row) (pv:=pv) (.t τ y) (.t τ y cs h4) hb
  obtain⟨σ3,z,rfl⟩:=Q0X (τ:=τ) (x:=y) (f:=f) (by simpa[QH]using hb)
  rw[hσ]at h7
  cases h7
  exact Q8 hs hgl hd (hrun h3) (.inr ⟨_,.tp σ3 z _ g _ (KE h9) h5 (Xs h6),rfl⟩) hK
 ·rw[h1]at hx
  obtain⟨g,c,off,τ',h3,h4,h5,h6⟩:=Q86 hx hr hrr (by rw[hp];rfl)
  rw[hp]at h3
  cases h3
  obtain⟨h7,h8⟩:=Q4F hp hσ
  subst h2
  refine Q8 hs hgl hd (hrun h5) (.inr ⟨_,h6 (p++[f]) (by rw[h7];rfl),?_⟩) hK
  rw[h8,<-Nat.add_assoc];rfl
include hE in
theorem Q3N {T:TypeId}{τ:Ty}{x:Operand}{f:Nat}{b:AV}(ho:o.op= .field T x f)(hτ:E.ty T=some τ)(hst:stT τ f=true)(hb:QH (ev E st x) f=some b)
  (hfit:Fit τ (ev E st x)) (hK:Nx E w0 B pv S ρ st o.dst (quiet b) id K):o.wp P a w K Q:=by
 have ht:=hE.ty T τ hτ
 obtain⟨fs,d,σ',hu,hfd,hσ,hoff,hdt,hpos⟩:=Xt ht hst
 obtain⟨cs,h1,h2,h3⟩:=GI hfit (Qj hgl hs x)
 obtain⟨σ,h4,h5,h6,h7⟩:=Ua hfit h1 hb
 rw[hσ]at h4
 cases h4
 have hag:agT τ=true:=by
  cases τ<;>simp only[stT]at hst<;>first
   |rfl
   |(simp[fty,Nat.blt]at hst;done)
   |cases hst
 refine Q8 hs hgl hd ?_ (.inr ⟨_,h6,rfl⟩) hK
 have Yw:a.eval x= .agg cs.toArray:=by rw[h2,valOf,hfit.isAg,hag];rfl
 unfold execOp
 simp only[ho,Instr.field,Sem.run_bind,run_underlying hu,Result.andThen_ok,hfd,Yw,asAgg,Sem.run_pure,hoff,KD (hE.ty _ _ hdt) h5 h6 h7]
theorem Q0F {g:Nat}{caps:Array Operand}(ho:o.op= .makeFunc (.func g) #[] caps)(hK:Nx E w0 B pv S ρ st o.dst (quiet (.clo g (Qx (ev E st) caps.toList))) id K)(hany':JL Q6g (Qx (ev E st) caps.toList)=false):o.wp P a w K Q:=by
 have hany:∀x∈caps.toList,ev E st x≠ .any:=by
  revert hany'
  generalize caps.toList=l
  induction l with
  |nil=>intro _ x hx;cases hx
  |cons y l ih=>
   intro h x hx
   simp only[Qx,JL,Bool.or_eq_false_iff]at h
   rcases List.mem_cons.1 hx with rfl|hx
   ·intro e;rw[e]at h;cases h.1
   ·exact ih h.2 x hx
 have key:∀l:List Operand,(∀x∈l,ev E st x≠ .any)->∃css:List (List Value),(Qx (ev E st) l).length=css.length/\(∀(i:Nat) (b:AV) (cs:List Value),(Qx (ev E st) l)[i]? =some b->css[i]? =some cs->AR S w ρ st.row pv b cs)/\valsOf (Qx (ev E st) l) css=l.map a.eval:=by
  intro l
  induction l with
  |nil=>exact λ_=>⟨[],rfl,λi b cs h=>by simp[Qx]at h,rfl⟩
  |cons x l ih=>
   intro hl
   obtain⟨css,h1,h2,h3⟩:=ih λy hy=>hl y (List.mem_cons_of_mem _ hy)
   obtain⟨cs,h4,h5⟩:=Qw (Qj hgl hs x) (hl x List.mem_cons_self)
   refine⟨cs::css,by simp[Qx,h1],λi b c hb hc=>?_,by simp[Qx,valsOf,h3,h5]⟩
   cases i with
   |zero=>
    simp only[Qx,List.getElem?_cons_zero,Option.some.injEq]at hb hc
    subst hb;subst hc
    exact h4
   |succ i=>exact h2 i b c (by simpa[Qx]using hb) (by simpa using hc)
 obtain⟨css,h1,h2,h3⟩:=key caps.toList hany
 refine Q8 hs hgl hd (v:=.func (.func g) #[] (valsOf (Qx (ev E st) caps.toList) css).toArray) ?_ (.inr ⟨_,.clo g _ css h1 h2,rfl⟩) hK
 unfold execOp
 simp only[ho,Instr.makeFunc,h3,Array.map_empty,Sem.run_bind,Sem.run_pure,Result.andThen_ok]
 congr 4
 apply Array.ext'
 simp
end
end Go.Gx
end
