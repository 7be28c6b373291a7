/- The law FnExactSimplifyQuery returns true for every input,the listed package variables being as the program's text lays it: the card. -/
import Derived.Test.YtkbichbahpnmmaaDoorMsi4
import Derived.Shelf.Vars
import Derived.Below
import Derived.Lib.IndexMore
import Derived.Lib.Split
import Derived.Lib.SplitLaws
import Derived.Lib.Repeat
import Derived.Deep.Draws
import Derived.Lib.Join
import Derived.Lib.SlTrimSet
import Derived.Lib.IndexAny
import Derived.Lib.TrimByte
import Derived.Laws.AppendOwn
import Derived.Test.YtkbichbahpnmmaaDoorMsi5
import Derived.Test.YtkbichbahpnmmaaDoorProg
import Derived.KernelRfl
import Derived.Test.YtkbichbahpnmmaaDoorCards
import Derived.Test.YtkbichbahpnmmaaDoorTie
import Derived.WalkKit
import Derived.ProofKit
import Derived.OpenShut
import Derived.Deep.DeepHandedRow
import Derived.Lib.LaidTab
set_option linter.unusedVariables false
set_option linter.unusedSimpArgs false
set_option maxRecDepth 100000
section
namespace Go.Gx
open Go.RowKit Go.Lib
section
variable {P:Program} {E:Env} {pv:Nat->Value} {f:FuncId} {fn:Func} {c:Code}
end
end Go.Gx
end
section
namespace Go.Proofs.YtkbichbahpnmmaaDoor
open Go.Gx
def tyT (t:Nat):Option Ty:=match t with
 | 2=>some (.int .i64)
 | 3=>some (.int .i64)
 | 4=>some .bool
 | 5=>some (.int .u8)
 | 9=>some .str
 | 10=>some .str
 | 11=>some .str
 | 21=>some (.int .i32)
 | 22=>some (.sl .query)
 | 24=>some .query
 | 26=>some (.sl .query)
 | 28=>some .query
 | 37=>some (.sl .str)
 | 71=>some (.int .u64)
 | 72=>some (.sl (.int .u8))
 | 76=>some (.arr 256 .bool)
 | 80=>some (.int .i64)
 | 88=>some (.int .u32)
 | 90=>some (.int .u64)
 | 93=>some (.arr 8 .str)
 | 98=>some (.int .u64)
 | 119=>some (.int .u8)
 | _=>none
def elT (t:Nat):Nat:=match t with
 | 22=>24
 | 26=>28
 | 37=>9
 | 72=>5
 | _=>0
def mdT (f:Nat):Bool:=match f with
 | 18=>true
 | 27=>true
 | 34=>true
 | 35=>true
 | 47=>true
 | 60=>true
 | _=>false
def glV0:List ByteArray:=[⟨#[97,117,116,104,111,114,115]⟩,⟨#[101,100,105,116,111,114,115]⟩,⟨#[116,105,116,108,101]⟩,⟨#[99,111,110,116,97,105,110,101,114]⟩,⟨#[112,117,98,108,105,115,104,101,114]⟩,⟨#[100,97,116,101]⟩,⟨#[118,111,108,117,109,101]⟩,⟨#[112,97,103,101,115]⟩]
def glT (g:Nat):Option AV:=match g with
 | 0=>some (.t (.arr 8 .str) glV0)
 | _=>none
def giT (g:Nat):Bool:=match g with
 | 1=>true
 | _=>false
def dmT (f:Nat):Bool:=match f with
 | 11=>true
 | 18=>true
 | 27=>true
 | _=>false
def pmT (f:Nat):Bool:=match f with
 | 8=>true
 | _=>false
def tmX (f:Nat):Bool:=match f with
 | 9=>true
 | 14=>true
 | _=>false
def tmT (f:Nat):Bool:=match f with
 | 9=>true
 | 14=>true
 | 25=>true
 | 30=>true
 | _=>false
def vmT (f:Nat):Bool:=match f with
 | _=>false
def mdTT (f:Nat):Bool:=match f with
 | 18=>true
 | 27=>true
 | 34=>true
 | 35=>true
 | 47=>true
 | 60=>true
 | _=>false
def envX:Env:={ ty:=tyT,el:=elT,gl:=glT,md:=mdT,gi:=giT,dm:=dmT,pm:=pmT,tm:=tmX }
def envT:Env:={ ty:=tyT,el:=elT,gl:=glT,md:=mdTT,gi:=giT,tm:=tmT,vm:=vmT,tr:=true }
def envP:Env:={ ty:=tyT,el:=elT,gl:=glT,md:=mdT,gi:=giT,on:=true }
theorem env_ty:∀ T τ,envX.ty T=some τ->TyOk Tryd.prog envX T τ:=fun T τ h=>by
 dsimp only [envX,tyT] at h
 split at h <;> first
  | (cases h; done)
  | (cases h; exact tyOk_of (by kernel_rfl) (by kernel_rfl))
theorem envOk:EnvOk Tryd.prog envX:=⟨env_ty,by kernel_rfl,fun T h=>by
 dsimp only [envX,tyT] at h
 split at h <;> first
  | (cases h; done)
  | exact date_eq env_ty rfl (by kernel_rfl) (by kernel_rfl) (by kernel_rfl),fun T h=>by
 dsimp only [envX,tyT] at h
 split at h <;> first
  | (cases h; done)
  | exact abbr_eq env_ty rfl (by kernel_rfl) (by kernel_rfl) (by kernel_rfl)⟩
theorem env_tyT:∀ T τ,envT.ty T=some τ->TyOk Tryd.prog envT T τ:=fun T τ h=>by
 dsimp only [envT,tyT] at h
 split at h <;> first
  | (cases h; done)
  | (cases h; exact tyOk_of (by kernel_rfl) (by kernel_rfl))
theorem envOkT:EnvOk Tryd.prog envT:=⟨env_tyT,by kernel_rfl,fun T h=>by
 dsimp only [envT,tyT] at h
 split at h <;> first
  | (cases h; done)
  | exact date_eq env_tyT rfl (by kernel_rfl) (by kernel_rfl) (by kernel_rfl),fun T h=>by
 dsimp only [envT,tyT] at h
 split at h <;> first
  | (cases h; done)
  | exact abbr_eq env_tyT rfl (by kernel_rfl) (by kernel_rfl) (by kernel_rfl)⟩
theorem env_tyP:∀ T τ,envP.ty T=some τ->TyOk Tryd.prog envP T τ:=fun T τ h=>by
 dsimp only [envP,tyT] at h
 split at h <;> first
  | (cases h; done)
  | (cases h; exact tyOk_of (by kernel_rfl) (by kernel_rfl))
theorem envOkP:EnvOk Tryd.prog envP:=⟨env_tyP,by kernel_rfl,fun T h=>by
 dsimp only [envP,tyT] at h
 split at h <;> first
  | (cases h; done)
  | exact date_eq env_tyP rfl (by kernel_rfl) (by kernel_rfl) (by kernel_rfl),fun T h=>by
 dsimp only [envP,tyT] at h
 split at h <;> first
  | (cases h; done)
  | exact abbr_eq env_tyP rfl (by kernel_rfl) (by kernel_rfl) (by kernel_rfl)⟩
mutual
def laws_szQuery.F:Nat->Query->Int->Option (Int)
 | 0,_,_=>none
 | k+1,a0,a1=>bif (decide ((IntKind.wrap .i64 (a1-(a0.field.size:Int)))<0)) then (some (-1)) else (bif (decide ((IntKind.wrap .i64 ((IntKind.wrap .i64 (a1-(a0.field.size:Int)))-(a0.word.size:Int)))<0)) then (some (-1)) else ((laws_szQueryS.F k a0.parts (IntKind.wrap .i64 ((IntKind.wrap .i64 (a1-(a0.field.size:Int)))-(a0.word.size:Int)))).bind fun r1=>bif (decide (r1<0)) then (some (-1)) else (some r1)))
def laws_szQueryS.F:Nat->(List Query)->Int->Option (Int)
 | 0,_,_=>none
 | k+1,a0,a1=>bif (decide ((IntKind.wrap .i64 (a1-(a0.length:Int)))<0)) then (some (-1)) else ((laws_szQueryS.l0 k a0 (IntKind.wrap .i64 (a1-(a0.length:Int))) 0).bind fun y2=>match y2 with | .inl z3=>some z3 | .inr z3=>some z3)
def laws_szQueryS.l0:Nat->(List Query)->Int->Int->Option (Sum Int Int)
 | 0,_,_,_=>none
 | k+1,x0,x1,x5=>bif (decide (x5<(x0.length:Int))) then (bif decide (0<=x5) then (bif decide (x5<(x0.length:Int)) then ((laws_szQuery.F k (x0.getD (x5:Int).toNat (dflt .query)) x1).bind fun r1=>bif (decide (r1<0)) then (some (.inl (-1))) else (laws_szQueryS.l0 k x0 r1 (IntKind.wrap .i64 (x5+1)))) else none) else none) else (some (.inr x1))
end
def laws_szQuery.C (k:Nat):Cal->Option CArm:=fun c=>match c with
 | .f 20=>some (.p [(.sl .query),(.int .i64)] _ (fun x=>laws_szQueryS.F k x.1 x.2.1) (fun r=>(.t (.int .i64) r)))
 | _=>none
theorem laws_szQuery.run (k:Nat) (a0:Query) (a1:Int):runF envX (tabC (laws_szQuery.C k)) (tabL 26 0 (fun _=>none)) Tryd.f6 [.t .query a0,.t (.int .i64) a1] (viewR1 (.t (.int .i64)))=laws_szQuery.F (k+1) a0 a1:=by kernel_rfl
def laws_szQueryS.C (k:Nat):Cal->Option CArm:=fun c=>match c with
 | .f 6=>some (.p [.query,(.int .i64)] _ (fun x=>laws_szQuery.F k x.1 x.2.1) (fun r=>(.t (.int .i64) r)))
 | _=>none
def laws_szQueryS.sp0:List Sp:=[.t 0 (.sl .query),.t 1 (.int .i64),.t 5 (.int .i64)]
def laws_szQueryS.sp0_0:List Sp:=[.t 4 (.int .i64)]
def laws_szQueryS.sp0_1:List Sp:=[.t 1 (.int .i64)]
def laws_szQueryS.A0:LArm:=.two laws_szQueryS.sp0 laws_szQueryS.sp0_0 laws_szQueryS.sp0_1 (Int) (Int) (fun k x=>laws_szQueryS.l0 k x.1 x.2.1 x.2.2.1) .ret (.exit 0) (fun y=>(y,())) (fun x=>x.1) (fun y=>(y,())) (fun x=>x.1)
def laws_szQueryS.L:Nat->Option LArm:=fun b=>match b with
 | 0=>some laws_szQueryS.A0
 | _=>none
theorem laws_szQueryS.run (k:Nat) (a0:List Query) (a1:Int):runF envX (tabC (laws_szQueryS.C k)) (tabL 27 k laws_szQueryS.L) Tryd.f20 [.t (.sl .query) a0,.t (.int .i64) a1] (viewR1 (.t (.int .i64)))=laws_szQueryS.F (k+1) a0 a1:=by kernel_rfl
theorem laws_szQueryS.step0 (k:Nat) (x0:List Query) (x1:Int) (x5:Int):runC envX (tabC (laws_szQueryS.C k)) (tabL 27 k laws_szQueryS.L) 0 (loopAt Tryd.f20 0) (stOf 27 laws_szQueryS.sp0 (x0,x1,x5,())) (laws_szQueryS.A0.cont 27 k)=laws_szQueryS.l0 (k+1) x0 x1 x5:=by kernel_rfl
def laws_szQuery.Gd (pv:Nat->Value) (k:Nat):Prop:=(∀ (a0:Query) (a1:Int) {y:_},laws_szQuery.F k a0 a1=some y->Meets Tryd.prog envX pv (.f 6) (tvals [.query,(.int .i64)] (a0,a1,())) (.t (.int .i64) y))/\(∀ (a0:List Query) (a1:Int) {y:_},laws_szQueryS.F k a0 a1=some y->Meets Tryd.prog envX pv (.f 20) (tvals [(.sl .query),(.int .i64)] (a0,a1,())) (.t (.int .i64) y))
theorem laws_szQuery.G (hE:EnvOk Tryd.prog envX) (pv:Nat->Value) (k:Nat) (hI:laws_szQuery.Gd pv k):∀ cal A,laws_szQuery.C k cal=some A->ArmOk Tryd.prog envX pv cal A:=by
 intro cal A h
 unfold laws_szQuery.C at h
 split at h
 ·cases h; exact fun x y hy=>hI.2 x.1 x.2.1 hy
 ·cases h
theorem laws_szQuery.gd (hE:EnvOk Tryd.prog envX) (pv:Nat->Value) (k:Nat) (hI:∀ k',k'<=k->laws_szQuery.Gd pv k') (a0:Query) (a1:Int) {y:_} (h:laws_szQuery.F (k+1) a0 a1=some y):Meets Tryd.prog envX pv (.f 6) (tvals [.query,(.int .i64)] (a0,a1,())) (.t (.int .i64) y) :=
 fun_plain hE (laws_szQuery.G hE pv k (hI k (Nat.le_refl k))) (f:=6) (fn:=Tryd.f6) (by kernel_rfl) rfl (by kernel_rfl) (by kernel_rfl) ((laws_szQuery.run k a0 a1).trans h) (fun r hr=>wk_view1 hr)
theorem laws_szQueryS.G (hE:EnvOk Tryd.prog envX) (pv:Nat->Value) (k:Nat) (hI:laws_szQuery.Gd pv k):∀ cal A,laws_szQueryS.C k cal=some A->ArmOk Tryd.prog envX pv cal A:=by
 intro cal A h
 unfold laws_szQueryS.C at h
 split at h
 ·cases h; exact fun x y hy=>hI.1 x.1 x.2.1 hy
 ·cases h
theorem laws_szQueryS.gd (hE:EnvOk Tryd.prog envX) (pv:Nat->Value) (k:Nat) (hI:∀ k',k'<=k->laws_szQuery.Gd pv k') (a0:List Query) (a1:Int) {y:_} (h:laws_szQueryS.F (k+1) a0 a1=some y):Meets Tryd.prog envX pv (.f 20) (tvals [(.sl .query),(.int .i64)] (a0,a1,())) (.t (.int .i64) y) :=
 fun_loops hE (t:=laws_szQueryS.C) k (fun k hk=>laws_szQueryS.G hE pv k (hI k hk)) (f:=20) (fn:=Tryd.f20) (by kernel_rfl) rfl (by kernel_rfl) (by kernel_rfl) (lt:=laws_szQueryS.L) (by kernel_rfl) (fun b A h=>by
  unfold laws_szQueryS.L at h; split at h
  ·cases h; exact ⟨by kernel_rfl,by kernel_rfl,by kernel_rfl,fun _=>rfl,fun _=>rfl,fun _=>rfl⟩
  ·cases h) (fun b A h=>by
  unfold laws_szQueryS.L at h; split at h
  ·cases h; exact fun k x=>laws_szQueryS.step0 k x.1 x.2.1 x.2.2.1
  ·cases h) ((laws_szQueryS.run k a0 a1).trans h) (fun r hr=>wk_view1 hr)
theorem laws_szQuery.all (hE:EnvOk Tryd.prog envX) (pv:Nat->Value):∀ k k',k'<=k->laws_szQuery.Gd pv k':=by
 intro k
 induction k with
 | zero=>
  intro k' hk
  obtain rfl:k'=0:=by omega
  exact ⟨fun _ _ y h=>(by cases (show (none:Option _)=some y from h)),fun _ _ y h=>(by cases (show (none:Option _)=some y from h))⟩
 | succ k ih=>
  intro k' hk
  rcases Nat.lt_or_ge k' (k+1) with hlt | hge
  ·exact ih k' (by omega)
  ·obtain rfl:k'=k+1:=by omega
   exact ⟨fun a0 a1 y h=>laws_szQuery.gd hE pv k ih a0 a1 h,fun a0 a1 y h=>laws_szQueryS.gd hE pv k ih a0 a1 h⟩
theorem laws_szQuery.good (hE:EnvOk Tryd.prog envX) (pv:Nat->Value) (k:Nat) (a0:Query) (a1:Int) {y:_} (h:laws_szQuery.F k a0 a1=some y):Meets Tryd.prog envX pv (.f 6) (tvals [.query,(.int .i64)] (a0,a1,())) (.t (.int .i64) y) :=
 (laws_szQuery.all hE pv k k (Nat.le_refl k)).1 a0 a1 h
def spec_l6Digit.F (a0:Int):Option (Bool):=bif (decide (a0 ≥ 48)) then (some (decide (a0<=57))) else (some false)
def spec_l6Digit.C:Cal->Option CArm:=fun c=>match c with
 | _=>none
theorem spec_l6Digit.run (a0:Int):runF envX (tabC spec_l6Digit.C) (tabL 9 0 (fun _=>none)) Tryd.f53 [.t (.int .u8) a0] (viewR1 (.t .bool))=spec_l6Digit.F a0:=by kernel_rfl
theorem spec_l6Digit.G (hE:EnvOk Tryd.prog envX) (pv:Nat->Value):∀ cal A,spec_l6Digit.C cal=some A->ArmOk Tryd.prog envX pv cal A:=by
 intro cal A h
 unfold spec_l6Digit.C at h
 cases h
theorem spec_l6Digit.good (hE:EnvOk Tryd.prog envX) (pv:Nat->Value) (a0:Int) {y:_} (h:spec_l6Digit.F a0=some y):Meets Tryd.prog envX pv (.f 53) (tvals [(.int .u8)] (a0,())) (.t .bool y) :=
 fun_plain hE (spec_l6Digit.G hE pv) (f:=53) (fn:=Tryd.f53) (by kernel_rfl) rfl (by kernel_rfl) (by kernel_rfl) ((spec_l6Digit.run a0).trans h) (fun r hr=>wk_view1 hr)
def spec_l22Sign.F (a0:Int):Option (Bool):=bif (decide (a0 ≥ 97)) then (bif (decide (a0<=122)) then (some true) else ((spec_l6Digit.F a0).bind fun r1=>some r1)) else ((spec_l6Digit.F a0).bind fun r2=>some r2)
def spec_l22Sign.C:Cal->Option CArm:=fun c=>match c with
 | .f 53=>some (.p [(.int .u8)] _ (fun x=>spec_l6Digit.F x.1) (fun r=>(.t .bool r)))
 | _=>none
theorem spec_l22Sign.run (a0:Int):runF envX (tabC spec_l22Sign.C) (tabL 13 0 (fun _=>none)) Tryd.f42 [.t (.int .u8) a0] (viewR1 (.t .bool))=spec_l22Sign.F a0:=by kernel_rfl
theorem spec_l22Sign.G (hE:EnvOk Tryd.prog envX) (pv:Nat->Value):∀ cal A,spec_l22Sign.C cal=some A->ArmOk Tryd.prog envX pv cal A:=by
 intro cal A h
 unfold spec_l22Sign.C at h
 split at h
 ·cases h; exact fun x y hy=>spec_l6Digit.good hE pv x.1 hy
 ·cases h
theorem spec_l22Sign.good (hE:EnvOk Tryd.prog envX) (pv:Nat->Value) (a0:Int) {y:_} (h:spec_l22Sign.F a0=some y):Meets Tryd.prog envX pv (.f 42) (tvals [(.int .u8)] (a0,())) (.t .bool y) :=
 fun_plain hE (spec_l22Sign.G hE pv) (f:=42) (fn:=Tryd.f42) (by kernel_rfl) rfl (by kernel_rfl) (by kernel_rfl) ((spec_l22Sign.run a0).trans h) (fun r hr=>wk_view1 hr)
def spec_l1In.F (a0:Int) (a1:Int) (a2:Int):Option (Bool):=bif (decide (a0 ≥ a1)) then (some (decide (a0<=a2))) else (some false)
def spec_l1In.C:Cal->Option CArm:=fun c=>match c with
 | _=>none
theorem spec_l1In.run (a0:Int) (a1:Int) (a2:Int):runF envX (tabC spec_l1In.C) (tabL 15 0 (fun _=>none)) Tryd.f89 [.t (.int .i64) a0,.t (.int .i64) a1,.t (.int .i64) a2] (viewR1 (.t .bool))=spec_l1In.F a0 a1 a2:=by kernel_rfl
theorem spec_l1In.G (hE:EnvOk Tryd.prog envX) (pv:Nat->Value):∀ cal A,spec_l1In.C cal=some A->ArmOk Tryd.prog envX pv cal A:=by
 intro cal A h
 unfold spec_l1In.C at h
 cases h
theorem spec_l1In.good (hE:EnvOk Tryd.prog envX) (pv:Nat->Value) (a0:Int) (a1:Int) (a2:Int) {y:_} (h:spec_l1In.F a0 a1 a2=some y):Meets Tryd.prog envX pv (.f 89) (tvals [(.int .i64),(.int .i64),(.int .i64)] (a0,a1,a2,())) (.t .bool y) :=
 fun_plain hE (spec_l1In.G hE pv) (f:=89) (fn:=Tryd.f89) (by kernel_rfl) rfl (by kernel_rfl) (by kernel_rfl) ((spec_l1In.run a0 a1 a2).trans h) (fun r hr=>wk_view1 hr)
def spec_l22Word.l0:Nat->ByteArray->Int->Option (Sum Bool ByteArray)
 | 0,_,_=>none
 | k+1,x0,x3=>bif (decide (x3<(x0.size:Int))) then (bif decide (0<=x3) then (bif decide (x3<(x0.size:Int)) then ((spec_l22Sign.F (bt x0 (x3:Int).toNat)).bind fun r1=>bif (!r1) then (some (.inl false)) else (spec_l22Word.l0 k x0 (IntKind.wrap .i64 (x3+1)))) else none) else none) else (some (.inr x0))
def spec_l22Word.F (k:Nat) (a0:ByteArray):Option (Bool):=(spec_l22Word.l0 k a0 0).bind fun y2=>match y2 with | .inl z3=>some z3 | .inr z3=>(spec_l1In.F (z3.size:Int) 1 15).bind fun r4=>bif r4 then (bif (!beqS z3 (⟨#[110,111,116]⟩:ByteArray)) then (bif (!beqS z3 (⟨#[97,110,100]⟩:ByteArray)) then (some (!beqS z3 (⟨#[111,114]⟩:ByteArray))) else (some false)) else (some false)) else (some false)
def spec_l22Word.C (k:Nat):Cal->Option CArm:=fun c=>match c with
 | .f 42=>some (.p [(.int .u8)] _ (fun x=>spec_l22Sign.F x.1) (fun r=>(.t .bool r)))
 | .f 89=>some (.p [(.int .i64),(.int .i64),(.int .i64)] _ (fun x=>spec_l1In.F x.1 x.2.1 x.2.2.1) (fun r=>(.t .bool r)))
 | _=>none
def spec_l22Word.sp0:List Sp:=[.t 0 .str,.t 3 (.int .i64)]
def spec_l22Word.sp0_0:List Sp:=[.t 2 .bool]
def spec_l22Word.sp0_1:List Sp:=[.t 0 .str]
def spec_l22Word.A0:LArm:=.two spec_l22Word.sp0 spec_l22Word.sp0_0 spec_l22Word.sp0_1 (Bool) (ByteArray) (fun k x=>spec_l22Word.l0 k x.1 x.2.1) .ret (.exit 0) (fun y=>(y,())) (fun x=>x.1) (fun y=>(y,())) (fun x=>x.1)
def spec_l22Word.L:Nat->Option LArm:=fun b=>match b with
 | 0=>some spec_l22Word.A0
 | _=>none
theorem spec_l22Word.run (k:Nat) (a0:ByteArray):runF envX (tabC (spec_l22Word.C k)) (tabL 30 k spec_l22Word.L) Tryd.f71 [.t .str a0] (viewR1 (.t .bool))=spec_l22Word.F k a0:=by kernel_rfl
theorem spec_l22Word.step0 (k:Nat) (x0:ByteArray) (x3:Int):runC envX (tabC (spec_l22Word.C k)) (tabL 30 k spec_l22Word.L) 0 (loopAt Tryd.f71 0) (stOf 30 spec_l22Word.sp0 (x0,x3,())) (spec_l22Word.A0.cont 30 k)=spec_l22Word.l0 (k+1) x0 x3:=by kernel_rfl
theorem spec_l22Word.G (hE:EnvOk Tryd.prog envX) (pv:Nat->Value) (k:Nat):∀ cal A,spec_l22Word.C k cal=some A->ArmOk Tryd.prog envX pv cal A:=by
 intro cal A h
 unfold spec_l22Word.C at h
 split at h
 ·cases h; exact fun x y hy=>spec_l22Sign.good hE pv x.1 hy
 ·cases h; exact fun x y hy=>spec_l1In.good hE pv x.1 x.2.1 x.2.2.1 hy
 ·cases h
theorem spec_l22Word.good (hE:EnvOk Tryd.prog envX) (pv:Nat->Value) (k:Nat) (a0:ByteArray) {y:_} (h:spec_l22Word.F k a0=some y):Meets Tryd.prog envX pv (.f 71) (tvals [.str] (a0,())) (.t .bool y) :=
 fun_loops hE (t:=spec_l22Word.C) k (fun k _=>spec_l22Word.G hE pv k) (f:=71) (fn:=Tryd.f71) (by kernel_rfl) rfl (by kernel_rfl) (by kernel_rfl) (lt:=spec_l22Word.L) (by kernel_rfl) (fun b A h=>by
  unfold spec_l22Word.L at h; split at h
  ·cases h; exact ⟨by kernel_rfl,by kernel_rfl,by kernel_rfl,fun _=>rfl,fun _=>rfl,fun _=>rfl⟩
  ·cases h) (fun b A h=>by
  unfold spec_l22Word.L at h; split at h
  ·cases h; exact fun k x=>spec_l22Word.step0 k x.1 x.2.1
  ·cases h) ((spec_l22Word.run k a0).trans h) (fun r hr=>wk_view1 hr)
def spec_l4Fields.F:Option (List ByteArray):=some ([(⟨#[97,117,116,104,111,114,115]⟩:ByteArray),(⟨#[101,100,105,116,111,114,115]⟩:ByteArray),(⟨#[116,105,116,108,101]⟩:ByteArray),(⟨#[99,111,110,116,97,105,110,101,114]⟩:ByteArray),(⟨#[112,117,98,108,105,115,104,101,114]⟩:ByteArray),(⟨#[100,97,116,101]⟩:ByteArray),(⟨#[118,111,108,117,109,101]⟩:ByteArray),(⟨#[112,97,103,101,115]⟩:ByteArray)]:List ByteArray)
def spec_l4Fields.C:Cal->Option CArm:=fun c=>match c with
 | _=>none
theorem spec_l4Fields.run:runF envX (tabC spec_l4Fields.C) (tabL 2 0 (fun _=>none)) Tryd.f90 [] (viewR1 (.fr 9 .str))=spec_l4Fields.F:=by kernel_rfl
theorem spec_l4Fields.G (hE:EnvOk Tryd.prog envX) (pv:Nat->Value):∀ cal A,spec_l4Fields.C cal=some A->ArmOk Tryd.prog envX pv cal A:=by
 intro cal A h
 unfold spec_l4Fields.C at h
 cases h
theorem spec_l4Fields.good (hE:EnvOk Tryd.prog envX) (pv:Nat->Value) {y:_} (h:spec_l4Fields.F=some y):Meets Tryd.prog envX pv (.f 90) (tvals [] (())) (.fr 9 .str y) :=
 fun_plain hE (spec_l4Fields.G hE pv) (f:=90) (fn:=Tryd.f90) (by kernel_rfl) rfl (by kernel_rfl) (by kernel_rfl) ((spec_l4Fields.run).trans h) (fun r hr=>wk_view1 hr)
def spec_l22Field.l0:Nat->ByteArray->(List ByteArray)->Int->Option (Sum Bool ByteArray)
 | 0,_,_,_=>none
 | k+1,x0,x3,x4=>bif (decide (x4<(x3.length:Int))) then (bif decide (0<=x4) then (bif decide (x4<(x3.length:Int)) then (bif (beqS (x3.getD ((x4:Int).toNat) (⟨#[]⟩:ByteArray)) x0) then (some (.inl true)) else (spec_l22Field.l0 k x0 x3 (IntKind.wrap .i64 (x4+1)))) else none) else none) else (some (.inr x0))
def spec_l22Field.F (k:Nat) (a0:ByteArray):Option (Bool):=(spec_l4Fields.F).bind fun r1=>(spec_l22Field.l0 k a0 r1 0).bind fun y2=>match y2 with | .inl z3=>some z3 | .inr z3=>some (beqS z3 (⟨#[]⟩:ByteArray))
def spec_l22Field.C (k:Nat):Cal->Option CArm:=fun c=>match c with
 | .f 90=>some (.p [] _ (fun x=>spec_l4Fields.F) (fun r=>(.fr 9 .str r)))
 | _=>none
def spec_l22Field.sp0:List Sp:=[.t 0 .str,.own 3 1024 9 .str false true,.t 4 (.int .i64)]
def spec_l22Field.sp0_0:List Sp:=[.t 2 .bool]
def spec_l22Field.sp0_1:List Sp:=[.t 0 .str]
def spec_l22Field.A0:LArm:=.two spec_l22Field.sp0 spec_l22Field.sp0_0 spec_l22Field.sp0_1 (Bool) (ByteArray) (fun k x=>spec_l22Field.l0 k x.1 x.2.1 x.2.2.1) .ret (.exit 0) (fun y=>(y,())) (fun x=>x.1) (fun y=>(y,())) (fun x=>x.1)
def spec_l22Field.L:Nat->Option LArm:=fun b=>match b with
 | 0=>some spec_l22Field.A0
 | _=>none
theorem spec_l22Field.run (k:Nat) (a0:ByteArray):runF envX (tabC (spec_l22Field.C k)) (tabL 20 k spec_l22Field.L) Tryd.f72 [.t .str a0] (viewR1 (.t .bool))=spec_l22Field.F k a0:=by kernel_rfl
theorem spec_l22Field.step0 (k:Nat) (x0:ByteArray) (x3:List ByteArray) (x4:Int):runC envX (tabC (spec_l22Field.C k)) (tabL 20 k spec_l22Field.L) 0 (loopAt Tryd.f72 0) (stOf 20 spec_l22Field.sp0 (x0,x3,x4,())) (spec_l22Field.A0.cont 20 k)=spec_l22Field.l0 (k+1) x0 x3 x4:=by kernel_rfl
theorem spec_l22Field.G (hE:EnvOk Tryd.prog envX) (pv:Nat->Value) (k:Nat):∀ cal A,spec_l22Field.C k cal=some A->ArmOk Tryd.prog envX pv cal A:=by
 intro cal A h
 unfold spec_l22Field.C at h
 split at h
 ·cases h; exact fun x y hy=>spec_l4Fields.good hE pv hy
 ·cases h
theorem spec_l22Field.good (hE:EnvOk Tryd.prog envX) (pv:Nat->Value) (k:Nat) (a0:ByteArray) {y:_} (h:spec_l22Field.F k a0=some y):Meets Tryd.prog envX pv (.f 72) (tvals [.str] (a0,())) (.t .bool y) :=
 fun_loops hE (t:=spec_l22Field.C) k (fun k _=>spec_l22Field.G hE pv k) (f:=72) (fn:=Tryd.f72) (by kernel_rfl) rfl (by kernel_rfl) (by kernel_rfl) (lt:=spec_l22Field.L) (by kernel_rfl) (fun b A h=>by
  unfold spec_l22Field.L at h; split at h
  ·cases h; exact ⟨by kernel_rfl,by kernel_rfl,by kernel_rfl,fun _=>rfl,fun _=>rfl,fun _=>rfl⟩
  ·cases h) (fun b A h=>by
  unfold spec_l22Field.L at h; split at h
  ·cases h; exact fun k x=>spec_l22Field.step0 k x.1 x.2.1 x.2.2.1
  ·cases h) ((spec_l22Field.run k a0).trans h) (fun r hr=>wk_view1 hr)
def spec_l22Form.F (k:Nat) (a0:Query):Option (Bool):=bif (a0.op==1) then ((spec_l22Word.F k a0.word).bind fun r1=>bif r1 then ((spec_l22Field.F k a0.field).bind fun r2=>bif r2 then (some ((a0.parts.length:Int)==0)) else (some false)) else (some false)) else (bif (a0.op==2) then (bif (beqS a0.word (⟨#[]⟩:ByteArray)) then (bif (beqS a0.field (⟨#[]⟩:ByteArray)) then (some ((a0.parts.length:Int)==1)) else (some false)) else (some false)) else (bif (a0.op==3) then (bif (a0.op==3) then (bif (beqS a0.word (⟨#[]⟩:ByteArray)) then (bif (beqS a0.field (⟨#[]⟩:ByteArray)) then (some ((a0.parts.length:Int)==2)) else (some false)) else (some false)) else (some false)) else (bif (a0.op==4) then (bif (beqS a0.word (⟨#[]⟩:ByteArray)) then (bif (beqS a0.field (⟨#[]⟩:ByteArray)) then (some ((a0.parts.length:Int)==2)) else (some false)) else (some false)) else (some false))))
def spec_l22Form.C (k:Nat):Cal->Option CArm:=fun c=>match c with
 | .f 71=>some (.p [.str] _ (fun x=>spec_l22Word.F k x.1) (fun r=>(.t .bool r)))
 | .f 72=>some (.p [.str] _ (fun x=>spec_l22Field.F k x.1) (fun r=>(.t .bool r)))
 | _=>none
theorem spec_l22Form.run (k:Nat) (a0:Query):runF envX (tabC (spec_l22Form.C k)) (tabL 54 0 (fun _=>none)) Tryd.f49 [.t .query a0] (viewR1 (.t .bool))=spec_l22Form.F k a0:=by kernel_rfl
theorem spec_l22Form.G (hE:EnvOk Tryd.prog envX) (pv:Nat->Value) (k:Nat):∀ cal A,spec_l22Form.C k cal=some A->ArmOk Tryd.prog envX pv cal A:=by
 intro cal A h
 unfold spec_l22Form.C at h
 split at h
 ·cases h; exact fun x y hy=>spec_l22Word.good hE pv k x.1 hy
 ·cases h; exact fun x y hy=>spec_l22Field.good hE pv k x.1 hy
 ·cases h
theorem spec_l22Form.good (hE:EnvOk Tryd.prog envX) (pv:Nat->Value) (k:Nat) (a0:Query) {y:_} (h:spec_l22Form.F k a0=some y):Meets Tryd.prog envX pv (.f 49) (tvals [.query] (a0,())) (.t .bool y) :=
 fun_plain hE (spec_l22Form.G hE pv k) (f:=49) (fn:=Tryd.f49) (by kernel_rfl) rfl (by kernel_rfl) (by kernel_rfl) ((spec_l22Form.run k a0).trans h) (fun r hr=>wk_view1 hr)
mutual
def spec_l22Forms.F:Nat->Query->Option (Bool)
 | 0,_=>none
 | k+1,a0=>(spec_l22Form.F k a0).bind fun r1=>bif (!r1) then (some false) else ((spec_l22Forms.l0 k a0 0).bind fun y3=>match y3 with | .inl z4=>some z4 | .inr z4=>some true)
def spec_l22Forms.l0:Nat->Query->Int->Option (Sum Bool Unit)
 | 0,_,_=>none
 | k+1,x1,x3=>bif (decide (x3<(x1.parts.length:Int))) then (bif decide (0<=x3) then (bif decide (x3<(x1.parts.length:Int)) then ((spec_l22Forms.F k (x1.parts.getD (x3:Int).toNat (dflt .query))).bind fun r2=>bif (!r2) then (some (.inl false)) else (spec_l22Forms.l0 k x1 (IntKind.wrap .i64 (x3+1)))) else none) else none) else (some (.inr ()))
end
def spec_l22Forms.C (k:Nat):Cal->Option CArm:=fun c=>match c with
 | .f 49=>some (.p [.query] _ (fun x=>spec_l22Form.F k x.1) (fun r=>(.t .bool r)))
 | .f 37=>some (.p [.query] _ (fun x=>spec_l22Forms.F k x.1) (fun r=>(.t .bool r)))
 | _=>none
def spec_l22Forms.sp0:List Sp:=[.boxT 1 0 .query,.t 3 (.int .i64)]
def spec_l22Forms.sp0_0:List Sp:=[.t 2 .bool]
def spec_l22Forms.sp0_1:List Sp:=[]
def spec_l22Forms.A0:LArm:=.two spec_l22Forms.sp0 spec_l22Forms.sp0_0 spec_l22Forms.sp0_1 (Bool) (Unit) (fun k x=>spec_l22Forms.l0 k x.1 x.2.1) .ret (.exit 0) (fun y=>(y,())) (fun x=>x.1) (fun y=>()) (fun x=>())
def spec_l22Forms.L:Nat->Option LArm:=fun b=>match b with
 | 0=>some spec_l22Forms.A0
 | _=>none
theorem spec_l22Forms.run (k:Nat) (a0:Query):runF envX (tabC (spec_l22Forms.C k)) (tabL 21 k spec_l22Forms.L) Tryd.f37 [.t .query a0] (viewR1 (.t .bool))=spec_l22Forms.F (k+1) a0:=by kernel_rfl
theorem spec_l22Forms.step0 (k:Nat) (x1:Query) (x3:Int):runC envX (tabC (spec_l22Forms.C k)) (tabL 21 k spec_l22Forms.L) 0 (loopAt Tryd.f37 0) (stOf 21 spec_l22Forms.sp0 (x1,x3,())) (spec_l22Forms.A0.cont 21 k)=spec_l22Forms.l0 (k+1) x1 x3:=by kernel_rfl
def spec_l22Forms.Gd (pv:Nat->Value) (k:Nat):Prop:=(∀ (a0:Query) {y:_},spec_l22Forms.F k a0=some y->Meets Tryd.prog envX pv (.f 37) (tvals [.query] (a0,())) (.t .bool y))
theorem spec_l22Forms.G (hE:EnvOk Tryd.prog envX) (pv:Nat->Value) (k:Nat) (hI:spec_l22Forms.Gd pv k):∀ cal A,spec_l22Forms.C k cal=some A->ArmOk Tryd.prog envX pv cal A:=by
 intro cal A h
 unfold spec_l22Forms.C at h
 split at h
 ·cases h; exact fun x y hy=>spec_l22Form.good hE pv k x.1 hy
 ·cases h; exact fun x y hy=>hI x.1 hy
 ·cases h
theorem spec_l22Forms.gd (hE:EnvOk Tryd.prog envX) (pv:Nat->Value) (k:Nat) (hI:∀ k',k'<=k->spec_l22Forms.Gd pv k') (a0:Query) {y:_} (h:spec_l22Forms.F (k+1) a0=some y):Meets Tryd.prog envX pv (.f 37) (tvals [.query] (a0,())) (.t .bool y) :=
 fun_loops hE (t:=spec_l22Forms.C) k (fun k hk=>spec_l22Forms.G hE pv k (hI k hk)) (f:=37) (fn:=Tryd.f37) (by kernel_rfl) rfl (by kernel_rfl) (by kernel_rfl) (lt:=spec_l22Forms.L) (by kernel_rfl) (fun b A h=>by
  unfold spec_l22Forms.L at h; split at h
  ·cases h; exact ⟨by kernel_rfl,by kernel_rfl,by kernel_rfl,fun _=>rfl,fun _=>rfl,fun _=>rfl⟩
  ·cases h) (fun b A h=>by
  unfold spec_l22Forms.L at h; split at h
  ·cases h; exact fun k x=>spec_l22Forms.step0 k x.1 x.2.1
  ·cases h) ((spec_l22Forms.run k a0).trans h) (fun r hr=>wk_view1 hr)
theorem spec_l22Forms.all (hE:EnvOk Tryd.prog envX) (pv:Nat->Value):∀ k k',k'<=k->spec_l22Forms.Gd pv k':=by
 intro k
 induction k with
 | zero=>
  intro k' hk
  obtain rfl:k'=0:=by omega
  exact fun _ y h=>by cases (show (none:Option _)=some y from h)
 | succ k ih=>
  intro k' hk
  rcases Nat.lt_or_ge k' (k+1) with hlt | hge
  ·exact ih k' (by omega)
  ·obtain rfl:k'=k+1:=by omega
   exact fun a0 y h=>spec_l22Forms.gd hE pv k ih a0 h
theorem spec_l22Forms.good (hE:EnvOk Tryd.prog envX) (pv:Nat->Value) (k:Nat) (a0:Query) {y:_} (h:spec_l22Forms.F k a0=some y):Meets Tryd.prog envX pv (.f 37) (tvals [.query] (a0,())) (.t .bool y) :=
 (spec_l22Forms.all hE pv k k (Nat.le_refl k)) a0 h
mutual
def spec_l22Size.F:Nat->Query->Option (Int)
 | 0,_=>none
 | k+1,a0=>(spec_l22Size.l0 k a0 1 0).bind fun y2=>some y2
def spec_l22Size.l0:Nat->Query->Int->Int->Option (Int)
 | 0,_,_,_=>none
 | k+1,x1,x3,x4=>bif (decide (x4<(x1.parts.length:Int))) then (bif decide (0<=x4) then (bif decide (x4<(x1.parts.length:Int)) then ((spec_l22Size.F k (x1.parts.getD (x4:Int).toNat (dflt .query))).bind fun r1=>spec_l22Size.l0 k x1 (IntKind.wrap .i64 (x3+r1)) (IntKind.wrap .i64 (x4+1))) else none) else none) else (some x3)
end
def spec_l22Size.C (k:Nat):Cal->Option CArm:=fun c=>match c with
 | .f 38=>some (.p [.query] _ (fun x=>spec_l22Size.F k x.1) (fun r=>(.t (.int .i64) r)))
 | _=>none
def spec_l22Size.sp0:List Sp:=[.boxT 1 0 .query,.t 3 (.int .i64),.t 4 (.int .i64)]
def spec_l22Size.sp0_0:List Sp:=[.t 3 (.int .i64)]
def spec_l22Size.A0:LArm:=.one spec_l22Size.sp0 spec_l22Size.sp0_0 (Int) (fun k x=>spec_l22Size.l0 k x.1 x.2.1 x.2.2.1) (.exit 0) (fun y=>(y,())) (fun x=>x.1)
def spec_l22Size.L:Nat->Option LArm:=fun b=>match b with
 | 0=>some spec_l22Size.A0
 | _=>none
theorem spec_l22Size.run (k:Nat) (a0:Query):runF envX (tabC (spec_l22Size.C k)) (tabL 21 k spec_l22Size.L) Tryd.f38 [.t .query a0] (viewR1 (.t (.int .i64)))=spec_l22Size.F (k+1) a0:=by kernel_rfl
theorem spec_l22Size.step0 (k:Nat) (x1:Query) (x3:Int) (x4:Int):runC envX (tabC (spec_l22Size.C k)) (tabL 21 k spec_l22Size.L) 0 (loopAt Tryd.f38 0) (stOf 21 spec_l22Size.sp0 (x1,x3,x4,())) (spec_l22Size.A0.cont 21 k)=spec_l22Size.l0 (k+1) x1 x3 x4:=by kernel_rfl
def spec_l22Size.Gd (pv:Nat->Value) (k:Nat):Prop:=(∀ (a0:Query) {y:_},spec_l22Size.F k a0=some y->Meets Tryd.prog envX pv (.f 38) (tvals [.query] (a0,())) (.t (.int .i64) y))
theorem spec_l22Size.G (hE:EnvOk Tryd.prog envX) (pv:Nat->Value) (k:Nat) (hI:spec_l22Size.Gd pv k):∀ cal A,spec_l22Size.C k cal=some A->ArmOk Tryd.prog envX pv cal A:=by
 intro cal A h
 unfold spec_l22Size.C at h
 split at h
 ·cases h; exact fun x y hy=>hI x.1 hy
 ·cases h
theorem spec_l22Size.gd (hE:EnvOk Tryd.prog envX) (pv:Nat->Value) (k:Nat) (hI:∀ k',k'<=k->spec_l22Size.Gd pv k') (a0:Query) {y:_} (h:spec_l22Size.F (k+1) a0=some y):Meets Tryd.prog envX pv (.f 38) (tvals [.query] (a0,())) (.t (.int .i64) y) :=
 fun_loops hE (t:=spec_l22Size.C) k (fun k hk=>spec_l22Size.G hE pv k (hI k hk)) (f:=38) (fn:=Tryd.f38) (by kernel_rfl) rfl (by kernel_rfl) (by kernel_rfl) (lt:=spec_l22Size.L) (by kernel_rfl) (fun b A h=>by
  unfold spec_l22Size.L at h; split at h
  ·cases h; exact ⟨by kernel_rfl,by kernel_rfl,fun _=>rfl,fun _=>rfl⟩
  ·cases h) (fun b A h=>by
  unfold spec_l22Size.L at h; split at h
  ·cases h; exact fun k x=>spec_l22Size.step0 k x.1 x.2.1 x.2.2.1
  ·cases h) ((spec_l22Size.run k a0).trans h) (fun r hr=>wk_view1 hr)
theorem spec_l22Size.all (hE:EnvOk Tryd.prog envX) (pv:Nat->Value):∀ k k',k'<=k->spec_l22Size.Gd pv k':=by
 intro k
 induction k with
 | zero=>
  intro k' hk
  obtain rfl:k'=0:=by omega
  exact fun _ y h=>by cases (show (none:Option _)=some y from h)
 | succ k ih=>
  intro k' hk
  rcases Nat.lt_or_ge k' (k+1) with hlt | hge
  ·exact ih k' (by omega)
  ·obtain rfl:k'=k+1:=by omega
   exact fun a0 y h=>spec_l22Size.gd hE pv k ih a0 h
theorem spec_l22Size.good (hE:EnvOk Tryd.prog envX) (pv:Nat->Value) (k:Nat) (a0:Query) {y:_} (h:spec_l22Size.F k a0=some y):Meets Tryd.prog envX pv (.f 38) (tvals [.query] (a0,())) (.t (.int .i64) y) :=
 (spec_l22Size.all hE pv k k (Nat.le_refl k)) a0 h
def spec_l22Good.F (k:Nat) (a0:Query):Option (Bool):=(spec_l22Forms.F k a0).bind fun r1=>bif r1 then ((spec_l22Size.F k a0).bind fun r2=>some (decide (r2<=15))) else (some false)
def spec_l22Good.C (k:Nat):Cal->Option CArm:=fun c=>match c with
 | .f 37=>some (.p [.query] _ (fun x=>spec_l22Forms.F k x.1) (fun r=>(.t .bool r)))
 | .f 38=>some (.p [.query] _ (fun x=>spec_l22Size.F k x.1) (fun r=>(.t (.int .i64) r)))
 | _=>none
theorem spec_l22Good.run (k:Nat) (a0:Query):runF envX (tabC (spec_l22Good.C k)) (tabL 10 0 (fun _=>none)) Tryd.f21 [.t .query a0] (viewR1 (.t .bool))=spec_l22Good.F k a0:=by kernel_rfl
theorem spec_l22Good.G (hE:EnvOk Tryd.prog envX) (pv:Nat->Value) (k:Nat):∀ cal A,spec_l22Good.C k cal=some A->ArmOk Tryd.prog envX pv cal A:=by
 intro cal A h
 unfold spec_l22Good.C at h
 split at h
 ·cases h; exact fun x y hy=>spec_l22Forms.good hE pv k x.1 hy
 ·cases h; exact fun x y hy=>spec_l22Size.good hE pv k x.1 hy
 ·cases h
theorem spec_l22Good.good (hE:EnvOk Tryd.prog envX) (pv:Nat->Value) (k:Nat) (a0:Query) {y:_} (h:spec_l22Good.F k a0=some y):Meets Tryd.prog envX pv (.f 21) (tvals [.query] (a0,())) (.t .bool y) :=
 fun_plain hE (spec_l22Good.G hE pv k) (f:=21) (fn:=Tryd.f21) (by kernel_rfl) rfl (by kernel_rfl) (by kernel_rfl) ((spec_l22Good.run k a0).trans h) (fun r hr=>wk_view1 hr)
mutual
def spec_l22Text.F:Nat->Query->Option (ByteArray)
 | 0,_=>none
 | k+1,a0=>bif (a0.op==1) then (bif (beqS a0.field (⟨#[]⟩:ByteArray)) then (some a0.word) else (bif Nat.ble (a0.field.size+(⟨#[58]⟩:ByteArray).size) 9223372036854775807 then (bif Nat.ble ((a0.field++(⟨#[58]⟩:ByteArray)).size+a0.word.size) 9223372036854775807 then (some ((a0.field++(⟨#[58]⟩:ByteArray))++a0.word)) else none) else none)) else (bif (a0.op==2) then (bif decide (0<=0) then (bif decide (0<(a0.parts.length:Int)) then ((spec_l22Text.F k (a0.parts.getD (0:Int).toNat (dflt .query))).bind fun r1=>bif Nat.ble ((⟨#[110,111,116,32]⟩:ByteArray).size+r1.size) 9223372036854775807 then (some ((⟨#[110,111,116,32]⟩:ByteArray)++r1)) else none) else none) else none) else (bif (a0.op==3) then (bif decide (0<=0) then (bif decide (0<(a0.parts.length:Int)) then ((spec_l22Text.F k (a0.parts.getD (0:Int).toNat (dflt .query))).bind fun r2=>bif Nat.ble ((⟨#[40]⟩:ByteArray).size+r2.size) 9223372036854775807 then (bif Nat.ble (((⟨#[40]⟩:ByteArray)++r2).size+(⟨#[32,97,110,100,32]⟩:ByteArray).size) 9223372036854775807 then (bif decide (0<=1) then (bif decide (1<(a0.parts.length:Int)) then ((spec_l22Text.F k (a0.parts.getD (1:Int).toNat (dflt .query))).bind fun r3=>bif Nat.ble ((((⟨#[40]⟩:ByteArray)++r2)++(⟨#[32,97,110,100,32]⟩:ByteArray)).size+r3.size) 9223372036854775807 then (bif Nat.ble (((((⟨#[40]⟩:ByteArray)++r2)++(⟨#[32,97,110,100,32]⟩:ByteArray))++r3).size+(⟨#[41]⟩:ByteArray).size) 9223372036854775807 then (some (((((⟨#[40]⟩:ByteArray)++r2)++(⟨#[32,97,110,100,32]⟩:ByteArray))++r3)++(⟨#[41]⟩:ByteArray))) else none) else none) else none) else none) else none) else none) else none) else none) else (bif decide (0<=0) then (bif decide (0<(a0.parts.length:Int)) then ((spec_l22Text.F k (a0.parts.getD (0:Int).toNat (dflt .query))).bind fun r4=>bif Nat.ble ((⟨#[40]⟩:ByteArray).size+r4.size) 9223372036854775807 then (bif Nat.ble (((⟨#[40]⟩:ByteArray)++r4).size+(⟨#[32,111,114,32]⟩:ByteArray).size) 9223372036854775807 then (bif decide (0<=1) then (bif decide (1<(a0.parts.length:Int)) then ((spec_l22Text.F k (a0.parts.getD (1:Int).toNat (dflt .query))).bind fun r5=>bif Nat.ble ((((⟨#[40]⟩:ByteArray)++r4)++(⟨#[32,111,114,32]⟩:ByteArray)).size+r5.size) 9223372036854775807 then (bif Nat.ble (((((⟨#[40]⟩:ByteArray)++r4)++(⟨#[32,111,114,32]⟩:ByteArray))++r5).size+(⟨#[41]⟩:ByteArray).size) 9223372036854775807 then (some (((((⟨#[40]⟩:ByteArray)++r4)++(⟨#[32,111,114,32]⟩:ByteArray))++r5)++(⟨#[41]⟩:ByteArray))) else none) else none) else none) else none) else none) else none) else none) else none)))
end
def spec_l22Text.C (k:Nat):Cal->Option CArm:=fun c=>match c with
 | .f 50=>some (.p [.query] _ (fun x=>spec_l22Text.F k x.1) (fun r=>(.t .str r)))
 | _=>none
theorem spec_l22Text.run (k:Nat) (a0:Query):runF envX (tabC (spec_l22Text.C k)) (tabL 56 0 (fun _=>none)) Tryd.f50 [.t .query a0] (viewR1 (.t .str))=spec_l22Text.F (k+1) a0:=by kernel_rfl
def spec_l22Text.Gd (pv:Nat->Value) (k:Nat):Prop:=(∀ (a0:Query) {y:_},spec_l22Text.F k a0=some y->Meets Tryd.prog envX pv (.f 50) (tvals [.query] (a0,())) (.t .str y))
theorem spec_l22Text.G (hE:EnvOk Tryd.prog envX) (pv:Nat->Value) (k:Nat) (hI:spec_l22Text.Gd pv k):∀ cal A,spec_l22Text.C k cal=some A->ArmOk Tryd.prog envX pv cal A:=by
 intro cal A h
 unfold spec_l22Text.C at h
 split at h
 ·cases h; exact fun x y hy=>hI x.1 hy
 ·cases h
theorem spec_l22Text.gd (hE:EnvOk Tryd.prog envX) (pv:Nat->Value) (k:Nat) (hI:∀ k',k'<=k->spec_l22Text.Gd pv k') (a0:Query) {y:_} (h:spec_l22Text.F (k+1) a0=some y):Meets Tryd.prog envX pv (.f 50) (tvals [.query] (a0,())) (.t .str y) :=
 fun_plain hE (spec_l22Text.G hE pv k (hI k (Nat.le_refl k))) (f:=50) (fn:=Tryd.f50) (by kernel_rfl) rfl (by kernel_rfl) (by kernel_rfl) ((spec_l22Text.run k a0).trans h) (fun r hr=>wk_view1 hr)
theorem spec_l22Text.all (hE:EnvOk Tryd.prog envX) (pv:Nat->Value):∀ k k',k'<=k->spec_l22Text.Gd pv k':=by
 intro k
 induction k with
 | zero=>
  intro k' hk
  obtain rfl:k'=0:=by omega
  exact fun _ y h=>by cases (show (none:Option _)=some y from h)
 | succ k ih=>
  intro k' hk
  rcases Nat.lt_or_ge k' (k+1) with hlt | hge
  ·exact ih k' (by omega)
  ·obtain rfl:k'=k+1:=by omega
   exact fun a0 y h=>spec_l22Text.gd hE pv k ih a0 h
theorem spec_l22Text.good (hE:EnvOk Tryd.prog envX) (pv:Nat->Value) (k:Nat) (a0:Query) {y:_} (h:spec_l22Text.F k a0=some y):Meets Tryd.prog envX pv (.f 50) (tvals [.query] (a0,())) (.t .str y) :=
 (spec_l22Text.all hE pv k k (Nat.le_refl k)) a0 h
def spec_l22Same.F (k:Nat) (a0:Query) (a1:Query):Option (Bool):=(spec_l22Text.F k a0).bind fun r1=>(spec_l22Text.F k a1).bind fun r2=>some (beqS r1 r2)
def spec_l22Same.C (k:Nat):Cal->Option CArm:=fun c=>match c with
 | .f 50=>some (.p [.query] _ (fun x=>spec_l22Text.F k x.1) (fun r=>(.t .str r)))
 | _=>none
theorem spec_l22Same.run (k:Nat) (a0:Query) (a1:Query):runF envX (tabC (spec_l22Same.C k)) (tabL 10 0 (fun _=>none)) Tryd.f39 [.t .query a0,.t .query a1] (viewR1 (.t .bool))=spec_l22Same.F k a0 a1:=by kernel_rfl
theorem spec_l22Same.G (hE:EnvOk Tryd.prog envX) (pv:Nat->Value) (k:Nat):∀ cal A,spec_l22Same.C k cal=some A->ArmOk Tryd.prog envX pv cal A:=by
 intro cal A h
 unfold spec_l22Same.C at h
 split at h
 ·cases h; exact fun x y hy=>spec_l22Text.good hE pv k x.1 hy
 ·cases h
theorem spec_l22Same.good (hE:EnvOk Tryd.prog envX) (pv:Nat->Value) (k:Nat) (a0:Query) (a1:Query) {y:_} (h:spec_l22Same.F k a0 a1=some y):Meets Tryd.prog envX pv (.f 39) (tvals [.query,.query] (a0,a1,())) (.t .bool y) :=
 fun_plain hE (spec_l22Same.G hE pv k) (f:=39) (fn:=Tryd.f39) (by kernel_rfl) rfl (by kernel_rfl) (by kernel_rfl) ((spec_l22Same.run k a0 a1).trans h) (fun r hr=>wk_view1 hr)
mutual
def spec_l22Simple.F:Nat->Query->Option (Query)
 | 0,_=>none
 | k+1,a0=>(spec_l22Simple.l0 k a0 0 (⟨#[]⟩:ByteArray) (⟨#[]⟩:ByteArray) ([]:List Query) a0.op a0.field a0.word ([]) 0).bind fun y2=>bif (y2.1.op==2) then (bif decide (0<=0) then (bif decide (0<(y2.2.2.2.2.2.2.2.2.length:Int)) then (bif (((y2.2.2.2.2.2.2.2.2.getD ((0:Int).toNat) (dflt .query)).op)==2) then (bif decide (0<=0) then (bif decide (0<(y2.2.2.2.2.2.2.2.2.length:Int)) then (bif decide (0<=0) then (bif decide (0<(((y2.2.2.2.2.2.2.2.2.getD ((0:Int).toNat) (dflt .query)).parts).length:Int)) then (some (((y2.2.2.2.2.2.2.2.2.getD ((0:Int).toNat) (dflt .query)).parts).getD (0:Int).toNat (dflt .query))) else none) else none) else none) else none) else (bif ((y2.2.2.2.2.2.2.2.2.length:Int)==2) then (bif decide (0<=0) then (bif decide (0<(y2.2.2.2.2.2.2.2.2.length:Int)) then (bif decide (0<=1) then (bif decide (1<(y2.2.2.2.2.2.2.2.2.length:Int)) then ((spec_l22Same.F k (y2.2.2.2.2.2.2.2.2.getD ((0:Int).toNat) (dflt .query)) (y2.2.2.2.2.2.2.2.2.getD ((1:Int).toNat) (dflt .query))).bind fun r3=>bif r3 then (bif decide (0<=0) then (bif decide (0<(y2.2.2.2.2.2.2.2.2.length:Int)) then (some (y2.2.2.2.2.2.2.2.2.getD ((0:Int).toNat) (dflt .query))) else none) else none) else (some (Query.mk y2.2.2.2.2.2.1 y2.2.2.2.2.2.2.1 y2.2.2.2.2.2.2.2.1 y2.2.2.2.2.2.2.2.2))) else none) else none) else none) else none) else (some (Query.mk y2.2.2.2.2.2.1 y2.2.2.2.2.2.2.1 y2.2.2.2.2.2.2.2.1 y2.2.2.2.2.2.2.2.2)))) else none) else none) else (bif ((y2.2.2.2.2.2.2.2.2.length:Int)==2) then (bif decide (0<=0) then (bif decide (0<(y2.2.2.2.2.2.2.2.2.length:Int)) then (bif decide (0<=1) then (bif decide (1<(y2.2.2.2.2.2.2.2.2.length:Int)) then ((spec_l22Same.F k (y2.2.2.2.2.2.2.2.2.getD ((0:Int).toNat) (dflt .query)) (y2.2.2.2.2.2.2.2.2.getD ((1:Int).toNat) (dflt .query))).bind fun r4=>bif r4 then (bif decide (0<=0) then (bif decide (0<(y2.2.2.2.2.2.2.2.2.length:Int)) then (some (y2.2.2.2.2.2.2.2.2.getD ((0:Int).toNat) (dflt .query))) else none) else none) else (some (Query.mk y2.2.2.2.2.2.1 y2.2.2.2.2.2.2.1 y2.2.2.2.2.2.2.2.1 y2.2.2.2.2.2.2.2.2))) else none) else none) else none) else none) else (some (Query.mk y2.2.2.2.2.2.1 y2.2.2.2.2.2.2.1 y2.2.2.2.2.2.2.2.1 y2.2.2.2.2.2.2.2.2)))
def spec_l22Simple.l0:Nat->Query->Int->ByteArray->ByteArray->(List Query)->Int->ByteArray->ByteArray->(List Query)->Int->Option (Query × Int × ByteArray × ByteArray × (List Query) × Int × ByteArray × ByteArray × (List Query))
 | 0,_,_,_,_,_,_,_,_,_,_=>none
 | k+1,x1,x2_0,x2_1,x2_2,x2_3,x3_0,x3_1,x3_2,x3_3,x4=>bif (decide (x4<(x1.parts.length:Int))) then (bif decide (0<=x4) then (bif decide (x4<(x1.parts.length:Int)) then ((spec_l22Simple.F k (x1.parts.getD (x4:Int).toNat (dflt .query))).bind fun r1=>bif room (x3_3.length+([r1]:List Query).length) .query then (spec_l22Simple.l0 k x1 x2_0 x2_1 x2_2 x2_3 x3_0 x3_1 x3_2 (x3_3++([r1]:List Query)) (IntKind.wrap .i64 (x4+1))) else none) else none) else none) else (some (x1,x2_0,x2_1,x2_2,x2_3,x3_0,x3_1,x3_2,x3_3))
end
def spec_l22Simple.C (k:Nat):Cal->Option CArm:=fun c=>match c with
 | .f 22=>some (.p [.query] _ (fun x=>spec_l22Simple.F k x.1) (fun r=>(.t .query r)))
 | .f 39=>some (.p [.query,.query] _ (fun x=>spec_l22Same.F k x.1 x.2.1) (fun r=>(.t .bool r)))
 | _=>none
def spec_l22Simple.sp0:List Sp:=[.boxT 1 0 .query,.boxF 2 4 .query [.t (.int .i64),.t .str,.t .str,.t (.sl .query)],.boxF 3 1052 .query [.t (.int .i64),.t .str,.t .str,.own 1099511627830 28 .query false true],.t 4 (.int .i64)]
def spec_l22Simple.sp0_0:List Sp:=[.boxT 1 0 .query,.boxF 2 4 .query [.t (.int .i64),.t .str,.t .str,.t (.sl .query)],.boxF 3 1052 .query [.t (.int .i64),.t .str,.t .str,.own 1099511627830 28 .query false true]]
def spec_l22Simple.A0:LArm:=.one spec_l22Simple.sp0 spec_l22Simple.sp0_0 (Query × Int × ByteArray × ByteArray × (List Query) × Int × ByteArray × ByteArray × (List Query)) (fun k x=>spec_l22Simple.l0 k x.1 x.2.1.1 x.2.1.2.1 x.2.1.2.2.1 x.2.1.2.2.2.1 x.2.2.1.1 x.2.2.1.2.1 x.2.2.1.2.2.1 x.2.2.1.2.2.2.1 x.2.2.2.1) (.exit 0) (fun y=>(y.1,(y.2.1,y.2.2.1,y.2.2.2.1,y.2.2.2.2.1,()),(y.2.2.2.2.2.1,y.2.2.2.2.2.2.1,y.2.2.2.2.2.2.2.1,y.2.2.2.2.2.2.2.2,()),())) (fun x=>(x.1,x.2.1.1,x.2.1.2.1,x.2.1.2.2.1,x.2.1.2.2.2.1,x.2.2.1.1,x.2.2.1.2.1,x.2.2.1.2.2.1,x.2.2.1.2.2.2.1))
def spec_l22Simple.L:Nat->Option LArm:=fun b=>match b with
 | 0=>some spec_l22Simple.A0
 | _=>none
theorem spec_l22Simple.run (k:Nat) (a0:Query):runF envX (tabC (spec_l22Simple.C k)) (tabL 70 k spec_l22Simple.L) Tryd.f22 [.t .query a0] (viewR1 (.t .query))=spec_l22Simple.F (k+1) a0:=by kernel_rfl
theorem spec_l22Simple.step0 (k:Nat) (x1:Query) (x2_0:Int) (x2_1:ByteArray) (x2_2:ByteArray) (x2_3:List Query) (x3_0:Int) (x3_1:ByteArray) (x3_2:ByteArray) (x3_3:List Query) (x4:Int):runC envX (tabC (spec_l22Simple.C k)) (tabL 70 k spec_l22Simple.L) 0 (loopAt Tryd.f22 0) (stOf 70 spec_l22Simple.sp0 (x1,(x2_0,x2_1,x2_2,x2_3,()),(x3_0,x3_1,x3_2,x3_3,()),x4,())) (spec_l22Simple.A0.cont 70 k)=spec_l22Simple.l0 (k+1) x1 x2_0 x2_1 x2_2 x2_3 x3_0 x3_1 x3_2 x3_3 x4:=by kernel_rfl
def spec_l22Simple.Gd (pv:Nat->Value) (k:Nat):Prop:=(∀ (a0:Query) {y:_},spec_l22Simple.F k a0=some y->Meets Tryd.prog envX pv (.f 22) (tvals [.query] (a0,())) (.t .query y))
theorem spec_l22Simple.G (hE:EnvOk Tryd.prog envX) (pv:Nat->Value) (k:Nat) (hI:spec_l22Simple.Gd pv k):∀ cal A,spec_l22Simple.C k cal=some A->ArmOk Tryd.prog envX pv cal A:=by
 intro cal A h
 unfold spec_l22Simple.C at h
 split at h
 ·cases h; exact fun x y hy=>hI x.1 hy
 ·cases h; exact fun x y hy=>spec_l22Same.good hE pv k x.1 x.2.1 hy
 ·cases h
theorem spec_l22Simple.gd (hE:EnvOk Tryd.prog envX) (pv:Nat->Value) (k:Nat) (hI:∀ k',k'<=k->spec_l22Simple.Gd pv k') (a0:Query) {y:_} (h:spec_l22Simple.F (k+1) a0=some y):Meets Tryd.prog envX pv (.f 22) (tvals [.query] (a0,())) (.t .query y) :=
 fun_loops hE (t:=spec_l22Simple.C) k (fun k hk=>spec_l22Simple.G hE pv k (hI k hk)) (f:=22) (fn:=Tryd.f22) (by kernel_rfl) rfl (by kernel_rfl) (by kernel_rfl) (lt:=spec_l22Simple.L) (by kernel_rfl) (fun b A h=>by
  unfold spec_l22Simple.L at h; split at h
  ·cases h; exact ⟨by kernel_rfl,by kernel_rfl,fun _=>rfl,fun _=>rfl⟩
  ·cases h) (fun b A h=>by
  unfold spec_l22Simple.L at h; split at h
  ·cases h; exact fun k x=>spec_l22Simple.step0 k x.1 x.2.1.1 x.2.1.2.1 x.2.1.2.2.1 x.2.1.2.2.2.1 x.2.2.1.1 x.2.2.1.2.1 x.2.2.1.2.2.1 x.2.2.1.2.2.2.1 x.2.2.2.1
  ·cases h) ((spec_l22Simple.run k a0).trans h) (fun r hr=>wk_view1 hr)
theorem spec_l22Simple.all (hE:EnvOk Tryd.prog envX) (pv:Nat->Value):∀ k k',k'<=k->spec_l22Simple.Gd pv k':=by
 intro k
 induction k with
 | zero=>
  intro k' hk
  obtain rfl:k'=0:=by omega
  exact fun _ y h=>by cases (show (none:Option _)=some y from h)
 | succ k ih=>
  intro k' hk
  rcases Nat.lt_or_ge k' (k+1) with hlt | hge
  ·exact ih k' (by omega)
  ·obtain rfl:k'=k+1:=by omega
   exact fun a0 y h=>spec_l22Simple.gd hE pv k ih a0 h
theorem spec_l22Simple.good (hE:EnvOk Tryd.prog envX) (pv:Nat->Value) (k:Nat) (a0:Query) {y:_} (h:spec_l22Simple.F k a0=some y):Meets Tryd.prog envX pv (.f 22) (tvals [.query] (a0,())) (.t .query y) :=
 (spec_l22Simple.all hE pv k k (Nat.le_refl k)) a0 h
def spec_SimplifyQuery.F (k:Nat) (a0:Query):Option (Query × Bool):=(spec_l22Good.F k a0).bind fun r1=>bif (!r1) then (some ((Query.mk 0 (⟨#[]⟩:ByteArray) (⟨#[]⟩:ByteArray) ([]:List Query)),false)) else ((spec_l22Simple.F k a0).bind fun r2=>some (r2,true))
def spec_SimplifyQuery.C (k:Nat):Cal->Option CArm:=fun c=>match c with
 | .f 21=>some (.p [.query] _ (fun x=>spec_l22Good.F k x.1) (fun r=>(.t .bool r)))
 | .f 22=>some (.p [.query] _ (fun x=>spec_l22Simple.F k x.1) (fun r=>(.t .query r)))
 | _=>none
theorem spec_SimplifyQuery.run (k:Nat) (a0:Query):runF envX (tabC (spec_SimplifyQuery.C k)) (tabL 10 0 (fun _=>none)) Tryd.f7 [.t .query a0] (viewR2 (.t .query) (.t .bool))=spec_SimplifyQuery.F k a0:=by kernel_rfl
theorem spec_SimplifyQuery.G (hE:EnvOk Tryd.prog envX) (pv:Nat->Value) (k:Nat):∀ cal A,spec_SimplifyQuery.C k cal=some A->ArmOk Tryd.prog envX pv cal A:=by
 intro cal A h
 unfold spec_SimplifyQuery.C at h
 split at h
 ·cases h; exact fun x y hy=>spec_l22Good.good hE pv k x.1 hy
 ·cases h; exact fun x y hy=>spec_l22Simple.good hE pv k x.1 hy
 ·cases h
theorem spec_SimplifyQuery.good (hE:EnvOk Tryd.prog envX) (pv:Nat->Value) (k:Nat) (a0:Query) {y:_} (h:spec_SimplifyQuery.F k a0=some y):Meets Tryd.prog envX pv (.f 7) (tvals [.query] (a0,())) (.tup [.t .query y.1,.t .bool y.2]) :=
 fun_plain hE (spec_SimplifyQuery.G hE pv k) (f:=7) (fn:=Tryd.f7) (by kernel_rfl) rfl (by kernel_rfl) (by kernel_rfl) ((spec_SimplifyQuery.run k a0).trans h) (fun r hr=>wk_view2 hr)
mutual
def laws_toQuery_p.F:Nat->Query->Option (Query)
 | 0,_=>none
 | k+1,a0=>(laws_toQueryS_p.F k a0.parts).bind fun r1=>some (Query.mk a0.op a0.field a0.word r1)
def laws_toQueryS_p.F:Nat->(List Query)->Option (List Query)
 | 0,_=>none
 | k+1,a0=>bif ((a0.length:Int)==(a0.length:Int)) then (bif decide (0<=(a0.length:Int)) then (bif Nat.ble (((a0.length:Int):Int).toNat * nb .query) 140737488355328 then ((laws_toQueryS_p.l0 k a0 (List.replicate ((a0.length:Int):Int).toNat (dflt .query)) 0).bind fun y2=>some y2) else none) else none) else none
def laws_toQueryS_p.l0:Nat->(List Query)->(List Query)->Int->Option ((List Query))
 | 0,_,_,_=>none
 | k+1,x0,x3,x4=>bif (decide (x4<(x0.length:Int))) then (bif decide (0<=x4) then (bif decide (x4<(x0.length:Int)) then ((laws_toQuery_p.F k (x0.getD (x4:Int).toNat (dflt .query))).bind fun r1=>bif decide (0<=x4) then (bif decide (x4<(x3.length:Int)) then (laws_toQueryS_p.l0 k x0 (x3.set ((x4:Int).toNat) r1) (IntKind.wrap .i64 (x4+1))) else none) else none) else none) else none) else (some x3)
end
def laws_toQuery_p.C (k:Nat):Cal->Option CArm:=fun c=>match c with
 | .f 23=>some (.p [(.sl .query)] _ (fun x=>laws_toQueryS_p.F k x.1) (fun r=>(.fr 28 .query r)))
 | _=>none
theorem laws_toQuery_p.run (k:Nat) (a0:Query):runPc envP (tabC (laws_toQuery_p.C k)) (tabL 18 0 (fun _=>none)) Tryd.f8 [.t .query a0] (viewR1 (.pc .query))=laws_toQuery_p.F (k+1) a0:=by kernel_rfl
def laws_toQueryS_p.C (k:Nat):Cal->Option CArm:=fun c=>match c with
 | .f 8=>some (.p [.query] _ (fun x=>laws_toQuery_p.F k x.1) (fun r=>(.pc true .query r)))
 | _=>none
def laws_toQueryS_p.sp0:List Sp:=[.t 0 (.sl .query),.own 3 1032 28 .query false true,.t 4 (.int .i64)]
def laws_toQueryS_p.sp0_0:List Sp:=[.own 3 1032 28 .query false true]
def laws_toQueryS_p.A0:LArm:=.one laws_toQueryS_p.sp0 laws_toQueryS_p.sp0_0 ((List Query)) (fun k x=>laws_toQueryS_p.l0 k x.1 x.2.1 x.2.2.1) (.exit 0) (fun y=>(y,())) (fun x=>x.1)
def laws_toQueryS_p.L:Nat->Option LArm:=fun b=>match b with
 | 0=>some laws_toQueryS_p.A0
 | _=>none
theorem laws_toQueryS_p.run (k:Nat) (a0:List Query):runF envP (tabC (laws_toQueryS_p.C k)) (tabL 23 k laws_toQueryS_p.L) Tryd.f23 [.t (.sl .query) a0] (viewR1 (.fr 28 .query))=laws_toQueryS_p.F (k+1) a0:=by kernel_rfl
theorem laws_toQueryS_p.step0 (k:Nat) (x0:List Query) (x3:List Query) (x4:Int):runC envP (tabC (laws_toQueryS_p.C k)) (tabL 23 k laws_toQueryS_p.L) 0 (loopAt Tryd.f23 0) (stOf 23 laws_toQueryS_p.sp0 (x0,x3,x4,())) (laws_toQueryS_p.A0.cont 23 k)=laws_toQueryS_p.l0 (k+1) x0 x3 x4:=by kernel_rfl
def laws_toQuery_p.Gd (pv:Nat->Value) (n:Nat) (k:Nat):Prop:=(∀ (a0:Query) {y:_},laws_toQuery_p.F k a0=some y->Meets Tryd.prog envP (mpv pv n) (.f 8) (tvals [.query] (a0,())) (.pc true .query y))/\(∀ (a0:List Query) {y:_},laws_toQueryS_p.F k a0=some y->Meets Tryd.prog envP (mpv pv n) (.f 23) (tvals [(.sl .query)] (a0,())) (.fr 28 .query y))
theorem laws_toQuery_p.G (hE:EnvOk Tryd.prog envP) (pv:Nat->Value) (n:Nat) (k:Nat) (hI:laws_toQuery_p.Gd pv n k):∀ cal A,laws_toQuery_p.C k cal=some A->ArmOk Tryd.prog envP (mpv pv n) cal A:=by
 intro cal A h
 unfold laws_toQuery_p.C at h
 split at h
 ·cases h; exact fun x y hy=>hI.2 x.1 hy
 ·cases h
theorem laws_toQuery_p.gd (hE:EnvOk Tryd.prog envP) (pv:Nat->Value) (n:Nat) (k:Nat) (hI:∀ k',k'<=k->laws_toQuery_p.Gd pv n k') (a0:Query) {y:_} (h:laws_toQuery_p.F (k+1) a0=some y):Meets Tryd.prog envP (mpv pv n) (.f 8) (tvals [.query] (a0,())) (.pc true .query y) :=
 funPc_plain hE (mpv_O pv n) (mpv_Q pv n) (laws_toQuery_p.G hE pv n k (hI k (Nat.le_refl k))) (f:=8) (fn:=Tryd.f8) (by kernel_rfl) rfl (by kernel_rfl) (by kernel_rfl) ((laws_toQuery_p.run k a0).trans h) (fun r hr=>wk_view1 hr)
theorem laws_toQueryS_p.G (hE:EnvOk Tryd.prog envP) (pv:Nat->Value) (n:Nat) (k:Nat) (hI:laws_toQuery_p.Gd pv n k):∀ cal A,laws_toQueryS_p.C k cal=some A->ArmOk Tryd.prog envP (mpv pv n) cal A:=by
 intro cal A h
 unfold laws_toQueryS_p.C at h
 split at h
 ·cases h; exact fun x y hy=>hI.1 x.1 hy
 ·cases h
theorem laws_toQueryS_p.gd (hE:EnvOk Tryd.prog envP) (pv:Nat->Value) (n:Nat) (k:Nat) (hI:∀ k',k'<=k->laws_toQuery_p.Gd pv n k') (a0:List Query) {y:_} (h:laws_toQueryS_p.F (k+1) a0=some y):Meets Tryd.prog envP (mpv pv n) (.f 23) (tvals [(.sl .query)] (a0,())) (.fr 28 .query y) :=
 fun_loops hE (t:=laws_toQueryS_p.C) k (fun k hk=>laws_toQueryS_p.G hE pv n k (hI k hk)) (f:=23) (fn:=Tryd.f23) (by kernel_rfl) rfl (by kernel_rfl) (by kernel_rfl) (lt:=laws_toQueryS_p.L) (by kernel_rfl) (fun b A h=>by
  unfold laws_toQueryS_p.L at h; split at h
  ·cases h; exact ⟨by kernel_rfl,by kernel_rfl,fun _=>rfl,fun _=>rfl⟩
  ·cases h) (fun b A h=>by
  unfold laws_toQueryS_p.L at h; split at h
  ·cases h; exact fun k x=>laws_toQueryS_p.step0 k x.1 x.2.1 x.2.2.1
  ·cases h) ((laws_toQueryS_p.run k a0).trans h) (fun r hr=>wk_view1 hr)
theorem laws_toQuery_p.all (hE:EnvOk Tryd.prog envP) (pv:Nat->Value) (n:Nat):∀ k k',k'<=k->laws_toQuery_p.Gd pv n k':=by
 intro k
 induction k with
 | zero=>
  intro k' hk
  obtain rfl:k'=0:=by omega
  exact ⟨fun _ y h=>(by cases (show (none:Option _)=some y from h)),fun _ y h=>(by cases (show (none:Option _)=some y from h))⟩
 | succ k ih=>
  intro k' hk
  rcases Nat.lt_or_ge k' (k+1) with hlt | hge
  ·exact ih k' (by omega)
  ·obtain rfl:k'=k+1:=by omega
   exact ⟨fun a0 y h=>laws_toQuery_p.gd hE pv n k ih a0 h,fun a0 y h=>laws_toQueryS_p.gd hE pv n k ih a0 h⟩
theorem laws_toQuery_p.good (hE:EnvOk Tryd.prog envP) (pv:Nat->Value) (n:Nat) (k:Nat) (a0:Query) {y:_} (h:laws_toQuery_p.F k a0=some y):Meets Tryd.prog envP (mpv pv n) (.f 8) (tvals [.query] (a0,())) (.pc true .query y) :=
 (laws_toQuery_p.all hE pv n k k (Nat.le_refl k)).1 a0 h
def impl_isLower.F (a0:Int):Option (Bool):=bif (decide (a0 ≥ 97)) then (some (decide (a0<=122))) else (some false)
def impl_isLower.C:Cal->Option CArm:=fun c=>match c with
 | _=>none
theorem impl_isLower.run (a0:Int):runF envX (tabC impl_isLower.C) (tabL 9 0 (fun _=>none)) Tryd.f73 [.t (.int .u8) a0] (viewR1 (.t .bool))=impl_isLower.F a0:=by kernel_rfl
theorem impl_isLower.G (hE:EnvOk Tryd.prog envX) (pv:Nat->Value):∀ cal A,impl_isLower.C cal=some A->ArmOk Tryd.prog envX pv cal A:=by
 intro cal A h
 unfold impl_isLower.C at h
 cases h
theorem impl_isLower.good (hE:EnvOk Tryd.prog envX) (pv:Nat->Value) (a0:Int) {y:_} (h:impl_isLower.F a0=some y):Meets Tryd.prog envX pv (.f 73) (tvals [(.int .u8)] (a0,())) (.t .bool y) :=
 fun_plain hE (impl_isLower.G hE pv) (f:=73) (fn:=Tryd.f73) (by kernel_rfl) rfl (by kernel_rfl) (by kernel_rfl) ((impl_isLower.run a0).trans h) (fun r hr=>wk_view1 hr)
def impl_isDigit.F (a0:Int):Option (Bool):=bif (decide (a0 ≥ 48)) then (some (decide (a0<=57))) else (some false)
def impl_isDigit.C:Cal->Option CArm:=fun c=>match c with
 | _=>none
theorem impl_isDigit.run (a0:Int):runF envX (tabC impl_isDigit.C) (tabL 9 0 (fun _=>none)) Tryd.f74 [.t (.int .u8) a0] (viewR1 (.t .bool))=impl_isDigit.F a0:=by kernel_rfl
theorem impl_isDigit.G (hE:EnvOk Tryd.prog envX) (pv:Nat->Value):∀ cal A,impl_isDigit.C cal=some A->ArmOk Tryd.prog envX pv cal A:=by
 intro cal A h
 unfold impl_isDigit.C at h
 cases h
theorem impl_isDigit.good (hE:EnvOk Tryd.prog envX) (pv:Nat->Value) (a0:Int) {y:_} (h:impl_isDigit.F a0=some y):Meets Tryd.prog envX pv (.f 74) (tvals [(.int .u8)] (a0,())) (.t .bool y) :=
 fun_plain hE (impl_isDigit.G hE pv) (f:=74) (fn:=Tryd.f74) (by kernel_rfl) rfl (by kernel_rfl) (by kernel_rfl) ((impl_isDigit.run a0).trans h) (fun r hr=>wk_view1 hr)
def impl_inside.F (a0:Int) (a1:Int) (a2:Int):Option (Bool):=bif (decide (a0 ≥ a1)) then (some (decide (a0<=a2))) else (some false)
def impl_inside.C:Cal->Option CArm:=fun c=>match c with
 | _=>none
theorem impl_inside.run (a0:Int) (a1:Int) (a2:Int):runF envX (tabC impl_inside.C) (tabL 15 0 (fun _=>none)) Tryd.f75 [.t (.int .i64) a0,.t (.int .i64) a1,.t (.int .i64) a2] (viewR1 (.t .bool))=impl_inside.F a0 a1 a2:=by kernel_rfl
theorem impl_inside.G (hE:EnvOk Tryd.prog envX) (pv:Nat->Value):∀ cal A,impl_inside.C cal=some A->ArmOk Tryd.prog envX pv cal A:=by
 intro cal A h
 unfold impl_inside.C at h
 cases h
theorem impl_inside.good (hE:EnvOk Tryd.prog envX) (pv:Nat->Value) (a0:Int) (a1:Int) (a2:Int) {y:_} (h:impl_inside.F a0 a1 a2=some y):Meets Tryd.prog envX pv (.f 75) (tvals [(.int .i64),(.int .i64),(.int .i64)] (a0,a1,a2,())) (.t .bool y) :=
 fun_plain hE (impl_inside.G hE pv) (f:=75) (fn:=Tryd.f75) (by kernel_rfl) rfl (by kernel_rfl) (by kernel_rfl) ((impl_inside.run a0 a1 a2).trans h) (fun r hr=>wk_view1 hr)
def impl_isQueryWord.l0:Nat->ByteArray->Int->Option (Sum Bool ByteArray)
 | 0,_,_=>none
 | k+1,x0,x3=>bif (decide (x3<(x0.size:Int))) then (bif decide (0<=x3) then (bif decide (x3<(x0.size:Int)) then ((impl_isLower.F (bt x0 (x3:Int).toNat)).bind fun r1=>bif (!r1) then (bif decide (0<=x3) then (bif decide (x3<(x0.size:Int)) then ((impl_isDigit.F (bt x0 (x3:Int).toNat)).bind fun r2=>bif (!r2) then (some (.inl false)) else (impl_isQueryWord.l0 k x0 (IntKind.wrap .i64 (x3+1)))) else none) else none) else (impl_isQueryWord.l0 k x0 (IntKind.wrap .i64 (x3+1)))) else none) else none) else (some (.inr x0))
def impl_isQueryWord.F (k:Nat) (a0:ByteArray):Option (Bool):=(impl_isQueryWord.l0 k a0 0).bind fun y3=>match y3 with | .inl z4=>some z4 | .inr z4=>(impl_inside.F (z4.size:Int) 1 15).bind fun r5=>bif r5 then (bif (!beqS z4 (⟨#[110,111,116]⟩:ByteArray)) then (bif (!beqS z4 (⟨#[97,110,100]⟩:ByteArray)) then (some (!beqS z4 (⟨#[111,114]⟩:ByteArray))) else (some false)) else (some false)) else (some false)
def impl_isQueryWord.C (k:Nat):Cal->Option CArm:=fun c=>match c with
 | .f 73=>some (.p [(.int .u8)] _ (fun x=>impl_isLower.F x.1) (fun r=>(.t .bool r)))
 | .f 74=>some (.p [(.int .u8)] _ (fun x=>impl_isDigit.F x.1) (fun r=>(.t .bool r)))
 | .f 75=>some (.p [(.int .i64),(.int .i64),(.int .i64)] _ (fun x=>impl_inside.F x.1 x.2.1 x.2.2.1) (fun r=>(.t .bool r)))
 | _=>none
def impl_isQueryWord.sp0:List Sp:=[.t 0 .str,.t 3 (.int .i64)]
def impl_isQueryWord.sp0_0:List Sp:=[.t 2 .bool]
def impl_isQueryWord.sp0_1:List Sp:=[.t 0 .str]
def impl_isQueryWord.A0:LArm:=.two impl_isQueryWord.sp0 impl_isQueryWord.sp0_0 impl_isQueryWord.sp0_1 (Bool) (ByteArray) (fun k x=>impl_isQueryWord.l0 k x.1 x.2.1) .ret (.exit 0) (fun y=>(y,())) (fun x=>x.1) (fun y=>(y,())) (fun x=>x.1)
def impl_isQueryWord.L:Nat->Option LArm:=fun b=>match b with
 | 0=>some impl_isQueryWord.A0
 | _=>none
theorem impl_isQueryWord.run (k:Nat) (a0:ByteArray):runF envX (tabC (impl_isQueryWord.C k)) (tabL 37 k impl_isQueryWord.L) Tryd.f51 [.t .str a0] (viewR1 (.t .bool))=impl_isQueryWord.F k a0:=by kernel_rfl
theorem impl_isQueryWord.step0 (k:Nat) (x0:ByteArray) (x3:Int):runC envX (tabC (impl_isQueryWord.C k)) (tabL 37 k impl_isQueryWord.L) 0 (loopAt Tryd.f51 0) (stOf 37 impl_isQueryWord.sp0 (x0,x3,())) (impl_isQueryWord.A0.cont 37 k)=impl_isQueryWord.l0 (k+1) x0 x3:=by kernel_rfl
theorem impl_isQueryWord.G (hE:EnvOk Tryd.prog envX) (pv:Nat->Value) (k:Nat):∀ cal A,impl_isQueryWord.C k cal=some A->ArmOk Tryd.prog envX pv cal A:=by
 intro cal A h
 unfold impl_isQueryWord.C at h
 split at h
 ·cases h; exact fun x y hy=>impl_isLower.good hE pv x.1 hy
 ·cases h; exact fun x y hy=>impl_isDigit.good hE pv x.1 hy
 ·cases h; exact fun x y hy=>impl_inside.good hE pv x.1 x.2.1 x.2.2.1 hy
 ·cases h
theorem impl_isQueryWord.good (hE:EnvOk Tryd.prog envX) (pv:Nat->Value) (k:Nat) (a0:ByteArray) {y:_} (h:impl_isQueryWord.F k a0=some y):Meets Tryd.prog envX pv (.f 51) (tvals [.str] (a0,())) (.t .bool y) :=
 fun_loops hE (t:=impl_isQueryWord.C) k (fun k _=>impl_isQueryWord.G hE pv k) (f:=51) (fn:=Tryd.f51) (by kernel_rfl) rfl (by kernel_rfl) (by kernel_rfl) (lt:=impl_isQueryWord.L) (by kernel_rfl) (fun b A h=>by
  unfold impl_isQueryWord.L at h; split at h
  ·cases h; exact ⟨by kernel_rfl,by kernel_rfl,by kernel_rfl,fun _=>rfl,fun _=>rfl,fun _=>rfl⟩
  ·cases h) (fun b A h=>by
  unfold impl_isQueryWord.L at h; split at h
  ·cases h; exact fun k x=>impl_isQueryWord.step0 k x.1 x.2.1
  ·cases h) ((impl_isQueryWord.run k a0).trans h) (fun r hr=>wk_view1 hr)
def slices_Index_string.l0:Nat->(List ByteArray)->ByteArray->Int->Int->Option (Sum Int Unit)
 | 0,_,_,_,_=>none
 | k+1,x0,x1,x7,x8=>bif (decide (x8<x7)) then (bif decide (0<=x8) then (bif decide (x8<(x0.length:Int)) then (bif (beqS x1 (x0.getD (x8:Int).toNat (⟨#[]⟩:ByteArray))) then (some (.inl x8)) else (slices_Index_string.l0 k x0 x1 x7 (IntKind.wrap .i64 (x8+1)))) else none) else none) else (some (.inr ()))
def slices_Index_string.F (k:Nat) (a0:List ByteArray) (a1:ByteArray):Option (Int):=(slices_Index_string.l0 k a0 a1 (a0.length:Int) 0).bind fun y1=>match y1 with | .inl z2=>some z2 | .inr z2=>some (-1)
def slices_Index_string.C (k:Nat):Cal->Option CArm:=fun c=>match c with
 | _=>none
def slices_Index_string.sp0:List Sp:=[.t 0 (.sl .str),.t 1 .str,.t 7 (.int .i64),.t 8 (.int .i64)]
def slices_Index_string.sp0_0:List Sp:=[.t 4 (.int .i64)]
def slices_Index_string.sp0_1:List Sp:=[]
def slices_Index_string.A0:LArm:=.two slices_Index_string.sp0 slices_Index_string.sp0_0 slices_Index_string.sp0_1 (Int) (Unit) (fun k x=>slices_Index_string.l0 k x.1 x.2.1 x.2.2.1 x.2.2.2.1) .ret (.exit 0) (fun y=>(y,())) (fun x=>x.1) (fun y=>()) (fun x=>())
def slices_Index_string.L:Nat->Option LArm:=fun b=>match b with
 | 0=>some slices_Index_string.A0
 | _=>none
theorem slices_Index_string.run (k:Nat) (a0:List ByteArray) (a1:ByteArray):runF envX (tabC (slices_Index_string.C k)) (tabL 19 k slices_Index_string.L) Tryd.f91 [.t (.sl .str) a0,.t .str a1] (viewR1 (.t (.int .i64)))=slices_Index_string.F k a0 a1:=by kernel_rfl
theorem slices_Index_string.step0 (k:Nat) (x0:List ByteArray) (x1:ByteArray) (x7:Int) (x8:Int):runC envX (tabC (slices_Index_string.C k)) (tabL 19 k slices_Index_string.L) 0 (loopAt Tryd.f91 0) (stOf 19 slices_Index_string.sp0 (x0,x1,x7,x8,())) (slices_Index_string.A0.cont 19 k)=slices_Index_string.l0 (k+1) x0 x1 x7 x8:=by kernel_rfl
theorem slices_Index_string.G (hE:EnvOk Tryd.prog envX) (pv:Nat->Value) (k:Nat):∀ cal A,slices_Index_string.C k cal=some A->ArmOk Tryd.prog envX pv cal A:=by
 intro cal A h
 unfold slices_Index_string.C at h
 cases h
theorem slices_Index_string.good (hE:EnvOk Tryd.prog envX) (pv:Nat->Value) (k:Nat) (a0:List ByteArray) (a1:ByteArray) {y:_} (h:slices_Index_string.F k a0 a1=some y):Meets Tryd.prog envX pv (.f 91) (tvals [(.sl .str),.str] (a0,a1,())) (.t (.int .i64) y) :=
 fun_loops hE (t:=slices_Index_string.C) k (fun k _=>slices_Index_string.G hE pv k) (f:=91) (fn:=Tryd.f91) (by kernel_rfl) rfl (by kernel_rfl) (by kernel_rfl) (lt:=slices_Index_string.L) (by kernel_rfl) (fun b A h=>by
  unfold slices_Index_string.L at h; split at h
  ·cases h; exact ⟨by kernel_rfl,by kernel_rfl,by kernel_rfl,fun _=>rfl,fun _=>rfl,fun _=>rfl⟩
  ·cases h) (fun b A h=>by
  unfold slices_Index_string.L at h; split at h
  ·cases h; exact fun k x=>slices_Index_string.step0 k x.1 x.2.1 x.2.2.1 x.2.2.2.1
  ·cases h) ((slices_Index_string.run k a0 a1).trans h) (fun r hr=>wk_view1 hr)
def slices_Contains_string.F (k:Nat) (a0:List ByteArray) (a1:ByteArray):Option (Bool):=(slices_Index_string.F k a0 a1).bind fun r1=>some (decide (r1 ≥ 0))
def slices_Contains_string.C (k:Nat):Cal->Option CArm:=fun c=>match c with
 | .f 91=>some (.p [(.sl .str),.str] _ (fun x=>slices_Index_string.F k x.1 x.2.1) (fun r=>(.t (.int .i64) r)))
 | _=>none
theorem slices_Contains_string.run (k:Nat) (a0:List ByteArray) (a1:ByteArray):runF envX (tabC (slices_Contains_string.C k)) (tabL 9 0 (fun _=>none)) Tryd.f76 [.t (.sl .str) a0,.t .str a1] (viewR1 (.t .bool))=slices_Contains_string.F k a0 a1:=by kernel_rfl
theorem slices_Contains_string.G (hE:EnvOk Tryd.prog envX) (pv:Nat->Value) (k:Nat):∀ cal A,slices_Contains_string.C k cal=some A->ArmOk Tryd.prog envX pv cal A:=by
 intro cal A h
 unfold slices_Contains_string.C at h
 split at h
 ·cases h; exact fun x y hy=>slices_Index_string.good hE pv k x.1 x.2.1 hy
 ·cases h
theorem slices_Contains_string.good (hE:EnvOk Tryd.prog envX) (pv:Nat->Value) (k:Nat) (a0:List ByteArray) (a1:ByteArray) {y:_} (h:slices_Contains_string.F k a0 a1=some y):Meets Tryd.prog envX pv (.f 76) (tvals [(.sl .str),.str] (a0,a1,())) (.t .bool y) :=
 fun_plain hE (slices_Contains_string.G hE pv k) (f:=76) (fn:=Tryd.f76) (by kernel_rfl) rfl (by kernel_rfl) (by kernel_rfl) ((slices_Contains_string.run k a0 a1).trans h) (fun r hr=>wk_view1 hr)
def impl_isField.F (k:Nat) (a0:ByteArray):Option (Bool):=(slices_Contains_string.F k glV0 a0).bind fun r1=>some r1
def impl_isField.C (k:Nat):Cal->Option CArm:=fun c=>match c with
 | .f 76=>some (.p [(.sl .str),.str] _ (fun x=>slices_Contains_string.F k x.1 x.2.1) (fun r=>(.t .bool r)))
 | _=>none
theorem impl_isField.run (k:Nat) (a0:ByteArray):runF envX (tabC (impl_isField.C k)) (tabL 6 0 (fun _=>none)) Tryd.f52 [.t .str a0] (viewR1 (.t .bool))=impl_isField.F k a0:=by kernel_rfl
theorem impl_isField.G (hE:EnvOk Tryd.prog envX) (pv:Nat->Value) (k:Nat):∀ cal A,impl_isField.C k cal=some A->ArmOk Tryd.prog envX pv cal A:=by
 intro cal A h
 unfold impl_isField.C at h
 split at h
 ·cases h; exact fun x y hy=>slices_Contains_string.good hE pv k x.1 x.2.1 hy
 ·cases h
theorem impl_isField.good (hE:EnvOk Tryd.prog envX) (pv:Nat->Value) (k:Nat) (a0:ByteArray) {y:_} (h:impl_isField.F k a0=some y):Meets Tryd.prog envX pv (.f 52) (tvals [.str] (a0,())) (.t .bool y) :=
 fun_plain hE (impl_isField.G hE pv k) (f:=52) (fn:=Tryd.f52) (by kernel_rfl) rfl (by kernel_rfl) (by kernel_rfl) ((impl_isField.run k a0).trans h) (fun r hr=>wk_view1 hr)
mutual
def impl_queries.F:Nat->Query->Int->Option (Int × Bool)
 | 0,_,_=>none
 | k+1,a0,a1=>bif (decide (a1<1)) then (some (0,false)) else (bif (a0.op==1) then ((impl_isQueryWord.F k a0.word).bind fun r1=>bif r1 then (bif (beqS a0.field (⟨#[]⟩:ByteArray)) then ((impl_queries.l1 k a1 ((a0.parts.length:Int)==0) 1 a0.parts (a0.parts.length:Int) 0).bind fun y3=>match y3 with | .inl z4=>some (z4.1,z4.2) | .inr z4=>some (z4.2,z4.1)) else ((impl_isField.F k a0.field).bind fun r5=>bif r5 then ((impl_queries.l1 k a1 ((a0.parts.length:Int)==0) 1 a0.parts (a0.parts.length:Int) 0).bind fun y7=>match y7 with | .inl z8=>some (z8.1,z8.2) | .inr z8=>some (z8.2,z8.1)) else ((impl_queries.l1 k a1 false 1 a0.parts (a0.parts.length:Int) 0).bind fun y10=>match y10 with | .inl z11=>some (z11.1,z11.2) | .inr z11=>some (z11.2,z11.1)))) else ((impl_queries.l1 k a1 false 1 a0.parts (a0.parts.length:Int) 0).bind fun y13=>match y13 with | .inl z14=>some (z14.1,z14.2) | .inr z14=>some (z14.2,z14.1))) else (bif (a0.op==2) then (bif (beqS a0.word (⟨#[]⟩:ByteArray)) then (bif (beqS a0.field (⟨#[]⟩:ByteArray)) then ((impl_queries.l1 k a1 ((a0.parts.length:Int)==1) 1 a0.parts (a0.parts.length:Int) 0).bind fun y16=>match y16 with | .inl z17=>some (z17.1,z17.2) | .inr z17=>some (z17.2,z17.1)) else ((impl_queries.l1 k a1 false 1 a0.parts (a0.parts.length:Int) 0).bind fun y19=>match y19 with | .inl z20=>some (z20.1,z20.2) | .inr z20=>some (z20.2,z20.1))) else ((impl_queries.l1 k a1 false 1 a0.parts (a0.parts.length:Int) 0).bind fun y22=>match y22 with | .inl z23=>some (z23.1,z23.2) | .inr z23=>some (z23.2,z23.1))) else (bif (a0.op==3) then (bif (a0.op==3) then (bif (beqS a0.word (⟨#[]⟩:ByteArray)) then (bif (beqS a0.field (⟨#[]⟩:ByteArray)) then ((impl_queries.l1 k a1 ((a0.parts.length:Int)==2) 1 a0.parts (a0.parts.length:Int) 0).bind fun y25=>match y25 with | .inl z26=>some (z26.1,z26.2) | .inr z26=>some (z26.2,z26.1)) else ((impl_queries.l1 k a1 false 1 a0.parts (a0.parts.length:Int) 0).bind fun y28=>match y28 with | .inl z29=>some (z29.1,z29.2) | .inr z29=>some (z29.2,z29.1))) else ((impl_queries.l1 k a1 false 1 a0.parts (a0.parts.length:Int) 0).bind fun y31=>match y31 with | .inl z32=>some (z32.1,z32.2) | .inr z32=>some (z32.2,z32.1))) else ((impl_queries.l1 k a1 false 1 a0.parts (a0.parts.length:Int) 0).bind fun y34=>match y34 with | .inl z35=>some (z35.1,z35.2) | .inr z35=>some (z35.2,z35.1))) else (bif (a0.op==4) then (bif (beqS a0.word (⟨#[]⟩:ByteArray)) then (bif (beqS a0.field (⟨#[]⟩:ByteArray)) then ((impl_queries.l1 k a1 ((a0.parts.length:Int)==2) 1 a0.parts (a0.parts.length:Int) 0).bind fun y37=>match y37 with | .inl z38=>some (z38.1,z38.2) | .inr z38=>some (z38.2,z38.1)) else ((impl_queries.l1 k a1 false 1 a0.parts (a0.parts.length:Int) 0).bind fun y40=>match y40 with | .inl z41=>some (z41.1,z41.2) | .inr z41=>some (z41.2,z41.1))) else ((impl_queries.l1 k a1 false 1 a0.parts (a0.parts.length:Int) 0).bind fun y43=>match y43 with | .inl z44=>some (z44.1,z44.2) | .inr z44=>some (z44.2,z44.1))) else ((impl_queries.l1 k a1 false 1 a0.parts (a0.parts.length:Int) 0).bind fun y46=>match y46 with | .inl z47=>some (z47.1,z47.2) | .inr z47=>some (z47.2,z47.1))))))
def impl_queries.l1:Nat->Int->Bool->Int->(List Query)->Int->Int->Option (Sum (Int × Bool) (Bool × Int))
 | 0,_,_,_,_,_,_=>none
 | k+1,x1,x6,x7,x71,x72,x73=>bif (decide (x73<x72)) then (bif decide (0<=x73) then (bif decide (x73<(x71.length:Int)) then (bif (!x6) then (some (.inl (0,false))) else ((impl_queries.F k (x71.getD (x73:Int).toNat (dflt .query)) (IntKind.wrap .i64 (x1-x7))).bind fun r45=>impl_queries.l1 k x1 r45.2 (IntKind.wrap .i64 (x7+r45.1)) x71 x72 (IntKind.wrap .i64 (x73+1)))) else none) else none) else (some (.inr (x6,x7)))
end
def impl_queries.C (k:Nat):Cal->Option CArm:=fun c=>match c with
 | .f 51=>some (.p [.str] _ (fun x=>impl_isQueryWord.F k x.1) (fun r=>(.t .bool r)))
 | .f 40=>some (.p [.query,(.int .i64)] _ (fun x=>impl_queries.F k x.1 x.2.1) (fun r=>(.tup [.t (.int .i64) r.1,.t .bool r.2])))
 | .f 52=>some (.p [.str] _ (fun x=>impl_isField.F k x.1) (fun r=>(.t .bool r)))
 | _=>none
def impl_queries.sp1:List Sp:=[.t 1 (.int .i64),.t 6 .bool,.t 7 (.int .i64),.t 71 (.sl .query),.t 72 (.int .i64),.t 73 (.int .i64)]
def impl_queries.sp1_0:List Sp:=[.t 4 (.int .i64),.t 5 .bool]
def impl_queries.sp1_1:List Sp:=[.t 6 .bool,.t 7 (.int .i64)]
def impl_queries.A1:LArm:=.two impl_queries.sp1 impl_queries.sp1_0 impl_queries.sp1_1 (Int × Bool) (Bool × Int) (fun k x=>impl_queries.l1 k x.1 x.2.1 x.2.2.1 x.2.2.2.1 x.2.2.2.2.1 x.2.2.2.2.2.1) .ret (.exit 1) (fun y=>(y.1,y.2,())) (fun x=>(x.1,x.2.1)) (fun y=>(y.1,y.2,())) (fun x=>(x.1,x.2.1))
def impl_queries.L:Nat->Option LArm:=fun b=>match b with
 | 1=>some impl_queries.A1
 | _=>none
theorem impl_queries.run (k:Nat) (a0:Query) (a1:Int):runF envX (tabC (impl_queries.C k)) (tabL 94 k impl_queries.L) Tryd.f40 [.t .query a0,.t (.int .i64) a1] (viewR2 (.t (.int .i64)) (.t .bool))=impl_queries.F (k+1) a0 a1:=by kernel_rfl
theorem impl_queries.step1 (k:Nat) (x1:Int) (x6:Bool) (x7:Int) (x71:List Query) (x72:Int) (x73:Int):runC envX (tabC (impl_queries.C k)) (tabL 94 k impl_queries.L) 1 (loopAt Tryd.f40 1) (stOf 94 impl_queries.sp1 (x1,x6,x7,x71,x72,x73,())) (impl_queries.A1.cont 94 k)=impl_queries.l1 (k+1) x1 x6 x7 x71 x72 x73:=by kernel_rfl
def impl_queries.Gd (pv:Nat->Value) (k:Nat):Prop:=(∀ (a0:Query) (a1:Int) {y:_},impl_queries.F k a0 a1=some y->Meets Tryd.prog envX pv (.f 40) (tvals [.query,(.int .i64)] (a0,a1,())) (.tup [.t (.int .i64) y.1,.t .bool y.2]))
theorem impl_queries.G (hE:EnvOk Tryd.prog envX) (pv:Nat->Value) (k:Nat) (hI:impl_queries.Gd pv k):∀ cal A,impl_queries.C k cal=some A->ArmOk Tryd.prog envX pv cal A:=by
 intro cal A h
 unfold impl_queries.C at h
 split at h
 ·cases h; exact fun x y hy=>impl_isQueryWord.good hE pv k x.1 hy
 ·cases h; exact fun x y hy=>hI x.1 x.2.1 hy
 ·cases h; exact fun x y hy=>impl_isField.good hE pv k x.1 hy
 ·cases h
theorem impl_queries.gd (hE:EnvOk Tryd.prog envX) (pv:Nat->Value) (k:Nat) (hI:∀ k',k'<=k->impl_queries.Gd pv k') (a0:Query) (a1:Int) {y:_} (h:impl_queries.F (k+1) a0 a1=some y):Meets Tryd.prog envX pv (.f 40) (tvals [.query,(.int .i64)] (a0,a1,())) (.tup [.t (.int .i64) y.1,.t .bool y.2]) :=
 fun_loops hE (t:=impl_queries.C) k (fun k hk=>impl_queries.G hE pv k (hI k hk)) (f:=40) (fn:=Tryd.f40) (by kernel_rfl) rfl (by kernel_rfl) (by kernel_rfl) (lt:=impl_queries.L) (by kernel_rfl) (fun b A h=>by
  unfold impl_queries.L at h; split at h
  ·cases h; exact ⟨by kernel_rfl,by kernel_rfl,by kernel_rfl,fun _=>rfl,fun _=>rfl,fun _=>rfl⟩
  ·cases h) (fun b A h=>by
  unfold impl_queries.L at h; split at h
  ·cases h; exact fun k x=>impl_queries.step1 k x.1 x.2.1 x.2.2.1 x.2.2.2.1 x.2.2.2.2.1 x.2.2.2.2.2.1
  ·cases h) ((impl_queries.run k a0 a1).trans h) (fun r hr=>wk_view2 hr)
theorem impl_queries.all (hE:EnvOk Tryd.prog envX) (pv:Nat->Value):∀ k k',k'<=k->impl_queries.Gd pv k':=by
 intro k
 induction k with
 | zero=>
  intro k' hk
  obtain rfl:k'=0:=by omega
  exact fun _ _ y h=>by cases (show (none:Option _)=some y from h)
 | succ k ih=>
  intro k' hk
  rcases Nat.lt_or_ge k' (k+1) with hlt | hge
  ·exact ih k' (by omega)
  ·obtain rfl:k'=k+1:=by omega
   exact fun a0 a1 y h=>impl_queries.gd hE pv k ih a0 a1 h
theorem impl_queries.good (hE:EnvOk Tryd.prog envX) (pv:Nat->Value) (k:Nat) (a0:Query) (a1:Int) {y:_} (h:impl_queries.F k a0 a1=some y):Meets Tryd.prog envX pv (.f 40) (tvals [.query,(.int .i64)] (a0,a1,())) (.tup [.t (.int .i64) y.1,.t .bool y.2]) :=
 (impl_queries.all hE pv k k (Nat.le_refl k)) a0 a1 h
def impl_IsValidQuery.F (k:Nat) (a0:Query):Option (Bool):=(impl_queries.F k a0 15).bind fun r1=>some r1.2
def impl_IsValidQuery.C (k:Nat):Cal->Option CArm:=fun c=>match c with
 | .f 40=>some (.p [.query,(.int .i64)] _ (fun x=>impl_queries.F k x.1 x.2.1) (fun r=>(.tup [.t (.int .i64) r.1,.t .bool r.2])))
 | _=>none
theorem impl_IsValidQuery.run (k:Nat) (a0:Query):runF envX (tabC (impl_IsValidQuery.C k)) (tabL 11 0 (fun _=>none)) Tryd.f24 [.t .query a0] (viewR1 (.t .bool))=impl_IsValidQuery.F k a0:=by kernel_rfl
theorem impl_IsValidQuery.G (hE:EnvOk Tryd.prog envX) (pv:Nat->Value) (k:Nat):∀ cal A,impl_IsValidQuery.C k cal=some A->ArmOk Tryd.prog envX pv cal A:=by
 intro cal A h
 unfold impl_IsValidQuery.C at h
 split at h
 ·cases h; exact fun x y hy=>impl_queries.good hE pv k x.1 x.2.1 hy
 ·cases h
theorem impl_IsValidQuery.good (hE:EnvOk Tryd.prog envX) (pv:Nat->Value) (k:Nat) (a0:Query) {y:_} (h:impl_IsValidQuery.F k a0=some y):Meets Tryd.prog envX pv (.f 24) (tvals [.query] (a0,())) (.t .bool y) :=
 fun_plain hE (impl_IsValidQuery.G hE pv k) (f:=24) (fn:=Tryd.f24) (by kernel_rfl) rfl (by kernel_rfl) (by kernel_rfl) ((impl_IsValidQuery.run k a0).trans h) (fun r hr=>wk_view1 hr)
mutual
def impl_formatQuery.F:Nat->Query->Option (ByteArray)
 | 0,_=>none
 | k+1,a0=>bif (a0.op==1) then (bif (beqS a0.field (⟨#[]⟩:ByteArray)) then (some a0.word) else (bif Nat.ble (a0.field.size+(⟨#[58]⟩:ByteArray).size) 9223372036854775807 then (bif Nat.ble ((a0.field++(⟨#[58]⟩:ByteArray)).size+a0.word.size) 9223372036854775807 then (some ((a0.field++(⟨#[58]⟩:ByteArray))++a0.word)) else none) else none)) else (bif (a0.op==2) then (bif decide (0<=0) then (bif decide (0<(a0.parts.length:Int)) then ((impl_formatQuery.F k (a0.parts.getD (0:Int).toNat (dflt .query))).bind fun r1=>bif Nat.ble ((⟨#[110,111,116,32]⟩:ByteArray).size+r1.size) 9223372036854775807 then (some ((⟨#[110,111,116,32]⟩:ByteArray)++r1)) else none) else none) else none) else (bif (a0.op==3) then (bif decide (0<=0) then (bif decide (0<(a0.parts.length:Int)) then ((impl_formatQuery.F k (a0.parts.getD (0:Int).toNat (dflt .query))).bind fun r2=>bif Nat.ble ((⟨#[40]⟩:ByteArray).size+r2.size) 9223372036854775807 then (bif Nat.ble (((⟨#[40]⟩:ByteArray)++r2).size+(⟨#[32,97,110,100,32]⟩:ByteArray).size) 9223372036854775807 then (bif decide (0<=1) then (bif decide (1<(a0.parts.length:Int)) then ((impl_formatQuery.F k (a0.parts.getD (1:Int).toNat (dflt .query))).bind fun r3=>bif Nat.ble ((((⟨#[40]⟩:ByteArray)++r2)++(⟨#[32,97,110,100,32]⟩:ByteArray)).size+r3.size) 9223372036854775807 then (bif Nat.ble (((((⟨#[40]⟩:ByteArray)++r2)++(⟨#[32,97,110,100,32]⟩:ByteArray))++r3).size+(⟨#[41]⟩:ByteArray).size) 9223372036854775807 then (some (((((⟨#[40]⟩:ByteArray)++r2)++(⟨#[32,97,110,100,32]⟩:ByteArray))++r3)++(⟨#[41]⟩:ByteArray))) else none) else none) else none) else none) else none) else none) else none) else none) else (bif decide (0<=0) then (bif decide (0<(a0.parts.length:Int)) then ((impl_formatQuery.F k (a0.parts.getD (0:Int).toNat (dflt .query))).bind fun r4=>bif Nat.ble ((⟨#[40]⟩:ByteArray).size+r4.size) 9223372036854775807 then (bif Nat.ble (((⟨#[40]⟩:ByteArray)++r4).size+(⟨#[32,111,114,32]⟩:ByteArray).size) 9223372036854775807 then (bif decide (0<=1) then (bif decide (1<(a0.parts.length:Int)) then ((impl_formatQuery.F k (a0.parts.getD (1:Int).toNat (dflt .query))).bind fun r5=>bif Nat.ble ((((⟨#[40]⟩:ByteArray)++r4)++(⟨#[32,111,114,32]⟩:ByteArray)).size+r5.size) 9223372036854775807 then (bif Nat.ble (((((⟨#[40]⟩:ByteArray)++r4)++(⟨#[32,111,114,32]⟩:ByteArray))++r5).size+(⟨#[41]⟩:ByteArray).size) 9223372036854775807 then (some (((((⟨#[40]⟩:ByteArray)++r4)++(⟨#[32,111,114,32]⟩:ByteArray))++r5)++(⟨#[41]⟩:ByteArray))) else none) else none) else none) else none) else none) else none) else none) else none)))
end
def impl_formatQuery.C (k:Nat):Cal->Option CArm:=fun c=>match c with
 | .f 31=>some (.p [.query] _ (fun x=>impl_formatQuery.F k x.1) (fun r=>(.t .str r)))
 | _=>none
theorem impl_formatQuery.run (k:Nat) (a0:Query):runF envX (tabC (impl_formatQuery.C k)) (tabL 56 0 (fun _=>none)) Tryd.f31 [.t .query a0] (viewR1 (.t .str))=impl_formatQuery.F (k+1) a0:=by kernel_rfl
def impl_formatQuery.Gd (pv:Nat->Value) (k:Nat):Prop:=(∀ (a0:Query) {y:_},impl_formatQuery.F k a0=some y->Meets Tryd.prog envX pv (.f 31) (tvals [.query] (a0,())) (.t .str y))
theorem impl_formatQuery.G (hE:EnvOk Tryd.prog envX) (pv:Nat->Value) (k:Nat) (hI:impl_formatQuery.Gd pv k):∀ cal A,impl_formatQuery.C k cal=some A->ArmOk Tryd.prog envX pv cal A:=by
 intro cal A h
 unfold impl_formatQuery.C at h
 split at h
 ·cases h; exact fun x y hy=>hI x.1 hy
 ·cases h
theorem impl_formatQuery.gd (hE:EnvOk Tryd.prog envX) (pv:Nat->Value) (k:Nat) (hI:∀ k',k'<=k->impl_formatQuery.Gd pv k') (a0:Query) {y:_} (h:impl_formatQuery.F (k+1) a0=some y):Meets Tryd.prog envX pv (.f 31) (tvals [.query] (a0,())) (.t .str y) :=
 fun_plain hE (impl_formatQuery.G hE pv k (hI k (Nat.le_refl k))) (f:=31) (fn:=Tryd.f31) (by kernel_rfl) rfl (by kernel_rfl) (by kernel_rfl) ((impl_formatQuery.run k a0).trans h) (fun r hr=>wk_view1 hr)
theorem impl_formatQuery.all (hE:EnvOk Tryd.prog envX) (pv:Nat->Value):∀ k k',k'<=k->impl_formatQuery.Gd pv k':=by
 intro k
 induction k with
 | zero=>
  intro k' hk
  obtain rfl:k'=0:=by omega
  exact fun _ y h=>by cases (show (none:Option _)=some y from h)
 | succ k ih=>
  intro k' hk
  rcases Nat.lt_or_ge k' (k+1) with hlt | hge
  ·exact ih k' (by omega)
  ·obtain rfl:k'=k+1:=by omega
   exact fun a0 y h=>impl_formatQuery.gd hE pv k ih a0 h
theorem impl_formatQuery.good (hE:EnvOk Tryd.prog envX) (pv:Nat->Value) (k:Nat) (a0:Query) {y:_} (h:impl_formatQuery.F k a0=some y):Meets Tryd.prog envX pv (.f 31) (tvals [.query] (a0,())) (.t .str y) :=
 (impl_formatQuery.all hE pv k k (Nat.le_refl k)) a0 h
mutual
def impl_simplifyQuery.F:Nat->Query->Option (Query)
 | 0,_=>none
 | k+1,a0=>(impl_simplifyQuery.l0 k a0 0 (⟨#[]⟩:ByteArray) (⟨#[]⟩:ByteArray) ([]:List Query) ([]:List Query) a0.parts (a0.parts.length:Int) 0).bind fun y2=>bif (y2.1.op==2) then (bif decide (0<=0) then (bif decide (0<(y2.2.2.2.2.2.length:Int)) then (bif (((y2.2.2.2.2.2.getD ((0:Int).toNat) (dflt .query)).op)==2) then (bif decide (0<=0) then (bif decide (0<(y2.2.2.2.2.2.length:Int)) then (bif decide (0<=0) then (bif decide (0<(((y2.2.2.2.2.2.getD ((0:Int).toNat) (dflt .query)).parts).length:Int)) then (some (((y2.2.2.2.2.2.getD ((0:Int).toNat) (dflt .query)).parts).getD (0:Int).toNat (dflt .query))) else none) else none) else none) else none) else (bif (y2.1.op==3) then (bif decide (0<=0) then (bif decide (0<(y2.2.2.2.2.2.length:Int)) then ((impl_formatQuery.F k (y2.2.2.2.2.2.getD ((0:Int).toNat) (dflt .query))).bind fun r3=>bif decide (0<=1) then (bif decide (1<(y2.2.2.2.2.2.length:Int)) then ((impl_formatQuery.F k (y2.2.2.2.2.2.getD ((1:Int).toNat) (dflt .query))).bind fun r4=>bif (beqS r3 r4) then (bif decide (0<=0) then (bif decide (0<(y2.2.2.2.2.2.length:Int)) then (some (y2.2.2.2.2.2.getD ((0:Int).toNat) (dflt .query))) else none) else none) else (some (Query.mk y2.1.op y2.1.field y2.1.word y2.2.2.2.2.2))) else none) else none) else none) else none) else (bif (y2.1.op==4) then (bif decide (0<=0) then (bif decide (0<(y2.2.2.2.2.2.length:Int)) then ((impl_formatQuery.F k (y2.2.2.2.2.2.getD ((0:Int).toNat) (dflt .query))).bind fun r5=>bif decide (0<=1) then (bif decide (1<(y2.2.2.2.2.2.length:Int)) then ((impl_formatQuery.F k (y2.2.2.2.2.2.getD ((1:Int).toNat) (dflt .query))).bind fun r6=>bif (beqS r5 r6) then (bif decide (0<=0) then (bif decide (0<(y2.2.2.2.2.2.length:Int)) then (some (y2.2.2.2.2.2.getD ((0:Int).toNat) (dflt .query))) else none) else none) else (some (Query.mk y2.1.op y2.1.field y2.1.word y2.2.2.2.2.2))) else none) else none) else none) else none) else (some (Query.mk y2.1.op y2.1.field y2.1.word y2.2.2.2.2.2))))) else none) else none) else (bif (y2.1.op==3) then (bif decide (0<=0) then (bif decide (0<(y2.2.2.2.2.2.length:Int)) then ((impl_formatQuery.F k (y2.2.2.2.2.2.getD ((0:Int).toNat) (dflt .query))).bind fun r7=>bif decide (0<=1) then (bif decide (1<(y2.2.2.2.2.2.length:Int)) then ((impl_formatQuery.F k (y2.2.2.2.2.2.getD ((1:Int).toNat) (dflt .query))).bind fun r8=>bif (beqS r7 r8) then (bif decide (0<=0) then (bif decide (0<(y2.2.2.2.2.2.length:Int)) then (some (y2.2.2.2.2.2.getD ((0:Int).toNat) (dflt .query))) else none) else none) else (some (Query.mk y2.1.op y2.1.field y2.1.word y2.2.2.2.2.2))) else none) else none) else none) else none) else (bif (y2.1.op==4) then (bif decide (0<=0) then (bif decide (0<(y2.2.2.2.2.2.length:Int)) then ((impl_formatQuery.F k (y2.2.2.2.2.2.getD ((0:Int).toNat) (dflt .query))).bind fun r9=>bif decide (0<=1) then (bif decide (1<(y2.2.2.2.2.2.length:Int)) then ((impl_formatQuery.F k (y2.2.2.2.2.2.getD ((1:Int).toNat) (dflt .query))).bind fun r10=>bif (beqS r9 r10) then (bif decide (0<=0) then (bif decide (0<(y2.2.2.2.2.2.length:Int)) then (some (y2.2.2.2.2.2.getD ((0:Int).toNat) (dflt .query))) else none) else none) else (some (Query.mk y2.1.op y2.1.field y2.1.word y2.2.2.2.2.2))) else none) else none) else none) else none) else (some (Query.mk y2.1.op y2.1.field y2.1.word y2.2.2.2.2.2))))
def impl_simplifyQuery.l0:Nat->Query->Int->ByteArray->ByteArray->(List Query)->(List Query)->(List Query)->Int->Int->Option (Query × Int × ByteArray × ByteArray × (List Query) × (List Query))
 | 0,_,_,_,_,_,_,_,_,_=>none
 | k+1,x1,x2_0,x2_1,x2_2,x2_3,x3,x8,x9,x10=>bif (decide (x10<x9)) then (bif decide (0<=x10) then (bif decide (x10<(x8.length:Int)) then ((impl_simplifyQuery.F k (x8.getD (x10:Int).toNat (dflt .query))).bind fun r1=>bif room (x3.length+([r1]:List Query).length) .query then (impl_simplifyQuery.l0 k x1 x2_0 x2_1 x2_2 x2_3 (x3++([r1]:List Query)) x8 x9 (IntKind.wrap .i64 (x10+1))) else none) else none) else none) else (some (x1,x2_0,x2_1,x2_2,x2_3,x3))
end
def impl_simplifyQuery.C (k:Nat):Cal->Option CArm:=fun c=>match c with
 | .f 25=>some (.p [.query] _ (fun x=>impl_simplifyQuery.F k x.1) (fun r=>(.t .query r)))
 | .f 31=>some (.p [.query] _ (fun x=>impl_formatQuery.F k x.1) (fun r=>(.t .str r)))
 | _=>none
mutual
def laws_eqQuery.F:Nat->Query->Query->Option (Bool)
 | 0,_,_=>none
 | k+1,a0,a1=>bif (a0.op != a1.op) then (some false) else (bif (!beqS a0.field a1.field) then (some false) else (bif (!beqS a0.word a1.word) then (some false) else ((laws_eqQueryS.F k a0.parts a1.parts).bind fun r1=>bif (!r1) then (some false) else (some true))))
def laws_eqQueryS.F:Nat->(List Query)->(List Query)->Option (Bool)
 | 0,_,_=>none
 | k+1,a0,a1=>bif ((a0.length:Int) != (a1.length:Int)) then (some false) else ((laws_eqQueryS.l0 k a0 a1 0).bind fun y2=>match y2 with | .inl z3=>some z3 | .inr z3=>some true)
def laws_eqQueryS.l0:Nat->(List Query)->(List Query)->Int->Option (Sum Bool Unit)
 | 0,_,_,_=>none
 | k+1,x0,x1,x5=>bif (decide (x5<(x0.length:Int))) then (bif decide (0<=x5) then (bif decide (x5<(x0.length:Int)) then (bif decide (0<=x5) then (bif decide (x5<(x1.length:Int)) then ((laws_eqQuery.F k (x0.getD (x5:Int).toNat (dflt .query)) (x1.getD (x5:Int).toNat (dflt .query))).bind fun r1=>bif (!r1) then (some (.inl false)) else (laws_eqQueryS.l0 k x0 x1 (IntKind.wrap .i64 (x5+1)))) else none) else none) else none) else none) else (some (.inr ()))
end
def laws_eqQuery.C (k:Nat):Cal->Option CArm:=fun c=>match c with
 | .f 26=>some (.p [(.sl .query),(.sl .query)] _ (fun x=>laws_eqQueryS.F k x.1 x.2.1) (fun r=>(.t .bool r)))
 | _=>none
theorem laws_eqQuery.run (k:Nat) (a0:Query) (a1:Query):runF envX (tabC (laws_eqQuery.C k)) (tabL 26 0 (fun _=>none)) Tryd.f10 [.t .query a0,.t .query a1] (viewR1 (.t .bool))=laws_eqQuery.F (k+1) a0 a1:=by kernel_rfl
def laws_eqQueryS.C (k:Nat):Cal->Option CArm:=fun c=>match c with
 | .f 10=>some (.p [.query,.query] _ (fun x=>laws_eqQuery.F k x.1 x.2.1) (fun r=>(.t .bool r)))
 | _=>none
def laws_eqQueryS.sp0:List Sp:=[.t 0 (.sl .query),.t 1 (.sl .query),.t 5 (.int .i64)]
def laws_eqQueryS.sp0_0:List Sp:=[.t 4 .bool]
def laws_eqQueryS.sp0_1:List Sp:=[]
def laws_eqQueryS.A0:LArm:=.two laws_eqQueryS.sp0 laws_eqQueryS.sp0_0 laws_eqQueryS.sp0_1 (Bool) (Unit) (fun k x=>laws_eqQueryS.l0 k x.1 x.2.1 x.2.2.1) .ret (.exit 0) (fun y=>(y,())) (fun x=>x.1) (fun y=>()) (fun x=>())
def laws_eqQueryS.L:Nat->Option LArm:=fun b=>match b with
 | 0=>some laws_eqQueryS.A0
 | _=>none
theorem laws_eqQueryS.run (k:Nat) (a0:List Query) (a1:List Query):runF envX (tabC (laws_eqQueryS.C k)) (tabL 27 k laws_eqQueryS.L) Tryd.f26 [.t (.sl .query) a0,.t (.sl .query) a1] (viewR1 (.t .bool))=laws_eqQueryS.F (k+1) a0 a1:=by kernel_rfl
theorem laws_eqQueryS.step0 (k:Nat) (x0:List Query) (x1:List Query) (x5:Int):runC envX (tabC (laws_eqQueryS.C k)) (tabL 27 k laws_eqQueryS.L) 0 (loopAt Tryd.f26 0) (stOf 27 laws_eqQueryS.sp0 (x0,x1,x5,())) (laws_eqQueryS.A0.cont 27 k)=laws_eqQueryS.l0 (k+1) x0 x1 x5:=by kernel_rfl
def laws_eqQuery.Gd (pv:Nat->Value) (k:Nat):Prop:=(∀ (a0:Query) (a1:Query) {y:_},laws_eqQuery.F k a0 a1=some y->Meets Tryd.prog envX pv (.f 10) (tvals [.query,.query] (a0,a1,())) (.t .bool y))/\(∀ (a0:List Query) (a1:List Query) {y:_},laws_eqQueryS.F k a0 a1=some y->Meets Tryd.prog envX pv (.f 26) (tvals [(.sl .query),(.sl .query)] (a0,a1,())) (.t .bool y))
theorem laws_eqQuery.G (hE:EnvOk Tryd.prog envX) (pv:Nat->Value) (k:Nat) (hI:laws_eqQuery.Gd pv k):∀ cal A,laws_eqQuery.C k cal=some A->ArmOk Tryd.prog envX pv cal A:=by
 intro cal A h
 unfold laws_eqQuery.C at h
 split at h
 ·cases h; exact fun x y hy=>hI.2 x.1 x.2.1 hy
 ·cases h
theorem laws_eqQuery.gd (hE:EnvOk Tryd.prog envX) (pv:Nat->Value) (k:Nat) (hI:∀ k',k'<=k->laws_eqQuery.Gd pv k') (a0:Query) (a1:Query) {y:_} (h:laws_eqQuery.F (k+1) a0 a1=some y):Meets Tryd.prog envX pv (.f 10) (tvals [.query,.query] (a0,a1,())) (.t .bool y) :=
 fun_plain hE (laws_eqQuery.G hE pv k (hI k (Nat.le_refl k))) (f:=10) (fn:=Tryd.f10) (by kernel_rfl) rfl (by kernel_rfl) (by kernel_rfl) ((laws_eqQuery.run k a0 a1).trans h) (fun r hr=>wk_view1 hr)
theorem laws_eqQueryS.G (hE:EnvOk Tryd.prog envX) (pv:Nat->Value) (k:Nat) (hI:laws_eqQuery.Gd pv k):∀ cal A,laws_eqQueryS.C k cal=some A->ArmOk Tryd.prog envX pv cal A:=by
 intro cal A h
 unfold laws_eqQueryS.C at h
 split at h
 ·cases h; exact fun x y hy=>hI.1 x.1 x.2.1 hy
 ·cases h
theorem laws_eqQueryS.gd (hE:EnvOk Tryd.prog envX) (pv:Nat->Value) (k:Nat) (hI:∀ k',k'<=k->laws_eqQuery.Gd pv k') (a0:List Query) (a1:List Query) {y:_} (h:laws_eqQueryS.F (k+1) a0 a1=some y):Meets Tryd.prog envX pv (.f 26) (tvals [(.sl .query),(.sl .query)] (a0,a1,())) (.t .bool y) :=
 fun_loops hE (t:=laws_eqQueryS.C) k (fun k hk=>laws_eqQueryS.G hE pv k (hI k hk)) (f:=26) (fn:=Tryd.f26) (by kernel_rfl) rfl (by kernel_rfl) (by kernel_rfl) (lt:=laws_eqQueryS.L) (by kernel_rfl) (fun b A h=>by
  unfold laws_eqQueryS.L at h; split at h
  ·cases h; exact ⟨by kernel_rfl,by kernel_rfl,by kernel_rfl,fun _=>rfl,fun _=>rfl,fun _=>rfl⟩
  ·cases h) (fun b A h=>by
  unfold laws_eqQueryS.L at h; split at h
  ·cases h; exact fun k x=>laws_eqQueryS.step0 k x.1 x.2.1 x.2.2.1
  ·cases h) ((laws_eqQueryS.run k a0 a1).trans h) (fun r hr=>wk_view1 hr)
theorem laws_eqQuery.all (hE:EnvOk Tryd.prog envX) (pv:Nat->Value):∀ k k',k'<=k->laws_eqQuery.Gd pv k':=by
 intro k
 induction k with
 | zero=>
  intro k' hk
  obtain rfl:k'=0:=by omega
  exact ⟨fun _ _ y h=>(by cases (show (none:Option _)=some y from h)),fun _ _ y h=>(by cases (show (none:Option _)=some y from h))⟩
 | succ k ih=>
  intro k' hk
  rcases Nat.lt_or_ge k' (k+1) with hlt | hge
  ·exact ih k' (by omega)
  ·obtain rfl:k'=k+1:=by omega
   exact ⟨fun a0 a1 y h=>laws_eqQuery.gd hE pv k ih a0 a1 h,fun a0 a1 y h=>laws_eqQueryS.gd hE pv k ih a0 a1 h⟩
theorem laws_eqQuery.good (hE:EnvOk Tryd.prog envX) (pv:Nat->Value) (k:Nat) (a0:Query) (a1:Query) {y:_} (h:laws_eqQuery.F k a0 a1=some y):Meets Tryd.prog envX pv (.f 10) (tvals [.query,.query] (a0,a1,())) (.t .bool y) :=
 (laws_eqQuery.all hE pv k k (Nat.le_refl k)).1 a0 a1 h
def laws_markText.l0:Nat->Int->ByteArray->Option (ByteArray)
 | 0,_,_=>none
 | k+1,x0,x3=>bif (decide (x0 > 0)) then (bif (10==0) then (none) else (bif Nat.ble ((strL ([(IntKind.wrap .u8 (IntKind.wrap .i64 (48+(Int.tmod x0 10))))]:List Int)).size+x3.size) 9223372036854775807 then (bif (10==0) then (none) else (laws_markText.l0 k (IntKind.wrap .i64 (Int.tdiv x0 10)) ((strL ([(IntKind.wrap .u8 (IntKind.wrap .i64 (48+(Int.tmod x0 10))))]:List Int))++x3))) else none)) else (some x3)
def laws_markText.F (k:Nat) (a0:Int):Option (ByteArray):=bif (decide (a0<=0)) then (some (⟨#[109,48]⟩:ByteArray)) else ((laws_markText.l0 k a0 (⟨#[]⟩:ByteArray)).bind fun y1=>bif Nat.ble ((⟨#[109]⟩:ByteArray).size+y1.size) 9223372036854775807 then (some ((⟨#[109]⟩:ByteArray)++y1)) else none)
def laws_markText.C (k:Nat):Cal->Option CArm:=fun c=>match c with
 | _=>none
def laws_markText.sp0:List Sp:=[.t 0 (.int .i64),.t 3 .str]
def laws_markText.sp0_0:List Sp:=[.t 3 .str]
def laws_markText.A0:LArm:=.one laws_markText.sp0 laws_markText.sp0_0 (ByteArray) (fun k x=>laws_markText.l0 k x.1 x.2.1) (.exit 0) (fun y=>(y,())) (fun x=>x.1)
def laws_markText.L:Nat->Option LArm:=fun b=>match b with
 | 0=>some laws_markText.A0
 | _=>none
theorem laws_markText.run (k:Nat) (a0:Int):runF envX (tabC (laws_markText.C k)) (tabL 20 k laws_markText.L) Tryd.f36 [.t (.int .i64) a0] (viewR1 (.t .str))=laws_markText.F k a0:=by kernel_rfl
theorem laws_markText.step0 (k:Nat) (x0:Int) (x3:ByteArray):runC envX (tabC (laws_markText.C k)) (tabL 20 k laws_markText.L) 0 (loopAt Tryd.f36 0) (stOf 20 laws_markText.sp0 (x0,x3,())) (laws_markText.A0.cont 20 k)=laws_markText.l0 (k+1) x0 x3:=by kernel_rfl
theorem laws_markText.G (hE:EnvOk Tryd.prog envX) (pv:Nat->Value) (k:Nat):∀ cal A,laws_markText.C k cal=some A->ArmOk Tryd.prog envX pv cal A:=by
 intro cal A h
 unfold laws_markText.C at h
 cases h
theorem laws_markText.good (hE:EnvOk Tryd.prog envX) (pv:Nat->Value) (k:Nat) (a0:Int) {y:_} (h:laws_markText.F k a0=some y):Meets Tryd.prog envX pv (.f 36) (tvals [(.int .i64)] (a0,())) (.t .str y) :=
 fun_loops hE (t:=laws_markText.C) k (fun k _=>laws_markText.G hE pv k) (f:=36) (fn:=Tryd.f36) (by kernel_rfl) rfl (by kernel_rfl) (by kernel_rfl) (lt:=laws_markText.L) (by kernel_rfl) (fun b A h=>by
  unfold laws_markText.L at h; split at h
  ·cases h; exact ⟨by kernel_rfl,by kernel_rfl,fun _=>rfl,fun _=>rfl⟩
  ·cases h) (fun b A h=>by
  unfold laws_markText.L at h; split at h
  ·cases h; exact fun k x=>laws_markText.step0 k x.1 x.2.1
  ·cases h) ((laws_markText.run k a0).trans h) (fun r hr=>wk_view1 hr)
-- NO 27 loop.example/g00896/laws.markQueryS: calls itself and is handed something
-- NO 11 loop.example/g00896/laws.markQuery: a call of loop.example/g00896/laws.markQueryS
mutual
def laws_heldQueryS.F:Nat->(List Query)->Int->Option (Int)
 | 0,_,_=>none
 | k+1,a0,a1=>(laws_heldQueryS.l0 k a0 a1 0).bind fun y4=>match y4 with | .inl z5=>some z5 | .inr z5=>some z5
def laws_heldQueryS.l0:Nat->(List Query)->Int->Int->Option (Sum Int Int)
 | 0,_,_,_=>none
 | k+1,x0,x1,x5=>bif (decide (x5<(x0.length:Int))) then (bif decide (0<=x5) then (bif decide (x5<(x0.length:Int)) then (bif (((x0.getD (x5:Int).toNat (dflt .query)).op) != x1) then (some (.inl (-1))) else (bif decide (0<=x5) then (bif decide (x5<(x0.length:Int)) then ((laws_markText.F k (IntKind.wrap .i64 (x1+1))).bind fun r1=>bif (!beqS ((x0.getD (x5:Int).toNat (dflt .query)).field) r1) then (some (.inl (-1))) else (bif decide (0<=x5) then (bif decide (x5<(x0.length:Int)) then ((laws_markText.F k (IntKind.wrap .i64 ((IntKind.wrap .i64 (x1+1))+1))).bind fun r2=>bif (!beqS ((x0.getD (x5:Int).toNat (dflt .query)).word) r2) then (some (.inl (-1))) else (bif decide (0<=x5) then (bif decide (x5<(x0.length:Int)) then ((laws_heldQueryS.F k ((x0.getD (x5:Int).toNat (dflt .query)).parts) (IntKind.wrap .i64 ((IntKind.wrap .i64 ((IntKind.wrap .i64 (x1+1))+1))+1))).bind fun r3=>bif (decide (r3<0)) then (some (.inl (-1))) else (laws_heldQueryS.l0 k x0 r3 (IntKind.wrap .i64 (x5+1)))) else none) else none)) else none) else none)) else none) else none)) else none) else none) else (some (.inr x1))
end
def laws_heldQueryS.C (k:Nat):Cal->Option CArm:=fun c=>match c with
 | .f 36=>some (.p [(.int .i64)] _ (fun x=>laws_markText.F k x.1) (fun r=>(.t .str r)))
 | .f 28=>some (.p [(.sl .query),(.int .i64)] _ (fun x=>laws_heldQueryS.F k x.1 x.2.1) (fun r=>(.t (.int .i64) r)))
 | _=>none
def laws_heldQueryS.sp0:List Sp:=[.t 0 (.sl .query),.t 1 (.int .i64),.t 5 (.int .i64)]
def laws_heldQueryS.sp0_0:List Sp:=[.t 4 (.int .i64)]
def laws_heldQueryS.sp0_1:List Sp:=[.t 1 (.int .i64)]
def laws_heldQueryS.A0:LArm:=.two laws_heldQueryS.sp0 laws_heldQueryS.sp0_0 laws_heldQueryS.sp0_1 (Int) (Int) (fun k x=>laws_heldQueryS.l0 k x.1 x.2.1 x.2.2.1) .ret (.exit 0) (fun y=>(y,())) (fun x=>x.1) (fun y=>(y,())) (fun x=>x.1)
def laws_heldQueryS.L:Nat->Option LArm:=fun b=>match b with
 | 0=>some laws_heldQueryS.A0
 | _=>none
theorem laws_heldQueryS.run (k:Nat) (a0:List Query) (a1:Int):runF envX (tabC (laws_heldQueryS.C k)) (tabL 51 k laws_heldQueryS.L) Tryd.f28 [.t (.sl .query) a0,.t (.int .i64) a1] (viewR1 (.t (.int .i64)))=laws_heldQueryS.F (k+1) a0 a1:=by kernel_rfl
theorem laws_heldQueryS.step0 (k:Nat) (x0:List Query) (x1:Int) (x5:Int):runC envX (tabC (laws_heldQueryS.C k)) (tabL 51 k laws_heldQueryS.L) 0 (loopAt Tryd.f28 0) (stOf 51 laws_heldQueryS.sp0 (x0,x1,x5,())) (laws_heldQueryS.A0.cont 51 k)=laws_heldQueryS.l0 (k+1) x0 x1 x5:=by kernel_rfl
def laws_heldQueryS.Gd (pv:Nat->Value) (k:Nat):Prop:=(∀ (a0:List Query) (a1:Int) {y:_},laws_heldQueryS.F k a0 a1=some y->Meets Tryd.prog envX pv (.f 28) (tvals [(.sl .query),(.int .i64)] (a0,a1,())) (.t (.int .i64) y))
theorem laws_heldQueryS.G (hE:EnvOk Tryd.prog envX) (pv:Nat->Value) (k:Nat) (hI:laws_heldQueryS.Gd pv k):∀ cal A,laws_heldQueryS.C k cal=some A->ArmOk Tryd.prog envX pv cal A:=by
 intro cal A h
 unfold laws_heldQueryS.C at h
 split at h
 ·cases h; exact fun x y hy=>laws_markText.good hE pv k x.1 hy
 ·cases h; exact fun x y hy=>hI x.1 x.2.1 hy
 ·cases h
theorem laws_heldQueryS.gd (hE:EnvOk Tryd.prog envX) (pv:Nat->Value) (k:Nat) (hI:∀ k',k'<=k->laws_heldQueryS.Gd pv k') (a0:List Query) (a1:Int) {y:_} (h:laws_heldQueryS.F (k+1) a0 a1=some y):Meets Tryd.prog envX pv (.f 28) (tvals [(.sl .query),(.int .i64)] (a0,a1,())) (.t (.int .i64) y) :=
 fun_loops hE (t:=laws_heldQueryS.C) k (fun k hk=>laws_heldQueryS.G hE pv k (hI k hk)) (f:=28) (fn:=Tryd.f28) (by kernel_rfl) rfl (by kernel_rfl) (by kernel_rfl) (lt:=laws_heldQueryS.L) (by kernel_rfl) (fun b A h=>by
  unfold laws_heldQueryS.L at h; split at h
  ·cases h; exact ⟨by kernel_rfl,by kernel_rfl,by kernel_rfl,fun _=>rfl,fun _=>rfl,fun _=>rfl⟩
  ·cases h) (fun b A h=>by
  unfold laws_heldQueryS.L at h; split at h
  ·cases h; exact fun k x=>laws_heldQueryS.step0 k x.1 x.2.1 x.2.2.1
  ·cases h) ((laws_heldQueryS.run k a0 a1).trans h) (fun r hr=>wk_view1 hr)
theorem laws_heldQueryS.all (hE:EnvOk Tryd.prog envX) (pv:Nat->Value):∀ k k',k'<=k->laws_heldQueryS.Gd pv k':=by
 intro k
 induction k with
 | zero=>
  intro k' hk
  obtain rfl:k'=0:=by omega
  exact fun _ _ y h=>by cases (show (none:Option _)=some y from h)
 | succ k ih=>
  intro k' hk
  rcases Nat.lt_or_ge k' (k+1) with hlt | hge
  ·exact ih k' (by omega)
  ·obtain rfl:k'=k+1:=by omega
   exact fun a0 a1 y h=>laws_heldQueryS.gd hE pv k ih a0 a1 h
theorem laws_heldQueryS.good (hE:EnvOk Tryd.prog envX) (pv:Nat->Value) (k:Nat) (a0:List Query) (a1:Int) {y:_} (h:laws_heldQueryS.F k a0 a1=some y):Meets Tryd.prog envX pv (.f 28) (tvals [(.sl .query),(.int .i64)] (a0,a1,())) (.t (.int .i64) y) :=
 (laws_heldQueryS.all hE pv k k (Nat.le_refl k)) a0 a1 h
def laws_heldQuery.F (k:Nat) (a0:Query) (a1:Int):Option (Int):=(laws_heldQueryS.F k a0.parts a1).bind fun r1=>bif (decide (r1<0)) then (some (-1)) else (some r1)
def laws_heldQuery.C (k:Nat):Cal->Option CArm:=fun c=>match c with
 | .f 28=>some (.p [(.sl .query),(.int .i64)] _ (fun x=>laws_heldQueryS.F k x.1 x.2.1) (fun r=>(.t (.int .i64) r)))
 | _=>none
theorem laws_heldQuery.run (k:Nat) (a0:Query) (a1:Int):runF envX (tabC (laws_heldQuery.C k)) (tabL 12 0 (fun _=>none)) Tryd.f12 [.t .query a0,.t (.int .i64) a1] (viewR1 (.t (.int .i64)))=laws_heldQuery.F k a0 a1:=by kernel_rfl
theorem laws_heldQuery.G (hE:EnvOk Tryd.prog envX) (pv:Nat->Value) (k:Nat):∀ cal A,laws_heldQuery.C k cal=some A->ArmOk Tryd.prog envX pv cal A:=by
 intro cal A h
 unfold laws_heldQuery.C at h
 split at h
 ·cases h; exact fun x y hy=>laws_heldQueryS.good hE pv k x.1 x.2.1 hy
 ·cases h
theorem laws_heldQuery.good (hE:EnvOk Tryd.prog envX) (pv:Nat->Value) (k:Nat) (a0:Query) (a1:Int) {y:_} (h:laws_heldQuery.F k a0 a1=some y):Meets Tryd.prog envX pv (.f 12) (tvals [.query,(.int .i64)] (a0,a1,())) (.t (.int .i64) y) :=
 fun_plain hE (laws_heldQuery.G hE pv k) (f:=12) (fn:=Tryd.f12) (by kernel_rfl) rfl (by kernel_rfl) (by kernel_rfl) ((laws_heldQuery.run k a0 a1).trans h) (fun r hr=>wk_view1 hr)
mutual
def impl_simplifyQuery_t.F:Nat->Query->Option (Query)
 | 0,_=>none
 | k+1,a0=>(impl_simplifyQuery_t.l0 k a0 0 (⟨#[]⟩:ByteArray) (⟨#[]⟩:ByteArray) ([]:List Query) a0.parts (a0.parts.length:Int) 0).bind fun y2=>bif (y2.1.op==2) then (bif decide (0<=0) then (bif decide (0<(y2.2.2.2.2.length:Int)) then (bif (((y2.2.2.2.2.getD ((0:Int).toNat) (dflt .query)).op)==2) then (bif decide (0<=0) then (bif decide (0<(y2.2.2.2.2.length:Int)) then (bif decide (0<=0) then (bif decide (0<(((y2.2.2.2.2.getD ((0:Int).toNat) (dflt .query)).parts).length:Int)) then (some (Query.mk ((((y2.2.2.2.2.getD ((0:Int).toNat) (dflt .query)).parts).getD ((0:Int).toNat) (dflt .query)).op) ((((y2.2.2.2.2.getD ((0:Int).toNat) (dflt .query)).parts).getD ((0:Int).toNat) (dflt .query)).field) ((((y2.2.2.2.2.getD ((0:Int).toNat) (dflt .query)).parts).getD ((0:Int).toNat) (dflt .query)).word) ((((y2.2.2.2.2.getD ((0:Int).toNat) (dflt .query)).parts).getD ((0:Int).toNat) (dflt .query)).parts))) else none) else none) else none) else none) else (bif (y2.1.op==3) then (bif decide (0<=0) then (bif decide (0<(y2.2.2.2.2.length:Int)) then ((impl_formatQuery.F k (Query.mk ((y2.2.2.2.2.getD ((0:Int).toNat) (dflt .query)).op) ((y2.2.2.2.2.getD ((0:Int).toNat) (dflt .query)).field) ((y2.2.2.2.2.getD ((0:Int).toNat) (dflt .query)).word) ((y2.2.2.2.2.getD ((0:Int).toNat) (dflt .query)).parts))).bind fun r3=>bif decide (0<=1) then (bif decide (1<(y2.2.2.2.2.length:Int)) then ((impl_formatQuery.F k (Query.mk ((y2.2.2.2.2.getD ((1:Int).toNat) (dflt .query)).op) ((y2.2.2.2.2.getD ((1:Int).toNat) (dflt .query)).field) ((y2.2.2.2.2.getD ((1:Int).toNat) (dflt .query)).word) ((y2.2.2.2.2.getD ((1:Int).toNat) (dflt .query)).parts))).bind fun r4=>bif (beqS r3 r4) then (bif decide (0<=0) then (bif decide (0<(y2.2.2.2.2.length:Int)) then (some (Query.mk ((y2.2.2.2.2.getD ((0:Int).toNat) (dflt .query)).op) ((y2.2.2.2.2.getD ((0:Int).toNat) (dflt .query)).field) ((y2.2.2.2.2.getD ((0:Int).toNat) (dflt .query)).word) ((y2.2.2.2.2.getD ((0:Int).toNat) (dflt .query)).parts))) else none) else none) else (some (Query.mk y2.1.op y2.1.field y2.1.word y2.2.2.2.2))) else none) else none) else none) else none) else (bif (y2.1.op==4) then (bif decide (0<=0) then (bif decide (0<(y2.2.2.2.2.length:Int)) then ((impl_formatQuery.F k (Query.mk ((y2.2.2.2.2.getD ((0:Int).toNat) (dflt .query)).op) ((y2.2.2.2.2.getD ((0:Int).toNat) (dflt .query)).field) ((y2.2.2.2.2.getD ((0:Int).toNat) (dflt .query)).word) ((y2.2.2.2.2.getD ((0:Int).toNat) (dflt .query)).parts))).bind fun r5=>bif decide (0<=1) then (bif decide (1<(y2.2.2.2.2.length:Int)) then ((impl_formatQuery.F k (Query.mk ((y2.2.2.2.2.getD ((1:Int).toNat) (dflt .query)).op) ((y2.2.2.2.2.getD ((1:Int).toNat) (dflt .query)).field) ((y2.2.2.2.2.getD ((1:Int).toNat) (dflt .query)).word) ((y2.2.2.2.2.getD ((1:Int).toNat) (dflt .query)).parts))).bind fun r6=>bif (beqS r5 r6) then (bif decide (0<=0) then (bif decide (0<(y2.2.2.2.2.length:Int)) then (some (Query.mk ((y2.2.2.2.2.getD ((0:Int).toNat) (dflt .query)).op) ((y2.2.2.2.2.getD ((0:Int).toNat) (dflt .query)).field) ((y2.2.2.2.2.getD ((0:Int).toNat) (dflt .query)).word) ((y2.2.2.2.2.getD ((0:Int).toNat) (dflt .query)).parts))) else none) else none) else (some (Query.mk y2.1.op y2.1.field y2.1.word y2.2.2.2.2))) else none) else none) else none) else none) else (some (Query.mk y2.1.op y2.1.field y2.1.word y2.2.2.2.2))))) else none) else none) else (bif (y2.1.op==3) then (bif decide (0<=0) then (bif decide (0<(y2.2.2.2.2.length:Int)) then ((impl_formatQuery.F k (Query.mk ((y2.2.2.2.2.getD ((0:Int).toNat) (dflt .query)).op) ((y2.2.2.2.2.getD ((0:Int).toNat) (dflt .query)).field) ((y2.2.2.2.2.getD ((0:Int).toNat) (dflt .query)).word) ((y2.2.2.2.2.getD ((0:Int).toNat) (dflt .query)).parts))).bind fun r7=>bif decide (0<=1) then (bif decide (1<(y2.2.2.2.2.length:Int)) then ((impl_formatQuery.F k (Query.mk ((y2.2.2.2.2.getD ((1:Int).toNat) (dflt .query)).op) ((y2.2.2.2.2.getD ((1:Int).toNat) (dflt .query)).field) ((y2.2.2.2.2.getD ((1:Int).toNat) (dflt .query)).word) ((y2.2.2.2.2.getD ((1:Int).toNat) (dflt .query)).parts))).bind fun r8=>bif (beqS r7 r8) then (bif decide (0<=0) then (bif decide (0<(y2.2.2.2.2.length:Int)) then (some (Query.mk ((y2.2.2.2.2.getD ((0:Int).toNat) (dflt .query)).op) ((y2.2.2.2.2.getD ((0:Int).toNat) (dflt .query)).field) ((y2.2.2.2.2.getD ((0:Int).toNat) (dflt .query)).word) ((y2.2.2.2.2.getD ((0:Int).toNat) (dflt .query)).parts))) else none) else none) else (some (Query.mk y2.1.op y2.1.field y2.1.word y2.2.2.2.2))) else none) else none) else none) else none) else (bif (y2.1.op==4) then (bif decide (0<=0) then (bif decide (0<(y2.2.2.2.2.length:Int)) then ((impl_formatQuery.F k (Query.mk ((y2.2.2.2.2.getD ((0:Int).toNat) (dflt .query)).op) ((y2.2.2.2.2.getD ((0:Int).toNat) (dflt .query)).field) ((y2.2.2.2.2.getD ((0:Int).toNat) (dflt .query)).word) ((y2.2.2.2.2.getD ((0:Int).toNat) (dflt .query)).parts))).bind fun r9=>bif decide (0<=1) then (bif decide (1<(y2.2.2.2.2.length:Int)) then ((impl_formatQuery.F k (Query.mk ((y2.2.2.2.2.getD ((1:Int).toNat) (dflt .query)).op) ((y2.2.2.2.2.getD ((1:Int).toNat) (dflt .query)).field) ((y2.2.2.2.2.getD ((1:Int).toNat) (dflt .query)).word) ((y2.2.2.2.2.getD ((1:Int).toNat) (dflt .query)).parts))).bind fun r10=>bif (beqS r9 r10) then (bif decide (0<=0) then (bif decide (0<(y2.2.2.2.2.length:Int)) then (some (Query.mk ((y2.2.2.2.2.getD ((0:Int).toNat) (dflt .query)).op) ((y2.2.2.2.2.getD ((0:Int).toNat) (dflt .query)).field) ((y2.2.2.2.2.getD ((0:Int).toNat) (dflt .query)).word) ((y2.2.2.2.2.getD ((0:Int).toNat) (dflt .query)).parts))) else none) else none) else (some (Query.mk y2.1.op y2.1.field y2.1.word y2.2.2.2.2))) else none) else none) else none) else none) else (some (Query.mk y2.1.op y2.1.field y2.1.word y2.2.2.2.2))))
def impl_simplifyQuery_t.l0:Nat->Query->Int->ByteArray->ByteArray->(List Query)->(List Query)->Int->Int->Option (Query × Int × ByteArray × ByteArray × (List Query))
 | 0,_,_,_,_,_,_,_,_=>none
 | k+1,x1,x2_0,x2_1,x2_2,x3,x8,x9,x10=>bif (decide (x10<x9)) then (bif decide (0<=x10) then (bif decide (x10<(x8.length:Int)) then ((impl_simplifyQuery_t.F k (x8.getD (x10:Int).toNat (dflt .query))).bind fun r1=>bif room (x3.length+([r1]:List Query).length) .query then (impl_simplifyQuery_t.l0 k x1 x2_0 x2_1 x2_2 (x3++([r1]:List Query)) x8 x9 (IntKind.wrap .i64 (x10+1))) else none) else none) else none) else (some (x1,x2_0,x2_1,x2_2,x3))
end
def impl_simplifyQuery_t.C (k:Nat):Cal->Option CArm:=fun c=>match c with
 | .f 25=>some (.tt [.query] _ (fun x=>impl_simplifyQuery_t.F k x.1) (fun r=>(.tr .query r)))
 | .f 31=>some (.p [.query] _ (fun x=>impl_formatQuery.F k x.1) (fun r=>(.t .str r)))
 | _=>none
def impl_simplifyQuery_t.sp0:List Sp:=[.boxT 1 0 .query,.boxF 2 4 .query [.t (.int .i64),.t .str,.t .str,.con (.nil)],.tv 3 1024 28 (.sl .query) true,.t 8 (.sl .query),.t 9 (.int .i64),.t 10 (.int .i64)]
def impl_simplifyQuery_t.sp0_0:List Sp:=[.boxT 1 0 .query,.boxF 2 4 .query [.t (.int .i64),.t .str,.t .str,.con (.nil)],.tv 3 1024 28 (.sl .query) true]
def impl_simplifyQuery_t.A0:LArm:=.one impl_simplifyQuery_t.sp0 impl_simplifyQuery_t.sp0_0 (Query × Int × ByteArray × ByteArray × (List Query)) (fun k x=>impl_simplifyQuery_t.l0 k x.1 x.2.1.1 x.2.1.2.1 x.2.1.2.2.1 x.2.2.1 x.2.2.2.1 x.2.2.2.2.1 x.2.2.2.2.2.1) (.exit 0) (fun y=>(y.1,(y.2.1,y.2.2.1,y.2.2.2.1,(),()),y.2.2.2.2,())) (fun x=>(x.1,x.2.1.1,x.2.1.2.1,x.2.1.2.2.1,x.2.2.1))
def impl_simplifyQuery_t.L:Nat->Option LArm:=fun b=>match b with
 | 0=>some impl_simplifyQuery_t.A0
 | _=>none
theorem impl_simplifyQuery_t.run (k:Nat) (a0:Query):Gx.runT envT (tabC (impl_simplifyQuery_t.C k)) (tabL 63 k impl_simplifyQuery_t.L) Tryd.f25 [.t .query a0] (viewK1 (.tr .query))=impl_simplifyQuery_t.F (k+1) a0:=by kernel_rfl
theorem impl_simplifyQuery_t.step0 (k:Nat) (x1:Query) (x2_0:Int) (x2_1:ByteArray) (x2_2:ByteArray) (x3:List Query) (x8:List Query) (x9:Int) (x10:Int):runC envT (tabC (impl_simplifyQuery_t.C k)) (tabL 63 k impl_simplifyQuery_t.L) 0 (loopAt Tryd.f25 0) (stOf 63 impl_simplifyQuery_t.sp0 (x1,(x2_0,x2_1,x2_2,(),()),x3,x8,x9,x10,())) (impl_simplifyQuery_t.A0.cont 63 k)=impl_simplifyQuery_t.l0 (k+1) x1 x2_0 x2_1 x2_2 x3 x8 x9 x10:=by kernel_rfl
def impl_simplifyQuery_t.Gd (pv:Nat->Value) (k:Nat):Prop:=(∀ (a0:Query) {y:_},impl_simplifyQuery_t.F k a0=some y->MeetsT Tryd.prog envT pv 25 (tvals [.query] (a0,())) (.tr .query y))
theorem impl_simplifyQuery_t.G (hE:EnvOk Tryd.prog envT) (pv:Nat->Value) (k:Nat) (hI:impl_simplifyQuery_t.Gd pv k):∀ cal A,impl_simplifyQuery_t.C k cal=some A->ArmOk Tryd.prog envT pv cal A:=by
 intro cal A h
 unfold impl_simplifyQuery_t.C at h
 split at h
 ·cases h; exact ⟨_,rfl,fun x y hy=>hI x.1 hy⟩
 ·cases h; exact fun x y hy=>impl_formatQuery.good envOk pv k x.1 hy
 ·cases h
theorem impl_simplifyQuery_t.gd (hE:EnvOk Tryd.prog envT) (pv:Nat->Value) (k:Nat) (hI:∀ k',k'<=k->impl_simplifyQuery_t.Gd pv k') (a0:Query) {y:_} (h:impl_simplifyQuery_t.F (k+1) a0=some y):MeetsT Tryd.prog envT pv 25 (tvals [.query] (a0,())) (.tr .query y) :=
 funT_loops hE (t:=impl_simplifyQuery_t.C) k (fun k hk=>impl_simplifyQuery_t.G hE pv k (hI k hk)) (f:=25) (fn:=Tryd.f25) (by kernel_rfl) rfl (by kernel_rfl) (by kernel_rfl) (lt:=impl_simplifyQuery_t.L) (by kernel_rfl) (fun b A h=>by
  unfold impl_simplifyQuery_t.L at h; split at h
  ·cases h; exact ⟨by kernel_rfl,by kernel_rfl,fun _=>rfl,fun _=>rfl⟩
  ·cases h) (fun b A h=>by
  unfold impl_simplifyQuery_t.L at h; split at h
  ·cases h; exact fun k x=>impl_simplifyQuery_t.step0 k x.1 x.2.1.1 x.2.1.2.1 x.2.1.2.2.1 x.2.2.1 x.2.2.2.1 x.2.2.2.2.1 x.2.2.2.2.2.1
  ·cases h) ((impl_simplifyQuery_t.run k a0).trans h) (fun r hr=>kt_view1 (k:=(.tr .query)) hr)
theorem impl_simplifyQuery_t.all (hE:EnvOk Tryd.prog envT) (pv:Nat->Value):∀ k k',k'<=k->impl_simplifyQuery_t.Gd pv k':=by
 intro k
 induction k with
 | zero=>
  intro k' hk
  obtain rfl:k'=0:=by omega
  exact fun _ y h=>by cases (show (none:Option _)=some y from h)
 | succ k ih=>
  intro k' hk
  rcases Nat.lt_or_ge k' (k+1) with hlt | hge
  ·exact ih k' (by omega)
  ·obtain rfl:k'=k+1:=by omega
   exact fun a0 y h=>impl_simplifyQuery_t.gd hE pv k ih a0 h
theorem impl_simplifyQuery_t.good (hE:EnvOk Tryd.prog envT) (pv:Nat->Value) (k:Nat) (a0:Query) {y:_} (h:impl_simplifyQuery_t.F k a0=some y):MeetsT Tryd.prog envT pv 25 (tvals [.query] (a0,())) (.tr .query y) :=
 (impl_simplifyQuery_t.all hE pv k k (Nat.le_refl k)) a0 h
def impl_SimplifyQuery_t.F (k:Nat) (a0:Query):Option (Query × Bool):=(impl_IsValidQuery.F k a0).bind fun r1=>bif (!r1) then (some ((Query.mk 0 (⟨#[]⟩:ByteArray) (⟨#[]⟩:ByteArray) ([]:List Query)),false)) else ((impl_simplifyQuery_t.F k a0).bind fun r2=>some (r2,true))
def impl_SimplifyQuery_t.C (k:Nat):Cal->Option CArm:=fun c=>match c with
 | .f 25=>some (.tt [.query] _ (fun x=>impl_simplifyQuery_t.F k x.1) (fun r=>(.tr .query r)))
 | .f 24=>some (.p [.query] _ (fun x=>impl_IsValidQuery.F k x.1) (fun r=>(.t .bool r)))
 | _=>none
theorem impl_SimplifyQuery_t.run (k:Nat) (a0:Query):Gx.runT envT (tabC (impl_SimplifyQuery_t.C k)) (tabL 10 0 (fun _=>none)) Tryd.f9 [.t .query a0] (viewK2 (.tr .query) (.t .bool))=impl_SimplifyQuery_t.F k a0:=by kernel_rfl
theorem impl_SimplifyQuery_t.G (hE:EnvOk Tryd.prog envT) (pv:Nat->Value) (k:Nat):∀ cal A,impl_SimplifyQuery_t.C k cal=some A->ArmOk Tryd.prog envT pv cal A:=by
 intro cal A h
 unfold impl_SimplifyQuery_t.C at h
 split at h
 ·cases h; exact ⟨_,rfl,fun x y hy=>impl_simplifyQuery_t.good hE pv k x.1 hy⟩
 ·cases h; exact fun x y hy=>impl_IsValidQuery.good envOk pv k x.1 hy
 ·cases h
theorem impl_SimplifyQuery_t.good (hE:EnvOk Tryd.prog envT) (pv:Nat->Value) (k:Nat) (a0:Query) {y:_} (h:impl_SimplifyQuery_t.F k a0=some y):MeetsT Tryd.prog envT pv 9 (tvals [.query] (a0,())) (.tup [.tr .query y.1,.t .bool y.2]) :=
 funT_plain hE (impl_SimplifyQuery_t.G hE pv k) (f:=9) (fn:=Tryd.f9) (by kernel_rfl) rfl (by kernel_rfl) (by kernel_rfl) ((impl_SimplifyQuery_t.run k a0).trans h) (fun r hr=>kt_view2 (k:=(.tr .query)) (l:=(.t .bool)) hr)
mutual
def laws_markQueryS_d.F:Nat->(List Query)->Int->Option (Int)
 | 0,_,_=>none
 | k+1,a0,a1=>(laws_markQueryS_d.l0 k a0 a1 0).bind fun y4=>some y4.2
def laws_markQueryS_d.l0:Nat->(List Query)->Int->Int->Option ((List Query) × Int)
 | 0,_,_,_=>none
 | k+1,x0,x1,x5=>bif (decide (x5<(x0.length:Int))) then (bif decide (0<=x5) then (bif decide (x5<(x0.length:Int)) then ((laws_markText.F k (IntKind.wrap .i64 (x1+1))).bind fun r1=>bif decide (0<=x5) then (bif decide (x5<(x0.length:Int)) then ((laws_markText.F k (IntKind.wrap .i64 ((IntKind.wrap .i64 (x1+1))+1))).bind fun r2=>bif decide (0<=x5) then (bif decide (x5<(x0.length:Int)) then (bif decide (0<=x5) then (bif decide (x5<(x0.length:Int)) then ((laws_markQueryS_d.F k ((x0.getD (x5:Int).toNat (dflt .query)).parts) (IntKind.wrap .i64 ((IntKind.wrap .i64 ((IntKind.wrap .i64 (x1+1))+1))+1))).bind fun r3=>laws_markQueryS_d.l0 k x0 r3 (IntKind.wrap .i64 (x5+1))) else none) else none) else none) else none) else none) else none) else none) else none) else (some (x0,x1))
end
def laws_markQueryS_d.C (k:Nat):Cal->Option CArm:=fun c=>match c with
 | .f 27=>some (.d (.sl .query) (fun x q=>laws_markQueryS_d.F k x q))
 | .f 36=>some (.p [(.int .i64)] _ (fun x=>laws_markText.F k x.1) (fun r=>(.t .str r)))
 | _=>none
def laws_markQueryS_d.sp0:List Sp:=[.ds 0 1099511627776 (.sl .query) (.sl .query),.t 1 (.int .i64),.t 5 (.int .i64)]
def laws_markQueryS_d.sp0_0:List Sp:=[.ds 0 1099511627776 (.sl .query) (.sl .query),.t 1 (.int .i64)]
def laws_markQueryS_d.A0:LArm:=.one laws_markQueryS_d.sp0 laws_markQueryS_d.sp0_0 ((List Query) × Int) (fun k x=>laws_markQueryS_d.l0 k x.1 x.2.1 x.2.2.1) (.exit 0) (fun y=>(y.1,y.2,())) (fun x=>(x.1,x.2.1))
def laws_markQueryS_d.L:Nat->Option LArm:=fun b=>match b with
 | 0=>some laws_markQueryS_d.A0
 | _=>none
theorem laws_markQueryS_d.run (k:Nat) (a0:List Query) (a1:Int):runD envX (tabC (laws_markQueryS_d.C k)) (tabL 43 k laws_markQueryS_d.L) Tryd.f27 (.sl .query) a0 a1 (viewR1 (.t (.int .i64)))=laws_markQueryS_d.F (k+1) a0 a1:=by kernel_rfl
theorem laws_markQueryS_d.step0 (k:Nat) (x0:List Query) (x1:Int) (x5:Int):runC envX (tabC (laws_markQueryS_d.C k)) (tabL 43 k laws_markQueryS_d.L) 0 (loopAt Tryd.f27 0) (stOf 43 laws_markQueryS_d.sp0 (x0,x1,x5,())) (laws_markQueryS_d.A0.cont 43 k)=laws_markQueryS_d.l0 (k+1) x0 x1 x5:=by kernel_rfl
def laws_markQueryS_d.Gd (pv:Nat->Value) (k:Nat):Prop:=(∀ (a0:List Query) (a1:Int) {y:_},laws_markQueryS_d.F k a0 a1=some y->MeetsD Tryd.prog envX pv 27 (.sl .query) a0 a1 y)
theorem laws_markQueryS_d.G (hE:EnvOk Tryd.prog envX) (pv:Nat->Value) (k:Nat) (hI:laws_markQueryS_d.Gd pv k):∀ cal A,laws_markQueryS_d.C k cal=some A->ArmOk Tryd.prog envX pv cal A:=by
 intro cal A h
 unfold laws_markQueryS_d.C at h
 split at h
 ·cases h; exact ⟨_,rfl,fun x q y hy=>hI x q hy⟩
 ·cases h; exact fun x y hy=>laws_markText.good hE pv k x.1 hy
 ·cases h
theorem laws_markQueryS_d.gd (hE:EnvOk Tryd.prog envX) (pv:Nat->Value) (k:Nat) (hI:∀ k',k'<=k->laws_markQueryS_d.Gd pv k') (a0:List Query) (a1:Int) {y:_} (h:laws_markQueryS_d.F (k+1) a0 a1=some y):MeetsD Tryd.prog envX pv 27 (.sl .query) a0 a1 y :=
 funD_loops hE (t:=laws_markQueryS_d.C) k (fun k hk=>laws_markQueryS_d.G hE pv k (hI k hk)) (f:=27) (fn:=Tryd.f27) (by kernel_rfl) rfl (by kernel_rfl) (by kernel_rfl) (lt:=laws_markQueryS_d.L) (by kernel_rfl) (fun b A h=>by
  unfold laws_markQueryS_d.L at h; split at h
  ·cases h; exact ⟨by kernel_rfl,by kernel_rfl,fun _=>rfl,fun _=>rfl⟩
  ·cases h) (fun b A h=>by
  unfold laws_markQueryS_d.L at h; split at h
  ·cases h; exact fun k x=>laws_markQueryS_d.step0 k x.1 x.2.1 x.2.2.1
  ·cases h) rfl ((laws_markQueryS_d.run k a0 a1).trans h) (fun r hr=>view_int hr)
theorem laws_markQueryS_d.all (hE:EnvOk Tryd.prog envX) (pv:Nat->Value):∀ k k',k'<=k->laws_markQueryS_d.Gd pv k':=by
 intro k
 induction k with
 | zero=>
  intro k' hk
  obtain rfl:k'=0:=by omega
  exact fun _ _ y h=>by cases (show (none:Option _)=some y from h)
 | succ k ih=>
  intro k' hk
  rcases Nat.lt_or_ge k' (k+1) with hlt | hge
  ·exact ih k' (by omega)
  ·obtain rfl:k'=k+1:=by omega
   exact fun a0 a1 y h=>laws_markQueryS_d.gd hE pv k ih a0 a1 h
theorem laws_markQueryS_d.good (hE:EnvOk Tryd.prog envX) (pv:Nat->Value) (k:Nat) (a0:List Query) (a1:Int) {y:_} (h:laws_markQueryS_d.F k a0 a1=some y):MeetsD Tryd.prog envX pv 27 (.sl .query) a0 a1 y :=
 (laws_markQueryS_d.all hE pv k k (Nat.le_refl k)) a0 a1 h
def laws_markQuery_d.F (k:Nat) (a0:Query) (a1:Int):Option (Int):=(laws_markQueryS_d.F k a0.parts a1).bind fun r1=>some r1
def laws_markQuery_d.C (k:Nat):Cal->Option CArm:=fun c=>match c with
 | .f 27=>some (.d (.sl .query) (fun x q=>laws_markQueryS_d.F k x q))
 | _=>none
theorem laws_markQuery_d.run (k:Nat) (a0:Query) (a1:Int):runD envX (tabC (laws_markQuery_d.C k)) (tabL 10 0 (fun _=>none)) Tryd.f11 .query a0 a1 (viewR1 (.t (.int .i64)))=laws_markQuery_d.F k a0 a1:=by kernel_rfl
theorem laws_markQuery_d.G (hE:EnvOk Tryd.prog envX) (pv:Nat->Value) (k:Nat):∀ cal A,laws_markQuery_d.C k cal=some A->ArmOk Tryd.prog envX pv cal A:=by
 intro cal A h
 unfold laws_markQuery_d.C at h
 split at h
 ·cases h; exact ⟨_,rfl,fun x q y hy=>laws_markQueryS_d.good hE pv k x q hy⟩
 ·cases h
theorem laws_markQuery_d.good (hE:EnvOk Tryd.prog envX) (pv:Nat->Value) (k:Nat) (a0:Query) (a1:Int) {y:_} (h:laws_markQuery_d.F k a0 a1=some y):MeetsD Tryd.prog envX pv 11 .query a0 a1 y :=
 funD_plain hE (laws_markQuery_d.G hE pv k) (f:=11) (fn:=Tryd.f11) (by kernel_rfl) rfl (by kernel_rfl) (by kernel_rfl) rfl ((laws_markQuery_d.run k a0 a1).trans h) (fun r hr=>view_int hr)
mutual
def laws_markQueryS_x.F:Nat->(List Query)->Int->Option ((List Query) × Int)
 | 0,_,_=>none
 | k+1,a0,a1=>(laws_markQueryS_x.l0 k a0 a1 0).bind fun y8=>some (y8.1,y8.2)
def laws_markQueryS_x.l0:Nat->(List Query)->Int->Int->Option ((List Query) × Int)
 | 0,_,_,_=>none
 | k+1,x0,x1,x5=>bif (decide (x5<(x0.length:Int))) then (bif decide (0<=x5) then (bif decide (x5<(x0.length:Int)) then ((some (x0.set ((x5:Int).toNat) (Query.mk x1 ((x0.getD ((x5:Int).toNat) (dflt .query)).field) ((x0.getD ((x5:Int).toNat) (dflt .query)).word) ((x0.getD ((x5:Int).toNat) (dflt .query)).parts)))).bind fun w1=>(laws_markText.F k (IntKind.wrap .i64 (x1+1))).bind fun r2=>bif decide (0<=x5) then (bif decide (x5<(w1.length:Int)) then ((some (w1.set ((x5:Int).toNat) (Query.mk ((w1.getD ((x5:Int).toNat) (dflt .query)).op) r2 ((w1.getD ((x5:Int).toNat) (dflt .query)).word) ((w1.getD ((x5:Int).toNat) (dflt .query)).parts)))).bind fun w3=>(laws_markText.F k (IntKind.wrap .i64 ((IntKind.wrap .i64 (x1+1))+1))).bind fun r4=>bif decide (0<=x5) then (bif decide (x5<(w3.length:Int)) then ((some (w3.set ((x5:Int).toNat) (Query.mk ((w3.getD ((x5:Int).toNat) (dflt .query)).op) ((w3.getD ((x5:Int).toNat) (dflt .query)).field) r4 ((w3.getD ((x5:Int).toNat) (dflt .query)).parts)))).bind fun w5=>bif decide (0<=x5) then (bif decide (x5<(w5.length:Int)) then ((laws_markQueryS_x.F k ((w5.getD ((x5:Int).toNat) (dflt .query)).parts) (IntKind.wrap .i64 ((IntKind.wrap .i64 ((IntKind.wrap .i64 (x1+1))+1))+1))).bind fun r6=>(some (w5.set ((x5:Int).toNat) (Query.mk ((w5.getD ((x5:Int).toNat) (dflt .query)).op) ((w5.getD ((x5:Int).toNat) (dflt .query)).field) ((w5.getD ((x5:Int).toNat) (dflt .query)).word) r6.1))).bind fun w7=>laws_markQueryS_x.l0 k w7 r6.2 (IntKind.wrap .i64 (x5+1))) else none) else none) else none) else none) else none) else none) else none) else none) else (some (x0,x1))
end
def laws_markQueryS_x.C (k:Nat):Cal->Option CArm:=fun c=>match c with
 | .f 27=>some (.x (.sl .query) (fun x q=>laws_markQueryS_x.F k x q))
 | .f 36=>some (.p [(.int .i64)] _ (fun x=>laws_markText.F k x.1) (fun r=>(.t .str r)))
 | _=>none
def laws_markQueryS_x.sp0:List Sp:=[.tv 0 1099511627776 0 (.sl .query) false,.t 1 (.int .i64),.t 5 (.int .i64)]
def laws_markQueryS_x.sp0_0:List Sp:=[.tv 0 1099511627776 0 (.sl .query) false,.t 1 (.int .i64)]
def laws_markQueryS_x.A0:LArm:=.one laws_markQueryS_x.sp0 laws_markQueryS_x.sp0_0 ((List Query) × Int) (fun k x=>laws_markQueryS_x.l0 k x.1 x.2.1 x.2.2.1) (.exit 0) (fun y=>(y.1,y.2,())) (fun x=>(x.1,x.2.1))
def laws_markQueryS_x.L:Nat->Option LArm:=fun b=>match b with
 | 0=>some laws_markQueryS_x.A0
 | _=>none
theorem laws_markQueryS_x.run (k:Nat) (a0:List Query) (a1:Int):Gx.runX envX (tabC (laws_markQueryS_x.C k)) (tabL 43 k laws_markQueryS_x.L) Tryd.f27 (.sl .query) a0 a1 (viewKep (.sl .query))=laws_markQueryS_x.F (k+1) a0 a1:=by kernel_rfl
theorem laws_markQueryS_x.step0 (k:Nat) (x0:List Query) (x1:Int) (x5:Int):runC envX (tabC (laws_markQueryS_x.C k)) (tabL 43 k laws_markQueryS_x.L) 0 (loopAt Tryd.f27 0) (stOf 43 laws_markQueryS_x.sp0 (x0,x1,x5,())) (laws_markQueryS_x.A0.cont 43 k)=laws_markQueryS_x.l0 (k+1) x0 x1 x5:=by kernel_rfl
def laws_markQueryS_x.Gd (pv:Nat->Value) (k:Nat):Prop:=(∀ (a0:List Query) (a1:Int) {y:_},laws_markQueryS_x.F k a0 a1=some y->MeetsX Tryd.prog envX pv 27 (.sl .query) a0 a1 y.1 y.2)
theorem laws_markQueryS_x.G (hE:EnvOk Tryd.prog envX) (pv:Nat->Value) (k:Nat) (hI:laws_markQueryS_x.Gd pv k):∀ cal A,laws_markQueryS_x.C k cal=some A->ArmOk Tryd.prog envX pv cal A:=by
 intro cal A h
 unfold laws_markQueryS_x.C at h
 split at h
 ·cases h; exact ⟨rfl,_,rfl,fun x q y hy=>hI x q hy⟩
 ·cases h; exact fun x y hy=>laws_markText.good hE pv k x.1 hy
 ·cases h
theorem laws_markQueryS_x.gd (hE:EnvOk Tryd.prog envX) (pv:Nat->Value) (k:Nat) (hI:∀ k',k'<=k->laws_markQueryS_x.Gd pv k') (a0:List Query) (a1:Int) {y:_} (h:laws_markQueryS_x.F (k+1) a0 a1=some y):MeetsX Tryd.prog envX pv 27 (.sl .query) a0 a1 y.1 y.2 :=
 funX_loops hE (t:=laws_markQueryS_x.C) k (fun k hk=>laws_markQueryS_x.G hE pv k (hI k hk)) (f:=27) (fn:=Tryd.f27) (by kernel_rfl) rfl (by kernel_rfl) (by kernel_rfl) (lt:=laws_markQueryS_x.L) (by kernel_rfl) (fun b A h=>by
  unfold laws_markQueryS_x.L at h; split at h
  ·cases h; exact ⟨by kernel_rfl,by kernel_rfl,fun _=>rfl,fun _=>rfl⟩
  ·cases h) (fun b A h=>by
  unfold laws_markQueryS_x.L at h; split at h
  ·cases h; exact fun k x=>laws_markQueryS_x.step0 k x.1 x.2.1 x.2.2.1
  ·cases h) rfl ((laws_markQueryS_x.run k a0 a1).trans h)
theorem laws_markQueryS_x.all (hE:EnvOk Tryd.prog envX) (pv:Nat->Value):∀ k k',k'<=k->laws_markQueryS_x.Gd pv k':=by
 intro k
 induction k with
 | zero=>
  intro k' hk
  obtain rfl:k'=0:=by omega
  exact fun _ _ y h=>by cases (show (none:Option _)=some y from h)
 | succ k ih=>
  intro k' hk
  rcases Nat.lt_or_ge k' (k+1) with hlt | hge
  ·exact ih k' (by omega)
  ·obtain rfl:k'=k+1:=by omega
   exact fun a0 a1 y h=>laws_markQueryS_x.gd hE pv k ih a0 a1 h
theorem laws_markQueryS_x.good (hE:EnvOk Tryd.prog envX) (pv:Nat->Value) (k:Nat) (a0:List Query) (a1:Int) {y:_} (h:laws_markQueryS_x.F k a0 a1=some y):MeetsX Tryd.prog envX pv 27 (.sl .query) a0 a1 y.1 y.2 :=
 (laws_markQueryS_x.all hE pv k k (Nat.le_refl k)) a0 a1 h
def laws_markQuery_x.F (k:Nat) (a0:Query) (a1:Int):Option (Query × Int):=(laws_markQueryS_x.F k a0.parts a1).bind fun r1=>(some (Query.mk a0.op a0.field a0.word r1.1)).bind fun w2=>some (w2,r1.2)
def laws_markQuery_x.C (k:Nat):Cal->Option CArm:=fun c=>match c with
 | .f 27=>some (.x (.sl .query) (fun x q=>laws_markQueryS_x.F k x q))
 | _=>none
theorem laws_markQuery_x.run (k:Nat) (a0:Query) (a1:Int):Gx.runX envX (tabC (laws_markQuery_x.C k)) (tabL 10 0 (fun _=>none)) Tryd.f11 .query a0 a1 (viewKep .query)=laws_markQuery_x.F k a0 a1:=by kernel_rfl
theorem laws_markQuery_x.G (hE:EnvOk Tryd.prog envX) (pv:Nat->Value) (k:Nat):∀ cal A,laws_markQuery_x.C k cal=some A->ArmOk Tryd.prog envX pv cal A:=by
 intro cal A h
 unfold laws_markQuery_x.C at h
 split at h
 ·cases h; exact ⟨rfl,_,rfl,fun x q y hy=>laws_markQueryS_x.good hE pv k x q hy⟩
 ·cases h
theorem laws_markQuery_x.good (hE:EnvOk Tryd.prog envX) (pv:Nat->Value) (k:Nat) (a0:Query) (a1:Int) {y:_} (h:laws_markQuery_x.F k a0 a1=some y):MeetsX Tryd.prog envX pv 11 .query a0 a1 y.1 y.2 :=
 funX_plain hE (laws_markQuery_x.G hE pv k) (f:=11) (fn:=Tryd.f11) (by kernel_rfl) rfl (by kernel_rfl) (by kernel_rfl) rfl ((laws_markQuery_x.run k a0 a1).trans h)
def laws_FnExactSimplifyQuery.F (k:Nat) (a0:Query):Option (Bool):=(laws_szQuery.F k a0 1048576).bind fun r1=>bif (decide (r1<0)) then (some true) else ((laws_toQuery_p.F k a0).bind fun r2=>(spec_SimplifyQuery.F k r2).bind fun r3=>(laws_toQuery_p.F k a0).bind fun r4=>(impl_SimplifyQuery_t.F k r4).bind fun r5=>(laws_eqQuery.F k r5.1 r3.1).bind fun r6=>bif (!r6) then (some false) else (bif (!(r5.2==r3.2)) then (some false) else ((laws_toQuery_p.F k a0).bind fun r7=>(laws_eqQuery.F k r4 r7).bind fun r8=>bif (!r8) then (some false) else ((laws_markQuery_d.F k r4 1).bind fun r9=>bif (decide (r9<0)) then (some false) else ((laws_eqQuery.F k r5.1 r3.1).bind fun r10=>bif (!r10) then (some false) else (bif (!(r5.2==r3.2)) then (some false) else ((laws_markQuery_x.F k r5.1 1).bind fun r11=>(laws_heldQuery.F k r11.1 1).bind fun r12=>bif (decide (r12<0)) then (some false) else (bif (r12 != r11.2) then (some false) else ((laws_toQuery_p.F k a0).bind fun r13=>(impl_SimplifyQuery_t.F k r13).bind fun r14=>(laws_eqQuery.F k r14.1 r3.1).bind fun r15=>bif (!r15) then (some false) else (bif (!(r14.2==r3.2)) then (some false) else ((laws_heldQuery.F k r11.1 1).bind fun r16=>bif (decide (r16<0)) then (some false) else (bif (r16 != r11.2) then (some false) else (some true)))))))))))))
def laws_FnExactSimplifyQuery.C (k:Nat):Cal->Option CArm:=fun c=>match c with
 | .f 8=>some (.pp [.query] .query (fun x=>laws_toQuery_p.F k x.1))
 | .f 9=>some (.tt [.query] _ (fun x=>impl_SimplifyQuery_t.F k x.1) (fun r=>(.tup [.tr .query r.1,.t .bool r.2])))
 | .f 11=>some (.alt (.d .query (fun x q=>laws_markQuery_d.F k x q)) (.x .query (fun x q=>laws_markQuery_x.F k x q)))
 | .f 6=>some (.p [.query,(.int .i64)] _ (fun x=>laws_szQuery.F k x.1 x.2.1) (fun r=>(.t (.int .i64) r)))
 | .f 7=>some (.p [.query] _ (fun x=>spec_SimplifyQuery.F k x.1) (fun r=>(.tup [.t .query r.1,.t .bool r.2])))
 | .f 10=>some (.p [.query,.query] _ (fun x=>laws_eqQuery.F k x.1 x.2.1) (fun r=>(.t .bool r)))
 | .f 12=>some (.p [.query,(.int .i64)] _ (fun x=>laws_heldQuery.F k x.1 x.2.1) (fun r=>(.t (.int .i64) r)))
 | _=>none
theorem laws_FnExactSimplifyQuery.run (k:Nat) (a0:Query):runF envX (tabC (laws_FnExactSimplifyQuery.C k)) (tabL 96 0 (fun _=>none)) Tryd.f3 [.t .query a0] (viewR1 (.t .bool))=laws_FnExactSimplifyQuery.F k a0:=by kernel_rfl
theorem laws_FnExactSimplifyQuery.G (hE:EnvOk Tryd.prog envX) (pv:Nat->Value) (k:Nat):∀ cal A,laws_FnExactSimplifyQuery.C k cal=some A->ArmOk Tryd.prog envX pv cal A:=by
 intro cal A h
 unfold laws_FnExactSimplifyQuery.C at h
 split at h
 ·cases h; exact ⟨_,rfl,fun x y hy=>meetsP_of (E:=envX) (E':=envP) rfl rfl rfl fun n=>laws_toQuery_p.good envOkP pv n k x.1 hy⟩
 ·cases h; exact ⟨_,rfl,fun x y hy=>impl_SimplifyQuery_t.good envOkT pv k x.1 hy⟩
 ·cases h; exact ⟨⟨_,rfl,fun x q y hy=>laws_markQuery_d.good hE pv k x q hy⟩,⟨rfl,_,rfl,fun x q y hy=>laws_markQuery_x.good hE pv k x q hy⟩⟩
 ·cases h; exact fun x y hy=>laws_szQuery.good hE pv k x.1 x.2.1 hy
 ·cases h; exact fun x y hy=>spec_SimplifyQuery.good hE pv k x.1 hy
 ·cases h; exact fun x y hy=>laws_eqQuery.good hE pv k x.1 x.2.1 hy
 ·cases h; exact fun x y hy=>laws_heldQuery.good hE pv k x.1 x.2.1 hy
 ·cases h
theorem laws_FnExactSimplifyQuery.good (hE:EnvOk Tryd.prog envX) (pv:Nat->Value) (k:Nat) (a0:Query) {y:_} (h:laws_FnExactSimplifyQuery.F k a0=some y):Meets Tryd.prog envX pv (.f 3) (tvals [.query] (a0,())) (.t .bool y) :=
 fun_plain hE (laws_FnExactSimplifyQuery.G hE pv k) (f:=3) (fn:=Tryd.f3) (by kernel_rfl) rfl (by kernel_rfl) (by kernel_rfl) ((laws_FnExactSimplifyQuery.run k a0).trans h) (fun r hr=>wk_view1 hr)
end Go.Proofs.YtkbichbahpnmmaaDoor
end
section
/- Plain laws: queries,their check. -/
namespace Go.Proofs.YtkbichbahpnmmaaDoor
open Go.Gx
theorem getD_at {α:Type} {xs:List α} {i:Nat} (h:i<xs.length) (d:α):xs.getD i d=xs[i]:=by simp [List.getD,List.getElem?_eq_getElem h]
theorem wf_len {e:Ty} {xs:List (den e)} (h:WF (.sl e) xs):xs.length<=9223372036854775807:=by
 cases h with | sl _ _ h _=>exact maxLen_eq ▸ h
mutual
def qsize:Query->Nat
 | .mk _ _ _ ps=>1+qsizeL ps
def qsizeL:List Query->Nat
 | []=>0
 | q :: l=>qsize q+qsizeL l
end
mutual
def totQ:Query->Nat
 | .mk _ f w ps=>f.size+w.size+totQs ps
def totQs:List Query->Nat
 | []=>0
 | q :: l=>1+totQ q+totQs l
end
theorem qsize_eq (q:Query):qsize q=1+qsizeL q.parts:=by cases q; simp only [qsize,Query.parts]
theorem totQ_eq (q:Query):totQ q=q.field.size+q.word.size+totQs q.parts:=by cases q; simp only [totQ,Query.parts,Query.field,Query.word]
theorem qsizeL_drop {ps:List Query} {i:Nat} (h:i<ps.length):qsizeL (ps.drop i)=qsize ps[i]+qsizeL (ps.drop (i+1)):=by rw [List.drop_eq_getElem_cons h]; simp only [qsizeL]
theorem totQs_drop {ps:List Query} {i:Nat} (h:i<ps.length):totQs (ps.drop i)=1+totQ ps[i]+totQs (ps.drop (i+1)):=by rw [List.drop_eq_getElem_cons h]; simp only [totQs]
theorem qsize_pos (q:Query):1<=qsize q:=by rw [qsize_eq]; omega
theorem qsize_mem {p:Query}:∀ {ps:List Query},p ∈ ps->qsize p<=qsizeL ps
 | [],h=>by cases h
 | q :: l,h=>by
  simp only [qsizeL]
  rcases List.mem_cons.1 h with rfl | h
  ·omega
  ·have:=qsize_mem h; omega
theorem totQ_mem {p:Query}:∀ {ps:List Query},p ∈ ps->totQ p<=totQs ps
 | [],h=>by cases h
 | q :: l,h=>by
  simp only [totQs]
  rcases List.mem_cons.1 h with rfl | h
  ·omega
  ·have:=totQ_mem h; omega
theorem len_totQs:∀ ps:List Query,ps.length<=totQs ps
 | []=>Nat.zero_le _
 | q :: l=>by simp only [totQs,List.length_cons]; have:=len_totQs l; omega
theorem byQ {P:Query->Prop} (h:∀ q,(∀ p ∈ q.parts,P p)->P q) (q:Query):P q:=by
 have:∀ n q,qsize q<=n->P q:=by
  intro n
  induction n with
  | zero=>intro q hq; have:=qsize_pos q; omega
  | succ n ih=>
   intro q hq
   refine h q fun p hp=>ih p ?_
   have:=qsize_mem hp
   rw [qsize_eq] at hq
   omega
 exact this _ q (Nat.le_refl _)
theorem wf_q {q:Query} (h:WF .query q) : -9223372036854775808<=q.op/\q.op<=9223372036854775807/\q.field.size<=9223372036854775807/\q.word.size<=9223372036854775807/\q.parts.length<=9223372036854775807/\∀ p ∈ q.parts,WF .query p:=by
 cases h with
 | query _ h1 h2 h3 h4=>
  refine ⟨(wf_i64 h1).1,(wf_i64 h1).2,wf_str h2,wf_str h3,wf_len h4,fun p hp=> ?_⟩
  obtain ⟨i,hi,rfl⟩:=List.getElem_of_mem hp
  cases h4 with | sl _ _ _ h=>exact h i hi
theorem szQ_ev:∀ q:Query,WF .query q->∀ l:Int,0<=l->l<=1048576->Ev (fun k=>laws_szQuery.F k q l) (if l-totQ q<0 then -1 else l-totQ q):=by
 refine byQ fun q ih hw l h0 h1=> ?_
 obtain ⟨_,_,hf,hwd,hpl,hps⟩:=wf_q hw
 have loop:q.parts.length<=1048576->∀ n i:Nat,i+n=q.parts.length->∀ l:Int,0<=l->l<=1048576->∀ T:Int,T=l-(totQs (q.parts.drop i)-(q.parts.length-i:Nat)) ->
   Ev (fun k=>laws_szQueryS.l0 k q.parts l i) (if T<0 then .inl (-1) else .inr T):=by
  intro hlen n
  induction n with
  | zero=>
   intro i h l h0 h1 T hT
   refine Ev.step (fun k=>by rw [laws_szQueryS.l0]) ?_
   simp (disch:=omega) only [cneg]
   rw [List.drop_eq_nil_of_le (by omega)] at hT
   simp only [totQs] at hT
   rw [if_neg (by omega)]
   exact (Ev.pure _).eq (by congr 1; omega)
  | succ n ihn=>
   intro i h l h0 h1 T hT
   have hi:i<q.parts.length:=by omega
   have hd:=totQs_drop hi
   have hlt:=len_totQs (q.parts.drop (i+1))
   rw [List.length_drop] at hlt
   refine Ev.step (fun k=>by rw [laws_szQueryS.l0]) ?_
   simp (disch:=omega) only [cpos,Int.toNat_natCast,getD_at hi]
   refine Ev.bind (ih _ (List.getElem_mem hi) (hps _ (List.getElem_mem hi)) l h0 h1) ?_
   by_cases c:l-(totQ q.parts[i]:Int)<0
   ·rw [if_pos c]
    simp (disch:=omega) only [cpos]
    rw [if_pos (by omega)]
    exact Ev.pure _
   ·rw [if_neg c]
    simp (disch:=omega) only [cneg,wrap_in]
    exact ihn (i+1) (by omega) (l-totQ q.parts[i]) (by omega) (by omega) T (by omega)
 rw [totQ_eq]
 have hlp:=len_totQs q.parts
 refine Ev.step (fun k=>by rw [laws_szQuery.F]) ?_
 by_cases c1:l-(q.field.size:Int)<0
 ·simp (disch:=omega) only [wrap_in,cpos]
  rw [if_pos (by omega)]; exact Ev.pure _
 ·by_cases c2:l-(q.field.size:Int)-(q.word.size:Int)<0
  ·simp (disch:=omega) only [wrap_in,cpos,cneg]
   rw [if_pos (by omega)]; exact Ev.pure _
  ·simp (disch:=omega) only [wrap_in,cneg]
   have inner:Ev (fun k=>laws_szQueryS.F k q.parts (l-(q.field.size:Int)-(q.word.size:Int))) (if l-(q.field.size:Int)-(q.word.size:Int)-totQs q.parts<0 then -1 else l-(q.field.size:Int)-(q.word.size:Int)-totQs q.parts):=by
    refine Ev.step (fun k=>by rw [laws_szQueryS.F]) ?_
    by_cases c3:l-(q.field.size:Int)-(q.word.size:Int)-(q.parts.length:Int)<0
    ·simp (disch:=omega) only [wrap_in,cpos]
     rw [if_pos (by omega)]; exact Ev.pure _
    ·simp (disch:=omega) only [wrap_in,cneg]
     have:=loop (by omega) q.parts.length 0 (by omega) (l-(q.field.size:Int)-(q.word.size:Int)-(q.parts.length:Int)) (by omega) (by omega) (l-(q.field.size:Int)-(q.word.size:Int)-totQs q.parts) (by simp only [List.drop_zero,Nat.sub_zero]; omega)
     by_cases c4:l-(q.field.size:Int)-(q.word.size:Int)-totQs q.parts<0
     ·rw [if_pos c4] at this ⊢; exact Ev.bind this (Ev.pure _)
     ·rw [if_neg c4] at this ⊢; exact Ev.bind this (Ev.pure _)
   refine Ev.bind inner ?_
   by_cases c4:l-(q.field.size:Int)-(q.word.size:Int)-totQs q.parts<0
   ·simp (disch:=omega) only [if_pos c4,cpos]
    rw [if_pos (by omega)]; exact Ev.pure _
   ·simp (disch:=omega) only [if_neg c4,cneg]
    rw [if_neg (by omega)]; exact (Ev.pure _).eq (by omega)
def smallQ (q:Query):Prop:=totQ q<=1048576
theorem smallQ_part {q p:Query} (h:smallQ q) (hp:p ∈ q.parts):smallQ p:=by
 have h1:=totQ_mem hp
 have h2:=totQ_eq q
 unfold smallQ at *
 omega
theorem smallQ_len {q:Query} (h:smallQ q):q.field.size<=1048576/\q.word.size<=1048576/\q.parts.length<=1048576:=by
 have h1:=len_totQs q.parts
 have h2:=totQ_eq q
 unfold smallQ at *
 omega
theorem toQp_ev:∀ q:Query,smallQ q->Ev (fun k=>laws_toQuery_p.F k q) q:=by
 refine byQ fun q ih hs=> ?_
 obtain ⟨_,_,hlen⟩:=smallQ_len hs
 have loop:∀ n i:Nat,i+n=q.parts.length->∀ ys:List Query,ys.length=q.parts.length->ys.take i=q.parts.take i->Ev (fun k=>laws_toQueryS_p.l0 k q.parts ys i) q.parts:=by
  intro n
  induction n with
  | zero=>
   intro i h ys hy ht
   refine Ev.step (fun k=>by rw [laws_toQueryS_p.l0]) ?_
   simp (disch:=omega) only [cneg]
   have:ys=q.parts:=by
    rw [List.take_of_length_le (by omega),List.take_of_length_le (by omega)] at ht
    exact ht
   rw [this]; exact Ev.pure _
  | succ n ihn=>
   intro i h ys hy ht
   have hi:i<q.parts.length:=by omega
   refine Ev.step (fun k=>by rw [laws_toQueryS_p.l0]) ?_
   simp (disch:=omega) only [cpos,Int.toNat_natCast,getD_at hi]
   refine Ev.bind (ih _ (List.getElem_mem hi) (smallQ_part hs (List.getElem_mem hi))) ?_
   simp (disch:=omega) only [cpos,wrap_in]
   exact ihn (i+1) (by omega) (ys.set i q.parts[i]) (by simpa using hy) (by
    rw [List.take_add_one,List.take_add_one,List.take_set_of_le (Nat.le_refl i),ht]
    simp [show i<ys.length by omega,hi])
 refine Ev.step (fun k=>by rw [laws_toQuery_p.F]) ?_
 have inner:Ev (fun k=>laws_toQueryS_p.F k q.parts) q.parts:=by
  refine Ev.step (fun k=>by rw [laws_toQueryS_p.F]) ?_
  have hn:nb .query=64:=rfl
  simp (disch:=first | omega | (simp only [hn,Int.toNat_natCast]; omega)) only [ceq,cpos,cble]
  exact Ev.bind (loop q.parts.length 0 (by omega) _ (by simp) (by simp)) (Ev.pure _)
 refine Ev.bind inner ((Ev.pure _).eq ?_)
 cases q; rfl
theorem eqQ_ev:∀ q:Query,smallQ q->Ev (fun k=>laws_eqQuery.F k q q) true:=by
 refine byQ fun q ih hs=> ?_
 obtain ⟨_,_,hlen⟩:=smallQ_len hs
 have loop:∀ n i:Nat,i+n=q.parts.length->Ev (fun k=>laws_eqQueryS.l0 k q.parts q.parts i) (.inr ()):=by
  intro n
  induction n with
  | zero=>
   intro i h
   refine Ev.step (fun k=>by rw [laws_eqQueryS.l0]) ?_
   simp (disch:=omega) only [cneg]
   exact Ev.pure _
  | succ n ihn=>
   intro i h
   have hi:i<q.parts.length:=by omega
   refine Ev.step (fun k=>by rw [laws_eqQueryS.l0]) ?_
   simp (disch:=omega) only [cpos,Int.toNat_natCast,getD_at hi]
   refine Ev.bind (ih _ (List.getElem_mem hi) (smallQ_part hs (List.getElem_mem hi))) ?_
   simp (disch:=omega) only [Bool.not_true,cond_false,wrap_in]
   exact ihn (i+1) (by omega)
 refine Ev.step (fun k=>by rw [laws_eqQuery.F]) ?_
 simp only [beqS_self,Bool.not_true,cond_false,bne_self_eq_false]
 have inner:Ev (fun k=>laws_eqQueryS.F k q.parts q.parts) true:=by
  refine Ev.step (fun k=>by rw [laws_eqQueryS.F]) ?_
  simp only [bne_self_eq_false,cond_false]
  exact Ev.bind (loop q.parts.length 0 (by omega)) (Ev.pure _)
 exact Ev.bind inner (Ev.pure _)
def signB (b:UInt8):Bool:=(decide (97<=b.toNat) && decide (b.toNat<=122)) || (decide (48<=b.toNat) && decide (b.toNat<=57))
theorem digit_ev (b:UInt8):spec_l6Digit.F (b.toNat:Int)=some (decide (48<=b.toNat) && decide (b.toNat<=57)):=by
 unfold spec_l6Digit.F
 rw [show decide ((b.toNat:Int) ≥ 48)=decide (48<=b.toNat) from decide_eq_decide.2 (by omega),show decide ((b.toNat:Int)<=57)=decide (b.toNat<=57) from decide_eq_decide.2 (by omega)]
 cases decide (48<=b.toNat) <;> rfl
theorem isDigit_ev (b:UInt8):impl_isDigit.F (b.toNat:Int)=some (decide (48<=b.toNat) && decide (b.toNat<=57)):=by
 unfold impl_isDigit.F
 rw [show decide ((b.toNat:Int) ≥ 48)=decide (48<=b.toNat) from decide_eq_decide.2 (by omega),show decide ((b.toNat:Int)<=57)=decide (b.toNat<=57) from decide_eq_decide.2 (by omega)]
 cases decide (48<=b.toNat) <;> rfl
theorem isLower_ev (b:UInt8):impl_isLower.F (b.toNat:Int)=some (decide (97<=b.toNat) && decide (b.toNat<=122)):=by
 unfold impl_isLower.F
 rw [show decide ((b.toNat:Int) ≥ 97)=decide (97<=b.toNat) from decide_eq_decide.2 (by omega),show decide ((b.toNat:Int)<=122)=decide (b.toNat<=122) from decide_eq_decide.2 (by omega)]
 cases decide (97<=b.toNat) <;> rfl
theorem sign_ev (b:UInt8):spec_l22Sign.F (b.toNat:Int)=some (signB b):=by
 unfold spec_l22Sign.F signB
 rw [digit_ev,show decide ((b.toNat:Int) ≥ 97)=decide (97<=b.toNat) from decide_eq_decide.2 (by omega),show decide ((b.toNat:Int)<=122)=decide (b.toNat<=122) from decide_eq_decide.2 (by omega)]
 cases decide (97<=b.toNat) <;> cases decide (b.toNat<=122) <;> rfl
theorem in_ev (a b c:Int):spec_l1In.F a b c=some (decide (a ≥ b) && decide (a<=c)):=by
 unfold spec_l1In.F
 cases decide (a ≥ b) <;> rfl
theorem inside_ev (a b c:Int):impl_inside.F a b c=some (decide (a ≥ b) && decide (a<=c)):=by
 unfold impl_inside.F
 cases decide (a ≥ b) <;> rfl
theorem all_drop {s:ByteArray} {i:Nat} (hi:i<s.size) (p:UInt8->Bool):((L s).drop i).all p=(p ((L s).getD i 0) && ((L s).drop (i+1)).all p):=by
 have hl:i<(L s).length:=by rw [L_size]; exact hi
 rw [List.drop_eq_getElem_cons hl,getD_at hl]; rfl
theorem specWord_l0 (s:ByteArray) (hs:s.size<=9223372036854775806):∀ n i:Nat,i+n=s.size->Ev (fun k=>spec_l22Word.l0 k s i) (if ((L s).drop i).all signB=true then .inr s else .inl false)
 | 0,i,h=>by
  refine Ev.step (fun k=>by rw [spec_l22Word.l0]) ?_
  simp (disch:=omega) only [cneg]
  rw [List.drop_eq_nil_of_le (by rw [L_size]; omega)]
  exact Ev.pure _
 | n+1,i,h=>by
  refine Ev.step (fun k=>by rw [spec_l22Word.l0]) ?_
  simp (disch:=omega) only [cpos,Int.toNat_natCast,L_bt]
  refine Ev.bind0 (sign_ev _) ?_
  rw [all_drop (by omega)]
  cases hlow:signB ((L s).getD i 0) with
  | false=>simp only [Bool.not_false,cond_true,Bool.false_and]; exact Ev.pure _
  | true=>
   simp (disch:=omega) only [Bool.not_true,cond_false,Bool.true_and,wrap_in]
   exact specWord_l0 s hs n (i+1) (by omega)
theorem implWord_l0 (s:ByteArray) (hs:s.size<=9223372036854775806):∀ n i:Nat,i+n=s.size->Ev (fun k=>impl_isQueryWord.l0 k s i) (if ((L s).drop i).all signB=true then .inr s else .inl false)
 | 0,i,h=>by
  refine Ev.step (fun k=>by rw [impl_isQueryWord.l0]) ?_
  simp (disch:=omega) only [cneg]
  rw [List.drop_eq_nil_of_le (by rw [L_size]; omega)]
  exact Ev.pure _
 | n+1,i,h=>by
  have ih:=implWord_l0 s hs n (i+1) (by omega)
  refine Ev.step (fun k=>by rw [impl_isQueryWord.l0]) ?_
  simp (disch:=omega) only [cpos,Int.toNat_natCast,L_bt]
  refine Ev.bind0 (isLower_ev _) ?_
  rw [all_drop (by omega)]
  unfold signB at ih ⊢
  cases hlow:(decide (97<=((L s).getD i 0).toNat) && decide (((L s).getD i 0).toNat<=122)) with
  | true=>
   simp (disch:=omega) only [Bool.not_true,cond_false,Bool.true_or,Bool.true_and,wrap_in]
   exact ih
  | false=>
   simp (disch:=omega) only [Bool.not_false,cond_true,Bool.false_or,cpos]
   refine Ev.bind0 (isDigit_ev _) ?_
   cases hd:(decide (48<=((L s).getD i 0).toNat) && decide (((L s).getD i 0).toNat<=57)) with
   | false=>simp only [Bool.not_false,cond_true,Bool.false_and]; exact Ev.pure _
   | true=>
    simp (disch:=omega) only [Bool.not_true,cond_false,Bool.true_and,wrap_in]
    exact ih
def wordB (s:ByteArray):Bool:=(L s).all signB && ((decide ((s.size:Int) ≥ 1) && decide ((s.size:Int)<=15)) && (!beqS s ⟨#[110,111,116]⟩ && (!beqS s ⟨#[97,110,100]⟩ && !beqS s ⟨#[111,114]⟩)))
theorem specWord_ev (s:ByteArray) (hs:s.size<=9223372036854775806):Ev (fun k=>spec_l22Word.F k s) (wordB s):=by
 unfold spec_l22Word.F wordB
 have:=specWord_l0 s hs s.size 0 (by omega)
 rw [List.drop_zero] at this
 cases hall:(L s).all signB with
 | false=>rw [hall] at this; exact Ev.bind this (Ev.pure _)
 | true=>
  rw [hall] at this
  refine Ev.bind this (Ev.bind0 (in_ev _ _ _) ?_)
  simp only [Bool.true_and]
  cases (decide ((s.size:Int) ≥ 1) && decide ((s.size:Int)<=15)) <;> cases (!beqS s ⟨#[110,111,116]⟩) <;> cases (!beqS s ⟨#[97,110,100]⟩) <;> exact Ev.pure _
theorem implWord_ev (s:ByteArray) (hs:s.size<=9223372036854775806):Ev (fun k=>impl_isQueryWord.F k s) (wordB s):=by
 unfold impl_isQueryWord.F wordB
 have:=implWord_l0 s hs s.size 0 (by omega)
 rw [List.drop_zero] at this
 cases hall:(L s).all signB with
 | false=>rw [hall] at this; exact Ev.bind this (Ev.pure _)
 | true=>
  rw [hall] at this
  refine Ev.bind this (Ev.bind0 (inside_ev _ _ _) ?_)
  simp only [Bool.true_and]
  cases (decide ((s.size:Int) ≥ 1) && decide ((s.size:Int)<=15)) <;> cases (!beqS s ⟨#[110,111,116]⟩) <;> cases (!beqS s ⟨#[97,110,100]⟩) <;> exact Ev.pure _
theorem beqS_comm (s t:ByteArray):beqS s t=beqS t s:=by
 rw [Bool.eq_iff_iff,beqS_iff,beqS_iff]
 exact eq_comm
def memS (s:ByteArray) (xs:List ByteArray):Bool:=xs.any fun f=>beqS f s
theorem memS_cons (s x:ByteArray) (xs:List ByteArray):memS s (x :: xs)=(beqS x s || memS s xs):=rfl
theorem field_l0 (s:ByteArray) (xs:List ByteArray) (hl:xs.length<=1000):∀ n i:Nat,i+n=xs.length->Ev (fun k=>spec_l22Field.l0 k s xs i) (if memS s (xs.drop i)=true then .inl true else .inr s)
 | 0,i,h=>by
  refine Ev.step (fun k=>by rw [spec_l22Field.l0]) ?_
  simp (disch:=omega) only [cneg]
  rw [List.drop_eq_nil_of_le (by omega)]
  exact Ev.pure _
 | n+1,i,h=>by
  have hi:i<xs.length:=by omega
  refine Ev.step (fun k=>by rw [spec_l22Field.l0]) ?_
  simp (disch:=omega) only [cpos,Int.toNat_natCast,getD_at hi]
  rw [List.drop_eq_getElem_cons hi,memS_cons]
  cases beqS xs[i] s with
  | true=>simp only [Bool.true_or,cond_true]; exact Ev.pure _
  | false=>
   simp (disch:=omega) only [Bool.false_or,cond_false,wrap_in]
   exact field_l0 s xs hl n (i+1) (by omega)
theorem index_l0 (s:ByteArray) (xs:List ByteArray) (hl:xs.length<=1000):∀ n i:Nat,i+n=xs.length->∃ r,Ev (fun k=>slices_Index_string.l0 k xs s xs.length i) r/\((memS s (xs.drop i)=true/\∃ j:Int,r = .inl j/\0<=j)\/(memS s (xs.drop i)=false/\r = .inr ()))
 | 0,i,h=>by
  refine ⟨.inr (),Ev.step (fun k=>by rw [slices_Index_string.l0]) ?_,.inr ⟨by rw [List.drop_eq_nil_of_le (by omega)]; rfl,rfl⟩⟩
  simp (disch:=omega) only [cneg]
  exact Ev.pure _
 | n+1,i,h=>by
  have hi:i<xs.length:=by omega
  obtain ⟨r,h1,h2⟩:=index_l0 s xs hl n (i+1) (by omega)
  rw [List.drop_eq_getElem_cons hi,memS_cons]
  cases hb:beqS xs[i] s with
  | true=>
   refine ⟨.inl i,Ev.step (fun k=>by rw [slices_Index_string.l0]) ?_,.inl ⟨rfl,i,rfl,by omega⟩⟩
   simp (disch:=omega) only [cpos,Int.toNat_natCast,getD_at hi]
   rw [beqS_comm,hb]
   exact Ev.pure _
  | false=>
   refine ⟨r,Ev.step (fun k=>by rw [slices_Index_string.l0]) ?_,by rw [Bool.false_or]; exact h2⟩
   simp (disch:=omega) only [cpos,Int.toNat_natCast,getD_at hi]
   rw [beqS_comm,hb]
   simp (disch:=omega) only [cond_false,wrap_in]
   exact h1
theorem contains_ev (s:ByteArray) (xs:List ByteArray) (hl:xs.length<=1000):Ev (fun k=>slices_Contains_string.F k xs s) (memS s xs):=by
 unfold slices_Contains_string.F slices_Index_string.F
 obtain ⟨r,h1,h2⟩:=index_l0 s xs hl xs.length 0 (by omega)
 rw [List.drop_zero] at h2
 rcases h2 with ⟨h3,j,rfl,hj⟩ | ⟨h3,rfl⟩
 ·refine Ev.bind (Ev.bind h1 (Ev.pure _)) ((Ev.pure _).eq ?_)
  rw [h3]; exact decide_eq_true hj
 ·refine Ev.bind (Ev.bind h1 (Ev.pure _)) ((Ev.pure _).eq ?_)
  rw [h3]; rfl
def fieldB (s:ByteArray):Bool:=memS s glV0 || beqS s ⟨#[]⟩
theorem specField_ev (s:ByteArray):Ev (fun k=>spec_l22Field.F k s) (fieldB s):=by
 unfold spec_l22Field.F
 refine Ev.bind0 (a:=glV0) rfl ?_
 have:=field_l0 s glV0 (by decide) glV0.length 0 (by omega)
 rw [List.drop_zero] at this
 unfold fieldB
 cases hm:memS s glV0 with
 | true=>rw [hm] at this; exact Ev.bind this (Ev.pure _)
 | false=>rw [hm] at this; exact Ev.bind this (Ev.pure _)
theorem isField_ev (s:ByteArray):Ev (fun k=>impl_isField.F k s) (memS s glV0):=by
 unfold impl_isField.F
 exact Ev.bind (contains_ev s glV0 (by decide)) (Ev.pure _)
def formB (q:Query):Bool:=cond (q.op==1) (wordB q.word && (fieldB q.field && ((q.parts.length:Int)==0)))
 (cond (q.op==2) (beqS q.word ⟨#[]⟩ && (beqS q.field ⟨#[]⟩ && ((q.parts.length:Int)==1)))
  (cond (q.op==3 || q.op==4) (beqS q.word ⟨#[]⟩ && (beqS q.field ⟨#[]⟩ && ((q.parts.length:Int)==2))) false))
theorem form_ev (q:Query) (h:q.word.size<=1048576):Ev (fun k=>spec_l22Form.F k q) (formB q):=by
 unfold spec_l22Form.F formB
 cases q.op==1 with
 | true=>
  simp only [cond_true]
  refine Ev.bind (specWord_ev _ (by omega)) ?_
  cases wordB q.word with
  | false=>exact Ev.pure _
  | true=>
   simp only [cond_true,Bool.true_and]
   refine Ev.bind (specField_ev _) ?_
   cases fieldB q.field <;> exact Ev.pure _
 | false=>
  simp only [cond_false]
  cases q.op==2 <;> cases q.op==3 <;> cases q.op==4 <;> cases beqS q.word ⟨#[]⟩ <;> cases beqS q.field ⟨#[]⟩ <;> exact Ev.pure _
mutual
def qforms:Query->Bool
 | .mk a b c ps=>formB (.mk a b c ps) && qformsL ps
def qformsL:List Query->Bool
 | []=>true
 | q :: l=>qforms q && qformsL l
end
theorem qformsL_nil:qformsL []=true:=by simp only [qformsL]
theorem qsizeL_nil:qsizeL []=0:=by simp only [qsizeL]
theorem qforms_eq (q:Query):qforms q=(formB q && qformsL q.parts):=by cases q; simp only [qforms,Query.parts]
theorem qformsL_drop {ps:List Query} {i:Nat} (h:i<ps.length):qformsL (ps.drop i)=(qforms ps[i] && qformsL (ps.drop (i+1))):=by rw [List.drop_eq_getElem_cons h]; simp only [qformsL]
theorem forms_ev:∀ q:Query,smallQ q->Ev (fun k=>spec_l22Forms.F k q) (qforms q):=by
 refine byQ fun q ih hs=> ?_
 obtain ⟨_,hw,hlen⟩:=smallQ_len hs
 have loop:∀ n i:Nat,i+n=q.parts.length->Ev (fun k=>spec_l22Forms.l0 k q i) (if qformsL (q.parts.drop i)=true then .inr () else .inl false):=by
  intro n
  induction n with
  | zero=>
   intro i h
   refine Ev.step (fun k=>by rw [spec_l22Forms.l0]) ?_
   simp (disch:=omega) only [cneg]
   rw [List.drop_eq_nil_of_le (by omega)]
   simp only [qformsL]
   exact Ev.pure _
  | succ n ihn=>
   intro i h
   have hi:i<q.parts.length:=by omega
   refine Ev.step (fun k=>by rw [spec_l22Forms.l0]) ?_
   simp (disch:=omega) only [cpos,Int.toNat_natCast,getD_at hi]
   refine Ev.bind (ih _ (List.getElem_mem hi) (smallQ_part hs (List.getElem_mem hi))) ?_
   rw [qformsL_drop hi]
   cases qforms q.parts[i] with
   | false=>exact Ev.pure _
   | true=>
    simp (disch:=omega) only [Bool.not_true,cond_false,Bool.true_and,wrap_in]
    exact ihn (i+1) (by omega)
 refine Ev.step (fun k=>by rw [spec_l22Forms.F]) ?_
 refine Ev.bind (form_ev q hw) ?_
 rw [qforms_eq]
 cases formB q with
 | false=>exact Ev.pure _
 | true=>
  simp only [Bool.not_true,cond_false,Bool.true_and]
  have:=loop q.parts.length 0 (by omega)
  rw [List.drop_zero] at this
  cases hf:qformsL q.parts with
  | false=>rw [hf] at this; exact Ev.bind this (Ev.pure _)
  | true=>rw [hf] at this; exact Ev.bind this (Ev.pure _)
theorem qsizeL_le:∀ ps:List Query,qsizeL ps<=totQs ps:=by
 have one:∀ q:Query,qsize q<=1+totQ q:=byQ fun q ih=>by
  rw [qsize_eq,totQ_eq]
  have:∀ ps:List Query,(∀ p ∈ ps,qsize p<=1+totQ p)->qsizeL ps<=totQs ps:=by
   intro ps
   induction ps with
   | nil=>intro _; exact Nat.le_refl _
   | cons p l ihl=>
    intro h
    simp only [qsizeL,totQs]
    have h1:=h p List.mem_cons_self
    have h2:=ihl fun x hx=>h x (List.mem_cons_of_mem _ hx)
    omega
  have:=this q.parts ih
  omega
 intro ps
 induction ps with
 | nil=>exact Nat.le_refl _
 | cons p l ih=>simp only [qsizeL,totQs]; have:=one p; omega
theorem size_ev:∀ q:Query,smallQ q->Ev (fun k=>spec_l22Size.F k q) (qsize q):=by
 refine byQ fun q ih hs=> ?_
 obtain ⟨_,_,hlen⟩:=smallQ_len hs
 have hq:=qsizeL_le q.parts
 have ht:=totQ_eq q
 have loop:∀ n i:Nat,i+n=q.parts.length->∀ c:Nat,c+qsizeL (q.parts.drop i)<=1+qsizeL q.parts->Ev (fun k=>spec_l22Size.l0 k q c i) ((c+qsizeL (q.parts.drop i):Nat):Int):=by
  intro n
  induction n with
  | zero=>
   intro i h c hc
   refine Ev.step (fun k=>by rw [spec_l22Size.l0]) ?_
   simp (disch:=omega) only [cneg]
   rw [List.drop_eq_nil_of_le (by omega)]
   simp only [qsizeL,Nat.add_zero]
   exact Ev.pure _
  | succ n ihn=>
   intro i h c hc
   have hi:i<q.parts.length:=by omega
   have hd:=qsizeL_drop hi
   unfold smallQ at hs
   refine Ev.step (fun k=>by rw [spec_l22Size.l0]) ?_
   simp (disch:=omega) only [cpos,Int.toNat_natCast,getD_at hi]
   refine Ev.bind (ih _ (List.getElem_mem hi) (smallQ_part hs (List.getElem_mem hi))) ?_
   simp (disch:=omega) only [wrap_in]
   have:=ihn (i+1) (by omega) (c+qsize q.parts[i]) (by omega)
   rw [hd,show c+(qsize q.parts[i]+qsizeL (q.parts.drop (i+1)))=c+qsize q.parts[i]+qsizeL (q.parts.drop (i+1)) by omega]
   exact this
 refine Ev.step (fun k=>by rw [spec_l22Size.F]) ?_
 have:=loop q.parts.length 0 (by omega) 1 (by rw [List.drop_zero]; omega)
 rw [List.drop_zero,<- qsize_eq] at this
 exact Ev.bind this (Ev.pure _)
def goodQ (q:Query):Bool:=qforms q && decide ((qsize q:Int)<=15)
theorem specGood_ev (q:Query) (hs:smallQ q):Ev (fun k=>spec_l22Good.F k q) (goodQ q):=by
 unfold spec_l22Good.F goodQ
 refine Ev.bind (forms_ev q hs) ?_
 cases qforms q with
 | false=>exact Ev.pure _
 | true=>exact Ev.bind (size_ev q hs) (Ev.pure _)
theorem queries_ev:∀ q:Query,smallQ q->∀ m:Int,m<=15->0<=m->∃ c:Int,Ev (fun k=>impl_queries.F k q m) (c,qforms q && decide ((qsize q:Int)<=m))/\0<=c/\c<=m/\((qforms q && decide ((qsize q:Int)<=m))=true->c=qsize q):=by
 refine byQ fun q ih hs m hm hm0=> ?_
 obtain ⟨_,hw,hlen⟩:=smallQ_len hs
 by_cases c1:m<1
 ·refine ⟨0,Ev.step (fun k=>by rw [impl_queries.F]) ?_,Int.le_refl _,hm0,fun h=> ?_⟩
  ·simp (disch:=omega) only [cpos]
   have:=qsize_pos q
   rw [decide_eq_false (show ¬ (qsize q:Int)<=m by omega),Bool.and_false]
   exact Ev.pure _
  ·have:=qsize_pos q
   rw [decide_eq_false (show ¬ (qsize q:Int)<=m by omega),Bool.and_false] at h
   cases h
 ·have loop:∀ n i:Nat,i+n=q.parts.length->∀ (b:Bool) (c:Int),0<=c->c<=m->∃ r,Ev (fun k=>impl_queries.l1 k m b c q.parts q.parts.length i) r /\
    (((b && (qformsL (q.parts.drop i) && decide (c+qsizeL (q.parts.drop i)<=m)))=true/\r = .inr (true,c+qsizeL (q.parts.drop i))) \/
     ((b && (qformsL (q.parts.drop i) && decide (c+qsizeL (q.parts.drop i)<=m)))=false/\(r = .inl (0,false)\/∃ c',r = .inr (false,c')/\0<=c'/\c'<=m))):=by
   intro n
   induction n with
   | zero=>
    intro i h b c h0 h1
    refine ⟨.inr (b,c),Ev.step (fun k=>by rw [impl_queries.l1]) ?_,?_⟩
    ·simp (disch:=omega) only [cneg]
     exact Ev.pure _
    ·rw [List.drop_eq_nil_of_le (by omega)]
     rw [qformsL_nil,qsizeL_nil,Bool.true_and,decide_eq_true (show c+((0:Nat):Int)<=m by omega),Bool.and_true]
     cases b with
     | true=>exact .inl ⟨rfl,by congr 2; omega⟩
     | false=>exact .inr ⟨rfl,.inr ⟨c,rfl,h0,h1⟩⟩
   | succ n ihn=>
    intro i h b c h0 h1
    have hi:i<q.parts.length:=by omega
    cases b with
    | false=>
     refine ⟨.inl (0,false),Ev.step (fun k=>by rw [impl_queries.l1]) ?_,.inr ⟨rfl,.inl rfl⟩⟩
     simp (disch:=omega) only [cpos,Bool.not_false,cond_true]
     exact Ev.pure _
    | true=>
     obtain ⟨c2,e1,e2,e3,e4⟩:=ih _ (List.getElem_mem hi) (smallQ_part hs (List.getElem_mem hi)) (m-c) (by omega) (by omega)
     obtain ⟨r,f1,f2⟩:=ihn (i+1) (by omega) (qforms q.parts[i] && decide ((qsize q.parts[i]:Int)<=m-c)) (c+c2) (by omega) (by omega)
     refine ⟨r,Ev.step (fun k=>by rw [impl_queries.l1]) ?_,?_⟩
     ·simp (disch:=omega) only [cpos,Int.toNat_natCast,getD_at hi,Bool.not_true,cond_false,wrap_in]
      refine Ev.bind e1 ?_
      simp (disch:=omega) only [wrap_in]
      exact f1
     ·rw [qformsL_drop hi,qsizeL_drop hi,Bool.true_and]
      cases hg:(qforms q.parts[i] && decide ((qsize q.parts[i]:Int)<=m-c)) with
      | true=>
       have hc2:=e4 hg
       rw [hg] at f2
       obtain ⟨hg1,hg2⟩:=Bool.and_eq_true_iff.1 hg
       have hg2:=of_decide_eq_true hg2
       rw [hg1,Bool.true_and]
       have es:c+((qsize q.parts[i]+qsizeL (q.parts.drop (i+1)):Nat):Int)=c+c2+(qsizeL (q.parts.drop (i+1)):Int):=by omega
       rw [es]
       simpa only [Bool.true_and] using f2
      | false=>
       rw [hg] at f2
       have hfalse:(qforms q.parts[i] && qformsL (q.parts.drop (i+1)) && decide (c+((qsize q.parts[i]+qsizeL (q.parts.drop (i+1)):Nat):Int)<=m))=false:=by
        cases hq:qforms q.parts[i] with
        | false=>rfl
        | true=>
         rw [hq,Bool.true_and] at hg
         have:=of_decide_eq_false hg
         rw [decide_eq_false (by omega),Bool.and_false]
       refine .inr ⟨hfalse,?_⟩
       rcases f2 with ⟨h5,_⟩ | ⟨_,h5⟩
       ·cases h5
       ·exact h5
  have fin:∀ b:Bool,∃ c:Int,Ev (fun k=>(impl_queries.l1 k m b 1 q.parts (q.parts.length:Int) 0).bind fun y=>match y with | .inl z=>some (z.1,z.2) | .inr z=>some (z.2,z.1)) (c,b && (qformsL q.parts && decide ((qsize q:Int)<=m)))/\0<=c/\c<=m/\((b && (qformsL q.parts && decide ((qsize q:Int)<=m)))=true->c=qsize q):=by
   intro b
   obtain ⟨r,f1,f2⟩:=loop q.parts.length 0 (by omega) b 1 (by omega) (by omega)
   rw [List.drop_zero,show (1:Int)+(qsizeL q.parts:Int)=(qsize q:Int) by rw [qsize_eq]; omega] at f2
   rcases f2 with ⟨h5,rfl⟩ | ⟨h5,rfl | ⟨c',rfl,h6,h7⟩⟩
   ·refine ⟨qsize q,Ev.bind f1 (by rw [h5]; exact Ev.pure _),by omega,?_,fun _=>rfl⟩
    have:=(Bool.and_eq_true_iff.1 (Bool.and_eq_true_iff.1 h5).2).2
    exact of_decide_eq_true this
   ·exact ⟨0,Ev.bind f1 (by rw [h5]; exact Ev.pure _),by omega,by omega,fun h=>by rw [h5] at h; cases h⟩
   ·exact ⟨c',Ev.bind f1 (by rw [h5]; exact Ev.pure _),h6,h7,fun h=>by rw [h5] at h; cases h⟩
  have body:∃ c:Int,Ev (fun k=>impl_queries.F k q m) (c,formB q && (qformsL q.parts && decide ((qsize q:Int)<=m)))/\0<=c/\c<=m/\((formB q && (qformsL q.parts && decide ((qsize q:Int)<=m)))=true->c=qsize q):=by
   obtain ⟨c,g1,g2⟩:=fin (formB q)
   refine ⟨c,Ev.step (fun k=>by rw [impl_queries.F]) ?_,g2⟩
   clear g2
   simp (disch:=omega) only [cneg]
   unfold formB fieldB at *
   cases h1:q.op==1 with
   | true=>
    rw [h1] at g1
    simp only [cond_true] at g1 ⊢
    refine Ev.bind (implWord_ev _ (by omega)) ?_
    cases hwd:wordB q.word with
    | false=>rw [hwd] at g1; exact g1
    | true=>
     rw [hwd] at g1
     simp only [cond_true,Bool.true_and] at g1 ⊢
     cases hfe:beqS q.field ⟨#[]⟩ with
     | true=>rw [hfe] at g1; simp only [Bool.or_true,Bool.true_and,cond_true] at g1 ⊢; exact g1
     | false=>
      rw [hfe] at g1
      simp only [cond_false,Bool.or_false] at g1 ⊢
      refine Ev.bind (isField_ev _) ?_
      cases hm:memS q.field glV0 with
      | true=>rw [hm] at g1; exact g1
      | false=>rw [hm] at g1; exact g1
   | false=>
    rw [h1] at g1
    simp only [cond_false] at g1 ⊢
    cases h2:q.op==2 <;> cases h3:q.op==3 <;> cases h4:q.op==4 <;> cases h5:beqS q.word ⟨#[]⟩ <;> cases h6:beqS q.field ⟨#[]⟩ <;> rw [h2,h3,h4,h5,h6] at g1 <;> exact g1
  rw [qforms_eq,Bool.and_assoc]
  exact body
theorem implGood_ev (q:Query) (hs:smallQ q):Ev (fun k=>impl_IsValidQuery.F k q) (goodQ q):=by
 obtain ⟨c,h1,_⟩:=queries_ev q hs 15 (by omega) (by omega)
 unfold impl_IsValidQuery.F goodQ
 exact Ev.bind h1 (Ev.pure _)
end Go.Proofs.YtkbichbahpnmmaaDoor
end
section
/- Plain laws: the text of a query. -/
namespace Go.Proofs.YtkbichbahpnmmaaDoor
open Go.Gx
theorem text_same:∀ (k:Nat) (q:Query),spec_l22Text.F k q=impl_formatQuery.F k q
 | 0,_=>rfl
 | k+1,q=>by
  rw [spec_l22Text.F,impl_formatQuery.F]
  simp only [text_same k]
theorem size_app (s t:ByteArray):(s++t).size=s.size+t.size:=by
 rw [<- L_size,L_append,List.length_append,L_size,L_size]
end Go.Proofs.YtkbichbahpnmmaaDoor
end
section
/- Plain laws: which query has which text. -/
namespace Go.Proofs.YtkbichbahpnmmaaDoor
open Go.Gx
inductive Tx:Query->List UInt8->Nat->Prop
 | word {w:ByteArray}:wordB w=true->Tx (.mk 1 ⟨#[]⟩ w []) (L w) 1
 | field {f w:ByteArray}:memS f glV0=true->wordB w=true->Tx (.mk 1 f w []) (L f++58 :: L w) 1
 | not {p:Query} {s:List UInt8} {d:Nat}:Tx p s d->Tx (.mk 2 ⟨#[]⟩ ⟨#[]⟩ [p]) (110 :: 111 :: 116 :: 32 :: s) (d+1)
 | and {a b:Query} {s t:List UInt8} {d d':Nat}:Tx a s d->Tx b t d'->Tx (.mk 3 ⟨#[]⟩ ⟨#[]⟩ [a,b]) (40 :: (s++32 :: 97 :: 110 :: 100 :: 32 :: (t++[41]))) (max d d'+1)
 | or {a b:Query} {s t:List UInt8} {d d':Nat}:Tx a s d->Tx b t d'->Tx (.mk 4 ⟨#[]⟩ ⟨#[]⟩ [a,b]) (40 :: (s++32 :: 111 :: 114 :: 32 :: (t++[41]))) (max d d'+1)
theorem beqS_z {s:ByteArray} (h:beqS s ⟨#[]⟩=true):s=⟨#[]⟩:=beqS_iff.1 h
theorem forms_tx:∀ q:Query,qforms q=true->∃ s d,Tx q s d:=by
 refine byQ fun q ih hf=> ?_
 obtain ⟨op,f,w,ps⟩:=q
 rw [qforms_eq] at hf
 obtain ⟨h1,h2⟩:=Bool.and_eq_true_iff.1 hf
 unfold formB at h1
 simp only [Query.op,Query.field,Query.word,Query.parts] at h1 h2 ih
 by_cases c1:op=1
 ·subst c1
  simp only [beq_self_eq_true,cond_true,Bool.and_eq_true,beq_iff_eq,fieldB,Bool.or_eq_true] at h1
  obtain ⟨a1,a2,a3⟩:=h1
  obtain rfl:ps=[]:=List.eq_nil_of_length_eq_zero (by omega)
  rcases a2 with a2 | a2
  ·exact ⟨_,_,.field a2 a1⟩
  ·rw [beqS_z a2]; exact ⟨_,_,.word a1⟩
 rw [show (op==1)=false by simpa using c1,cond_false] at h1
 by_cases c2:op=2
 ·subst c2
  simp only [beq_self_eq_true,cond_true,Bool.and_eq_true,beq_iff_eq] at h1
  obtain ⟨a1,a2,a3⟩:=h1
  obtain ⟨p,rfl⟩:=List.length_eq_one_iff.1 (show ps.length=1 by omega)
  simp only [qformsL,Bool.and_true] at h2
  obtain ⟨s,d,hs⟩:=ih p (by simp) h2
  rw [beqS_z a1,beqS_z a2]
  exact ⟨_,_,.not hs⟩
 rw [show (op==2)=false by simpa using c2,cond_false] at h1
 cases c:(op==3 || op==4) with
 | false=>rw [c] at h1; cases h1
 | true=>
  rw [c] at h1
  simp only [cond_true,Bool.and_eq_true,beq_iff_eq] at h1
  obtain ⟨a1,a2,a3⟩:=h1
  obtain ⟨a,b,rfl⟩:∃ a b,ps=[a,b]:=by
   match ps,a3 with
   | [a,b],_=>exact ⟨a,b,rfl⟩
   | [],h=>simp at h
   | [_],h=>simp at h
   | _ :: _ :: _ :: _,h=>simp at h; omega
  simp only [qformsL,Bool.and_true,Bool.and_eq_true] at h2
  obtain ⟨s,d,hs⟩:=ih a (by simp) h2.1
  obtain ⟨t,d',ht⟩:=ih b (by simp) h2.2
  rw [beqS_z a1,beqS_z a2]
  simp only [Bool.or_eq_true,beq_iff_eq] at c
  rcases c with rfl | rfl
  ·exact ⟨_,_,.and hs ht⟩
  ·exact ⟨_,_,.or hs ht⟩
theorem wordB_def {w:ByteArray} (h:wordB w=true):(∀ x ∈ L w,signB x=true)/\1<=(L w).length/\(L w).length<=15/\L w ≠ [110,111,116]:=by
 unfold wordB at h
 simp only [Bool.and_eq_true,Bool.not_eq_true',List.all_eq_true,decide_eq_true_eq] at h
 obtain ⟨h1,h2,h3,_⟩:=h
 refine ⟨h1,by rw [L_size]; omega,by rw [L_size]; omega,fun e=> ?_⟩
 rw [beqS_eq,e] at h3
 exact absurd h3 (by decide)
theorem memS_mem {f:ByteArray} {xs:List ByteArray} (h:memS f xs=true):f ∈ xs:=by
 unfold memS at h
 rw [List.any_eq_true] at h
 obtain ⟨x,hx,e⟩:=h
 rw [<- beqS_iff.1 e]; exact hx
theorem memS_def {f:ByteArray} (h:memS f glV0=true):(∀ x ∈ L f,signB x=true)/\4<=(L f).length/\(L f).length<=9:=by
 have key:∀ g ∈ glV0,((L g).all signB && decide (4<=(L g).length) && decide ((L g).length<=9))=true:=by decide
 have:=key f (memS_mem h)
 simpa only [Bool.and_eq_true,List.all_eq_true,decide_eq_true_eq,and_assoc] using this
theorem tx_len {q:Query} {s:List UInt8} {d:Nat} (h:Tx q s d):s.length<=25 * qsize q/\1<=s.length:=by
 induction h with
 | word hw=>have:=wordB_def hw; simp only [qsize,qsizeL]; omega
 | field hf hw=>have:=wordB_def hw; have:=memS_def hf; simp only [qsize,qsizeL,List.length_append,List.length_cons]; omega
 | not _ ih=>simp only [qsize,qsizeL,List.length_cons]; omega
 | and _ _ ih ih'=>simp only [qsize,qsizeL,List.length_append,List.length_cons,List.length_nil]; omega
 | or _ _ ih ih'=>simp only [qsize,qsizeL,List.length_append,List.length_cons,List.length_nil]; omega
theorem memS_z:memS ⟨#[]⟩ glV0=false:=by
 cases h:memS ⟨#[]⟩ glV0 with
 | false=>rfl
 | true=>have:=(memS_def h).2.1; simp [L] at this
theorem mk_sz (s:List UInt8):(⟨s.toArray⟩:ByteArray).size=s.length:=by simp [ByteArray.size]
theorem mk_L (s:ByteArray):(⟨(L s).toArray⟩:ByteArray)=s:=L_inj (L_mk _)
theorem tx_text {q:Query} {s:List UInt8} {d:Nat} (h:Tx q s d):qsize q<=1000000->Ev (fun k=>impl_formatQuery.F k q) ⟨s.toArray⟩:=by
 induction h with
 | @word w hw=>
  intro _
  refine Ev.step (fun k=>by rw [impl_formatQuery.F]) ?_
  simp only [Query.op,Query.field,Query.word,beq_self_eq_true,cond_true,beqS_self,mk_L]
  exact Ev.pure _
 | @field f w hf hw=>
  intro _
  have h1:=wordB_def hw
  have h2:=memS_def hf
  have hz:beqS f ⟨#[]⟩=false:=by
   cases e:beqS f ⟨#[]⟩ with
   | false=>rfl
   | true=>rw [beqS_z e,memS_z] at hf; cases hf
  have e1:(⟨#[58]⟩:ByteArray).size=1:=rfl
  rw [L_size] at h1 h2
  refine Ev.step (fun k=>by rw [impl_formatQuery.F]) ?_
  simp only [Query.op,Query.field,Query.word,beq_self_eq_true,cond_true,hz,cond_false]
  rw [cble (by omega),cble (by rw [size_app]; omega)]
  refine (Ev.pure _).eq (L_inj ?_)
  rw [L_append,L_append,L_mk (L f++58 :: L w)]
  simp [L]
 | @not p s d hp ih=>
  intro hq
  simp only [qsize,qsizeL] at hq
  have h1:=tx_len hp
  have e1:(⟨#[110,111,116,32]⟩:ByteArray).size=4:=rfl
  refine Ev.step (fun k=>by rw [impl_formatQuery.F]) ?_
  simp only [Query.op,Query.field,Query.word,show ((2:Int)==1)=false from rfl,beq_self_eq_true,cond_true,cond_false]
  simp (disch:=(simp only [Query.parts,List.length_cons,List.length_nil]; omega)) only [cpos]
  refine Ev.bind (ih (by omega)) ?_
  rw [cble (by rw [mk_sz s]; omega)]
  exact (Ev.pure _).eq (L_inj (by rw [L_append,L_mk s,L_mk (110 :: 111 :: 116 :: 32 :: s)]; rfl))
 | @and a b s t d d' ha hb ih ih'=>
  intro hq
  simp only [qsize,qsizeL] at hq
  have h1:=tx_len ha
  have h2:=tx_len hb
  have e1:(⟨#[40]⟩:ByteArray).size=1:=rfl
  have e2:(⟨#[32,97,110,100,32]⟩:ByteArray).size=5:=rfl
  have e3:(⟨#[41]⟩:ByteArray).size=1:=rfl
  refine Ev.step (fun k=>by rw [impl_formatQuery.F]) ?_
  simp only [Query.op,Query.field,Query.word,show ((3:Int)==1)=false from rfl,show ((3:Int)==2)=false from rfl,beq_self_eq_true,cond_true,cond_false]
  simp (disch:=(simp only [Query.parts,List.length_cons,List.length_nil]; omega)) only [cpos]
  refine Ev.bind (ih (by omega)) ?_
  simp (disch:=(simp only [size_app,mk_sz s,mk_sz t]; omega)) only [cble]
  refine Ev.bind (ih' (by omega)) ?_
  simp (disch:=(simp only [size_app,mk_sz s,mk_sz t]; omega)) only [cble]
  refine (Ev.pure _).eq (L_inj ?_)
  simp only [L_append,L_mk s,L_mk t,L_mk (40 :: _)]
  simp [L]
 | @or a b s t d d' ha hb ih ih'=>
  intro hq
  simp only [qsize,qsizeL] at hq
  have h1:=tx_len ha
  have h2:=tx_len hb
  have e1:(⟨#[40]⟩:ByteArray).size=1:=rfl
  have e2:(⟨#[32,111,114,32]⟩:ByteArray).size=4:=rfl
  have e3:(⟨#[41]⟩:ByteArray).size=1:=rfl
  refine Ev.step (fun k=>by rw [impl_formatQuery.F]) ?_
  simp only [Query.op,Query.field,Query.word,show ((4:Int)==1)=false from rfl,show ((4:Int)==2)=false from rfl,show ((4:Int)==3)=false from rfl,beq_self_eq_true,cond_true,cond_false]
  simp (disch:=(simp only [Query.parts,List.length_cons,List.length_nil]; omega)) only [cpos]
  refine Ev.bind (ih (by omega)) ?_
  simp (disch:=(simp only [size_app,mk_sz s,mk_sz t]; omega)) only [cble]
  refine Ev.bind (ih' (by omega)) ?_
  simp (disch:=(simp only [size_app,mk_sz s,mk_sz t]; omega)) only [cble]
  refine (Ev.pure _).eq (L_inj ?_)
  simp only [L_append,L_mk s,L_mk t,L_mk (40 :: _)]
  simp [L]
end Go.Proofs.YtkbichbahpnmmaaDoor
end
section
/- Plain laws: marks of queries,copies of queries with a mark. -/
namespace Go.Proofs.YtkbichbahpnmmaaDoor
open Go.Gx
theorem markText_l0:∀ n:Nat,n<=1099511627776->∀ s:ByteArray,s.size+n<=9223372036854775806->∃ r,Ev (fun k=>laws_markText.l0 k (n:Int) s) r/\r.size<=s.size+n:=fun n=>by
 induction n using Nat.strongRecOn with
 | ind n ih=>
  intro hn s hs
  by_cases c:n=0
  ·refine ⟨s,Ev.step (fun k=>by rw [laws_markText.l0]) ?_,by omega⟩
   simp (disch:=omega) only [cneg]
   exact Ev.pure _
  ·have ed:Int.tdiv (n:Int) 10=((n / 10:Nat):Int):=by
    rw [Int.tdiv_eq_ediv_of_nonneg (by omega)]; omega
   have e1:∀ v:Int,(strL ([v]:List Int)).size=1:=fun v=>rfl
   obtain ⟨r,r1,r2⟩:=ih (n / 10) (by omega) (by omega) (strL ([IntKind.wrap .u8 (IntKind.wrap .i64 (48+Int.tmod (n:Int) 10))]:List Int)++s) (by rw [size_app,e1]; omega)
   rw [size_app,e1] at r2
   refine ⟨r,Ev.step (fun k=>by rw [laws_markText.l0]) ?_,by omega⟩
   have w1:IntKind.wrap .i64 (Int.tdiv (n:Int) 10)=((n / 10:Nat):Int):=by rw [ed,wrap_in (by omega) (by omega)]
   have hz:((10:Nat)==0)=false:=rfl
   rw [w1,hz]
   simp only [cond_false]
   simp (disch:=(try simp only [e1]); omega) only [cpos,cble]
   exact r1
theorem markText_ev (n:Nat) (hn:n<=1099511627776):∃ r,Ev (fun k=>laws_markText.F k (n:Int)) r:=by
 unfold laws_markText.F
 by_cases c:n=0
 ·refine ⟨⟨#[109,48]⟩,?_⟩
  simp (disch:=omega) only [cpos]
  exact Ev.pure _
 ·obtain ⟨r,r1,r2⟩:=markText_l0 n hn ⟨#[]⟩ (by rw [show (⟨#[]⟩:ByteArray).size=0 from rfl]; omega)
  have e0:(⟨#[]⟩:ByteArray).size=0:=rfl
  have e1:(⟨#[109]⟩:ByteArray).size=1:=rfl
  refine ⟨⟨#[109]⟩++r,?_⟩
  simp (disch:=omega) only [cneg]
  refine Ev.bind r1 ?_
  simp (disch:=omega) only [e1,cble]
  exact Ev.pure _
open Classical in
noncomputable def mt (n:Nat):ByteArray:=if h:∃ r,Ev (fun k=>laws_markText.F k (n:Int)) r then h.choose else ⟨#[]⟩
theorem mt_ev (n:Nat) (hn:n<=1099511627776):Ev (fun k=>laws_markText.F k (n:Int)) (mt n):=by
 have h:=markText_ev n hn
 unfold mt
 rw [dif_pos h]
 exact h.choose_spec
theorem set_mid {α:Type} (pre:List α) (e y:α) (xs:List α):(pre++e :: xs).set pre.length y=pre++y :: xs:=by simp
theorem getD_mid {α:Type} (pre:List α) (e d:α) (xs:List α):(pre++e :: xs).getD pre.length d=e:=by simp [List.getD]
theorem app_one {α:Type} (pre:List α) (y:α) (xs:List α):pre++y :: xs=(pre++[y])++xs:=by simp
theorem len_one {α:Type} (pre:List α) (y:α):(pre.length:Int)+1=((pre++[y]).length:Int):=by simp
noncomputable def mtZ (z:Int):ByteArray:=mt z.toNat
theorem mtZ_ev {z:Int} (h0:0<=z) (h1:z<=1099511627776):Ev (fun k=>laws_markText.F k z) (mtZ z):=by
 have h:=mt_ev z.toNat (by omega)
 rw [show ((z.toNat:Nat):Int)=z by omega] at h
 exact h
theorem qsizeL_len:∀ xs:List Query,xs.length<=qsizeL xs
 | []=>Nat.zero_le _
 | q :: l=>by simp only [qsizeL,List.length_cons]; have:=qsizeL_len l; have:=qsize_pos q; omega
theorem xQ_all:∀ n:Nat,∀ xs:List Query,qsizeL xs<=n->qsizeL xs<=1048576->∀ z:Int,0<=z->z+3 * (qsizeL xs:Int)<=1099511627776->∃ ys:List Query,ys.length=xs.length /\
  (∀ pre:List Query,pre.length+xs.length<=1048576->Ev (fun k=>laws_markQueryS_x.l0 k (pre++xs) z pre.length) (pre++ys,z+3 * (qsizeL xs:Int))) /\
  (∀ pre:List Query,pre.length+xs.length<=1048576->Ev (fun k=>laws_heldQueryS.l0 k (pre++ys) z pre.length) (.inr (z+3 * (qsizeL xs:Int)))):=by
 intro n
 induction n with
 | zero=>
  intro xs h hb z h0 h1
  cases xs with
  | nil=>
   refine ⟨[],rfl,fun pre hp=>Ev.step (fun k=>by rw [laws_markQueryS_x.l0]) ?_,fun pre hp=>Ev.step (fun k=>by rw [laws_heldQueryS.l0]) ?_⟩
   ·simp (disch:=omega) only [List.append_nil,cneg]
    exact (Ev.pure _).eq (by simp [qsizeL])
   ·simp (disch:=omega) only [List.append_nil,cneg]
    exact (Ev.pure _).eq (by simp [qsizeL])
  | cons q l=>simp only [qsizeL] at h; have:=qsize_pos q; omega
 | succ n ih=>
  intro xs h hb z h0 h1
  cases xs with
  | nil=>
   refine ⟨[],rfl,fun pre hp=>Ev.step (fun k=>by rw [laws_markQueryS_x.l0]) ?_,fun pre hp=>Ev.step (fun k=>by rw [laws_heldQueryS.l0]) ?_⟩
   ·simp (disch:=omega) only [List.append_nil,cneg]
    exact (Ev.pure _).eq (by simp [qsizeL])
   ·simp (disch:=omega) only [List.append_nil,cneg]
    exact (Ev.pure _).eq (by simp [qsizeL])
  | cons q l=>
   simp only [qsizeL,qsize_eq q] at h hb h1
   have hpl:=qsizeL_len q.parts
   obtain ⟨ps,p0,p1,p2⟩:=ih q.parts (by omega) (by omega) (z+1+1+1) (by omega) (by omega)
   obtain ⟨ys,y0,y1,y2⟩:=ih l (by omega) (by omega) (z+1+1+1+3 * (qsizeL q.parts:Int)) (by omega) (by omega)
   refine ⟨.mk z (mtZ (z+1)) (mtZ (z+1+1)) ps :: ys,by simp [y0],fun pre hp=> ?_,fun pre hp=> ?_⟩
   ·simp only [List.length_cons] at hp
    by_cases hbig:q.parts.length<=1048576
    ·refine Ev.step (fun k=>by rw [laws_markQueryS_x.l0]) ?_
     simp (disch:=omega) only [List.length_append,List.length_cons,cpos,Int.toNat_natCast,getD_mid,set_mid,wrap_in]
     refine Ev.bind (Ev.pure _) (Ev.bind (mtZ_ev (by omega) (by omega)) ?_)
     simp (disch:=omega) only [set_mid,getD_mid,List.length_append,List.length_cons,cpos,Int.toNat_natCast,wrap_in]
     refine Ev.bind (Ev.pure _) (Ev.bind (mtZ_ev (by omega) (by omega)) ?_)
     simp (disch:=omega) only [set_mid,getD_mid,List.length_append,List.length_cons,cpos,Int.toNat_natCast,wrap_in]
     refine Ev.bind (Ev.pure _) ?_
     simp (disch:=omega) only [set_mid,getD_mid,List.length_append,List.length_cons,cpos,Int.toNat_natCast,wrap_in,Query.op,Query.field,Query.word,Query.parts]
     refine Ev.bind (a:=(ps,z+1+1+1+3 * (qsizeL q.parts:Int))) (Ev.step (fun k=>by rw [laws_markQueryS_x.F]) ?_) ?_
     ·have:=p1 [] (by simpa using hbig)
      exact Ev.bind this ((Ev.pure _).eq (by simp))
     ·refine Ev.bind (Ev.pure _) ?_
      simp (disch:=omega) only [set_mid,wrap_in]
      rw [app_one,len_one pre (.mk z (mtZ (z+1)) (mtZ (z+1+1)) ps)]
      refine (y1 (pre++[.mk z (mtZ (z+1)) (mtZ (z+1+1)) ps]) (by simp; omega)).eq ?_
      simp only [qsizeL,qsize_eq q,List.append_assoc,List.singleton_append]
      congr 1; omega
    ·omega
   ·simp only [List.length_cons] at hp
    refine Ev.step (fun k=>by rw [laws_heldQueryS.l0]) ?_
    simp (disch:=omega) only [List.length_append,List.length_cons,cpos,Int.toNat_natCast,getD_mid,wrap_in,Query.op,Query.field,Query.word,Query.parts,bne_self_eq_false,cond_false]
    refine Ev.bind (mtZ_ev (by omega) (by omega)) ?_
    simp only [beqS_self,Bool.not_true,cond_false]
    refine Ev.bind (mtZ_ev (by omega) (by omega)) ?_
    simp only [beqS_self,Bool.not_true,cond_false]
    refine Ev.bind (a:=z+1+1+1+3 * (qsizeL q.parts:Int)) (Ev.step (fun k=>by rw [laws_heldQueryS.F]) ?_) ?_
    ·exact Ev.bind (p2 [] (by simp; omega)) (Ev.pure _)
    ·simp (disch:=omega) only [cneg,wrap_in]
     rw [app_one,len_one pre (.mk z (mtZ (z+1)) (mtZ (z+1+1)) ps)]
     refine (y2 (pre++[.mk z (mtZ (z+1)) (mtZ (z+1+1)) ps]) (by simp; omega)).eq ?_
     simp only [qsizeL,qsize_eq q]
     congr 1; omega
theorem xQ_ev (q:Query) (h:qsize q<=1000):∃ q':Query,∃ m:Int,0<=m/\Ev (fun k=>laws_markQuery_x.F k q 1) (q',m)/\Ev (fun k=>laws_heldQuery.F k q' 1) m:=by
 rw [qsize_eq] at h
 have hpl:=qsizeL_len q.parts
 obtain ⟨ys,y0,y1,y2⟩:=xQ_all _ q.parts (Nat.le_refl _) (by omega) 1 (by omega) (by omega)
 refine ⟨.mk q.op q.field q.word ys,1+3 * (qsizeL q.parts:Int),by omega,?_,?_⟩
 ·unfold laws_markQuery_x.F
  refine Ev.bind (a:=(ys,1+3 * (qsizeL q.parts:Int))) ?_ (Ev.bind (Ev.pure _) (Ev.pure _))
  refine Ev.step (fun k=>by rw [laws_markQueryS_x.F]) ?_
  exact Ev.bind (y1 [] (by simp; omega)) (Ev.pure _)
 ·unfold laws_heldQuery.F
  refine Ev.bind (a:=1+3 * (qsizeL q.parts:Int)) ?_ ?_
  ·refine Ev.step (fun k=>by rw [laws_heldQueryS.F]) ?_
   exact Ev.bind (y2 [] (by simp; omega)) (Ev.pure _)
  ·simp (disch:=omega) only [cneg]
   exact Ev.pure _
theorem dmQ_all:∀ n:Nat,∀ xs:List Query,qsizeL xs<=n->∀ z:Int,0<=z->z+3 * (qsizeL xs:Int)<=1099511627776 ->
  Ev (fun k=>laws_markQueryS_d.F k xs z) (z+3 * (qsizeL xs:Int)):=by
 intro n
 induction n with
 | zero=>
  intro xs h z h0 h1
  cases xs with
  | nil=>
   refine Ev.step (fun k=>by rw [laws_markQueryS_d.F]) ?_
   refine Ev.bind (a:=([],z)) ?_ ((Ev.pure _).eq (by simp [qsizeL]))
   refine Ev.step (fun k=>by rw [laws_markQueryS_d.l0]) ?_
   simp (disch:=(simp only [List.length_nil]; omega)) only [cneg]
   exact Ev.pure _
  | cons q l=>simp only [qsizeL] at h; have:=qsize_pos q; omega
 | succ n ih=>
  intro xs h z h0 h1
  have hlen:=qsizeL_len xs
  have loop:∀ m i:Nat,i+m=xs.length->∀ z:Int,0<=z->z+3 * (qsizeL (xs.drop i):Int)<=1099511627776->Ev (fun k=>laws_markQueryS_d.l0 k xs z i) (xs,z+3 * (qsizeL (xs.drop i):Int)):=by
   intro m
   induction m with
   | zero=>
    intro i hi z h0 h1
    refine Ev.step (fun k=>by rw [laws_markQueryS_d.l0]) ?_
    simp (disch:=omega) only [cneg]
    rw [List.drop_eq_nil_of_le (by omega)]
    exact (Ev.pure _).eq (by simp [qsizeL])
   | succ m ihm=>
    intro i him z h0 h1
    have hi:i<xs.length:=by omega
    have hd:=qsizeL_drop hi
    have hs:=qsize_mem (List.getElem_mem hi)
    rw [hd,qsize_eq] at h1
    rw [qsize_eq] at hs
    obtain ⟨r1,hr1⟩:∃ r,Ev (fun k=>laws_markText.F k (z+1)) r:=⟨_,mtZ_ev (by omega) (by omega)⟩
    obtain ⟨r2,hr2⟩:∃ r,Ev (fun k=>laws_markText.F k (z+1+1)) r:=⟨_,mtZ_ev (by omega) (by omega)⟩
    refine Ev.step (fun k=>by rw [laws_markQueryS_d.l0]) ?_
    simp (disch:=omega) only [cpos,Int.toNat_natCast,getD_at hi,wrap_in]
    refine Ev.bind hr1 ?_
    refine Ev.bind hr2 ?_
    refine Ev.bind (ih xs[i].parts (by omega) (z+1+1+1) (by omega) (by omega)) ?_
    refine (ihm (i+1) (by omega) (z+1+1+1+3 * (qsizeL xs[i].parts:Int)) (by omega) (by omega)).eq ?_
    rw [hd,qsize_eq]
    congr 1; omega
  refine Ev.step (fun k=>by rw [laws_markQueryS_d.F]) ?_
  exact Ev.bind (loop xs.length 0 (by omega) z h0 (by rw [List.drop_zero]; exact h1)) ((Ev.pure _).eq (by rw [List.drop_zero]))
mutual
theorem qsize_tot:∀ q:Query,qsize q<=1+totQ q
 | .mk a b c ps=>by
  simp only [qsize,totQ]
  have:=qsizeL_tot ps
  omega
theorem qsizeL_tot:∀ xs:List Query,qsizeL xs<=totQs xs
 | []=>by simp [qsizeL,totQs]
 | q :: l=>by
  simp only [qsizeL,totQs]
  have:=qsize_tot q
  have:=qsizeL_tot l
  omega
end
theorem dmQ_ev (q:Query) (hs:smallQ q):∃ m:Int,0<=m/\Ev (fun k=>laws_markQuery_d.F k q 1) m:=by
 have h1:=qsizeL_tot q.parts
 have h2:=totQ_eq q
 unfold smallQ at hs
 refine ⟨1+3 * (qsizeL q.parts:Int),by omega,?_⟩
 unfold laws_markQuery_d.F
 exact Ev.bind (dmQ_all _ q.parts (Nat.le_refl _) 1 (by omega) (by omega)) (Ev.pure _)
end Go.Proofs.YtkbichbahpnmmaaDoor
end
section
/- The plain law of SimplifyQuery. -/
namespace Go.Proofs.YtkbichbahpnmmaaDoor
open Go.Gx
theorem q_eta (q:Query):Query.mk q.op q.field q.word q.parts=q:=by cases q; rfl
theorem room_q {n:Nat} (h:n<=1000):room n .query=true:=by
 have h2:nb .query<=1000:=by decide
 have h3:n * nb .query<=1000 * 1000:=Nat.mul_le_mul h h2
 exact Nat.ble_eq_true_of_le (Nat.le_trans h3 (by decide))
theorem sl0 (q:Query) (hl:q.parts.length<=100) (f:Nat->Query) (hf:∀ j,(h:j<q.parts.length)->Ev (fun k=>spec_l22Simple.F k q.parts[j]) (f j)) (a:Int) (b c:ByteArray) (d:List Query) (a':Int) (b' c':ByteArray) :
  ∀ n i:Nat,i+n=q.parts.length->∀ acc:List Query,acc.length=i->Ev (fun k=>spec_l22Simple.l0 k q a b c d a' b' c' acc i) (q,a,b,c,d,a',b',c',acc++(List.range' i n).map f)
 | 0,i,h,acc,ha=>by
  refine Ev.step (fun k=>by rw [spec_l22Simple.l0]) ?_
  simp (disch:=omega) only [cneg]
  exact (Ev.pure _).eq (by simp)
 | n+1,i,h,acc,ha=>by
  have hi:i<q.parts.length:=by omega
  have hr:room (acc.length+([f i]:List Query).length) .query=true:=room_q (by simp; omega)
  refine Ev.step (fun k=>by rw [spec_l22Simple.l0]) ?_
  simp (disch:=omega) only [cpos,Int.toNat_natCast,getD_at hi]
  refine Ev.bind (hf i hi) ?_
  simp (disch:=omega) only [hr,cond_true,wrap_in]
  refine (sl0 q hl f hf a b c d a' b' c' n (i+1) (by omega) (acc++[f i]) (by simp [ha])).eq ?_
  simp [List.range'_succ]
theorem il0 (q:Query) (ps:List Query) (hl:ps.length<=100) (f:Nat->Query) (hf:∀ j,(h:j<ps.length)->Ev (fun k=>impl_simplifyQuery_t.F k ps[j]) (f j)) (a:Int) (b c:ByteArray) :
  ∀ n i:Nat,i+n=ps.length->∀ acc:List Query,acc.length=i->Ev (fun k=>impl_simplifyQuery_t.l0 k q a b c acc ps ps.length i) (q,a,b,c,acc++(List.range' i n).map f)
 | 0,i,h,acc,ha=>by
  refine Ev.step (fun k=>by rw [impl_simplifyQuery_t.l0]) ?_
  simp (disch:=omega) only [cneg]
  exact (Ev.pure _).eq (by simp)
 | n+1,i,h,acc,ha=>by
  have hi:i<ps.length:=by omega
  have hr:room (acc.length+([f i]:List Query).length) .query=true:=room_q (by simp; omega)
  refine Ev.step (fun k=>by rw [impl_simplifyQuery_t.l0]) ?_
  simp (disch:=omega) only [cpos,Int.toNat_natCast,getD_at hi]
  refine Ev.bind (hf i hi) ?_
  simp (disch:=omega) only [hr,cond_true,wrap_in]
  refine (il0 q ps hl f hf a b c n (i+1) (by omega) (acc++[f i]) (by simp [ha])).eq ?_
  simp [List.range'_succ]
theorem tx_tot {q:Query} {s:List UInt8} {d:Nat} (h:Tx q s d):totQ q<=26 * qsize q:=by
 induction h with
 | word hw=>have:=wordB_def hw; rw [L_size] at this; simp only [qsize,qsizeL,totQ,totQs]; have e:(⟨#[]⟩:ByteArray).size=0:=rfl; omega
 | field hf hw=>have h1:=wordB_def hw; have h2:=memS_def hf; rw [L_size] at h1 h2; simp only [qsize,qsizeL,totQ,totQs]; omega
 | not _ ih=>simp only [qsize,qsizeL,totQ,totQs]; have e:(⟨#[]⟩:ByteArray).size=0:=rfl; omega
 | and _ _ ih ih'=>simp only [qsize,qsizeL,totQ,totQs]; have e:(⟨#[]⟩:ByteArray).size=0:=rfl; omega
 | or _ _ ih ih'=>simp only [qsize,qsizeL,totQ,totQs]; have e:(⟨#[]⟩:ByteArray).size=0:=rfl; omega
theorem same_ev {a b:Query} {s t:List UInt8} {d d':Nat} (ha:Tx a s d) (hb:Tx b t d') (h1:qsize a<=1000000) (h2:qsize b<=1000000):Ev (fun k=>spec_l22Same.F k a b) (beqS ⟨s.toArray⟩ ⟨t.toArray⟩):=by
 unfold spec_l22Same.F
 exact Ev.bind ((tx_text ha h1).congr fun k=>text_same k a) (Ev.bind ((tx_text hb h2).congr fun k=>text_same k b) (Ev.pure _))
theorem simp_ev {q:Query} {s:List UInt8} {d:Nat} (h:Tx q s d):qsize q<=1000000->∃ r s' d',Tx r s' d'/\qsize r<=qsize q/\Ev (fun k=>spec_l22Simple.F k q) r/\Ev (fun k=>impl_simplifyQuery_t.F k q) r:=by
 induction h with
 | @word w hw=>
  intro _
  refine ⟨_,_,_,.word hw,Nat.le_refl _,Ev.step (fun k=>by rw [spec_l22Simple.F]) ?_,Ev.step (fun k=>by rw [impl_simplifyQuery_t.F]) ?_⟩
  ·refine Ev.bind (sl0 (.mk 1 ⟨#[]⟩ w []) (by simp [Query.parts]) (fun _=>dflt .query) (fun j h=>absurd h (by simp [Query.parts])) _ _ _ _ _ _ _ 0 0 rfl [] rfl) ?_
   exact Ev.pure _
  ·refine Ev.bind (il0 (.mk 1 ⟨#[]⟩ w []) [] (by simp) (fun _=>dflt .query) (fun j h=>absurd h (by simp)) _ _ _ 0 0 rfl [] rfl) ?_
   exact Ev.pure _
 | @field f w hf hw=>
  intro _
  refine ⟨_,_,_,.field hf hw,Nat.le_refl _,Ev.step (fun k=>by rw [spec_l22Simple.F]) ?_,Ev.step (fun k=>by rw [impl_simplifyQuery_t.F]) ?_⟩
  ·refine Ev.bind (sl0 (.mk 1 f w []) (by simp [Query.parts]) (fun _=>dflt .query) (fun j h=>absurd h (by simp [Query.parts])) _ _ _ _ _ _ _ 0 0 rfl [] rfl) ?_
   exact Ev.pure _
  ·refine Ev.bind (il0 (.mk 1 f w []) [] (by simp) (fun _=>dflt .query) (fun j h=>absurd h (by simp)) _ _ _ 0 0 rfl [] rfl) ?_
   exact Ev.pure _
 | @not p s d hp ih=>
  intro hq
  simp only [qsize,qsizeL] at hq
  obtain ⟨r,s',d',r1,r2,r3,r4⟩:=ih (by omega)
  have k1:=sl0 (.mk 2 ⟨#[]⟩ ⟨#[]⟩ [p]) (by simp [Query.parts]) (fun _=>r) (fun j h=>by
   obtain rfl:j=0:=by simp [Query.parts] at h; omega
   exact r3) 0 ⟨#[]⟩ ⟨#[]⟩ [] 2 ⟨#[]⟩ ⟨#[]⟩ 1 0 rfl [] rfl
  have k2:=il0 (.mk 2 ⟨#[]⟩ ⟨#[]⟩ [p]) [p] (by simp) (fun _=>r) (fun j h=>by
   obtain rfl:j=0:=by simp at h; omega
   exact r4) 0 ⟨#[]⟩ ⟨#[]⟩ 1 0 rfl [] rfl
  by_cases c:r.op=2
  ·have:∃ p',r = .mk 2 ⟨#[]⟩ ⟨#[]⟩ [p']/\∃ s'' d'',Tx p' s'' d'':=by
    cases r1 with
    | word _=>cases c
    | field _ _=>cases c
    | not h=>exact ⟨_,rfl,_,_,h⟩
    | and _ _=>cases c
    | or _ _=>cases c
   obtain ⟨p',rfl,s'',d'',h'⟩:=this
   simp only [qsize,qsizeL] at r2
   refine ⟨p',s'',d'',h',by simp only [qsize,qsizeL]; omega,Ev.step (fun k=>by rw [spec_l22Simple.F]) ?_,Ev.step (fun k=>by rw [impl_simplifyQuery_t.F]) ?_⟩
   ·exact Ev.bind k1 (Ev.pure _)
   ·exact Ev.bind k2 ((Ev.pure _).eq (q_eta p'))
  ·have hb:(r.op==2)=false:=by simpa using c
   refine ⟨_,_,_,.not r1,by simp only [qsize,qsizeL]; omega,Ev.step (fun k=>by rw [spec_l22Simple.F]) ?_,Ev.step (fun k=>by rw [impl_simplifyQuery_t.F]) ?_⟩
   ·refine Ev.bind k1 ((Ev.pure _).congr fun k=> ?_)
    show (bif r.op==2 then _ else _)=_
    rw [hb]; rfl
   ·refine Ev.bind k2 ((Ev.pure _).congr fun k=> ?_)
    show (bif r.op==2 then _ else _)=_
    rw [hb]; rfl
 | @and a b s t d d' ha hb ih ih'=>
  intro hq
  simp only [qsize,qsizeL] at hq
  obtain ⟨r,s1,d1,r1,r2,r3,r4⟩:=ih (by omega)
  obtain ⟨u,s2,d2,u1,u2,u3,u4⟩:=ih' (by omega)
  have k1:=sl0 (.mk 3 ⟨#[]⟩ ⟨#[]⟩ [a,b]) (by simp [Query.parts]) (fun j=>if j=0 then r else u) (fun j h=>by
   have:j=0\/j=1:=by simp [Query.parts] at h; omega
   rcases this with rfl | rfl
   ·exact r3
   ·exact u3) 0 ⟨#[]⟩ ⟨#[]⟩ [] 3 ⟨#[]⟩ ⟨#[]⟩ 2 0 rfl [] rfl
  have k2:=il0 (.mk 3 ⟨#[]⟩ ⟨#[]⟩ [a,b]) [a,b] (by simp) (fun j=>if j=0 then r else u) (fun j h=>by
   have:j=0\/j=1:=by simp at h; omega
   rcases this with rfl | rfl
   ·exact r4
   ·exact u4) 0 ⟨#[]⟩ ⟨#[]⟩ 2 0 rfl [] rfl
  have e1:=same_ev r1 u1 (by omega) (by omega)
  have e2:=tx_text r1 (by omega)
  have e3:=tx_text u1 (by omega)
  cases hs:beqS ⟨s1.toArray⟩ ⟨s2.toArray⟩ with
  | true=>
   rw [hs] at e1
   refine ⟨r,_,_,r1,by simp only [qsize,qsizeL]; omega,Ev.step (fun k=>by rw [spec_l22Simple.F]) ?_,Ev.step (fun k=>by rw [impl_simplifyQuery_t.F]) ?_⟩
   ·exact Ev.bind k1 (Ev.bind e1 (Ev.pure _))
   refine Ev.bind k2 ?_
   refine Ev.bind (e2.congr fun k=> ?_) (Ev.bind (e3.congr fun k=> ?_) ?_)
   ·exact congrArg (impl_formatQuery.F k) (q_eta r)
   ·exact congrArg (impl_formatQuery.F k) (q_eta u)
   ·rw [hs]; exact (Ev.pure _).eq (q_eta r)
  | false=>
   rw [hs] at e1
   refine ⟨_,_,_,.and r1 u1,by simp only [qsize,qsizeL]; omega,Ev.step (fun k=>by rw [spec_l22Simple.F]) ?_,Ev.step (fun k=>by rw [impl_simplifyQuery_t.F]) ?_⟩
   ·exact Ev.bind k1 (Ev.bind e1 (Ev.pure _))
   refine Ev.bind k2 ?_
   refine Ev.bind (e2.congr fun k=> ?_) (Ev.bind (e3.congr fun k=> ?_) ?_)
   ·exact congrArg (impl_formatQuery.F k) (q_eta r)
   ·exact congrArg (impl_formatQuery.F k) (q_eta u)
   ·rw [hs]; exact (Ev.pure _)
 | @or a b s t d d' ha hb ih ih'=>
  intro hq
  simp only [qsize,qsizeL] at hq
  obtain ⟨r,s1,d1,r1,r2,r3,r4⟩:=ih (by omega)
  obtain ⟨u,s2,d2,u1,u2,u3,u4⟩:=ih' (by omega)
  have k1:=sl0 (.mk 4 ⟨#[]⟩ ⟨#[]⟩ [a,b]) (by simp [Query.parts]) (fun j=>if j=0 then r else u) (fun j h=>by
   have:j=0\/j=1:=by simp [Query.parts] at h; omega
   rcases this with rfl | rfl
   ·exact r3
   ·exact u3) 0 ⟨#[]⟩ ⟨#[]⟩ [] 4 ⟨#[]⟩ ⟨#[]⟩ 2 0 rfl [] rfl
  have k2:=il0 (.mk 4 ⟨#[]⟩ ⟨#[]⟩ [a,b]) [a,b] (by simp) (fun j=>if j=0 then r else u) (fun j h=>by
   have:j=0\/j=1:=by simp at h; omega
   rcases this with rfl | rfl
   ·exact r4
   ·exact u4) 0 ⟨#[]⟩ ⟨#[]⟩ 2 0 rfl [] rfl
  have e1:=same_ev r1 u1 (by omega) (by omega)
  have e2:=tx_text r1 (by omega)
  have e3:=tx_text u1 (by omega)
  cases hs:beqS ⟨s1.toArray⟩ ⟨s2.toArray⟩ with
  | true=>
   rw [hs] at e1
   refine ⟨r,_,_,r1,by simp only [qsize,qsizeL]; omega,Ev.step (fun k=>by rw [spec_l22Simple.F]) ?_,Ev.step (fun k=>by rw [impl_simplifyQuery_t.F]) ?_⟩
   ·exact Ev.bind k1 (Ev.bind e1 (Ev.pure _))
   refine Ev.bind k2 ?_
   refine Ev.bind (e2.congr fun k=> ?_) (Ev.bind (e3.congr fun k=> ?_) ?_)
   ·exact congrArg (impl_formatQuery.F k) (q_eta r)
   ·exact congrArg (impl_formatQuery.F k) (q_eta u)
   ·rw [hs]; exact (Ev.pure _).eq (q_eta r)
  | false=>
   rw [hs] at e1
   refine ⟨_,_,_,.or r1 u1,by simp only [qsize,qsizeL]; omega,Ev.step (fun k=>by rw [spec_l22Simple.F]) ?_,Ev.step (fun k=>by rw [impl_simplifyQuery_t.F]) ?_⟩
   ·exact Ev.bind k1 (Ev.bind e1 (Ev.pure _))
   refine Ev.bind k2 ?_
   refine Ev.bind (e2.congr fun k=> ?_) (Ev.bind (e3.congr fun k=> ?_) ?_)
   ·exact congrArg (impl_formatQuery.F k) (q_eta r)
   ·exact congrArg (impl_formatQuery.F k) (q_eta u)
   ·rw [hs]; exact (Ev.pure _)
theorem simplify_ev (q:Query) (hs:smallQ q):∃ r b,Ev (fun k=>spec_SimplifyQuery.F k q) (r,b)/\Ev (fun k=>impl_SimplifyQuery_t.F k q) (r,b)/\smallQ r/\qsize r<=1000:=by
 have a1:=specGood_ev q hs
 have a2:=implGood_ev q hs
 unfold spec_SimplifyQuery.F impl_SimplifyQuery_t.F
 cases hB:goodQ q with
 | false=>
  rw [hB] at a1 a2
  exact ⟨_,false,Ev.bind a1 (Ev.pure _),Ev.bind a2 (Ev.pure _),by unfold smallQ; decide,by decide⟩
 | true=>
  rw [hB] at a1 a2
  unfold goodQ at hB
  rw [Bool.and_eq_true,decide_eq_true_eq] at hB
  obtain ⟨s,d,h⟩:=forms_tx q hB.1
  obtain ⟨r,s',d',r1,r2,r3,r4⟩:=simp_ev h (by omega)
  have h3:=tx_tot r1
  exact ⟨r,true,Ev.bind a1 (Ev.bind r3 (Ev.pure _)),Ev.bind a2 (Ev.bind r4 (Ev.pure _)),by unfold smallQ; omega,by omega⟩
theorem simplifyQuery_law (q:Query) (hw:WF .query q):∃ k,laws_FnExactSimplifyQuery.F k q=some true:=by
 refine Ev.get (?_:Ev (fun k=>laws_FnExactSimplifyQuery.F k q) true)
 unfold laws_FnExactSimplifyQuery.F
 refine Ev.bind (szQ_ev q hw 1048576 (by omega) (by omega)) ?_
 by_cases c:(1048576:Int)-totQ q<0
 ·rw [if_pos c]
  exact Ev.pure _
 rw [if_neg c]
 simp (disch:=omega) only [cneg]
 have hs:smallQ q:=by unfold smallQ; omega
 obtain ⟨v,b,v1,v2,v3,v4⟩:=simplify_ev q hs
 have tl:=toQp_ev q hs
 have eqv:=eqQ_ev v v3
 refine Ev.bind tl (Ev.bind v1 (Ev.bind tl (Ev.bind v2 (Ev.bind eqv ?_))))
 simp only [beq_self_eq_true,Bool.not_true,cond_false]
 refine Ev.bind tl (Ev.bind (eqQ_ev q hs) ?_)
 simp only [Bool.not_true,cond_false]
 obtain ⟨m,m1,m2⟩:=dmQ_ev q hs
 refine Ev.bind m2 ?_
 simp (disch:=omega) only [cneg]
 refine Ev.bind eqv ?_
 simp only [beq_self_eq_true,Bool.not_true,cond_false]
 obtain ⟨q',m',n0,n1,n2⟩:=xQ_ev v v4
 refine Ev.bind n1 (Ev.bind n2 ?_)
 simp (disch:=omega) only [cneg,cbeq]
 refine Ev.bind tl (Ev.bind v2 (Ev.bind eqv ?_))
 simp only [beq_self_eq_true,Bool.not_true,cond_false]
 refine Ev.bind n2 ?_
 simp (disch:=omega) only [cneg,cbeq]
 exact Ev.pure _
end Go.Proofs.YtkbichbahpnmmaaDoor
end
section
/- The law FnExactSimplifyQuery returns true for every input,the listed package variables being as the program's text lays it: the card. -/
namespace Go.Proofs.YtkbichbahpnmmaaDoor
open Go.Gx Go.RowKit Go.ChangeShapes Go.WideShapes Go.ChangeAt
def fnExactSimplifyQuery_ss0:List (List UInt8):=[[97,117,116,104,111,114,115],[101,100,105,116,111,114,115],[116,105,116,108,101],[99,111,110,116,97,105,110,101,114],[112,117,98,108,105,115,104,101,114],[100,97,116,101],[118,111,108,117,109,101],[112,97,103,101,115]]
theorem fnExactSimplifyQuery_own:ownKnob Tryd.prog.godebug=none:=by kernel_rfl
set_option maxRecDepth 100000 in
theorem fnExactSimplifyQuery_contract (H:Type) (enc:TypeId × Value->H) (W:World) (base:Nat) (args:Array Value) (ds gs:List (DataW H)) (before:List MemPlace)
  (hval:∀ (j:Nat) t v,Tryd.f3.params[j]? = some t->args[j]? = some v->Value.okWide Tryd.prog W .any base t v)
  (hW:DataW.Whole enc Tryd.prog Tryd.f3.params.toList Rows.fnExactSimplifyQuerySpec.vars false W args.toList ds gs before) (hL:laidMetH Tryd.prog Rows.fnExactSimplifyQueryRow.laid W) (hsh:W.ShapedOpen Tryd.prog) :
  Calls Tryd.prog 3 args W fun e W'=>∃ v,e = .returned v/\Rows.fnExactSimplifyQuerySpec.post enc Tryd.prog Tryd.f3 false true false false W args v W':=by
 have hgs:∃ g1,gs=[g1]:=by
  obtain ⟨p,q,_,hV,_⟩:=hW
  match gs,hV with
  | [g1],_=>exact ⟨g1,rfl⟩
  | [],hV=>exact hV.elim
  | _ :: _ :: _,⟨_,_,_,_,_,_,_,_,_,_,hV,_⟩=>exact hV.elim
 obtain ⟨g1,rfl⟩:=hgs
 have hds:∃ d1,ds=[d1]:=by
  obtain ⟨p,q,hA,_⟩:=hW
  obtain ⟨_,_,d1,e0,_,_,_,rfl,_,_,h0⟩:=trodAll_cons hA
  obtain ⟨_,rfl,_⟩:=trodAll_nil h0
  exact ⟨d1,rfl⟩
 obtain ⟨d1,rfl⟩:=hds
 have hgl:GlOk envX (fun _=>undef) (Lt W) W:=by
  refine GlOk.mk0 (fun g b h=> ?_) (fun g hg=> ?_)
  ·have h':glT g=some b:=h
   unfold glT at h'
   split at h'
   ·cases h'; exact laid_strs (ss:=fnExactSimplifyQuery_ss0) (name := "loop.example/g00896/impl.fieldWords") (g:=0) (t:=93) (e:=9) (n:=8) 0 (by kernel_rfl) (by kernel_rfl) (by kernel_rfl) (by kernel_rfl) (by kernel_rfl) (by kernel_rfl) (by kernel_rfl) hL (by kernel_rfl)
   ·cases h'
  ·have hg':giT g=true:=hg
   unfold giT at hg'
   split at hg'
   ·obtain ⟨m,hm⟩:=cell_of_shapedOpen_int (P:=Tryd.prog) (g:=1) (t:=3) (zero:=#[.int .i64 0]) hsh (of_decide_eq_true (by kernel_rfl)) (by kernel_rfl) rfl (by kernel_rfl) (by kernel_rfl) (by kernel_rfl)
    exact ⟨World.block_lt_of_cell? _ _ hm,m,hm⟩
   ·cases hg'
 refine law_contract (τs:=[.query]) (r:=.t .bool true) envOk (by kernel_rfl) rfl (by kernel_rfl) (by kernel_rfl) rfl (by kernel_rfl) (by kernel_rfl) (fun t ht=> ?_) rfl (fun x hx=>by
   obtain ⟨k,hk⟩:=simplifyQuery_law x.1 hx.1
   exact laws_FnExactSimplifyQuery.good envOk _ k _ hk) rfl hval hW hgl (fun q hq W' hb=>vars_stay (by kernel_rfl) hb (fun nm hn g t h1 h2=> ?_) hq)
 ·have:t ∈ [24]:=ht
  simp only [List.mem_cons,List.not_mem_nil,or_false] at this
  rcases this with rfl <;> exact ⟨by kernel_rfl,Nat.le_of_ble_eq_true (by kernel_rfl)⟩
 ·have hnm:nm = "loop.example/g00896/impl.fieldWords":= by
   have:nm ∈ ["loop.example/g00896/impl.fieldWords"]:=hn
   simpa using this
  subst hnm
  obtain rfl:g=0:=Option.some.inj (h1.symm.trans (by kernel_rfl:Tryd.prog.globalNamed "loop.example/g00896/impl.fieldWords" = some 0))
  obtain rfl:t=93:=Option.some.inj (h2.symm.trans (by kernel_rfl:(Tryd.prog.globals[0]?).map (·.type)=some 93))
  exact ⟨by kernel_rfl,Nat.le_of_ble_eq_true (by kernel_rfl)⟩
set_option maxRecDepth 100000 in
noncomputable def fnExactSimplifyQuery_world (os:Os):World :=
 { World.holding Tryd.prog os ⟨#[],#[],[]⟩ with heap:=((World.holding Tryd.prog os ⟨#[],#[],[]⟩).heap.modify 0 fun
   | .cells _ t frozen=> .cells #[.string ⟨#[97,117,116,104,111,114,115]⟩,.string ⟨#[101,100,105,116,111,114,115]⟩,.string ⟨#[116,105,116,108,101]⟩,.string ⟨#[99,111,110,116,97,105,110,101,114]⟩,.string ⟨#[112,117,98,108,105,115,104,101,114]⟩,.string ⟨#[100,97,116,101]⟩,.string ⟨#[118,111,108,117,109,101]⟩,.string ⟨#[112,97,103,101,115]⟩] t frozen
   | o=>o) }
theorem fnExactSimplifyQuery_met (os:Os):laidMet Tryd.prog Rows.fnExactSimplifyQueryRow.laid ((fnExactSimplifyQuery_world os).forCall (fun _ _=>0) ⟨#[],#[.agg #[.int .i64 0,.string ⟨#[]⟩,.string ⟨#[]⟩,.slice none 0 0]],[]⟩).memory :=
 laidMet_of_run' 8 (by kernel_rfl) (by kernel_rfl)
theorem fnExactSimplifyQuery_reads (os:Os) {H:Type} (enc:TypeId × Value->H):∃ places,DataW.whole enc Tryd.prog ((fnExactSimplifyQuery_world os).forCall (fun _ _=>0) ⟨#[],#[.agg #[.int .i64 0,.string ⟨#[]⟩,.string ⟨#[]⟩,.slice none 0 0]],[]⟩).memory Tryd.f3.params.toList Rows.fnExactSimplifyQuerySpec.vars false #[.agg #[.int .i64 0,.string ⟨#[]⟩,.string ⟨#[]⟩,.slice none 0 0]].toList 8=some ([.agg [.lit (.int .i64 0),.lit (.string []),.lit (.string []),.nil]],[strData fnExactSimplifyQuery_ss0],places) :=
 ⟨[.cell 0 0,.cell 0 1,.cell 0 2,.cell 0 3,.cell 0 4,.cell 0 5,.cell 0 6,.cell 0 7],by kernel_rfl⟩
set_option maxRecDepth 100000 in
theorem fnExactSimplifyQuery_lifted (os:Os) (started:os.Started) (H:Type) (enc:TypeId × Value->H) (F:Stop.Interp) :
  ReturnsInHanded {} Tryd.checked os 3 .any ((OpenSpec.ofChange Rows.fnExactSimplifyQuerySpec).preRow enc Tryd.prog Tryd.f3 Rows.fnExactSimplifyQueryRow.domain false Rows.fnExactSimplifyQueryRow.laid) (((OpenSpec.ofChange Rows.fnExactSimplifyQuerySpec).at F).post enc Tryd.prog Tryd.f3 false true false false):=by
 obtain ⟨places,hx⟩:=fnExactSimplifyQuery_reads os enc
 refine returnsInHanded_of_row (C:=Tryd.checked) (s:=OpenSpec.ofChange Rows.fnExactSimplifyQuerySpec) fnExactSimplifyQuery_own started (by kernel_rfl) (by kernel_rfl)
  (witness_row_at (enc:=enc) (C:=Tryd.checked) false (fnExactSimplifyQuery_world os) #[.agg #[.int .i64 0,.string ⟨#[]⟩,.string ⟨#[]⟩,.slice none 0 0]] rfl (by kernel_rfl) (by kernel_rfl) (by kernel_rfl)
   (OpenSpec.preRow_of_cond 8 hx (by kernel_rfl) (fun k hk=>by cases hk) (by kernel_rfl) (fnExactSimplifyQuery_met os))) ?_
 intro W base args ds gs before hval hW _ _ _ hL hsh _
 exact fnExactSimplifyQuery_contract H enc W base args ds gs before hval hW hL hsh
theorem fnExactSimplifyQuery_said:Rows.FnExactSimplifyQuerySaid :=
 OpenClaim.holds_of_cond 3 Tryd.f3 rfl rfl rfl rfl rfl rfl rfl ⟨rfl,rfl,rfl,rfl,rfl⟩ rfl rfl rfl rfl rfl (by kernel_rfl) (by kernel_rfl) (by kernel_rfl)
  (of_decide_eq_true (by kernel_rfl)) (by unfold Func.isWrapper; first | (rw [if_pos (by decide +kernel)]; kernel_rfl) | (rw [if_neg (by decide +kernel)]; exact ⟨rfl,rfl⟩))
  (fun os started H enc _ F=>by rw [OpenClaim.pre_eq_preRow]; exact fnExactSimplifyQuery_lifted os started H enc F)
theorem fnExactSimplifyQuery_plain (f:FuncId) (fn:Func) (hf:Tryd.pinned.checked.prog.funcNamed "loop.example/g00896/laws.FnExactSimplifyQuery" = some f) (hfn:Tryd.pinned.checked.prog.funcs[f]? = some fn) :
  false=Tryd.pinned.checked.prog.looks []/\∀ (j:Nat) t,fn.params[j]? = some t->Tryd.pinned.checked.prog.wantsStandIn t=false:=by
 obtain rfl:f=3:=(Option.some.inj ((show Tryd.prog.funcNamed "loop.example/g00896/laws.FnExactSimplifyQuery" = some 3 by kernel_rfl).symm.trans hf)).symm
 obtain rfl:fn=Tryd.f3:=(Option.some.inj ((show Tryd.prog.funcs[3]? = some Tryd.f3 by kernel_rfl).symm.trans hfn)).symm
 refine ⟨by kernel_rfl,fun j t ht=> ?_⟩
 have ht':t ∈ [24]:=by simpa using Array.mem_of_getElem? (show (#[24]:Array Nat)[j]? = some t from ht)
 simp only [List.mem_cons,List.not_mem_nil,or_false] at ht'
 rcases ht' with rfl
 ·exact (show Tryd.prog.wantsStandIn 24=false by kernel_rfl)
theorem FnExactSimplifyQuery_holds:Rows.FnExactSimplifyQueryCardSaid :=
 Claim7.holds_tied_plain_at .later [] _ _ _ _ fnExactSimplifyQuery_said (fun _ h=>by cases h) (by kernel_rfl) (fun _ h=>by cases h) fnExactSimplifyQuery_row_tie rfl ⟨rfl,rfl⟩ (by kernel_rfl) rfl fnExactSimplifyQuery_plain (by kernel_rfl)
#print axioms FnExactSimplifyQuery_holds
end Go.Proofs.YtkbichbahpnmmaaDoor
end
