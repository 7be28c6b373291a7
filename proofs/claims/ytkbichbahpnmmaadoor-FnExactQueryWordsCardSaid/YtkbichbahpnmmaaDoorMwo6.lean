/- The law FnExactQueryWords returns true for every input,the listed package variables being as the program's text lays it: the card. -/
import Derived.Test.YtkbichbahpnmmaaDoorMwo4
import Derived.Shelf.Vars
import Derived.Below
import Derived.Lib.IndexMore
import Derived.Lib.Split
import Derived.Lib.SplitLaws
import Derived.Lib.Repeat
import Derived.Deep.Draws
import Derived.Lib.Join
import Derived.Lib.SlTrimSet
import Derived.Lib.IndexAny
import Derived.Lib.TrimByte
import Derived.Laws.AppendOwn
import Derived.Lib.ItoaNum
import Derived.Sort.Grow
import Derived.Sort.EncStr
import Derived.Lib.SlicesCompact
import Derived.Test.YtkbichbahpnmmaaDoorMwo5
import Derived.Test.YtkbichbahpnmmaaDoorProg
import Derived.KernelRfl
import Derived.Test.YtkbichbahpnmmaaDoorCards
import Derived.Test.YtkbichbahpnmmaaDoorTie
import Derived.WalkKit
import Derived.ProofKit
import Derived.OpenShut
import Derived.Deep.DeepHandedRow
import Derived.Lib.LaidTab
set_option linter.unusedVariables false
set_option linter.unusedSimpArgs false
set_option maxRecDepth 100000
section
namespace Go.Gx
open Go.RowKit Go.Lib
theorem ext_goes {P:Program} {f:FuncId} {fn:Func} {c:Code} (hf:P.funcs[f]? = some fn) (hb:fn.body=some c) (hname:(fn.name == "runtime.NumGoroutine")=false) {args:Array Value} {w:World} {R:Value->World->Prop}
  (h:Calls P f args w fun e w'=>∃ v,e = .returned v/\R v w'):Goes P f args w R:=by
 have hcall:(callFunc f args).run P w = .ok (.enter f args) w:=by
  have hn':fn.name ≠ "runtime.NumGoroutine":= by simpa using hname
  simp [callFunc,hf,hn',hb]
 unfold Goes
 rw [hcall]
 exact h
theorem args_nil {S:Nat->Prop} {w:World} {pv:Nat->Value} {vs:List Value} (h:ArgsOk S w pv [] vs):vs=[]:=List.eq_nil_of_length_eq_zero h.1
section
variable {P:Program} {E:Env} {pv:Nat->Value} {f:FuncId} {fn:Func} {c:Code}
end
end Go.Gx
end
section
/- A library function by its contract: strconv.Itoa. -/
namespace Go.Gx
end Go.Gx
end
section
/- What the library's slices.Compact does to a list of texts that is handed over: its contract,in the interpreter's words. -/
namespace Go.Gx
open Go.RowKit Go.Sort Go.Proofs
def cmpS (xs:List ByteArray):List ByteArray:=(Lib.compact (xs.map fun s=>s.data.toList)).map fun l=>⟨l.toArray⟩
def xCompact (xs:List ByteArray):Option (List ByteArray):=bif Nat.ble xs.length 140737488355328 then some (cmpS xs) else none
theorem compact_len {α:Type} [Inhabited α] [DecidableEq α] (zs:List α):(Lib.compact zs).length<=zs.length:=by
 unfold Lib.compact Lib.compactUpTo
 rw [List.length_map]
 exact Nat.le_trans (List.length_filter_le _ _) (by simp)
theorem cmpS_len (xs:List ByteArray):(cmpS xs).length<=xs.length:=by
 unfold cmpS
 rw [List.length_map]
 exact Nat.le_trans (compact_len _) (by simp)
theorem onCells_at {w:World} {g:Nat} {f:Array Value->Array Value} {c:Array Value} {e:Nat} {fr:Nat × Nat} (h:w.heap[g]? = some (.cells c e fr)):(mapBlock w g f).heap[g]? = some (.cells (f c) e fr):=by
 unfold mapBlock
 show (w.heap.modify g (onCells f))[g]? = _
 rw [Array.getElem?_modify,if_pos rfl,h]
 rfl
theorem onCells_ne {w:World} {g k:Nat} {f:Array Value->Array Value} (h:k ≠ g):(mapBlock w g f).heap[k]? = w.heap[k]?:=by
 unfold mapBlock
 show (w.heap.modify g (onCells f))[k]? = _
 rw [Array.getElem?_modify,if_neg (Ne.symm h)]
theorem ext_compact {P:Program} {E:Env} {pv:Nat->Value} {f:FuncId} {fn:Func} {c:Code} (hf:P.funcs[f]? = some fn) (hb:fn.body=some c) (hname:(fn.name == "runtime.NumGoroutine")=false) {te:Nat}
  (hc:∀ (blk off cap:Nat) (zs:List (List UInt8)) (w:World),Holds encStr w blk off zs.toArray->zs.length<=9223372036854775807->zs.length<=cap ->
   Calls P f #[.slice (some ⟨blk,off,none⟩) zs.length cap] w fun e w'=>e = .returned (.slice (some ⟨blk,off,none⟩) (Lib.compact zs).length cap)/\∃ q,w'=putRow encStr (Sort.ahead w q) blk off (Lib.compact zs++List.replicate (zs.length-(Lib.compact zs).length) []).toArray)
  (hc0:∀ (a:Option Addr) (cap:Nat) (w:World),Calls P f #[.slice a 0 cap] w fun e w'=>e = .returned (.slice a 0 cap)/\w'=w)
  {xs y:List ByteArray} (h:xCompact xs=some y):MeetsM P E pv f (.fr te .str xs) [] (.mov te .str y):=by
 unfold xCompact at h
 cases hs:Nat.ble xs.length 140737488355328 with
 | false=>rw [hs] at h; cases h
 | true=>
  rw [hs] at h
  cases h
  intro S w v0 vs l r0 hS hgl hargs hr hrow hpin hv
  obtain rfl:=args_nil hargs
  cases hr
  subst hv
  cases l with
  | soft T v=>exact hrow.elim
  | tree cs T v=>exact hrow.elim
  | nilrow=>
   obtain ⟨e0,_,hn⟩:=hrow
   have e0:xs=[]:=e0
   subst e0
   refine ext_goes hf hb hname ((hc0 none 0 w).mono fun e w' ⟨he,hw⟩=>⟨_,he,?_⟩)
   subst hw
   refine ⟨Blw.refl _ _,S,fun b hb=>hb,fun b hb=> .inl hb,.nilrow,⟨rfl,rfl,hn⟩,rfl,fun g c h=>(by cases h)⟩
  | «at» g cap=>
   obtain ⟨cur,fr,h1,h2,h3,h4,h5,h6,h7,h8⟩:=hrow
   obtain rfl:=h5 rfl
   have hnc:nc .str=1:=rfl
   rw [hnc,Nat.mul_one] at h2
   have hxs:∀ i (hi:i<xs.length),cur[i]? = some (.string xs[i]):=fun i hi=>by
    obtain ⟨cs,k1,k2⟩:=h8 i hi
    cases k1
    have:=k2 0 (.string xs[i]) rfl
    simpa [hnc] using this
   have hH:Holds encStr w g 0 (xs.map fun s=>s.data.toList).toArray:=fun j hj=>by
    have hj:j<xs.length:=by simpa using hj
    refine ⟨?_,?_⟩
    ·have hz:(xs.map fun s=>s.data.toList).toArray[j]! = xs[j].data.toList:=by
      rw [getElem!_pos _ j (by simpa using hj)]; simp
     rw [hz,Nat.zero_add]
     show w.cell? ⟨g,j,none⟩=some (.string ⟨xs[j].data.toList.toArray⟩)
     rw [show (⟨xs[j].data.toList.toArray⟩:ByteArray)=xs[j] by simp]
     simp [World.cell?,h1,hxs j hj]
    ·simp [World.frozen?,h1]
   have hlen:=Nat.le_of_ble_eq_true hs
   have hcall:=hc g 0 cap (xs.map fun s=>s.data.toList) w hH (by rw [List.length_map]; omega) (by rw [List.length_map]; exact h3)
   rw [List.length_map] at hcall
   refine ext_goes hf hb hname (hcall.mono fun e w' ⟨he,q,hw⟩=>⟨_,he,?_⟩)
   subst hw
   have hheap:(Sort.ahead w q).heap=w.heap:=rfl
   have hcl:=compact_len (xs.map fun s=>s.data.toList)
   rw [List.length_map] at hcl
   obtain ⟨d,hd⟩:∃ d,d=(Lib.compact (xs.map fun (s:ByteArray)=>s.data.toList)++List.replicate (xs.length-(Lib.compact (xs.map fun (s:ByteArray)=>s.data.toList)).length) []).toArray:=⟨_,rfl⟩
   rw [<- hd]
   have hds:d.size=xs.length:=by rw [hd]; simp; omega
   have hat:(putRow encStr (Sort.ahead w q) g 0 d).heap[g]? = some (.cells (putCells encStr 0 d cur) te (0,0)):=onCells_at (w:=Sort.ahead w q) h1
   have hcs:(putCells encStr 0 d cur).size=cur.size:=by simp [putCells]
   refine ⟨⟨rfl,rfl,rfl,by rw [size_putRow]; exact Nat.le_refl _,fun k hk=>onCells_ne (w:=Sort.ahead w q) (hk.2 g cap rfl)⟩,S,fun b hb=>hb,fun b hb=> .inl hb,.at g cap,⟨_,_,hat,by rw [hcs,hnc,Nat.mul_one]; exact h2,Nat.le_trans (cmpS_len xs) h3,h4,fun _=>rfl,.inl (Nat.le_refl _),h7,fun i hi=>⟨_,.str _,fun j v hj=> ?_⟩⟩,?_,fun g' c' h=> ?_⟩
   ·cases j with
    | succ j=>simp at hj
    | zero=>
     cases hj
     have hi2:i<(Lib.compact (xs.map fun s=>s.data.toList)).length:=by simpa [cmpS] using hi
     have hic:i<cur.size:=by omega
     rw [hnc,Nat.mul_one,Nat.add_zero]
     simp only [putCells,Array.getElem?_mapIdx,Array.getElem?_eq_getElem hic,Option.map_some,Nat.sub_zero,Nat.zero_add]
     rw [if_pos ⟨Nat.zero_le _,by omega⟩,getElem!_pos d i (by omega)]
     have:d[i]'(by omega)=(Lib.compact (xs.map fun s=>s.data.toList))[i]:=by
      simp only [hd,List.getElem_toArray]
      exact List.getElem_append_left hi2
     rw [this]
     simp [cmpS]
   ·show _=hval (.fr te .str (cmpS xs)) (.at g cap)
    simp [hval,cmpS]
   ·cases h
    exact ⟨hpin g cap rfl,.inl ⟨cap,rfl⟩⟩
end Go.Gx
end
section
namespace Go.Proofs.YtkbichbahpnmmaaDoor
open Go.Gx
def tyT (t:Nat):Option Ty:=match t with
 | 2=>some (.int .i64)
 | 3=>some (.int .i64)
 | 4=>some .bool
 | 5=>some (.int .u8)
 | 9=>some .str
 | 10=>some .str
 | 11=>some .str
 | 21=>some (.int .i32)
 | 22=>some (.sl .query)
 | 24=>some .query
 | 26=>some (.sl .query)
 | 28=>some .query
 | 37=>some (.sl .str)
 | 71=>some (.int .u64)
 | 72=>some (.sl (.int .u8))
 | 76=>some (.arr 256 .bool)
 | 80=>some (.int .i64)
 | 88=>some (.int .u32)
 | 90=>some (.int .u64)
 | 93=>some (.arr 8 .str)
 | 98=>some (.int .u64)
 | 119=>some (.int .u8)
 | _=>none
def elT (t:Nat):Nat:=match t with
 | 22=>24
 | 26=>28
 | 37=>9
 | 72=>5
 | _=>0
def mdT (f:Nat):Bool:=match f with
 | 18=>true
 | 27=>true
 | 34=>true
 | 35=>true
 | 47=>true
 | 60=>true
 | _=>false
def strV0:ByteArray:=⟨#[0,1,2,2,3,3,3,3,4,4,4,4,4,4,4,4,5,5,5,5,5,5,5,5,5,5,5,5,5,5,5,5,6,6,6,6,6,6,6,6,6,6,6,6,6,6,6,6,6,6,6,6,6,6,6,6,6,6,6,6,6,6,6,6,7,7,7,7,7,7,7,7,7,7,7,7,7,7,7,7,7,7,7,7,7,7,7,7,7,7,7,7,7,7,7,7,7,7,7,7,7,7,7,7,7,7,7,7,7,7,7,7,7,7,7,7,7,7,7,7,7,7,7,7,7,7,7,7,8,8,8,8,8,8,8,8,8,8,8,8,8,8,8,8,8,8,8,8,8,8,8,8,8,8,8,8,8,8,8,8,8,8,8,8,8,8,8,8,8,8,8,8,8,8,8,8,8,8,8,8,8,8,8,8,8,8,8,8,8,8,8,8,8,8,8,8,8,8,8,8,8,8,8,8,8,8,8,8,8,8,8,8,8,8,8,8,8,8,8,8,8,8,8,8,8,8,8,8,8,8,8,8,8,8,8,8,8,8,8,8,8,8,8,8,8,8,8,8,8,8,8,8,8,8,8,8]⟩
def glV0:List ByteArray:=[⟨#[97,117,116,104,111,114,115]⟩,⟨#[101,100,105,116,111,114,115]⟩,⟨#[116,105,116,108,101]⟩,⟨#[99,111,110,116,97,105,110,101,114]⟩,⟨#[112,117,98,108,105,115,104,101,114]⟩,⟨#[100,97,116,101]⟩,⟨#[118,111,108,117,109,101]⟩,⟨#[112,97,103,101,115]⟩]
def glT (g:Nat):Option AV:=match g with
 | 0=>some (.t (.arr 8 .str) glV0)
 | _=>none
def giT (g:Nat):Bool:=match g with
 | 1=>true
 | _=>false
def dmT (f:Nat):Bool:=match f with
 | 11=>true
 | 18=>true
 | 27=>true
 | _=>false
def pmT (f:Nat):Bool:=match f with
 | 8=>true
 | _=>false
def tmX (f:Nat):Bool:=match f with
 | 16=>true
 | _=>false
def tmT (f:Nat):Bool:=match f with
 | 16=>true
 | 33=>true
 | _=>false
def vmT (f:Nat):Bool:=match f with
 | _=>false
def mdTT (f:Nat):Bool:=match f with
 | 18=>true
 | 27=>true
 | 34=>true
 | 35=>true
 | 47=>true
 | 60=>true
 | _=>false
def envX:Env:={ ty:=tyT,el:=elT,gl:=glT,md:=mdT,gi:=giT,dm:=dmT,pm:=pmT,tm:=tmX }
def envT:Env:={ ty:=tyT,el:=elT,gl:=glT,md:=mdTT,gi:=giT,tm:=tmT,vm:=vmT,tr:=true }
def envP:Env:={ ty:=tyT,el:=elT,gl:=glT,md:=mdT,gi:=giT,on:=true }
theorem env_ty:∀ T τ,envX.ty T=some τ->TyOk Tryd.prog envX T τ:=fun T τ h=>by
 dsimp only [envX,tyT] at h
 split at h <;> first
  | (cases h; done)
  | (cases h; exact tyOk_of (by kernel_rfl) (by kernel_rfl))
theorem envOk:EnvOk Tryd.prog envX:=⟨env_ty,by kernel_rfl,fun T h=>by
 dsimp only [envX,tyT] at h
 split at h <;> first
  | (cases h; done)
  | exact date_eq env_ty rfl (by kernel_rfl) (by kernel_rfl) (by kernel_rfl),fun T h=>by
 dsimp only [envX,tyT] at h
 split at h <;> first
  | (cases h; done)
  | exact abbr_eq env_ty rfl (by kernel_rfl) (by kernel_rfl) (by kernel_rfl)⟩
theorem env_tyT:∀ T τ,envT.ty T=some τ->TyOk Tryd.prog envT T τ:=fun T τ h=>by
 dsimp only [envT,tyT] at h
 split at h <;> first
  | (cases h; done)
  | (cases h; exact tyOk_of (by kernel_rfl) (by kernel_rfl))
theorem envOkT:EnvOk Tryd.prog envT:=⟨env_tyT,by kernel_rfl,fun T h=>by
 dsimp only [envT,tyT] at h
 split at h <;> first
  | (cases h; done)
  | exact date_eq env_tyT rfl (by kernel_rfl) (by kernel_rfl) (by kernel_rfl),fun T h=>by
 dsimp only [envT,tyT] at h
 split at h <;> first
  | (cases h; done)
  | exact abbr_eq env_tyT rfl (by kernel_rfl) (by kernel_rfl) (by kernel_rfl)⟩
theorem env_tyP:∀ T τ,envP.ty T=some τ->TyOk Tryd.prog envP T τ:=fun T τ h=>by
 dsimp only [envP,tyT] at h
 split at h <;> first
  | (cases h; done)
  | (cases h; exact tyOk_of (by kernel_rfl) (by kernel_rfl))
theorem envOkP:EnvOk Tryd.prog envP:=⟨env_tyP,by kernel_rfl,fun T h=>by
 dsimp only [envP,tyT] at h
 split at h <;> first
  | (cases h; done)
  | exact date_eq env_tyP rfl (by kernel_rfl) (by kernel_rfl) (by kernel_rfl),fun T h=>by
 dsimp only [envP,tyT] at h
 split at h <;> first
  | (cases h; done)
  | exact abbr_eq env_tyP rfl (by kernel_rfl) (by kernel_rfl) (by kernel_rfl)⟩
mutual
def laws_szQuery.F:Nat->Query->Int->Option (Int)
 | 0,_,_=>none
 | k+1,a0,a1=>bif (decide ((IntKind.wrap .i64 (a1-(a0.field.size:Int)))<0)) then (some (-1)) else (bif (decide ((IntKind.wrap .i64 ((IntKind.wrap .i64 (a1-(a0.field.size:Int)))-(a0.word.size:Int)))<0)) then (some (-1)) else ((laws_szQueryS.F k a0.parts (IntKind.wrap .i64 ((IntKind.wrap .i64 (a1-(a0.field.size:Int)))-(a0.word.size:Int)))).bind fun r1=>bif (decide (r1<0)) then (some (-1)) else (some r1)))
def laws_szQueryS.F:Nat->(List Query)->Int->Option (Int)
 | 0,_,_=>none
 | k+1,a0,a1=>bif (decide ((IntKind.wrap .i64 (a1-(a0.length:Int)))<0)) then (some (-1)) else ((laws_szQueryS.l0 k a0 (IntKind.wrap .i64 (a1-(a0.length:Int))) 0).bind fun y2=>match y2 with | .inl z3=>some z3 | .inr z3=>some z3)
def laws_szQueryS.l0:Nat->(List Query)->Int->Int->Option (Sum Int Int)
 | 0,_,_,_=>none
 | k+1,x0,x1,x5=>bif (decide (x5<(x0.length:Int))) then (bif decide (0<=x5) then (bif decide (x5<(x0.length:Int)) then ((laws_szQuery.F k (x0.getD (x5:Int).toNat (dflt .query)) x1).bind fun r1=>bif (decide (r1<0)) then (some (.inl (-1))) else (laws_szQueryS.l0 k x0 r1 (IntKind.wrap .i64 (x5+1)))) else none) else none) else (some (.inr x1))
end
def laws_szQuery.C (k:Nat):Cal->Option CArm:=fun c=>match c with
 | .f 20=>some (.p [(.sl .query),(.int .i64)] _ (fun x=>laws_szQueryS.F k x.1 x.2.1) (fun r=>(.t (.int .i64) r)))
 | _=>none
theorem laws_szQuery.run (k:Nat) (a0:Query) (a1:Int):runF envX (tabC (laws_szQuery.C k)) (tabL 26 0 (fun _=>none)) Tryd.f6 [.t .query a0,.t (.int .i64) a1] (viewR1 (.t (.int .i64)))=laws_szQuery.F (k+1) a0 a1:=by kernel_rfl
def laws_szQueryS.C (k:Nat):Cal->Option CArm:=fun c=>match c with
 | .f 6=>some (.p [.query,(.int .i64)] _ (fun x=>laws_szQuery.F k x.1 x.2.1) (fun r=>(.t (.int .i64) r)))
 | _=>none
def laws_szQueryS.sp0:List Sp:=[.t 0 (.sl .query),.t 1 (.int .i64),.t 5 (.int .i64)]
def laws_szQueryS.sp0_0:List Sp:=[.t 4 (.int .i64)]
def laws_szQueryS.sp0_1:List Sp:=[.t 1 (.int .i64)]
def laws_szQueryS.A0:LArm:=.two laws_szQueryS.sp0 laws_szQueryS.sp0_0 laws_szQueryS.sp0_1 (Int) (Int) (fun k x=>laws_szQueryS.l0 k x.1 x.2.1 x.2.2.1) .ret (.exit 0) (fun y=>(y,())) (fun x=>x.1) (fun y=>(y,())) (fun x=>x.1)
def laws_szQueryS.L:Nat->Option LArm:=fun b=>match b with
 | 0=>some laws_szQueryS.A0
 | _=>none
theorem laws_szQueryS.run (k:Nat) (a0:List Query) (a1:Int):runF envX (tabC (laws_szQueryS.C k)) (tabL 27 k laws_szQueryS.L) Tryd.f20 [.t (.sl .query) a0,.t (.int .i64) a1] (viewR1 (.t (.int .i64)))=laws_szQueryS.F (k+1) a0 a1:=by kernel_rfl
theorem laws_szQueryS.step0 (k:Nat) (x0:List Query) (x1:Int) (x5:Int):runC envX (tabC (laws_szQueryS.C k)) (tabL 27 k laws_szQueryS.L) 0 (loopAt Tryd.f20 0) (stOf 27 laws_szQueryS.sp0 (x0,x1,x5,())) (laws_szQueryS.A0.cont 27 k)=laws_szQueryS.l0 (k+1) x0 x1 x5:=by kernel_rfl
def laws_szQuery.Gd (pv:Nat->Value) (k:Nat):Prop:=(∀ (a0:Query) (a1:Int) {y:_},laws_szQuery.F k a0 a1=some y->Meets Tryd.prog envX pv (.f 6) (tvals [.query,(.int .i64)] (a0,a1,())) (.t (.int .i64) y))/\(∀ (a0:List Query) (a1:Int) {y:_},laws_szQueryS.F k a0 a1=some y->Meets Tryd.prog envX pv (.f 20) (tvals [(.sl .query),(.int .i64)] (a0,a1,())) (.t (.int .i64) y))
theorem laws_szQuery.G (hE:EnvOk Tryd.prog envX) (pv:Nat->Value) (k:Nat) (hI:laws_szQuery.Gd pv k):∀ cal A,laws_szQuery.C k cal=some A->ArmOk Tryd.prog envX pv cal A:=by
 intro cal A h
 unfold laws_szQuery.C at h
 split at h
 ·cases h; exact fun x y hy=>hI.2 x.1 x.2.1 hy
 ·cases h
theorem laws_szQuery.gd (hE:EnvOk Tryd.prog envX) (pv:Nat->Value) (k:Nat) (hI:∀ k',k'<=k->laws_szQuery.Gd pv k') (a0:Query) (a1:Int) {y:_} (h:laws_szQuery.F (k+1) a0 a1=some y):Meets Tryd.prog envX pv (.f 6) (tvals [.query,(.int .i64)] (a0,a1,())) (.t (.int .i64) y) :=
 fun_plain hE (laws_szQuery.G hE pv k (hI k (Nat.le_refl k))) (f:=6) (fn:=Tryd.f6) (by kernel_rfl) rfl (by kernel_rfl) (by kernel_rfl) ((laws_szQuery.run k a0 a1).trans h) (fun r hr=>wk_view1 hr)
theorem laws_szQueryS.G (hE:EnvOk Tryd.prog envX) (pv:Nat->Value) (k:Nat) (hI:laws_szQuery.Gd pv k):∀ cal A,laws_szQueryS.C k cal=some A->ArmOk Tryd.prog envX pv cal A:=by
 intro cal A h
 unfold laws_szQueryS.C at h
 split at h
 ·cases h; exact fun x y hy=>hI.1 x.1 x.2.1 hy
 ·cases h
theorem laws_szQueryS.gd (hE:EnvOk Tryd.prog envX) (pv:Nat->Value) (k:Nat) (hI:∀ k',k'<=k->laws_szQuery.Gd pv k') (a0:List Query) (a1:Int) {y:_} (h:laws_szQueryS.F (k+1) a0 a1=some y):Meets Tryd.prog envX pv (.f 20) (tvals [(.sl .query),(.int .i64)] (a0,a1,())) (.t (.int .i64) y) :=
 fun_loops hE (t:=laws_szQueryS.C) k (fun k hk=>laws_szQueryS.G hE pv k (hI k hk)) (f:=20) (fn:=Tryd.f20) (by kernel_rfl) rfl (by kernel_rfl) (by kernel_rfl) (lt:=laws_szQueryS.L) (by kernel_rfl) (fun b A h=>by
  unfold laws_szQueryS.L at h; split at h
  ·cases h; exact ⟨by kernel_rfl,by kernel_rfl,by kernel_rfl,fun _=>rfl,fun _=>rfl,fun _=>rfl⟩
  ·cases h) (fun b A h=>by
  unfold laws_szQueryS.L at h; split at h
  ·cases h; exact fun k x=>laws_szQueryS.step0 k x.1 x.2.1 x.2.2.1
  ·cases h) ((laws_szQueryS.run k a0 a1).trans h) (fun r hr=>wk_view1 hr)
theorem laws_szQuery.all (hE:EnvOk Tryd.prog envX) (pv:Nat->Value):∀ k k',k'<=k->laws_szQuery.Gd pv k':=by
 intro k
 induction k with
 | zero=>
  intro k' hk
  obtain rfl:k'=0:=by omega
  exact ⟨fun _ _ y h=>(by cases (show (none:Option _)=some y from h)),fun _ _ y h=>(by cases (show (none:Option _)=some y from h))⟩
 | succ k ih=>
  intro k' hk
  rcases Nat.lt_or_ge k' (k+1) with hlt | hge
  ·exact ih k' (by omega)
  ·obtain rfl:k'=k+1:=by omega
   exact ⟨fun a0 a1 y h=>laws_szQuery.gd hE pv k ih a0 a1 h,fun a0 a1 y h=>laws_szQueryS.gd hE pv k ih a0 a1 h⟩
theorem laws_szQuery.good (hE:EnvOk Tryd.prog envX) (pv:Nat->Value) (k:Nat) (a0:Query) (a1:Int) {y:_} (h:laws_szQuery.F k a0 a1=some y):Meets Tryd.prog envX pv (.f 6) (tvals [.query,(.int .i64)] (a0,a1,())) (.t (.int .i64) y) :=
 (laws_szQuery.all hE pv k k (Nat.le_refl k)).1 a0 a1 h
mutual
def laws_toQuery_p.F:Nat->Query->Option (Query)
 | 0,_=>none
 | k+1,a0=>(laws_toQueryS_p.F k a0.parts).bind fun r1=>some (Query.mk a0.op a0.field a0.word r1)
def laws_toQueryS_p.F:Nat->(List Query)->Option (List Query)
 | 0,_=>none
 | k+1,a0=>bif ((a0.length:Int)==(a0.length:Int)) then (bif decide (0<=(a0.length:Int)) then (bif Nat.ble (((a0.length:Int):Int).toNat * nb .query) 140737488355328 then ((laws_toQueryS_p.l0 k a0 (List.replicate ((a0.length:Int):Int).toNat (dflt .query)) 0).bind fun y2=>some y2) else none) else none) else none
def laws_toQueryS_p.l0:Nat->(List Query)->(List Query)->Int->Option ((List Query))
 | 0,_,_,_=>none
 | k+1,x0,x3,x4=>bif (decide (x4<(x0.length:Int))) then (bif decide (0<=x4) then (bif decide (x4<(x0.length:Int)) then ((laws_toQuery_p.F k (x0.getD (x4:Int).toNat (dflt .query))).bind fun r1=>bif decide (0<=x4) then (bif decide (x4<(x3.length:Int)) then (laws_toQueryS_p.l0 k x0 (x3.set ((x4:Int).toNat) r1) (IntKind.wrap .i64 (x4+1))) else none) else none) else none) else none) else (some x3)
end
def laws_toQuery_p.C (k:Nat):Cal->Option CArm:=fun c=>match c with
 | .f 23=>some (.p [(.sl .query)] _ (fun x=>laws_toQueryS_p.F k x.1) (fun r=>(.fr 28 .query r)))
 | _=>none
theorem laws_toQuery_p.run (k:Nat) (a0:Query):runPc envP (tabC (laws_toQuery_p.C k)) (tabL 18 0 (fun _=>none)) Tryd.f8 [.t .query a0] (viewR1 (.pc .query))=laws_toQuery_p.F (k+1) a0:=by kernel_rfl
def laws_toQueryS_p.C (k:Nat):Cal->Option CArm:=fun c=>match c with
 | .f 8=>some (.p [.query] _ (fun x=>laws_toQuery_p.F k x.1) (fun r=>(.pc true .query r)))
 | _=>none
def laws_toQueryS_p.sp0:List Sp:=[.t 0 (.sl .query),.own 3 1032 28 .query false true,.t 4 (.int .i64)]
def laws_toQueryS_p.sp0_0:List Sp:=[.own 3 1032 28 .query false true]
def laws_toQueryS_p.A0:LArm:=.one laws_toQueryS_p.sp0 laws_toQueryS_p.sp0_0 ((List Query)) (fun k x=>laws_toQueryS_p.l0 k x.1 x.2.1 x.2.2.1) (.exit 0) (fun y=>(y,())) (fun x=>x.1)
def laws_toQueryS_p.L:Nat->Option LArm:=fun b=>match b with
 | 0=>some laws_toQueryS_p.A0
 | _=>none
theorem laws_toQueryS_p.run (k:Nat) (a0:List Query):runF envP (tabC (laws_toQueryS_p.C k)) (tabL 23 k laws_toQueryS_p.L) Tryd.f23 [.t (.sl .query) a0] (viewR1 (.fr 28 .query))=laws_toQueryS_p.F (k+1) a0:=by kernel_rfl
theorem laws_toQueryS_p.step0 (k:Nat) (x0:List Query) (x3:List Query) (x4:Int):runC envP (tabC (laws_toQueryS_p.C k)) (tabL 23 k laws_toQueryS_p.L) 0 (loopAt Tryd.f23 0) (stOf 23 laws_toQueryS_p.sp0 (x0,x3,x4,())) (laws_toQueryS_p.A0.cont 23 k)=laws_toQueryS_p.l0 (k+1) x0 x3 x4:=by kernel_rfl
def laws_toQuery_p.Gd (pv:Nat->Value) (n:Nat) (k:Nat):Prop:=(∀ (a0:Query) {y:_},laws_toQuery_p.F k a0=some y->Meets Tryd.prog envP (mpv pv n) (.f 8) (tvals [.query] (a0,())) (.pc true .query y))/\(∀ (a0:List Query) {y:_},laws_toQueryS_p.F k a0=some y->Meets Tryd.prog envP (mpv pv n) (.f 23) (tvals [(.sl .query)] (a0,())) (.fr 28 .query y))
theorem laws_toQuery_p.G (hE:EnvOk Tryd.prog envP) (pv:Nat->Value) (n:Nat) (k:Nat) (hI:laws_toQuery_p.Gd pv n k):∀ cal A,laws_toQuery_p.C k cal=some A->ArmOk Tryd.prog envP (mpv pv n) cal A:=by
 intro cal A h
 unfold laws_toQuery_p.C at h
 split at h
 ·cases h; exact fun x y hy=>hI.2 x.1 hy
 ·cases h
theorem laws_toQuery_p.gd (hE:EnvOk Tryd.prog envP) (pv:Nat->Value) (n:Nat) (k:Nat) (hI:∀ k',k'<=k->laws_toQuery_p.Gd pv n k') (a0:Query) {y:_} (h:laws_toQuery_p.F (k+1) a0=some y):Meets Tryd.prog envP (mpv pv n) (.f 8) (tvals [.query] (a0,())) (.pc true .query y) :=
 funPc_plain hE (mpv_O pv n) (mpv_Q pv n) (laws_toQuery_p.G hE pv n k (hI k (Nat.le_refl k))) (f:=8) (fn:=Tryd.f8) (by kernel_rfl) rfl (by kernel_rfl) (by kernel_rfl) ((laws_toQuery_p.run k a0).trans h) (fun r hr=>wk_view1 hr)
theorem laws_toQueryS_p.G (hE:EnvOk Tryd.prog envP) (pv:Nat->Value) (n:Nat) (k:Nat) (hI:laws_toQuery_p.Gd pv n k):∀ cal A,laws_toQueryS_p.C k cal=some A->ArmOk Tryd.prog envP (mpv pv n) cal A:=by
 intro cal A h
 unfold laws_toQueryS_p.C at h
 split at h
 ·cases h; exact fun x y hy=>hI.1 x.1 hy
 ·cases h
theorem laws_toQueryS_p.gd (hE:EnvOk Tryd.prog envP) (pv:Nat->Value) (n:Nat) (k:Nat) (hI:∀ k',k'<=k->laws_toQuery_p.Gd pv n k') (a0:List Query) {y:_} (h:laws_toQueryS_p.F (k+1) a0=some y):Meets Tryd.prog envP (mpv pv n) (.f 23) (tvals [(.sl .query)] (a0,())) (.fr 28 .query y) :=
 fun_loops hE (t:=laws_toQueryS_p.C) k (fun k hk=>laws_toQueryS_p.G hE pv n k (hI k hk)) (f:=23) (fn:=Tryd.f23) (by kernel_rfl) rfl (by kernel_rfl) (by kernel_rfl) (lt:=laws_toQueryS_p.L) (by kernel_rfl) (fun b A h=>by
  unfold laws_toQueryS_p.L at h; split at h
  ·cases h; exact ⟨by kernel_rfl,by kernel_rfl,fun _=>rfl,fun _=>rfl⟩
  ·cases h) (fun b A h=>by
  unfold laws_toQueryS_p.L at h; split at h
  ·cases h; exact fun k x=>laws_toQueryS_p.step0 k x.1 x.2.1 x.2.2.1
  ·cases h) ((laws_toQueryS_p.run k a0).trans h) (fun r hr=>wk_view1 hr)
theorem laws_toQuery_p.all (hE:EnvOk Tryd.prog envP) (pv:Nat->Value) (n:Nat):∀ k k',k'<=k->laws_toQuery_p.Gd pv n k':=by
 intro k
 induction k with
 | zero=>
  intro k' hk
  obtain rfl:k'=0:=by omega
  exact ⟨fun _ y h=>(by cases (show (none:Option _)=some y from h)),fun _ y h=>(by cases (show (none:Option _)=some y from h))⟩
 | succ k ih=>
  intro k' hk
  rcases Nat.lt_or_ge k' (k+1) with hlt | hge
  ·exact ih k' (by omega)
  ·obtain rfl:k'=k+1:=by omega
   exact ⟨fun a0 y h=>laws_toQuery_p.gd hE pv n k ih a0 h,fun a0 y h=>laws_toQueryS_p.gd hE pv n k ih a0 h⟩
theorem laws_toQuery_p.good (hE:EnvOk Tryd.prog envP) (pv:Nat->Value) (n:Nat) (k:Nat) (a0:Query) {y:_} (h:laws_toQuery_p.F k a0=some y):Meets Tryd.prog envP (mpv pv n) (.f 8) (tvals [.query] (a0,())) (.pc true .query y) :=
 (laws_toQuery_p.all hE pv n k k (Nat.le_refl k)).1 a0 h
mutual
def laws_eqQuery.F:Nat->Query->Query->Option (Bool)
 | 0,_,_=>none
 | k+1,a0,a1=>bif (a0.op != a1.op) then (some false) else (bif (!beqS a0.field a1.field) then (some false) else (bif (!beqS a0.word a1.word) then (some false) else ((laws_eqQueryS.F k a0.parts a1.parts).bind fun r1=>bif (!r1) then (some false) else (some true))))
def laws_eqQueryS.F:Nat->(List Query)->(List Query)->Option (Bool)
 | 0,_,_=>none
 | k+1,a0,a1=>bif ((a0.length:Int) != (a1.length:Int)) then (some false) else ((laws_eqQueryS.l0 k a0 a1 0).bind fun y2=>match y2 with | .inl z3=>some z3 | .inr z3=>some true)
def laws_eqQueryS.l0:Nat->(List Query)->(List Query)->Int->Option (Sum Bool Unit)
 | 0,_,_,_=>none
 | k+1,x0,x1,x5=>bif (decide (x5<(x0.length:Int))) then (bif decide (0<=x5) then (bif decide (x5<(x0.length:Int)) then (bif decide (0<=x5) then (bif decide (x5<(x1.length:Int)) then ((laws_eqQuery.F k (x0.getD (x5:Int).toNat (dflt .query)) (x1.getD (x5:Int).toNat (dflt .query))).bind fun r1=>bif (!r1) then (some (.inl false)) else (laws_eqQueryS.l0 k x0 x1 (IntKind.wrap .i64 (x5+1)))) else none) else none) else none) else none) else (some (.inr ()))
end
def laws_eqQuery.C (k:Nat):Cal->Option CArm:=fun c=>match c with
 | .f 26=>some (.p [(.sl .query),(.sl .query)] _ (fun x=>laws_eqQueryS.F k x.1 x.2.1) (fun r=>(.t .bool r)))
 | _=>none
theorem laws_eqQuery.run (k:Nat) (a0:Query) (a1:Query):runF envX (tabC (laws_eqQuery.C k)) (tabL 26 0 (fun _=>none)) Tryd.f10 [.t .query a0,.t .query a1] (viewR1 (.t .bool))=laws_eqQuery.F (k+1) a0 a1:=by kernel_rfl
def laws_eqQueryS.C (k:Nat):Cal->Option CArm:=fun c=>match c with
 | .f 10=>some (.p [.query,.query] _ (fun x=>laws_eqQuery.F k x.1 x.2.1) (fun r=>(.t .bool r)))
 | _=>none
def laws_eqQueryS.sp0:List Sp:=[.t 0 (.sl .query),.t 1 (.sl .query),.t 5 (.int .i64)]
def laws_eqQueryS.sp0_0:List Sp:=[.t 4 .bool]
def laws_eqQueryS.sp0_1:List Sp:=[]
def laws_eqQueryS.A0:LArm:=.two laws_eqQueryS.sp0 laws_eqQueryS.sp0_0 laws_eqQueryS.sp0_1 (Bool) (Unit) (fun k x=>laws_eqQueryS.l0 k x.1 x.2.1 x.2.2.1) .ret (.exit 0) (fun y=>(y,())) (fun x=>x.1) (fun y=>()) (fun x=>())
def laws_eqQueryS.L:Nat->Option LArm:=fun b=>match b with
 | 0=>some laws_eqQueryS.A0
 | _=>none
theorem laws_eqQueryS.run (k:Nat) (a0:List Query) (a1:List Query):runF envX (tabC (laws_eqQueryS.C k)) (tabL 27 k laws_eqQueryS.L) Tryd.f26 [.t (.sl .query) a0,.t (.sl .query) a1] (viewR1 (.t .bool))=laws_eqQueryS.F (k+1) a0 a1:=by kernel_rfl
theorem laws_eqQueryS.step0 (k:Nat) (x0:List Query) (x1:List Query) (x5:Int):runC envX (tabC (laws_eqQueryS.C k)) (tabL 27 k laws_eqQueryS.L) 0 (loopAt Tryd.f26 0) (stOf 27 laws_eqQueryS.sp0 (x0,x1,x5,())) (laws_eqQueryS.A0.cont 27 k)=laws_eqQueryS.l0 (k+1) x0 x1 x5:=by kernel_rfl
def laws_eqQuery.Gd (pv:Nat->Value) (k:Nat):Prop:=(∀ (a0:Query) (a1:Query) {y:_},laws_eqQuery.F k a0 a1=some y->Meets Tryd.prog envX pv (.f 10) (tvals [.query,.query] (a0,a1,())) (.t .bool y))/\(∀ (a0:List Query) (a1:List Query) {y:_},laws_eqQueryS.F k a0 a1=some y->Meets Tryd.prog envX pv (.f 26) (tvals [(.sl .query),(.sl .query)] (a0,a1,())) (.t .bool y))
theorem laws_eqQuery.G (hE:EnvOk Tryd.prog envX) (pv:Nat->Value) (k:Nat) (hI:laws_eqQuery.Gd pv k):∀ cal A,laws_eqQuery.C k cal=some A->ArmOk Tryd.prog envX pv cal A:=by
 intro cal A h
 unfold laws_eqQuery.C at h
 split at h
 ·cases h; exact fun x y hy=>hI.2 x.1 x.2.1 hy
 ·cases h
theorem laws_eqQuery.gd (hE:EnvOk Tryd.prog envX) (pv:Nat->Value) (k:Nat) (hI:∀ k',k'<=k->laws_eqQuery.Gd pv k') (a0:Query) (a1:Query) {y:_} (h:laws_eqQuery.F (k+1) a0 a1=some y):Meets Tryd.prog envX pv (.f 10) (tvals [.query,.query] (a0,a1,())) (.t .bool y) :=
 fun_plain hE (laws_eqQuery.G hE pv k (hI k (Nat.le_refl k))) (f:=10) (fn:=Tryd.f10) (by kernel_rfl) rfl (by kernel_rfl) (by kernel_rfl) ((laws_eqQuery.run k a0 a1).trans h) (fun r hr=>wk_view1 hr)
theorem laws_eqQueryS.G (hE:EnvOk Tryd.prog envX) (pv:Nat->Value) (k:Nat) (hI:laws_eqQuery.Gd pv k):∀ cal A,laws_eqQueryS.C k cal=some A->ArmOk Tryd.prog envX pv cal A:=by
 intro cal A h
 unfold laws_eqQueryS.C at h
 split at h
 ·cases h; exact fun x y hy=>hI.1 x.1 x.2.1 hy
 ·cases h
theorem laws_eqQueryS.gd (hE:EnvOk Tryd.prog envX) (pv:Nat->Value) (k:Nat) (hI:∀ k',k'<=k->laws_eqQuery.Gd pv k') (a0:List Query) (a1:List Query) {y:_} (h:laws_eqQueryS.F (k+1) a0 a1=some y):Meets Tryd.prog envX pv (.f 26) (tvals [(.sl .query),(.sl .query)] (a0,a1,())) (.t .bool y) :=
 fun_loops hE (t:=laws_eqQueryS.C) k (fun k hk=>laws_eqQueryS.G hE pv k (hI k hk)) (f:=26) (fn:=Tryd.f26) (by kernel_rfl) rfl (by kernel_rfl) (by kernel_rfl) (lt:=laws_eqQueryS.L) (by kernel_rfl) (fun b A h=>by
  unfold laws_eqQueryS.L at h; split at h
  ·cases h; exact ⟨by kernel_rfl,by kernel_rfl,by kernel_rfl,fun _=>rfl,fun _=>rfl,fun _=>rfl⟩
  ·cases h) (fun b A h=>by
  unfold laws_eqQueryS.L at h; split at h
  ·cases h; exact fun k x=>laws_eqQueryS.step0 k x.1 x.2.1 x.2.2.1
  ·cases h) ((laws_eqQueryS.run k a0 a1).trans h) (fun r hr=>wk_view1 hr)
theorem laws_eqQuery.all (hE:EnvOk Tryd.prog envX) (pv:Nat->Value):∀ k k',k'<=k->laws_eqQuery.Gd pv k':=by
 intro k
 induction k with
 | zero=>
  intro k' hk
  obtain rfl:k'=0:=by omega
  exact ⟨fun _ _ y h=>(by cases (show (none:Option _)=some y from h)),fun _ _ y h=>(by cases (show (none:Option _)=some y from h))⟩
 | succ k ih=>
  intro k' hk
  rcases Nat.lt_or_ge k' (k+1) with hlt | hge
  ·exact ih k' (by omega)
  ·obtain rfl:k'=k+1:=by omega
   exact ⟨fun a0 a1 y h=>laws_eqQuery.gd hE pv k ih a0 a1 h,fun a0 a1 y h=>laws_eqQueryS.gd hE pv k ih a0 a1 h⟩
theorem laws_eqQuery.good (hE:EnvOk Tryd.prog envX) (pv:Nat->Value) (k:Nat) (a0:Query) (a1:Query) {y:_} (h:laws_eqQuery.F k a0 a1=some y):Meets Tryd.prog envX pv (.f 10) (tvals [.query,.query] (a0,a1,())) (.t .bool y) :=
 (laws_eqQuery.all hE pv k k (Nat.le_refl k)).1 a0 a1 h
def laws_markText.l0:Nat->Int->ByteArray->Option (ByteArray)
 | 0,_,_=>none
 | k+1,x0,x3=>bif (decide (x0 > 0)) then (bif (10==0) then (none) else (bif Nat.ble ((strL ([(IntKind.wrap .u8 (IntKind.wrap .i64 (48+(Int.tmod x0 10))))]:List Int)).size+x3.size) 9223372036854775807 then (bif (10==0) then (none) else (laws_markText.l0 k (IntKind.wrap .i64 (Int.tdiv x0 10)) ((strL ([(IntKind.wrap .u8 (IntKind.wrap .i64 (48+(Int.tmod x0 10))))]:List Int))++x3))) else none)) else (some x3)
def laws_markText.F (k:Nat) (a0:Int):Option (ByteArray):=bif (decide (a0<=0)) then (some (⟨#[109,48]⟩:ByteArray)) else ((laws_markText.l0 k a0 (⟨#[]⟩:ByteArray)).bind fun y1=>bif Nat.ble ((⟨#[109]⟩:ByteArray).size+y1.size) 9223372036854775807 then (some ((⟨#[109]⟩:ByteArray)++y1)) else none)
def laws_markText.C (k:Nat):Cal->Option CArm:=fun c=>match c with
 | _=>none
def laws_markText.sp0:List Sp:=[.t 0 (.int .i64),.t 3 .str]
def laws_markText.sp0_0:List Sp:=[.t 3 .str]
def laws_markText.A0:LArm:=.one laws_markText.sp0 laws_markText.sp0_0 (ByteArray) (fun k x=>laws_markText.l0 k x.1 x.2.1) (.exit 0) (fun y=>(y,())) (fun x=>x.1)
def laws_markText.L:Nat->Option LArm:=fun b=>match b with
 | 0=>some laws_markText.A0
 | _=>none
theorem laws_markText.run (k:Nat) (a0:Int):runF envX (tabC (laws_markText.C k)) (tabL 20 k laws_markText.L) Tryd.f36 [.t (.int .i64) a0] (viewR1 (.t .str))=laws_markText.F k a0:=by kernel_rfl
theorem laws_markText.step0 (k:Nat) (x0:Int) (x3:ByteArray):runC envX (tabC (laws_markText.C k)) (tabL 20 k laws_markText.L) 0 (loopAt Tryd.f36 0) (stOf 20 laws_markText.sp0 (x0,x3,())) (laws_markText.A0.cont 20 k)=laws_markText.l0 (k+1) x0 x3:=by kernel_rfl
theorem laws_markText.G (hE:EnvOk Tryd.prog envX) (pv:Nat->Value) (k:Nat):∀ cal A,laws_markText.C k cal=some A->ArmOk Tryd.prog envX pv cal A:=by
 intro cal A h
 unfold laws_markText.C at h
 cases h
theorem laws_markText.good (hE:EnvOk Tryd.prog envX) (pv:Nat->Value) (k:Nat) (a0:Int) {y:_} (h:laws_markText.F k a0=some y):Meets Tryd.prog envX pv (.f 36) (tvals [(.int .i64)] (a0,())) (.t .str y) :=
 fun_loops hE (t:=laws_markText.C) k (fun k _=>laws_markText.G hE pv k) (f:=36) (fn:=Tryd.f36) (by kernel_rfl) rfl (by kernel_rfl) (by kernel_rfl) (lt:=laws_markText.L) (by kernel_rfl) (fun b A h=>by
  unfold laws_markText.L at h; split at h
  ·cases h; exact ⟨by kernel_rfl,by kernel_rfl,fun _=>rfl,fun _=>rfl⟩
  ·cases h) (fun b A h=>by
  unfold laws_markText.L at h; split at h
  ·cases h; exact fun k x=>laws_markText.step0 k x.1 x.2.1
  ·cases h) ((laws_markText.run k a0).trans h) (fun r hr=>wk_view1 hr)
-- NO 27 loop.example/g00896/laws.markQueryS: calls itself and is handed something
-- NO 11 loop.example/g00896/laws.markQuery: a call of loop.example/g00896/laws.markQueryS
def spec_l6Digit.F (a0:Int):Option (Bool):=bif (decide (a0 ≥ 48)) then (some (decide (a0<=57))) else (some false)
def spec_l6Digit.C:Cal->Option CArm:=fun c=>match c with
 | _=>none
theorem spec_l6Digit.run (a0:Int):runF envX (tabC spec_l6Digit.C) (tabL 9 0 (fun _=>none)) Tryd.f53 [.t (.int .u8) a0] (viewR1 (.t .bool))=spec_l6Digit.F a0:=by kernel_rfl
theorem spec_l6Digit.G (hE:EnvOk Tryd.prog envX) (pv:Nat->Value):∀ cal A,spec_l6Digit.C cal=some A->ArmOk Tryd.prog envX pv cal A:=by
 intro cal A h
 unfold spec_l6Digit.C at h
 cases h
theorem spec_l6Digit.good (hE:EnvOk Tryd.prog envX) (pv:Nat->Value) (a0:Int) {y:_} (h:spec_l6Digit.F a0=some y):Meets Tryd.prog envX pv (.f 53) (tvals [(.int .u8)] (a0,())) (.t .bool y) :=
 fun_plain hE (spec_l6Digit.G hE pv) (f:=53) (fn:=Tryd.f53) (by kernel_rfl) rfl (by kernel_rfl) (by kernel_rfl) ((spec_l6Digit.run a0).trans h) (fun r hr=>wk_view1 hr)
def spec_l22Sign.F (a0:Int):Option (Bool):=bif (decide (a0 ≥ 97)) then (bif (decide (a0<=122)) then (some true) else ((spec_l6Digit.F a0).bind fun r1=>some r1)) else ((spec_l6Digit.F a0).bind fun r2=>some r2)
def spec_l22Sign.C:Cal->Option CArm:=fun c=>match c with
 | .f 53=>some (.p [(.int .u8)] _ (fun x=>spec_l6Digit.F x.1) (fun r=>(.t .bool r)))
 | _=>none
theorem spec_l22Sign.run (a0:Int):runF envX (tabC spec_l22Sign.C) (tabL 13 0 (fun _=>none)) Tryd.f42 [.t (.int .u8) a0] (viewR1 (.t .bool))=spec_l22Sign.F a0:=by kernel_rfl
theorem spec_l22Sign.G (hE:EnvOk Tryd.prog envX) (pv:Nat->Value):∀ cal A,spec_l22Sign.C cal=some A->ArmOk Tryd.prog envX pv cal A:=by
 intro cal A h
 unfold spec_l22Sign.C at h
 split at h
 ·cases h; exact fun x y hy=>spec_l6Digit.good hE pv x.1 hy
 ·cases h
theorem spec_l22Sign.good (hE:EnvOk Tryd.prog envX) (pv:Nat->Value) (a0:Int) {y:_} (h:spec_l22Sign.F a0=some y):Meets Tryd.prog envX pv (.f 42) (tvals [(.int .u8)] (a0,())) (.t .bool y) :=
 fun_plain hE (spec_l22Sign.G hE pv) (f:=42) (fn:=Tryd.f42) (by kernel_rfl) rfl (by kernel_rfl) (by kernel_rfl) ((spec_l22Sign.run a0).trans h) (fun r hr=>wk_view1 hr)
def spec_l1In.F (a0:Int) (a1:Int) (a2:Int):Option (Bool):=bif (decide (a0 ≥ a1)) then (some (decide (a0<=a2))) else (some false)
def spec_l1In.C:Cal->Option CArm:=fun c=>match c with
 | _=>none
theorem spec_l1In.run (a0:Int) (a1:Int) (a2:Int):runF envX (tabC spec_l1In.C) (tabL 15 0 (fun _=>none)) Tryd.f89 [.t (.int .i64) a0,.t (.int .i64) a1,.t (.int .i64) a2] (viewR1 (.t .bool))=spec_l1In.F a0 a1 a2:=by kernel_rfl
theorem spec_l1In.G (hE:EnvOk Tryd.prog envX) (pv:Nat->Value):∀ cal A,spec_l1In.C cal=some A->ArmOk Tryd.prog envX pv cal A:=by
 intro cal A h
 unfold spec_l1In.C at h
 cases h
theorem spec_l1In.good (hE:EnvOk Tryd.prog envX) (pv:Nat->Value) (a0:Int) (a1:Int) (a2:Int) {y:_} (h:spec_l1In.F a0 a1 a2=some y):Meets Tryd.prog envX pv (.f 89) (tvals [(.int .i64),(.int .i64),(.int .i64)] (a0,a1,a2,())) (.t .bool y) :=
 fun_plain hE (spec_l1In.G hE pv) (f:=89) (fn:=Tryd.f89) (by kernel_rfl) rfl (by kernel_rfl) (by kernel_rfl) ((spec_l1In.run a0 a1 a2).trans h) (fun r hr=>wk_view1 hr)
def spec_l22Word.l0:Nat->ByteArray->Int->Option (Sum Bool ByteArray)
 | 0,_,_=>none
 | k+1,x0,x3=>bif (decide (x3<(x0.size:Int))) then (bif decide (0<=x3) then (bif decide (x3<(x0.size:Int)) then ((spec_l22Sign.F (bt x0 (x3:Int).toNat)).bind fun r1=>bif (!r1) then (some (.inl false)) else (spec_l22Word.l0 k x0 (IntKind.wrap .i64 (x3+1)))) else none) else none) else (some (.inr x0))
def spec_l22Word.F (k:Nat) (a0:ByteArray):Option (Bool):=(spec_l22Word.l0 k a0 0).bind fun y2=>match y2 with | .inl z3=>some z3 | .inr z3=>(spec_l1In.F (z3.size:Int) 1 15).bind fun r4=>bif r4 then (bif (!beqS z3 (⟨#[110,111,116]⟩:ByteArray)) then (bif (!beqS z3 (⟨#[97,110,100]⟩:ByteArray)) then (some (!beqS z3 (⟨#[111,114]⟩:ByteArray))) else (some false)) else (some false)) else (some false)
def spec_l22Word.C (k:Nat):Cal->Option CArm:=fun c=>match c with
 | .f 42=>some (.p [(.int .u8)] _ (fun x=>spec_l22Sign.F x.1) (fun r=>(.t .bool r)))
 | .f 89=>some (.p [(.int .i64),(.int .i64),(.int .i64)] _ (fun x=>spec_l1In.F x.1 x.2.1 x.2.2.1) (fun r=>(.t .bool r)))
 | _=>none
def spec_l22Word.sp0:List Sp:=[.t 0 .str,.t 3 (.int .i64)]
def spec_l22Word.sp0_0:List Sp:=[.t 2 .bool]
def spec_l22Word.sp0_1:List Sp:=[.t 0 .str]
def spec_l22Word.A0:LArm:=.two spec_l22Word.sp0 spec_l22Word.sp0_0 spec_l22Word.sp0_1 (Bool) (ByteArray) (fun k x=>spec_l22Word.l0 k x.1 x.2.1) .ret (.exit 0) (fun y=>(y,())) (fun x=>x.1) (fun y=>(y,())) (fun x=>x.1)
def spec_l22Word.L:Nat->Option LArm:=fun b=>match b with
 | 0=>some spec_l22Word.A0
 | _=>none
theorem spec_l22Word.run (k:Nat) (a0:ByteArray):runF envX (tabC (spec_l22Word.C k)) (tabL 30 k spec_l22Word.L) Tryd.f71 [.t .str a0] (viewR1 (.t .bool))=spec_l22Word.F k a0:=by kernel_rfl
theorem spec_l22Word.step0 (k:Nat) (x0:ByteArray) (x3:Int):runC envX (tabC (spec_l22Word.C k)) (tabL 30 k spec_l22Word.L) 0 (loopAt Tryd.f71 0) (stOf 30 spec_l22Word.sp0 (x0,x3,())) (spec_l22Word.A0.cont 30 k)=spec_l22Word.l0 (k+1) x0 x3:=by kernel_rfl
theorem spec_l22Word.G (hE:EnvOk Tryd.prog envX) (pv:Nat->Value) (k:Nat):∀ cal A,spec_l22Word.C k cal=some A->ArmOk Tryd.prog envX pv cal A:=by
 intro cal A h
 unfold spec_l22Word.C at h
 split at h
 ·cases h; exact fun x y hy=>spec_l22Sign.good hE pv x.1 hy
 ·cases h; exact fun x y hy=>spec_l1In.good hE pv x.1 x.2.1 x.2.2.1 hy
 ·cases h
theorem spec_l22Word.good (hE:EnvOk Tryd.prog envX) (pv:Nat->Value) (k:Nat) (a0:ByteArray) {y:_} (h:spec_l22Word.F k a0=some y):Meets Tryd.prog envX pv (.f 71) (tvals [.str] (a0,())) (.t .bool y) :=
 fun_loops hE (t:=spec_l22Word.C) k (fun k _=>spec_l22Word.G hE pv k) (f:=71) (fn:=Tryd.f71) (by kernel_rfl) rfl (by kernel_rfl) (by kernel_rfl) (lt:=spec_l22Word.L) (by kernel_rfl) (fun b A h=>by
  unfold spec_l22Word.L at h; split at h
  ·cases h; exact ⟨by kernel_rfl,by kernel_rfl,by kernel_rfl,fun _=>rfl,fun _=>rfl,fun _=>rfl⟩
  ·cases h) (fun b A h=>by
  unfold spec_l22Word.L at h; split at h
  ·cases h; exact fun k x=>spec_l22Word.step0 k x.1 x.2.1
  ·cases h) ((spec_l22Word.run k a0).trans h) (fun r hr=>wk_view1 hr)
def spec_l4Fields.F:Option (List ByteArray):=some ([(⟨#[97,117,116,104,111,114,115]⟩:ByteArray),(⟨#[101,100,105,116,111,114,115]⟩:ByteArray),(⟨#[116,105,116,108,101]⟩:ByteArray),(⟨#[99,111,110,116,97,105,110,101,114]⟩:ByteArray),(⟨#[112,117,98,108,105,115,104,101,114]⟩:ByteArray),(⟨#[100,97,116,101]⟩:ByteArray),(⟨#[118,111,108,117,109,101]⟩:ByteArray),(⟨#[112,97,103,101,115]⟩:ByteArray)]:List ByteArray)
def spec_l4Fields.C:Cal->Option CArm:=fun c=>match c with
 | _=>none
theorem spec_l4Fields.run:runF envX (tabC spec_l4Fields.C) (tabL 2 0 (fun _=>none)) Tryd.f90 [] (viewR1 (.fr 9 .str))=spec_l4Fields.F:=by kernel_rfl
theorem spec_l4Fields.G (hE:EnvOk Tryd.prog envX) (pv:Nat->Value):∀ cal A,spec_l4Fields.C cal=some A->ArmOk Tryd.prog envX pv cal A:=by
 intro cal A h
 unfold spec_l4Fields.C at h
 cases h
theorem spec_l4Fields.good (hE:EnvOk Tryd.prog envX) (pv:Nat->Value) {y:_} (h:spec_l4Fields.F=some y):Meets Tryd.prog envX pv (.f 90) (tvals [] (())) (.fr 9 .str y) :=
 fun_plain hE (spec_l4Fields.G hE pv) (f:=90) (fn:=Tryd.f90) (by kernel_rfl) rfl (by kernel_rfl) (by kernel_rfl) ((spec_l4Fields.run).trans h) (fun r hr=>wk_view1 hr)
def spec_l22Field.l0:Nat->ByteArray->(List ByteArray)->Int->Option (Sum Bool ByteArray)
 | 0,_,_,_=>none
 | k+1,x0,x3,x4=>bif (decide (x4<(x3.length:Int))) then (bif decide (0<=x4) then (bif decide (x4<(x3.length:Int)) then (bif (beqS (x3.getD ((x4:Int).toNat) (⟨#[]⟩:ByteArray)) x0) then (some (.inl true)) else (spec_l22Field.l0 k x0 x3 (IntKind.wrap .i64 (x4+1)))) else none) else none) else (some (.inr x0))
def spec_l22Field.F (k:Nat) (a0:ByteArray):Option (Bool):=(spec_l4Fields.F).bind fun r1=>(spec_l22Field.l0 k a0 r1 0).bind fun y2=>match y2 with | .inl z3=>some z3 | .inr z3=>some (beqS z3 (⟨#[]⟩:ByteArray))
def spec_l22Field.C (k:Nat):Cal->Option CArm:=fun c=>match c with
 | .f 90=>some (.p [] _ (fun x=>spec_l4Fields.F) (fun r=>(.fr 9 .str r)))
 | _=>none
def spec_l22Field.sp0:List Sp:=[.t 0 .str,.own 3 1024 9 .str false true,.t 4 (.int .i64)]
def spec_l22Field.sp0_0:List Sp:=[.t 2 .bool]
def spec_l22Field.sp0_1:List Sp:=[.t 0 .str]
def spec_l22Field.A0:LArm:=.two spec_l22Field.sp0 spec_l22Field.sp0_0 spec_l22Field.sp0_1 (Bool) (ByteArray) (fun k x=>spec_l22Field.l0 k x.1 x.2.1 x.2.2.1) .ret (.exit 0) (fun y=>(y,())) (fun x=>x.1) (fun y=>(y,())) (fun x=>x.1)
def spec_l22Field.L:Nat->Option LArm:=fun b=>match b with
 | 0=>some spec_l22Field.A0
 | _=>none
theorem spec_l22Field.run (k:Nat) (a0:ByteArray):runF envX (tabC (spec_l22Field.C k)) (tabL 20 k spec_l22Field.L) Tryd.f72 [.t .str a0] (viewR1 (.t .bool))=spec_l22Field.F k a0:=by kernel_rfl
theorem spec_l22Field.step0 (k:Nat) (x0:ByteArray) (x3:List ByteArray) (x4:Int):runC envX (tabC (spec_l22Field.C k)) (tabL 20 k spec_l22Field.L) 0 (loopAt Tryd.f72 0) (stOf 20 spec_l22Field.sp0 (x0,x3,x4,())) (spec_l22Field.A0.cont 20 k)=spec_l22Field.l0 (k+1) x0 x3 x4:=by kernel_rfl
theorem spec_l22Field.G (hE:EnvOk Tryd.prog envX) (pv:Nat->Value) (k:Nat):∀ cal A,spec_l22Field.C k cal=some A->ArmOk Tryd.prog envX pv cal A:=by
 intro cal A h
 unfold spec_l22Field.C at h
 split at h
 ·cases h; exact fun x y hy=>spec_l4Fields.good hE pv hy
 ·cases h
theorem spec_l22Field.good (hE:EnvOk Tryd.prog envX) (pv:Nat->Value) (k:Nat) (a0:ByteArray) {y:_} (h:spec_l22Field.F k a0=some y):Meets Tryd.prog envX pv (.f 72) (tvals [.str] (a0,())) (.t .bool y) :=
 fun_loops hE (t:=spec_l22Field.C) k (fun k _=>spec_l22Field.G hE pv k) (f:=72) (fn:=Tryd.f72) (by kernel_rfl) rfl (by kernel_rfl) (by kernel_rfl) (lt:=spec_l22Field.L) (by kernel_rfl) (fun b A h=>by
  unfold spec_l22Field.L at h; split at h
  ·cases h; exact ⟨by kernel_rfl,by kernel_rfl,by kernel_rfl,fun _=>rfl,fun _=>rfl,fun _=>rfl⟩
  ·cases h) (fun b A h=>by
  unfold spec_l22Field.L at h; split at h
  ·cases h; exact fun k x=>spec_l22Field.step0 k x.1 x.2.1 x.2.2.1
  ·cases h) ((spec_l22Field.run k a0).trans h) (fun r hr=>wk_view1 hr)
def spec_l22Form.F (k:Nat) (a0:Query):Option (Bool):=bif (a0.op==1) then ((spec_l22Word.F k a0.word).bind fun r1=>bif r1 then ((spec_l22Field.F k a0.field).bind fun r2=>bif r2 then (some ((a0.parts.length:Int)==0)) else (some false)) else (some false)) else (bif (a0.op==2) then (bif (beqS a0.word (⟨#[]⟩:ByteArray)) then (bif (beqS a0.field (⟨#[]⟩:ByteArray)) then (some ((a0.parts.length:Int)==1)) else (some false)) else (some false)) else (bif (a0.op==3) then (bif (a0.op==3) then (bif (beqS a0.word (⟨#[]⟩:ByteArray)) then (bif (beqS a0.field (⟨#[]⟩:ByteArray)) then (some ((a0.parts.length:Int)==2)) else (some false)) else (some false)) else (some false)) else (bif (a0.op==4) then (bif (beqS a0.word (⟨#[]⟩:ByteArray)) then (bif (beqS a0.field (⟨#[]⟩:ByteArray)) then (some ((a0.parts.length:Int)==2)) else (some false)) else (some false)) else (some false))))
def spec_l22Form.C (k:Nat):Cal->Option CArm:=fun c=>match c with
 | .f 71=>some (.p [.str] _ (fun x=>spec_l22Word.F k x.1) (fun r=>(.t .bool r)))
 | .f 72=>some (.p [.str] _ (fun x=>spec_l22Field.F k x.1) (fun r=>(.t .bool r)))
 | _=>none
theorem spec_l22Form.run (k:Nat) (a0:Query):runF envX (tabC (spec_l22Form.C k)) (tabL 54 0 (fun _=>none)) Tryd.f49 [.t .query a0] (viewR1 (.t .bool))=spec_l22Form.F k a0:=by kernel_rfl
theorem spec_l22Form.G (hE:EnvOk Tryd.prog envX) (pv:Nat->Value) (k:Nat):∀ cal A,spec_l22Form.C k cal=some A->ArmOk Tryd.prog envX pv cal A:=by
 intro cal A h
 unfold spec_l22Form.C at h
 split at h
 ·cases h; exact fun x y hy=>spec_l22Word.good hE pv k x.1 hy
 ·cases h; exact fun x y hy=>spec_l22Field.good hE pv k x.1 hy
 ·cases h
theorem spec_l22Form.good (hE:EnvOk Tryd.prog envX) (pv:Nat->Value) (k:Nat) (a0:Query) {y:_} (h:spec_l22Form.F k a0=some y):Meets Tryd.prog envX pv (.f 49) (tvals [.query] (a0,())) (.t .bool y) :=
 fun_plain hE (spec_l22Form.G hE pv k) (f:=49) (fn:=Tryd.f49) (by kernel_rfl) rfl (by kernel_rfl) (by kernel_rfl) ((spec_l22Form.run k a0).trans h) (fun r hr=>wk_view1 hr)
mutual
def spec_l22Forms.F:Nat->Query->Option (Bool)
 | 0,_=>none
 | k+1,a0=>(spec_l22Form.F k a0).bind fun r1=>bif (!r1) then (some false) else ((spec_l22Forms.l0 k a0 0).bind fun y3=>match y3 with | .inl z4=>some z4 | .inr z4=>some true)
def spec_l22Forms.l0:Nat->Query->Int->Option (Sum Bool Unit)
 | 0,_,_=>none
 | k+1,x1,x3=>bif (decide (x3<(x1.parts.length:Int))) then (bif decide (0<=x3) then (bif decide (x3<(x1.parts.length:Int)) then ((spec_l22Forms.F k (x1.parts.getD (x3:Int).toNat (dflt .query))).bind fun r2=>bif (!r2) then (some (.inl false)) else (spec_l22Forms.l0 k x1 (IntKind.wrap .i64 (x3+1)))) else none) else none) else (some (.inr ()))
end
def spec_l22Forms.C (k:Nat):Cal->Option CArm:=fun c=>match c with
 | .f 49=>some (.p [.query] _ (fun x=>spec_l22Form.F k x.1) (fun r=>(.t .bool r)))
 | .f 37=>some (.p [.query] _ (fun x=>spec_l22Forms.F k x.1) (fun r=>(.t .bool r)))
 | _=>none
def spec_l22Forms.sp0:List Sp:=[.boxT 1 0 .query,.t 3 (.int .i64)]
def spec_l22Forms.sp0_0:List Sp:=[.t 2 .bool]
def spec_l22Forms.sp0_1:List Sp:=[]
def spec_l22Forms.A0:LArm:=.two spec_l22Forms.sp0 spec_l22Forms.sp0_0 spec_l22Forms.sp0_1 (Bool) (Unit) (fun k x=>spec_l22Forms.l0 k x.1 x.2.1) .ret (.exit 0) (fun y=>(y,())) (fun x=>x.1) (fun y=>()) (fun x=>())
def spec_l22Forms.L:Nat->Option LArm:=fun b=>match b with
 | 0=>some spec_l22Forms.A0
 | _=>none
theorem spec_l22Forms.run (k:Nat) (a0:Query):runF envX (tabC (spec_l22Forms.C k)) (tabL 21 k spec_l22Forms.L) Tryd.f37 [.t .query a0] (viewR1 (.t .bool))=spec_l22Forms.F (k+1) a0:=by kernel_rfl
theorem spec_l22Forms.step0 (k:Nat) (x1:Query) (x3:Int):runC envX (tabC (spec_l22Forms.C k)) (tabL 21 k spec_l22Forms.L) 0 (loopAt Tryd.f37 0) (stOf 21 spec_l22Forms.sp0 (x1,x3,())) (spec_l22Forms.A0.cont 21 k)=spec_l22Forms.l0 (k+1) x1 x3:=by kernel_rfl
def spec_l22Forms.Gd (pv:Nat->Value) (k:Nat):Prop:=(∀ (a0:Query) {y:_},spec_l22Forms.F k a0=some y->Meets Tryd.prog envX pv (.f 37) (tvals [.query] (a0,())) (.t .bool y))
theorem spec_l22Forms.G (hE:EnvOk Tryd.prog envX) (pv:Nat->Value) (k:Nat) (hI:spec_l22Forms.Gd pv k):∀ cal A,spec_l22Forms.C k cal=some A->ArmOk Tryd.prog envX pv cal A:=by
 intro cal A h
 unfold spec_l22Forms.C at h
 split at h
 ·cases h; exact fun x y hy=>spec_l22Form.good hE pv k x.1 hy
 ·cases h; exact fun x y hy=>hI x.1 hy
 ·cases h
theorem spec_l22Forms.gd (hE:EnvOk Tryd.prog envX) (pv:Nat->Value) (k:Nat) (hI:∀ k',k'<=k->spec_l22Forms.Gd pv k') (a0:Query) {y:_} (h:spec_l22Forms.F (k+1) a0=some y):Meets Tryd.prog envX pv (.f 37) (tvals [.query] (a0,())) (.t .bool y) :=
 fun_loops hE (t:=spec_l22Forms.C) k (fun k hk=>spec_l22Forms.G hE pv k (hI k hk)) (f:=37) (fn:=Tryd.f37) (by kernel_rfl) rfl (by kernel_rfl) (by kernel_rfl) (lt:=spec_l22Forms.L) (by kernel_rfl) (fun b A h=>by
  unfold spec_l22Forms.L at h; split at h
  ·cases h; exact ⟨by kernel_rfl,by kernel_rfl,by kernel_rfl,fun _=>rfl,fun _=>rfl,fun _=>rfl⟩
  ·cases h) (fun b A h=>by
  unfold spec_l22Forms.L at h; split at h
  ·cases h; exact fun k x=>spec_l22Forms.step0 k x.1 x.2.1
  ·cases h) ((spec_l22Forms.run k a0).trans h) (fun r hr=>wk_view1 hr)
theorem spec_l22Forms.all (hE:EnvOk Tryd.prog envX) (pv:Nat->Value):∀ k k',k'<=k->spec_l22Forms.Gd pv k':=by
 intro k
 induction k with
 | zero=>
  intro k' hk
  obtain rfl:k'=0:=by omega
  exact fun _ y h=>by cases (show (none:Option _)=some y from h)
 | succ k ih=>
  intro k' hk
  rcases Nat.lt_or_ge k' (k+1) with hlt | hge
  ·exact ih k' (by omega)
  ·obtain rfl:k'=k+1:=by omega
   exact fun a0 y h=>spec_l22Forms.gd hE pv k ih a0 h
theorem spec_l22Forms.good (hE:EnvOk Tryd.prog envX) (pv:Nat->Value) (k:Nat) (a0:Query) {y:_} (h:spec_l22Forms.F k a0=some y):Meets Tryd.prog envX pv (.f 37) (tvals [.query] (a0,())) (.t .bool y) :=
 (spec_l22Forms.all hE pv k k (Nat.le_refl k)) a0 h
mutual
def spec_l22Size.F:Nat->Query->Option (Int)
 | 0,_=>none
 | k+1,a0=>(spec_l22Size.l0 k a0 1 0).bind fun y2=>some y2
def spec_l22Size.l0:Nat->Query->Int->Int->Option (Int)
 | 0,_,_,_=>none
 | k+1,x1,x3,x4=>bif (decide (x4<(x1.parts.length:Int))) then (bif decide (0<=x4) then (bif decide (x4<(x1.parts.length:Int)) then ((spec_l22Size.F k (x1.parts.getD (x4:Int).toNat (dflt .query))).bind fun r1=>spec_l22Size.l0 k x1 (IntKind.wrap .i64 (x3+r1)) (IntKind.wrap .i64 (x4+1))) else none) else none) else (some x3)
end
def spec_l22Size.C (k:Nat):Cal->Option CArm:=fun c=>match c with
 | .f 38=>some (.p [.query] _ (fun x=>spec_l22Size.F k x.1) (fun r=>(.t (.int .i64) r)))
 | _=>none
def spec_l22Size.sp0:List Sp:=[.boxT 1 0 .query,.t 3 (.int .i64),.t 4 (.int .i64)]
def spec_l22Size.sp0_0:List Sp:=[.t 3 (.int .i64)]
def spec_l22Size.A0:LArm:=.one spec_l22Size.sp0 spec_l22Size.sp0_0 (Int) (fun k x=>spec_l22Size.l0 k x.1 x.2.1 x.2.2.1) (.exit 0) (fun y=>(y,())) (fun x=>x.1)
def spec_l22Size.L:Nat->Option LArm:=fun b=>match b with
 | 0=>some spec_l22Size.A0
 | _=>none
theorem spec_l22Size.run (k:Nat) (a0:Query):runF envX (tabC (spec_l22Size.C k)) (tabL 21 k spec_l22Size.L) Tryd.f38 [.t .query a0] (viewR1 (.t (.int .i64)))=spec_l22Size.F (k+1) a0:=by kernel_rfl
theorem spec_l22Size.step0 (k:Nat) (x1:Query) (x3:Int) (x4:Int):runC envX (tabC (spec_l22Size.C k)) (tabL 21 k spec_l22Size.L) 0 (loopAt Tryd.f38 0) (stOf 21 spec_l22Size.sp0 (x1,x3,x4,())) (spec_l22Size.A0.cont 21 k)=spec_l22Size.l0 (k+1) x1 x3 x4:=by kernel_rfl
def spec_l22Size.Gd (pv:Nat->Value) (k:Nat):Prop:=(∀ (a0:Query) {y:_},spec_l22Size.F k a0=some y->Meets Tryd.prog envX pv (.f 38) (tvals [.query] (a0,())) (.t (.int .i64) y))
theorem spec_l22Size.G (hE:EnvOk Tryd.prog envX) (pv:Nat->Value) (k:Nat) (hI:spec_l22Size.Gd pv k):∀ cal A,spec_l22Size.C k cal=some A->ArmOk Tryd.prog envX pv cal A:=by
 intro cal A h
 unfold spec_l22Size.C at h
 split at h
 ·cases h; exact fun x y hy=>hI x.1 hy
 ·cases h
theorem spec_l22Size.gd (hE:EnvOk Tryd.prog envX) (pv:Nat->Value) (k:Nat) (hI:∀ k',k'<=k->spec_l22Size.Gd pv k') (a0:Query) {y:_} (h:spec_l22Size.F (k+1) a0=some y):Meets Tryd.prog envX pv (.f 38) (tvals [.query] (a0,())) (.t (.int .i64) y) :=
 fun_loops hE (t:=spec_l22Size.C) k (fun k hk=>spec_l22Size.G hE pv k (hI k hk)) (f:=38) (fn:=Tryd.f38) (by kernel_rfl) rfl (by kernel_rfl) (by kernel_rfl) (lt:=spec_l22Size.L) (by kernel_rfl) (fun b A h=>by
  unfold spec_l22Size.L at h; split at h
  ·cases h; exact ⟨by kernel_rfl,by kernel_rfl,fun _=>rfl,fun _=>rfl⟩
  ·cases h) (fun b A h=>by
  unfold spec_l22Size.L at h; split at h
  ·cases h; exact fun k x=>spec_l22Size.step0 k x.1 x.2.1 x.2.2.1
  ·cases h) ((spec_l22Size.run k a0).trans h) (fun r hr=>wk_view1 hr)
theorem spec_l22Size.all (hE:EnvOk Tryd.prog envX) (pv:Nat->Value):∀ k k',k'<=k->spec_l22Size.Gd pv k':=by
 intro k
 induction k with
 | zero=>
  intro k' hk
  obtain rfl:k'=0:=by omega
  exact fun _ y h=>by cases (show (none:Option _)=some y from h)
 | succ k ih=>
  intro k' hk
  rcases Nat.lt_or_ge k' (k+1) with hlt | hge
  ·exact ih k' (by omega)
  ·obtain rfl:k'=k+1:=by omega
   exact fun a0 y h=>spec_l22Size.gd hE pv k ih a0 h
theorem spec_l22Size.good (hE:EnvOk Tryd.prog envX) (pv:Nat->Value) (k:Nat) (a0:Query) {y:_} (h:spec_l22Size.F k a0=some y):Meets Tryd.prog envX pv (.f 38) (tvals [.query] (a0,())) (.t (.int .i64) y) :=
 (spec_l22Size.all hE pv k k (Nat.le_refl k)) a0 h
def spec_l22Good.F (k:Nat) (a0:Query):Option (Bool):=(spec_l22Forms.F k a0).bind fun r1=>bif r1 then ((spec_l22Size.F k a0).bind fun r2=>some (decide (r2<=15))) else (some false)
def spec_l22Good.C (k:Nat):Cal->Option CArm:=fun c=>match c with
 | .f 37=>some (.p [.query] _ (fun x=>spec_l22Forms.F k x.1) (fun r=>(.t .bool r)))
 | .f 38=>some (.p [.query] _ (fun x=>spec_l22Size.F k x.1) (fun r=>(.t (.int .i64) r)))
 | _=>none
theorem spec_l22Good.run (k:Nat) (a0:Query):runF envX (tabC (spec_l22Good.C k)) (tabL 10 0 (fun _=>none)) Tryd.f21 [.t .query a0] (viewR1 (.t .bool))=spec_l22Good.F k a0:=by kernel_rfl
theorem spec_l22Good.G (hE:EnvOk Tryd.prog envX) (pv:Nat->Value) (k:Nat):∀ cal A,spec_l22Good.C k cal=some A->ArmOk Tryd.prog envX pv cal A:=by
 intro cal A h
 unfold spec_l22Good.C at h
 split at h
 ·cases h; exact fun x y hy=>spec_l22Forms.good hE pv k x.1 hy
 ·cases h; exact fun x y hy=>spec_l22Size.good hE pv k x.1 hy
 ·cases h
theorem spec_l22Good.good (hE:EnvOk Tryd.prog envX) (pv:Nat->Value) (k:Nat) (a0:Query) {y:_} (h:spec_l22Good.F k a0=some y):Meets Tryd.prog envX pv (.f 21) (tvals [.query] (a0,())) (.t .bool y) :=
 fun_plain hE (spec_l22Good.G hE pv k) (f:=21) (fn:=Tryd.f21) (by kernel_rfl) rfl (by kernel_rfl) (by kernel_rfl) ((spec_l22Good.run k a0).trans h) (fun r hr=>wk_view1 hr)
def spec_l22Put.l0:Nat->(List ByteArray)->ByteArray->Int->Option ((List ByteArray) × ByteArray × Int)
 | 0,_,_,_=>none
 | k+1,x0,x1,x5=>bif (decide (x5<(x0.length:Int))) then (bif decide (0<=x5) then (bif decide (x5<(x0.length:Int)) then (bif (ltS (x0.getD (x5:Int).toNat (⟨#[]⟩:ByteArray)) x1) then (spec_l22Put.l0 k x0 x1 (IntKind.wrap .i64 (x5+1))) else (some (x0,x1,x5))) else none) else none) else (some (x0,x1,x5))
def spec_l22Put.F (k:Nat) (a0:List ByteArray) (a1:ByteArray):Option (List ByteArray):=(spec_l22Put.l0 k a0 a1 0).bind fun y1=>bif (decide (y1.2.2<(y1.1.length:Int))) then (bif decide (0<=y1.2.2) then (bif decide (y1.2.2<(y1.1.length:Int)) then (bif (beqS (y1.1.getD (y1.2.2:Int).toNat (⟨#[]⟩:ByteArray)) y1.2.1) then (some y1.1) else (bif decide (0<=y1.2.2) then (bif decide (y1.2.2<=(y1.1.length:Int)) then (bif room (([]:List ByteArray).length+(y1.1.take (y1.2.2:Int).toNat).length) .str then (bif room ((([]:List ByteArray)++(y1.1.take (y1.2.2:Int).toNat)).length+([y1.2.1]:List ByteArray).length) .str then (bif decide (0<=y1.2.2) then (bif decide (y1.2.2<=(y1.1.length:Int)) then (bif room (((([]:List ByteArray)++(y1.1.take (y1.2.2:Int).toNat))++([y1.2.1]:List ByteArray)).length+(y1.1.drop (y1.2.2:Int).toNat).length) .str then (some (((([]:List ByteArray)++(y1.1.take (y1.2.2:Int).toNat))++([y1.2.1]:List ByteArray))++(y1.1.drop (y1.2.2:Int).toNat))) else none) else none) else none) else none) else none) else none) else none)) else none) else none) else (bif decide (0<=y1.2.2) then (bif decide (y1.2.2<=(y1.1.length:Int)) then (bif room (([]:List ByteArray).length+(y1.1.take (y1.2.2:Int).toNat).length) .str then (bif room ((([]:List ByteArray)++(y1.1.take (y1.2.2:Int).toNat)).length+([y1.2.1]:List ByteArray).length) .str then (bif decide (0<=y1.2.2) then (bif decide (y1.2.2<=(y1.1.length:Int)) then (bif room (((([]:List ByteArray)++(y1.1.take (y1.2.2:Int).toNat))++([y1.2.1]:List ByteArray)).length+(y1.1.drop (y1.2.2:Int).toNat).length) .str then (some (((([]:List ByteArray)++(y1.1.take (y1.2.2:Int).toNat))++([y1.2.1]:List ByteArray))++(y1.1.drop (y1.2.2:Int).toNat))) else none) else none) else none) else none) else none) else none) else none)
def spec_l22Put.C (k:Nat):Cal->Option CArm:=fun c=>match c with
 | _=>none
def spec_l22Put.sp0:List Sp:=[.t 0 (.sl .str),.t 1 .str,.t 5 (.int .i64)]
def spec_l22Put.sp0_0:List Sp:=[.t 0 (.sl .str),.t 1 .str,.t 5 (.int .i64)]
def spec_l22Put.A0:LArm:=.one spec_l22Put.sp0 spec_l22Put.sp0_0 ((List ByteArray) × ByteArray × Int) (fun k x=>spec_l22Put.l0 k x.1 x.2.1 x.2.2.1) (.exit 0) (fun y=>(y.1,y.2.1,y.2.2,())) (fun x=>(x.1,x.2.1,x.2.2.1))
def spec_l22Put.L:Nat->Option LArm:=fun b=>match b with
 | 0=>some spec_l22Put.A0
 | _=>none
theorem spec_l22Put.run (k:Nat) (a0:List ByteArray) (a1:ByteArray):runF envX (tabC (spec_l22Put.C k)) (tabL 45 k spec_l22Put.L) Tryd.f46 [.t (.sl .str) a0,.t .str a1] (viewR1 (.t (.sl .str)))=spec_l22Put.F k a0 a1:=by kernel_rfl
theorem spec_l22Put.step0 (k:Nat) (x0:List ByteArray) (x1:ByteArray) (x5:Int):runC envX (tabC (spec_l22Put.C k)) (tabL 45 k spec_l22Put.L) 0 (loopAt Tryd.f46 0) (stOf 45 spec_l22Put.sp0 (x0,x1,x5,())) (spec_l22Put.A0.cont 45 k)=spec_l22Put.l0 (k+1) x0 x1 x5:=by kernel_rfl
theorem spec_l22Put.G (hE:EnvOk Tryd.prog envX) (pv:Nat->Value) (k:Nat):∀ cal A,spec_l22Put.C k cal=some A->ArmOk Tryd.prog envX pv cal A:=by
 intro cal A h
 unfold spec_l22Put.C at h
 cases h
theorem spec_l22Put.good (hE:EnvOk Tryd.prog envX) (pv:Nat->Value) (k:Nat) (a0:List ByteArray) (a1:ByteArray) {y:_} (h:spec_l22Put.F k a0 a1=some y):Meets Tryd.prog envX pv (.f 46) (tvals [(.sl .str),.str] (a0,a1,())) (.t (.sl .str) y) :=
 fun_loops hE (t:=spec_l22Put.C) k (fun k _=>spec_l22Put.G hE pv k) (f:=46) (fn:=Tryd.f46) (by kernel_rfl) rfl (by kernel_rfl) (by kernel_rfl) (lt:=spec_l22Put.L) (by kernel_rfl) (fun b A h=>by
  unfold spec_l22Put.L at h; split at h
  ·cases h; exact ⟨by kernel_rfl,by kernel_rfl,fun _=>rfl,fun _=>rfl⟩
  ·cases h) (fun b A h=>by
  unfold spec_l22Put.L at h; split at h
  ·cases h; exact fun k x=>spec_l22Put.step0 k x.1 x.2.1 x.2.2.1
  ·cases h) ((spec_l22Put.run k a0 a1).trans h) (fun r hr=>wk_view1 hr)
mutual
def spec_l22Wanted.F:Nat->(List ByteArray)->Query->Bool->Option (List ByteArray)
 | 0,_,_,_=>none
 | k+1,a0,a1,a2=>bif (a1.op==1) then (bif a2 then ((spec_l22Put.F k a0 a1.word).bind fun r1=>some r1) else ((spec_l22Wanted.l0 k a0 a2 a1 0).bind fun y3=>some y3)) else ((spec_l22Wanted.l0 k a0 a2 a1 0).bind fun y5=>some y5)
def spec_l22Wanted.l0:Nat->(List ByteArray)->Bool->Query->Int->Option ((List ByteArray))
 | 0,_,_,_,_=>none
 | k+1,x0,x2,x4,x7=>bif (decide (x7<(x4.parts.length:Int))) then (bif decide (0<=x7) then (bif decide (x7<(x4.parts.length:Int)) then ((spec_l22Wanted.F k x0 (x4.parts.getD (x7:Int).toNat (dflt .query)) (!(x2==(x4.op==2)))).bind fun r4=>spec_l22Wanted.l0 k r4 x2 x4 (IntKind.wrap .i64 (x7+1))) else none) else none) else (some x0)
end
def spec_l22Wanted.C (k:Nat):Cal->Option CArm:=fun c=>match c with
 | .f 46=>some (.p [(.sl .str),.str] _ (fun x=>spec_l22Put.F k x.1 x.2.1) (fun r=>(.t (.sl .str) r)))
 | .f 32=>some (.p [(.sl .str),.query,.bool] _ (fun x=>spec_l22Wanted.F k x.1 x.2.1 x.2.2.1) (fun r=>(.t (.sl .str) r)))
 | _=>none
def spec_l22Wanted.sp0:List Sp:=[.t 0 (.sl .str),.t 2 .bool,.boxT 4 0 .query,.t 7 (.int .i64)]
def spec_l22Wanted.sp0_0:List Sp:=[.t 0 (.sl .str)]
def spec_l22Wanted.A0:LArm:=.one spec_l22Wanted.sp0 spec_l22Wanted.sp0_0 ((List ByteArray)) (fun k x=>spec_l22Wanted.l0 k x.1 x.2.1 x.2.2.1 x.2.2.2.1) (.exit 0) (fun y=>(y,())) (fun x=>x.1)
def spec_l22Wanted.L:Nat->Option LArm:=fun b=>match b with
 | 0=>some spec_l22Wanted.A0
 | _=>none
theorem spec_l22Wanted.run (k:Nat) (a0:List ByteArray) (a1:Query) (a2:Bool):runF envX (tabC (spec_l22Wanted.C k)) (tabL 38 k spec_l22Wanted.L) Tryd.f32 [.t (.sl .str) a0,.t .query a1,.t .bool a2] (viewR1 (.t (.sl .str)))=spec_l22Wanted.F (k+1) a0 a1 a2:=by kernel_rfl
theorem spec_l22Wanted.step0 (k:Nat) (x0:List ByteArray) (x2:Bool) (x4:Query) (x7:Int):runC envX (tabC (spec_l22Wanted.C k)) (tabL 38 k spec_l22Wanted.L) 0 (loopAt Tryd.f32 0) (stOf 38 spec_l22Wanted.sp0 (x0,x2,x4,x7,())) (spec_l22Wanted.A0.cont 38 k)=spec_l22Wanted.l0 (k+1) x0 x2 x4 x7:=by kernel_rfl
def spec_l22Wanted.Gd (pv:Nat->Value) (k:Nat):Prop:=(∀ (a0:List ByteArray) (a1:Query) (a2:Bool) {y:_},spec_l22Wanted.F k a0 a1 a2=some y->Meets Tryd.prog envX pv (.f 32) (tvals [(.sl .str),.query,.bool] (a0,a1,a2,())) (.t (.sl .str) y))
theorem spec_l22Wanted.G (hE:EnvOk Tryd.prog envX) (pv:Nat->Value) (k:Nat) (hI:spec_l22Wanted.Gd pv k):∀ cal A,spec_l22Wanted.C k cal=some A->ArmOk Tryd.prog envX pv cal A:=by
 intro cal A h
 unfold spec_l22Wanted.C at h
 split at h
 ·cases h; exact fun x y hy=>spec_l22Put.good hE pv k x.1 x.2.1 hy
 ·cases h; exact fun x y hy=>hI x.1 x.2.1 x.2.2.1 hy
 ·cases h
theorem spec_l22Wanted.gd (hE:EnvOk Tryd.prog envX) (pv:Nat->Value) (k:Nat) (hI:∀ k',k'<=k->spec_l22Wanted.Gd pv k') (a0:List ByteArray) (a1:Query) (a2:Bool) {y:_} (h:spec_l22Wanted.F (k+1) a0 a1 a2=some y):Meets Tryd.prog envX pv (.f 32) (tvals [(.sl .str),.query,.bool] (a0,a1,a2,())) (.t (.sl .str) y) :=
 fun_loops hE (t:=spec_l22Wanted.C) k (fun k hk=>spec_l22Wanted.G hE pv k (hI k hk)) (f:=32) (fn:=Tryd.f32) (by kernel_rfl) rfl (by kernel_rfl) (by kernel_rfl) (lt:=spec_l22Wanted.L) (by kernel_rfl) (fun b A h=>by
  unfold spec_l22Wanted.L at h; split at h
  ·cases h; exact ⟨by kernel_rfl,by kernel_rfl,fun _=>rfl,fun _=>rfl⟩
  ·cases h) (fun b A h=>by
  unfold spec_l22Wanted.L at h; split at h
  ·cases h; exact fun k x=>spec_l22Wanted.step0 k x.1 x.2.1 x.2.2.1 x.2.2.2.1
  ·cases h) ((spec_l22Wanted.run k a0 a1 a2).trans h) (fun r hr=>wk_view1 hr)
theorem spec_l22Wanted.all (hE:EnvOk Tryd.prog envX) (pv:Nat->Value):∀ k k',k'<=k->spec_l22Wanted.Gd pv k':=by
 intro k
 induction k with
 | zero=>
  intro k' hk
  obtain rfl:k'=0:=by omega
  exact fun _ _ _ y h=>by cases (show (none:Option _)=some y from h)
 | succ k ih=>
  intro k' hk
  rcases Nat.lt_or_ge k' (k+1) with hlt | hge
  ·exact ih k' (by omega)
  ·obtain rfl:k'=k+1:=by omega
   exact fun a0 a1 a2 y h=>spec_l22Wanted.gd hE pv k ih a0 a1 a2 h
theorem spec_l22Wanted.good (hE:EnvOk Tryd.prog envX) (pv:Nat->Value) (k:Nat) (a0:List ByteArray) (a1:Query) (a2:Bool) {y:_} (h:spec_l22Wanted.F k a0 a1 a2=some y):Meets Tryd.prog envX pv (.f 32) (tvals [(.sl .str),.query,.bool] (a0,a1,a2,())) (.t (.sl .str) y) :=
 (spec_l22Wanted.all hE pv k k (Nat.le_refl k)) a0 a1 a2 h
def spec_QueryWords.F (k:Nat) (a0:Query):Option ((List ByteArray) × Bool):=(spec_l22Good.F k a0).bind fun r1=>bif (!r1) then (some (([]:List ByteArray),false)) else ((spec_l22Wanted.F k ([]:List ByteArray) a0 true).bind fun r2=>some (r2,true))
def spec_QueryWords.C (k:Nat):Cal->Option CArm:=fun c=>match c with
 | .f 21=>some (.p [.query] _ (fun x=>spec_l22Good.F k x.1) (fun r=>(.t .bool r)))
 | .f 32=>some (.p [(.sl .str),.query,.bool] _ (fun x=>spec_l22Wanted.F k x.1 x.2.1 x.2.2.1) (fun r=>(.t (.sl .str) r)))
 | _=>none
theorem spec_QueryWords.run (k:Nat) (a0:Query):runF envX (tabC (spec_QueryWords.C k)) (tabL 11 0 (fun _=>none)) Tryd.f15 [.t .query a0] (viewR2 (.t (.sl .str)) (.t .bool))=spec_QueryWords.F k a0:=by kernel_rfl
theorem spec_QueryWords.G (hE:EnvOk Tryd.prog envX) (pv:Nat->Value) (k:Nat):∀ cal A,spec_QueryWords.C k cal=some A->ArmOk Tryd.prog envX pv cal A:=by
 intro cal A h
 unfold spec_QueryWords.C at h
 split at h
 ·cases h; exact fun x y hy=>spec_l22Good.good hE pv k x.1 hy
 ·cases h; exact fun x y hy=>spec_l22Wanted.good hE pv k x.1 x.2.1 x.2.2.1 hy
 ·cases h
theorem spec_QueryWords.good (hE:EnvOk Tryd.prog envX) (pv:Nat->Value) (k:Nat) (a0:Query) {y:_} (h:spec_QueryWords.F k a0=some y):Meets Tryd.prog envX pv (.f 15) (tvals [.query] (a0,())) (.tup [.t (.sl .str) y.1,.t .bool y.2]) :=
 fun_plain hE (spec_QueryWords.G hE pv k) (f:=15) (fn:=Tryd.f15) (by kernel_rfl) rfl (by kernel_rfl) (by kernel_rfl) ((spec_QueryWords.run k a0).trans h) (fun r hr=>wk_view2 hr)
def impl_isLower.F (a0:Int):Option (Bool):=bif (decide (a0 ≥ 97)) then (some (decide (a0<=122))) else (some false)
def impl_isLower.C:Cal->Option CArm:=fun c=>match c with
 | _=>none
theorem impl_isLower.run (a0:Int):runF envX (tabC impl_isLower.C) (tabL 9 0 (fun _=>none)) Tryd.f73 [.t (.int .u8) a0] (viewR1 (.t .bool))=impl_isLower.F a0:=by kernel_rfl
theorem impl_isLower.G (hE:EnvOk Tryd.prog envX) (pv:Nat->Value):∀ cal A,impl_isLower.C cal=some A->ArmOk Tryd.prog envX pv cal A:=by
 intro cal A h
 unfold impl_isLower.C at h
 cases h
theorem impl_isLower.good (hE:EnvOk Tryd.prog envX) (pv:Nat->Value) (a0:Int) {y:_} (h:impl_isLower.F a0=some y):Meets Tryd.prog envX pv (.f 73) (tvals [(.int .u8)] (a0,())) (.t .bool y) :=
 fun_plain hE (impl_isLower.G hE pv) (f:=73) (fn:=Tryd.f73) (by kernel_rfl) rfl (by kernel_rfl) (by kernel_rfl) ((impl_isLower.run a0).trans h) (fun r hr=>wk_view1 hr)
def impl_isDigit.F (a0:Int):Option (Bool):=bif (decide (a0 ≥ 48)) then (some (decide (a0<=57))) else (some false)
def impl_isDigit.C:Cal->Option CArm:=fun c=>match c with
 | _=>none
theorem impl_isDigit.run (a0:Int):runF envX (tabC impl_isDigit.C) (tabL 9 0 (fun _=>none)) Tryd.f74 [.t (.int .u8) a0] (viewR1 (.t .bool))=impl_isDigit.F a0:=by kernel_rfl
theorem impl_isDigit.G (hE:EnvOk Tryd.prog envX) (pv:Nat->Value):∀ cal A,impl_isDigit.C cal=some A->ArmOk Tryd.prog envX pv cal A:=by
 intro cal A h
 unfold impl_isDigit.C at h
 cases h
theorem impl_isDigit.good (hE:EnvOk Tryd.prog envX) (pv:Nat->Value) (a0:Int) {y:_} (h:impl_isDigit.F a0=some y):Meets Tryd.prog envX pv (.f 74) (tvals [(.int .u8)] (a0,())) (.t .bool y) :=
 fun_plain hE (impl_isDigit.G hE pv) (f:=74) (fn:=Tryd.f74) (by kernel_rfl) rfl (by kernel_rfl) (by kernel_rfl) ((impl_isDigit.run a0).trans h) (fun r hr=>wk_view1 hr)
def impl_inside.F (a0:Int) (a1:Int) (a2:Int):Option (Bool):=bif (decide (a0 ≥ a1)) then (some (decide (a0<=a2))) else (some false)
def impl_inside.C:Cal->Option CArm:=fun c=>match c with
 | _=>none
theorem impl_inside.run (a0:Int) (a1:Int) (a2:Int):runF envX (tabC impl_inside.C) (tabL 15 0 (fun _=>none)) Tryd.f75 [.t (.int .i64) a0,.t (.int .i64) a1,.t (.int .i64) a2] (viewR1 (.t .bool))=impl_inside.F a0 a1 a2:=by kernel_rfl
theorem impl_inside.G (hE:EnvOk Tryd.prog envX) (pv:Nat->Value):∀ cal A,impl_inside.C cal=some A->ArmOk Tryd.prog envX pv cal A:=by
 intro cal A h
 unfold impl_inside.C at h
 cases h
theorem impl_inside.good (hE:EnvOk Tryd.prog envX) (pv:Nat->Value) (a0:Int) (a1:Int) (a2:Int) {y:_} (h:impl_inside.F a0 a1 a2=some y):Meets Tryd.prog envX pv (.f 75) (tvals [(.int .i64),(.int .i64),(.int .i64)] (a0,a1,a2,())) (.t .bool y) :=
 fun_plain hE (impl_inside.G hE pv) (f:=75) (fn:=Tryd.f75) (by kernel_rfl) rfl (by kernel_rfl) (by kernel_rfl) ((impl_inside.run a0 a1 a2).trans h) (fun r hr=>wk_view1 hr)
def impl_isQueryWord.l0:Nat->ByteArray->Int->Option (Sum Bool ByteArray)
 | 0,_,_=>none
 | k+1,x0,x3=>bif (decide (x3<(x0.size:Int))) then (bif decide (0<=x3) then (bif decide (x3<(x0.size:Int)) then ((impl_isLower.F (bt x0 (x3:Int).toNat)).bind fun r1=>bif (!r1) then (bif decide (0<=x3) then (bif decide (x3<(x0.size:Int)) then ((impl_isDigit.F (bt x0 (x3:Int).toNat)).bind fun r2=>bif (!r2) then (some (.inl false)) else (impl_isQueryWord.l0 k x0 (IntKind.wrap .i64 (x3+1)))) else none) else none) else (impl_isQueryWord.l0 k x0 (IntKind.wrap .i64 (x3+1)))) else none) else none) else (some (.inr x0))
def impl_isQueryWord.F (k:Nat) (a0:ByteArray):Option (Bool):=(impl_isQueryWord.l0 k a0 0).bind fun y3=>match y3 with | .inl z4=>some z4 | .inr z4=>(impl_inside.F (z4.size:Int) 1 15).bind fun r5=>bif r5 then (bif (!beqS z4 (⟨#[110,111,116]⟩:ByteArray)) then (bif (!beqS z4 (⟨#[97,110,100]⟩:ByteArray)) then (some (!beqS z4 (⟨#[111,114]⟩:ByteArray))) else (some false)) else (some false)) else (some false)
def impl_isQueryWord.C (k:Nat):Cal->Option CArm:=fun c=>match c with
 | .f 73=>some (.p [(.int .u8)] _ (fun x=>impl_isLower.F x.1) (fun r=>(.t .bool r)))
 | .f 74=>some (.p [(.int .u8)] _ (fun x=>impl_isDigit.F x.1) (fun r=>(.t .bool r)))
 | .f 75=>some (.p [(.int .i64),(.int .i64),(.int .i64)] _ (fun x=>impl_inside.F x.1 x.2.1 x.2.2.1) (fun r=>(.t .bool r)))
 | _=>none
def impl_isQueryWord.sp0:List Sp:=[.t 0 .str,.t 3 (.int .i64)]
def impl_isQueryWord.sp0_0:List Sp:=[.t 2 .bool]
def impl_isQueryWord.sp0_1:List Sp:=[.t 0 .str]
def impl_isQueryWord.A0:LArm:=.two impl_isQueryWord.sp0 impl_isQueryWord.sp0_0 impl_isQueryWord.sp0_1 (Bool) (ByteArray) (fun k x=>impl_isQueryWord.l0 k x.1 x.2.1) .ret (.exit 0) (fun y=>(y,())) (fun x=>x.1) (fun y=>(y,())) (fun x=>x.1)
def impl_isQueryWord.L:Nat->Option LArm:=fun b=>match b with
 | 0=>some impl_isQueryWord.A0
 | _=>none
theorem impl_isQueryWord.run (k:Nat) (a0:ByteArray):runF envX (tabC (impl_isQueryWord.C k)) (tabL 37 k impl_isQueryWord.L) Tryd.f51 [.t .str a0] (viewR1 (.t .bool))=impl_isQueryWord.F k a0:=by kernel_rfl
theorem impl_isQueryWord.step0 (k:Nat) (x0:ByteArray) (x3:Int):runC envX (tabC (impl_isQueryWord.C k)) (tabL 37 k impl_isQueryWord.L) 0 (loopAt Tryd.f51 0) (stOf 37 impl_isQueryWord.sp0 (x0,x3,())) (impl_isQueryWord.A0.cont 37 k)=impl_isQueryWord.l0 (k+1) x0 x3:=by kernel_rfl
theorem impl_isQueryWord.G (hE:EnvOk Tryd.prog envX) (pv:Nat->Value) (k:Nat):∀ cal A,impl_isQueryWord.C k cal=some A->ArmOk Tryd.prog envX pv cal A:=by
 intro cal A h
 unfold impl_isQueryWord.C at h
 split at h
 ·cases h; exact fun x y hy=>impl_isLower.good hE pv x.1 hy
 ·cases h; exact fun x y hy=>impl_isDigit.good hE pv x.1 hy
 ·cases h; exact fun x y hy=>impl_inside.good hE pv x.1 x.2.1 x.2.2.1 hy
 ·cases h
theorem impl_isQueryWord.good (hE:EnvOk Tryd.prog envX) (pv:Nat->Value) (k:Nat) (a0:ByteArray) {y:_} (h:impl_isQueryWord.F k a0=some y):Meets Tryd.prog envX pv (.f 51) (tvals [.str] (a0,())) (.t .bool y) :=
 fun_loops hE (t:=impl_isQueryWord.C) k (fun k _=>impl_isQueryWord.G hE pv k) (f:=51) (fn:=Tryd.f51) (by kernel_rfl) rfl (by kernel_rfl) (by kernel_rfl) (lt:=impl_isQueryWord.L) (by kernel_rfl) (fun b A h=>by
  unfold impl_isQueryWord.L at h; split at h
  ·cases h; exact ⟨by kernel_rfl,by kernel_rfl,by kernel_rfl,fun _=>rfl,fun _=>rfl,fun _=>rfl⟩
  ·cases h) (fun b A h=>by
  unfold impl_isQueryWord.L at h; split at h
  ·cases h; exact fun k x=>impl_isQueryWord.step0 k x.1 x.2.1
  ·cases h) ((impl_isQueryWord.run k a0).trans h) (fun r hr=>wk_view1 hr)
def slices_Index_string.l0:Nat->(List ByteArray)->ByteArray->Int->Int->Option (Sum Int Unit)
 | 0,_,_,_,_=>none
 | k+1,x0,x1,x7,x8=>bif (decide (x8<x7)) then (bif decide (0<=x8) then (bif decide (x8<(x0.length:Int)) then (bif (beqS x1 (x0.getD (x8:Int).toNat (⟨#[]⟩:ByteArray))) then (some (.inl x8)) else (slices_Index_string.l0 k x0 x1 x7 (IntKind.wrap .i64 (x8+1)))) else none) else none) else (some (.inr ()))
def slices_Index_string.F (k:Nat) (a0:List ByteArray) (a1:ByteArray):Option (Int):=(slices_Index_string.l0 k a0 a1 (a0.length:Int) 0).bind fun y1=>match y1 with | .inl z2=>some z2 | .inr z2=>some (-1)
def slices_Index_string.C (k:Nat):Cal->Option CArm:=fun c=>match c with
 | _=>none
def slices_Index_string.sp0:List Sp:=[.t 0 (.sl .str),.t 1 .str,.t 7 (.int .i64),.t 8 (.int .i64)]
def slices_Index_string.sp0_0:List Sp:=[.t 4 (.int .i64)]
def slices_Index_string.sp0_1:List Sp:=[]
def slices_Index_string.A0:LArm:=.two slices_Index_string.sp0 slices_Index_string.sp0_0 slices_Index_string.sp0_1 (Int) (Unit) (fun k x=>slices_Index_string.l0 k x.1 x.2.1 x.2.2.1 x.2.2.2.1) .ret (.exit 0) (fun y=>(y,())) (fun x=>x.1) (fun y=>()) (fun x=>())
def slices_Index_string.L:Nat->Option LArm:=fun b=>match b with
 | 0=>some slices_Index_string.A0
 | _=>none
theorem slices_Index_string.run (k:Nat) (a0:List ByteArray) (a1:ByteArray):runF envX (tabC (slices_Index_string.C k)) (tabL 19 k slices_Index_string.L) Tryd.f91 [.t (.sl .str) a0,.t .str a1] (viewR1 (.t (.int .i64)))=slices_Index_string.F k a0 a1:=by kernel_rfl
theorem slices_Index_string.step0 (k:Nat) (x0:List ByteArray) (x1:ByteArray) (x7:Int) (x8:Int):runC envX (tabC (slices_Index_string.C k)) (tabL 19 k slices_Index_string.L) 0 (loopAt Tryd.f91 0) (stOf 19 slices_Index_string.sp0 (x0,x1,x7,x8,())) (slices_Index_string.A0.cont 19 k)=slices_Index_string.l0 (k+1) x0 x1 x7 x8:=by kernel_rfl
theorem slices_Index_string.G (hE:EnvOk Tryd.prog envX) (pv:Nat->Value) (k:Nat):∀ cal A,slices_Index_string.C k cal=some A->ArmOk Tryd.prog envX pv cal A:=by
 intro cal A h
 unfold slices_Index_string.C at h
 cases h
theorem slices_Index_string.good (hE:EnvOk Tryd.prog envX) (pv:Nat->Value) (k:Nat) (a0:List ByteArray) (a1:ByteArray) {y:_} (h:slices_Index_string.F k a0 a1=some y):Meets Tryd.prog envX pv (.f 91) (tvals [(.sl .str),.str] (a0,a1,())) (.t (.int .i64) y) :=
 fun_loops hE (t:=slices_Index_string.C) k (fun k _=>slices_Index_string.G hE pv k) (f:=91) (fn:=Tryd.f91) (by kernel_rfl) rfl (by kernel_rfl) (by kernel_rfl) (lt:=slices_Index_string.L) (by kernel_rfl) (fun b A h=>by
  unfold slices_Index_string.L at h; split at h
  ·cases h; exact ⟨by kernel_rfl,by kernel_rfl,by kernel_rfl,fun _=>rfl,fun _=>rfl,fun _=>rfl⟩
  ·cases h) (fun b A h=>by
  unfold slices_Index_string.L at h; split at h
  ·cases h; exact fun k x=>slices_Index_string.step0 k x.1 x.2.1 x.2.2.1 x.2.2.2.1
  ·cases h) ((slices_Index_string.run k a0 a1).trans h) (fun r hr=>wk_view1 hr)
def slices_Contains_string.F (k:Nat) (a0:List ByteArray) (a1:ByteArray):Option (Bool):=(slices_Index_string.F k a0 a1).bind fun r1=>some (decide (r1 ≥ 0))
def slices_Contains_string.C (k:Nat):Cal->Option CArm:=fun c=>match c with
 | .f 91=>some (.p [(.sl .str),.str] _ (fun x=>slices_Index_string.F k x.1 x.2.1) (fun r=>(.t (.int .i64) r)))
 | _=>none
theorem slices_Contains_string.run (k:Nat) (a0:List ByteArray) (a1:ByteArray):runF envX (tabC (slices_Contains_string.C k)) (tabL 9 0 (fun _=>none)) Tryd.f76 [.t (.sl .str) a0,.t .str a1] (viewR1 (.t .bool))=slices_Contains_string.F k a0 a1:=by kernel_rfl
theorem slices_Contains_string.G (hE:EnvOk Tryd.prog envX) (pv:Nat->Value) (k:Nat):∀ cal A,slices_Contains_string.C k cal=some A->ArmOk Tryd.prog envX pv cal A:=by
 intro cal A h
 unfold slices_Contains_string.C at h
 split at h
 ·cases h; exact fun x y hy=>slices_Index_string.good hE pv k x.1 x.2.1 hy
 ·cases h
theorem slices_Contains_string.good (hE:EnvOk Tryd.prog envX) (pv:Nat->Value) (k:Nat) (a0:List ByteArray) (a1:ByteArray) {y:_} (h:slices_Contains_string.F k a0 a1=some y):Meets Tryd.prog envX pv (.f 76) (tvals [(.sl .str),.str] (a0,a1,())) (.t .bool y) :=
 fun_plain hE (slices_Contains_string.G hE pv k) (f:=76) (fn:=Tryd.f76) (by kernel_rfl) rfl (by kernel_rfl) (by kernel_rfl) ((slices_Contains_string.run k a0 a1).trans h) (fun r hr=>wk_view1 hr)
def impl_isField.F (k:Nat) (a0:ByteArray):Option (Bool):=(slices_Contains_string.F k glV0 a0).bind fun r1=>some r1
def impl_isField.C (k:Nat):Cal->Option CArm:=fun c=>match c with
 | .f 76=>some (.p [(.sl .str),.str] _ (fun x=>slices_Contains_string.F k x.1 x.2.1) (fun r=>(.t .bool r)))
 | _=>none
theorem impl_isField.run (k:Nat) (a0:ByteArray):runF envX (tabC (impl_isField.C k)) (tabL 6 0 (fun _=>none)) Tryd.f52 [.t .str a0] (viewR1 (.t .bool))=impl_isField.F k a0:=by kernel_rfl
theorem impl_isField.G (hE:EnvOk Tryd.prog envX) (pv:Nat->Value) (k:Nat):∀ cal A,impl_isField.C k cal=some A->ArmOk Tryd.prog envX pv cal A:=by
 intro cal A h
 unfold impl_isField.C at h
 split at h
 ·cases h; exact fun x y hy=>slices_Contains_string.good hE pv k x.1 x.2.1 hy
 ·cases h
theorem impl_isField.good (hE:EnvOk Tryd.prog envX) (pv:Nat->Value) (k:Nat) (a0:ByteArray) {y:_} (h:impl_isField.F k a0=some y):Meets Tryd.prog envX pv (.f 52) (tvals [.str] (a0,())) (.t .bool y) :=
 fun_plain hE (impl_isField.G hE pv k) (f:=52) (fn:=Tryd.f52) (by kernel_rfl) rfl (by kernel_rfl) (by kernel_rfl) ((impl_isField.run k a0).trans h) (fun r hr=>wk_view1 hr)
mutual
def impl_queries.F:Nat->Query->Int->Option (Int × Bool)
 | 0,_,_=>none
 | k+1,a0,a1=>bif (decide (a1<1)) then (some (0,false)) else (bif (a0.op==1) then ((impl_isQueryWord.F k a0.word).bind fun r1=>bif r1 then (bif (beqS a0.field (⟨#[]⟩:ByteArray)) then ((impl_queries.l1 k a1 ((a0.parts.length:Int)==0) 1 a0.parts (a0.parts.length:Int) 0).bind fun y3=>match y3 with | .inl z4=>some (z4.1,z4.2) | .inr z4=>some (z4.2,z4.1)) else ((impl_isField.F k a0.field).bind fun r5=>bif r5 then ((impl_queries.l1 k a1 ((a0.parts.length:Int)==0) 1 a0.parts (a0.parts.length:Int) 0).bind fun y7=>match y7 with | .inl z8=>some (z8.1,z8.2) | .inr z8=>some (z8.2,z8.1)) else ((impl_queries.l1 k a1 false 1 a0.parts (a0.parts.length:Int) 0).bind fun y10=>match y10 with | .inl z11=>some (z11.1,z11.2) | .inr z11=>some (z11.2,z11.1)))) else ((impl_queries.l1 k a1 false 1 a0.parts (a0.parts.length:Int) 0).bind fun y13=>match y13 with | .inl z14=>some (z14.1,z14.2) | .inr z14=>some (z14.2,z14.1))) else (bif (a0.op==2) then (bif (beqS a0.word (⟨#[]⟩:ByteArray)) then (bif (beqS a0.field (⟨#[]⟩:ByteArray)) then ((impl_queries.l1 k a1 ((a0.parts.length:Int)==1) 1 a0.parts (a0.parts.length:Int) 0).bind fun y16=>match y16 with | .inl z17=>some (z17.1,z17.2) | .inr z17=>some (z17.2,z17.1)) else ((impl_queries.l1 k a1 false 1 a0.parts (a0.parts.length:Int) 0).bind fun y19=>match y19 with | .inl z20=>some (z20.1,z20.2) | .inr z20=>some (z20.2,z20.1))) else ((impl_queries.l1 k a1 false 1 a0.parts (a0.parts.length:Int) 0).bind fun y22=>match y22 with | .inl z23=>some (z23.1,z23.2) | .inr z23=>some (z23.2,z23.1))) else (bif (a0.op==3) then (bif (a0.op==3) then (bif (beqS a0.word (⟨#[]⟩:ByteArray)) then (bif (beqS a0.field (⟨#[]⟩:ByteArray)) then ((impl_queries.l1 k a1 ((a0.parts.length:Int)==2) 1 a0.parts (a0.parts.length:Int) 0).bind fun y25=>match y25 with | .inl z26=>some (z26.1,z26.2) | .inr z26=>some (z26.2,z26.1)) else ((impl_queries.l1 k a1 false 1 a0.parts (a0.parts.length:Int) 0).bind fun y28=>match y28 with | .inl z29=>some (z29.1,z29.2) | .inr z29=>some (z29.2,z29.1))) else ((impl_queries.l1 k a1 false 1 a0.parts (a0.parts.length:Int) 0).bind fun y31=>match y31 with | .inl z32=>some (z32.1,z32.2) | .inr z32=>some (z32.2,z32.1))) else ((impl_queries.l1 k a1 false 1 a0.parts (a0.parts.length:Int) 0).bind fun y34=>match y34 with | .inl z35=>some (z35.1,z35.2) | .inr z35=>some (z35.2,z35.1))) else (bif (a0.op==4) then (bif (beqS a0.word (⟨#[]⟩:ByteArray)) then (bif (beqS a0.field (⟨#[]⟩:ByteArray)) then ((impl_queries.l1 k a1 ((a0.parts.length:Int)==2) 1 a0.parts (a0.parts.length:Int) 0).bind fun y37=>match y37 with | .inl z38=>some (z38.1,z38.2) | .inr z38=>some (z38.2,z38.1)) else ((impl_queries.l1 k a1 false 1 a0.parts (a0.parts.length:Int) 0).bind fun y40=>match y40 with | .inl z41=>some (z41.1,z41.2) | .inr z41=>some (z41.2,z41.1))) else ((impl_queries.l1 k a1 false 1 a0.parts (a0.parts.length:Int) 0).bind fun y43=>match y43 with | .inl z44=>some (z44.1,z44.2) | .inr z44=>some (z44.2,z44.1))) else ((impl_queries.l1 k a1 false 1 a0.parts (a0.parts.length:Int) 0).bind fun y46=>match y46 with | .inl z47=>some (z47.1,z47.2) | .inr z47=>some (z47.2,z47.1))))))
def impl_queries.l1:Nat->Int->Bool->Int->(List Query)->Int->Int->Option (Sum (Int × Bool) (Bool × Int))
 | 0,_,_,_,_,_,_=>none
 | k+1,x1,x6,x7,x71,x72,x73=>bif (decide (x73<x72)) then (bif decide (0<=x73) then (bif decide (x73<(x71.length:Int)) then (bif (!x6) then (some (.inl (0,false))) else ((impl_queries.F k (x71.getD (x73:Int).toNat (dflt .query)) (IntKind.wrap .i64 (x1-x7))).bind fun r45=>impl_queries.l1 k x1 r45.2 (IntKind.wrap .i64 (x7+r45.1)) x71 x72 (IntKind.wrap .i64 (x73+1)))) else none) else none) else (some (.inr (x6,x7)))
end
def impl_queries.C (k:Nat):Cal->Option CArm:=fun c=>match c with
 | .f 51=>some (.p [.str] _ (fun x=>impl_isQueryWord.F k x.1) (fun r=>(.t .bool r)))
 | .f 40=>some (.p [.query,(.int .i64)] _ (fun x=>impl_queries.F k x.1 x.2.1) (fun r=>(.tup [.t (.int .i64) r.1,.t .bool r.2])))
 | .f 52=>some (.p [.str] _ (fun x=>impl_isField.F k x.1) (fun r=>(.t .bool r)))
 | _=>none
def impl_queries.sp1:List Sp:=[.t 1 (.int .i64),.t 6 .bool,.t 7 (.int .i64),.t 71 (.sl .query),.t 72 (.int .i64),.t 73 (.int .i64)]
def impl_queries.sp1_0:List Sp:=[.t 4 (.int .i64),.t 5 .bool]
def impl_queries.sp1_1:List Sp:=[.t 6 .bool,.t 7 (.int .i64)]
def impl_queries.A1:LArm:=.two impl_queries.sp1 impl_queries.sp1_0 impl_queries.sp1_1 (Int × Bool) (Bool × Int) (fun k x=>impl_queries.l1 k x.1 x.2.1 x.2.2.1 x.2.2.2.1 x.2.2.2.2.1 x.2.2.2.2.2.1) .ret (.exit 1) (fun y=>(y.1,y.2,())) (fun x=>(x.1,x.2.1)) (fun y=>(y.1,y.2,())) (fun x=>(x.1,x.2.1))
def impl_queries.L:Nat->Option LArm:=fun b=>match b with
 | 1=>some impl_queries.A1
 | _=>none
theorem impl_queries.run (k:Nat) (a0:Query) (a1:Int):runF envX (tabC (impl_queries.C k)) (tabL 94 k impl_queries.L) Tryd.f40 [.t .query a0,.t (.int .i64) a1] (viewR2 (.t (.int .i64)) (.t .bool))=impl_queries.F (k+1) a0 a1:=by kernel_rfl
theorem impl_queries.step1 (k:Nat) (x1:Int) (x6:Bool) (x7:Int) (x71:List Query) (x72:Int) (x73:Int):runC envX (tabC (impl_queries.C k)) (tabL 94 k impl_queries.L) 1 (loopAt Tryd.f40 1) (stOf 94 impl_queries.sp1 (x1,x6,x7,x71,x72,x73,())) (impl_queries.A1.cont 94 k)=impl_queries.l1 (k+1) x1 x6 x7 x71 x72 x73:=by kernel_rfl
def impl_queries.Gd (pv:Nat->Value) (k:Nat):Prop:=(∀ (a0:Query) (a1:Int) {y:_},impl_queries.F k a0 a1=some y->Meets Tryd.prog envX pv (.f 40) (tvals [.query,(.int .i64)] (a0,a1,())) (.tup [.t (.int .i64) y.1,.t .bool y.2]))
theorem impl_queries.G (hE:EnvOk Tryd.prog envX) (pv:Nat->Value) (k:Nat) (hI:impl_queries.Gd pv k):∀ cal A,impl_queries.C k cal=some A->ArmOk Tryd.prog envX pv cal A:=by
 intro cal A h
 unfold impl_queries.C at h
 split at h
 ·cases h; exact fun x y hy=>impl_isQueryWord.good hE pv k x.1 hy
 ·cases h; exact fun x y hy=>hI x.1 x.2.1 hy
 ·cases h; exact fun x y hy=>impl_isField.good hE pv k x.1 hy
 ·cases h
theorem impl_queries.gd (hE:EnvOk Tryd.prog envX) (pv:Nat->Value) (k:Nat) (hI:∀ k',k'<=k->impl_queries.Gd pv k') (a0:Query) (a1:Int) {y:_} (h:impl_queries.F (k+1) a0 a1=some y):Meets Tryd.prog envX pv (.f 40) (tvals [.query,(.int .i64)] (a0,a1,())) (.tup [.t (.int .i64) y.1,.t .bool y.2]) :=
 fun_loops hE (t:=impl_queries.C) k (fun k hk=>impl_queries.G hE pv k (hI k hk)) (f:=40) (fn:=Tryd.f40) (by kernel_rfl) rfl (by kernel_rfl) (by kernel_rfl) (lt:=impl_queries.L) (by kernel_rfl) (fun b A h=>by
  unfold impl_queries.L at h; split at h
  ·cases h; exact ⟨by kernel_rfl,by kernel_rfl,by kernel_rfl,fun _=>rfl,fun _=>rfl,fun _=>rfl⟩
  ·cases h) (fun b A h=>by
  unfold impl_queries.L at h; split at h
  ·cases h; exact fun k x=>impl_queries.step1 k x.1 x.2.1 x.2.2.1 x.2.2.2.1 x.2.2.2.2.1 x.2.2.2.2.2.1
  ·cases h) ((impl_queries.run k a0 a1).trans h) (fun r hr=>wk_view2 hr)
theorem impl_queries.all (hE:EnvOk Tryd.prog envX) (pv:Nat->Value):∀ k k',k'<=k->impl_queries.Gd pv k':=by
 intro k
 induction k with
 | zero=>
  intro k' hk
  obtain rfl:k'=0:=by omega
  exact fun _ _ y h=>by cases (show (none:Option _)=some y from h)
 | succ k ih=>
  intro k' hk
  rcases Nat.lt_or_ge k' (k+1) with hlt | hge
  ·exact ih k' (by omega)
  ·obtain rfl:k'=k+1:=by omega
   exact fun a0 a1 y h=>impl_queries.gd hE pv k ih a0 a1 h
theorem impl_queries.good (hE:EnvOk Tryd.prog envX) (pv:Nat->Value) (k:Nat) (a0:Query) (a1:Int) {y:_} (h:impl_queries.F k a0 a1=some y):Meets Tryd.prog envX pv (.f 40) (tvals [.query,(.int .i64)] (a0,a1,())) (.tup [.t (.int .i64) y.1,.t .bool y.2]) :=
 (impl_queries.all hE pv k k (Nat.le_refl k)) a0 a1 h
def impl_IsValidQuery.F (k:Nat) (a0:Query):Option (Bool):=(impl_queries.F k a0 15).bind fun r1=>some r1.2
def impl_IsValidQuery.C (k:Nat):Cal->Option CArm:=fun c=>match c with
 | .f 40=>some (.p [.query,(.int .i64)] _ (fun x=>impl_queries.F k x.1 x.2.1) (fun r=>(.tup [.t (.int .i64) r.1,.t .bool r.2])))
 | _=>none
theorem impl_IsValidQuery.run (k:Nat) (a0:Query):runF envX (tabC (impl_IsValidQuery.C k)) (tabL 11 0 (fun _=>none)) Tryd.f24 [.t .query a0] (viewR1 (.t .bool))=impl_IsValidQuery.F k a0:=by kernel_rfl
theorem impl_IsValidQuery.G (hE:EnvOk Tryd.prog envX) (pv:Nat->Value) (k:Nat):∀ cal A,impl_IsValidQuery.C k cal=some A->ArmOk Tryd.prog envX pv cal A:=by
 intro cal A h
 unfold impl_IsValidQuery.C at h
 split at h
 ·cases h; exact fun x y hy=>impl_queries.good hE pv k x.1 x.2.1 hy
 ·cases h
theorem impl_IsValidQuery.good (hE:EnvOk Tryd.prog envX) (pv:Nat->Value) (k:Nat) (a0:Query) {y:_} (h:impl_IsValidQuery.F k a0=some y):Meets Tryd.prog envX pv (.f 24) (tvals [.query] (a0,())) (.t .bool y) :=
 fun_plain hE (impl_IsValidQuery.G hE pv k) (f:=24) (fn:=Tryd.f24) (by kernel_rfl) rfl (by kernel_rfl) (by kernel_rfl) ((impl_IsValidQuery.run k a0).trans h) (fun r hr=>wk_view1 hr)
mutual
def impl_queryWords.F:Nat->Query->Bool->Option (List ByteArray)
 | 0,_,_=>none
 | k+1,a0,a1=>bif (a0.op==1) then (bif a1 then (bif room (([]:List ByteArray).length+([a0.word]:List ByteArray).length) .str then ((impl_queryWords.l0 k a1 a0 (([]:List ByteArray)++([a0.word]:List ByteArray)) a0.parts (a0.parts.length:Int) 0).bind fun y2=>some y2) else none) else ((impl_queryWords.l0 k a1 a0 ([]:List ByteArray) a0.parts (a0.parts.length:Int) 0).bind fun y4=>some y4)) else ((impl_queryWords.l0 k a1 a0 ([]:List ByteArray) a0.parts (a0.parts.length:Int) 0).bind fun y6=>some y6)
def impl_queryWords.l0:Nat->Bool->Query->(List ByteArray)->(List Query)->Int->Int->Option ((List ByteArray))
 | 0,_,_,_,_,_,_=>none
 | k+1,x1,x2,x5,x21,x22,x23=>bif (decide (x23<x22)) then (bif decide (0<=x23) then (bif decide (x23<(x21.length:Int)) then ((impl_queryWords.F k (x21.getD (x23:Int).toNat (dflt .query)) (!(x1==(x2.op==2)))).bind fun r5=>bif room (x5.length+r5.length) .str then (impl_queryWords.l0 k x1 x2 (x5++r5) x21 x22 (IntKind.wrap .i64 (x23+1))) else none) else none) else none) else (some x5)
end
def impl_queryWords.C (k:Nat):Cal->Option CArm:=fun c=>match c with
 | .f 33=>some (.p [.query,.bool] _ (fun x=>impl_queryWords.F k x.1 x.2.1) (fun r=>(.t (.sl .str) r)))
 | _=>none
def cmp_isNaN_string.F (a0:ByteArray):Option (Bool):=some (!beqS a0 a0)
def cmp_isNaN_string.C:Cal->Option CArm:=fun c=>match c with
 | _=>none
theorem cmp_isNaN_string.run (a0:ByteArray):runF envX (tabC cmp_isNaN_string.C) (tabL 6 0 (fun _=>none)) Tryd.f88 [.t .str a0] (viewR1 (.t .bool))=cmp_isNaN_string.F a0:=by kernel_rfl
theorem cmp_isNaN_string.G (hE:EnvOk Tryd.prog envX) (pv:Nat->Value):∀ cal A,cmp_isNaN_string.C cal=some A->ArmOk Tryd.prog envX pv cal A:=by
 intro cal A h
 unfold cmp_isNaN_string.C at h
 cases h
theorem cmp_isNaN_string.good (hE:EnvOk Tryd.prog envX) (pv:Nat->Value) (a0:ByteArray) {y:_} (h:cmp_isNaN_string.F a0=some y):Meets Tryd.prog envX pv (.f 88) (tvals [.str] (a0,())) (.t .bool y) :=
 fun_plain hE (cmp_isNaN_string.G hE pv) (f:=88) (fn:=Tryd.f88) (by kernel_rfl) rfl (by kernel_rfl) (by kernel_rfl) ((cmp_isNaN_string.run a0).trans h) (fun r hr=>wk_view1 hr)
def cmp_Less_string.F (a0:ByteArray) (a1:ByteArray):Option (Bool):=(cmp_isNaN_string.F a0).bind fun r1=>bif r1 then ((cmp_isNaN_string.F a1).bind fun r2=>bif (!r2) then (some true) else (some (ltS a0 a1))) else (some (ltS a0 a1))
def cmp_Less_string.C:Cal->Option CArm:=fun c=>match c with
 | .f 88=>some (.p [.str] _ (fun x=>cmp_isNaN_string.F x.1) (fun r=>(.t .bool r)))
 | _=>none
theorem cmp_Less_string.run (a0:ByteArray) (a1:ByteArray):runF envX (tabC cmp_Less_string.C) (tabL 17 0 (fun _=>none)) Tryd.f66 [.t .str a0,.t .str a1] (viewR1 (.t .bool))=cmp_Less_string.F a0 a1:=by kernel_rfl
theorem cmp_Less_string.G (hE:EnvOk Tryd.prog envX) (pv:Nat->Value):∀ cal A,cmp_Less_string.C cal=some A->ArmOk Tryd.prog envX pv cal A:=by
 intro cal A h
 unfold cmp_Less_string.C at h
 split at h
 ·cases h; exact fun x y hy=>cmp_isNaN_string.good hE pv x.1 hy
 ·cases h
theorem cmp_Less_string.good (hE:EnvOk Tryd.prog envX) (pv:Nat->Value) (a0:ByteArray) (a1:ByteArray) {y:_} (h:cmp_Less_string.F a0 a1=some y):Meets Tryd.prog envX pv (.f 66) (tvals [.str,.str] (a0,a1,())) (.t .bool y) :=
 fun_plain hE (cmp_Less_string.G hE pv) (f:=66) (fn:=Tryd.f66) (by kernel_rfl) rfl (by kernel_rfl) (by kernel_rfl) ((cmp_Less_string.run a0 a1).trans h) (fun r hr=>wk_view1 hr)
def slices_insertionSortOrdered_string.l2:Nat->(List ByteArray)->Int->Int->Int->Int->Option ((List ByteArray) × Int × Int × Int)
 | 0,_,_,_,_,_=>none
 | k+1,x0,x1,x2,x6,x7=>bif (decide (x7 > x1)) then (bif decide (0<=x7) then (bif decide (x7<(x0.length:Int)) then (bif decide (0<=(IntKind.wrap .i64 (x7-1))) then (bif decide ((IntKind.wrap .i64 (x7-1))<(x0.length:Int)) then ((cmp_Less_string.F (x0.getD ((x7:Int).toNat) (⟨#[]⟩:ByteArray)) (x0.getD (((IntKind.wrap .i64 (x7-1)):Int).toNat) (⟨#[]⟩:ByteArray))).bind fun r1=>bif r1 then (bif decide (0<=(IntKind.wrap .i64 (x7-1))) then (bif decide ((IntKind.wrap .i64 (x7-1))<(x0.length:Int)) then (bif decide (0<=x7) then (bif decide (x7<(x0.length:Int)) then (bif decide (0<=x7) then (bif decide (x7<(x0.length:Int)) then (bif decide (0<=(IntKind.wrap .i64 (x7-1))) then (bif decide ((IntKind.wrap .i64 (x7-1))<((x0.set ((x7:Int).toNat) (x0.getD (((IntKind.wrap .i64 (x7-1)):Int).toNat) (⟨#[]⟩:ByteArray))).length:Int)) then (slices_insertionSortOrdered_string.l2 k ((x0.set ((x7:Int).toNat) (x0.getD (((IntKind.wrap .i64 (x7-1)):Int).toNat) (⟨#[]⟩:ByteArray))).set (((IntKind.wrap .i64 (x7-1)):Int).toNat) (x0.getD ((x7:Int).toNat) (⟨#[]⟩:ByteArray))) x1 x2 x6 (IntKind.wrap .i64 (x7-1))) else none) else none) else none) else none) else none) else none) else none) else none) else (some (x0,x1,x2,x6))) else none) else none) else none) else none) else (some (x0,x1,x2,x6))
def slices_insertionSortOrdered_string.l0:Nat->(List ByteArray)->Int->Int->Int->Option ((List ByteArray))
 | 0,_,_,_,_=>none
 | k+1,x0,x1,x2,x6=>bif (decide (x6<x2)) then ((slices_insertionSortOrdered_string.l2 k x0 x1 x2 x6 x6).bind fun y2=>slices_insertionSortOrdered_string.l0 k y2.1 y2.2.1 y2.2.2.1 (IntKind.wrap .i64 (y2.2.2.2+1))) else (some x0)
def slices_insertionSortOrdered_string.F (k:Nat) (a0:List ByteArray) (a1:Int) (a2:Int):Option (List ByteArray):=(slices_insertionSortOrdered_string.l0 k a0 a1 a2 (IntKind.wrap .i64 (a1+1))).bind fun y3=>bif Nat.beq (y3).length a0.length then (some y3) else none
def slices_insertionSortOrdered_string.C (k:Nat):Cal->Option CArm:=fun c=>match c with
 | .f 66=>some (.p [.str,.str] _ (fun x=>cmp_Less_string.F x.1 x.2.1) (fun r=>(.t .bool r)))
 | _=>none
def slices_insertionSortOrdered_string.sp2:List Sp:=[.own 0 1099511627776 9 .str false true,.t 1 (.int .i64),.t 2 (.int .i64),.t 6 (.int .i64),.t 7 (.int .i64)]
def slices_insertionSortOrdered_string.sp2_0:List Sp:=[.own 0 1099511627776 9 .str false true,.t 1 (.int .i64),.t 2 (.int .i64),.t 6 (.int .i64)]
def slices_insertionSortOrdered_string.A2:LArm:=.one slices_insertionSortOrdered_string.sp2 slices_insertionSortOrdered_string.sp2_0 ((List ByteArray) × Int × Int × Int) (fun k x=>slices_insertionSortOrdered_string.l2 k x.1 x.2.1 x.2.2.1 x.2.2.2.1 x.2.2.2.2.1) (.exit 2) (fun y=>(y.1,y.2.1,y.2.2.1,y.2.2.2,())) (fun x=>(x.1,x.2.1,x.2.2.1,x.2.2.2.1))
def slices_insertionSortOrdered_string.sp0:List Sp:=[.own 0 1099511627776 9 .str false true,.t 1 (.int .i64),.t 2 (.int .i64),.t 6 (.int .i64)]
def slices_insertionSortOrdered_string.sp0_0:List Sp:=[.own 0 1099511627776 9 .str false true]
def slices_insertionSortOrdered_string.A0:LArm:=.one slices_insertionSortOrdered_string.sp0 slices_insertionSortOrdered_string.sp0_0 ((List ByteArray)) (fun k x=>slices_insertionSortOrdered_string.l0 k x.1 x.2.1 x.2.2.1 x.2.2.2.1) (.exit 0) (fun y=>(y,())) (fun x=>x.1)
def slices_insertionSortOrdered_string.L:Nat->Option LArm:=fun b=>match b with
 | 2=>some slices_insertionSortOrdered_string.A2
 | 0=>some slices_insertionSortOrdered_string.A0
 | _=>none
theorem slices_insertionSortOrdered_string.run (k:Nat) (a0:List ByteArray) (a1:Int) (a2:Int):runM envX (tabC (slices_insertionSortOrdered_string.C k)) (tabL 49 k slices_insertionSortOrdered_string.L) Tryd.f60 mbase (.fr 9 .str a0) [.t (.int .i64) a1,.t (.int .i64) a2] (viewK0 (.fr 9 .str))=slices_insertionSortOrdered_string.F k a0 a1 a2:=by kernel_rfl
theorem slices_insertionSortOrdered_string.step2 (k:Nat) (x0:List ByteArray) (x1:Int) (x2:Int) (x6:Int) (x7:Int):runC envX (tabC (slices_insertionSortOrdered_string.C k)) (tabL 49 k slices_insertionSortOrdered_string.L) 2 (loopAt Tryd.f60 2) (stOf 49 slices_insertionSortOrdered_string.sp2 (x0,x1,x2,x6,x7,())) (slices_insertionSortOrdered_string.A2.cont 49 k)=slices_insertionSortOrdered_string.l2 (k+1) x0 x1 x2 x6 x7:=by kernel_rfl
theorem slices_insertionSortOrdered_string.step0 (k:Nat) (x0:List ByteArray) (x1:Int) (x2:Int) (x6:Int):runC envX (tabC (slices_insertionSortOrdered_string.C k)) (tabL 49 k slices_insertionSortOrdered_string.L) 0 (loopAt Tryd.f60 0) (stOf 49 slices_insertionSortOrdered_string.sp0 (x0,x1,x2,x6,())) (slices_insertionSortOrdered_string.A0.cont 49 k)=slices_insertionSortOrdered_string.l0 (k+1) x0 x1 x2 x6:=by kernel_rfl
theorem slices_insertionSortOrdered_string.G (hE:EnvOk Tryd.prog envX) (pv:Nat->Value) (k:Nat):∀ cal A,slices_insertionSortOrdered_string.C k cal=some A->ArmOk Tryd.prog envX pv cal A:=by
 intro cal A h
 unfold slices_insertionSortOrdered_string.C at h
 split at h
 ·cases h; exact fun x y hy=>cmp_Less_string.good hE pv x.1 x.2.1 hy
 ·cases h
theorem slices_insertionSortOrdered_string.good (hE:EnvOk Tryd.prog envX) (pv:Nat->Value) (k:Nat) (a0:List ByteArray) (a1:Int) (a2:Int) {y:_} (h:slices_insertionSortOrdered_string.F k a0 a1 a2=some y):MeetsM Tryd.prog envX pv 60 (.fr 9 .str a0) (tvals [(.int .i64),(.int .i64)] (a1,a2,())) (.kep (.fr 9 .str y) (.tup [])) :=
 funM_loops hE (t:=slices_insertionSortOrdered_string.C) k (fun k _=>slices_insertionSortOrdered_string.G hE pv k) (f:=60) (fn:=Tryd.f60) (by kernel_rfl) rfl (by kernel_rfl) (.inl rfl) (by kernel_rfl) (lt:=slices_insertionSortOrdered_string.L) (by kernel_rfl) (fun b A h=>by
  unfold slices_insertionSortOrdered_string.L at h; split at h
  ·cases h; exact ⟨by kernel_rfl,by kernel_rfl,fun _=>rfl,fun _=>rfl⟩
  ·cases h; exact ⟨by kernel_rfl,by kernel_rfl,fun _=>rfl,fun _=>rfl⟩
  ·cases h) (fun b A h=>by
  unfold slices_insertionSortOrdered_string.L at h; split at h
  ·cases h; exact fun k x=>slices_insertionSortOrdered_string.step2 k x.1 x.2.1 x.2.2.1 x.2.2.2.1 x.2.2.2.2.1
  ·cases h; exact fun k x=>slices_insertionSortOrdered_string.step0 k x.1 x.2.1 x.2.2.1 x.2.2.2.1
  ·cases h) ((slices_insertionSortOrdered_string.run k a0 a1 a2).trans h) (fun r hr=>wk_viewK0 hr)
def slices_pdqsortOrdered_string.l0:Nat->(List ByteArray)->Int->Int->Int->Bool->Bool->Option ((List ByteArray))
 | 0,_,_,_,_,_,_=>none
 | k+1,x0,x1,x2,x3,x8,x9=>bif (decide ((IntKind.wrap .i64 (x2-x1))<=12)) then ((slices_insertionSortOrdered_string.F k x0 x1 x2).bind fun r1=>some r1) else (bif (x3==0) then (none) else (bif (!x8) then (none) else none))
def slices_pdqsortOrdered_string.F (k:Nat) (a0:List ByteArray) (a1:Int) (a2:Int) (a3:Int):Option (List ByteArray):=(slices_pdqsortOrdered_string.l0 k a0 a1 a2 a3 true true).bind fun y2=>bif Nat.beq (y2).length a0.length then (some y2) else none
def slices_pdqsortOrdered_string.C (k:Nat):Cal->Option CArm:=fun c=>match c with
 | .f 60=>some (.m (.fr 9 .str) [(.int .i64),(.int .i64)] _ (fun x0 x=>slices_insertionSortOrdered_string.F k x0 x.1 x.2.1) (fun r=> .kep (.fr 9 .str r) (.tup [])))
 | _=>none
def slices_pdqsortOrdered_string.sp0:List Sp:=[.own 0 1099511627776 9 .str false true,.t 1 (.int .i64),.t 2 (.int .i64),.t 3 (.int .i64),.t 8 .bool,.t 9 .bool]
def slices_pdqsortOrdered_string.sp0_0:List Sp:=[.own 0 1099511627776 9 .str false true]
def slices_pdqsortOrdered_string.A0:LArm:=.one slices_pdqsortOrdered_string.sp0 slices_pdqsortOrdered_string.sp0_0 ((List ByteArray)) (fun k x=>slices_pdqsortOrdered_string.l0 k x.1 x.2.1 x.2.2.1 x.2.2.2.1 x.2.2.2.2.1 x.2.2.2.2.2.1) .ret (fun y=>(y,())) (fun x=>x.1)
def slices_pdqsortOrdered_string.L:Nat->Option LArm:=fun b=>match b with
 | 0=>some slices_pdqsortOrdered_string.A0
 | _=>none
theorem slices_pdqsortOrdered_string.run (k:Nat) (a0:List ByteArray) (a1:Int) (a2:Int) (a3:Int):runM envX (tabC (slices_pdqsortOrdered_string.C k)) (tabL 134 k slices_pdqsortOrdered_string.L) Tryd.f47 mbase (.fr 9 .str a0) [.t (.int .i64) a1,.t (.int .i64) a2,.t (.int .i64) a3] (viewK0 (.fr 9 .str))=slices_pdqsortOrdered_string.F k a0 a1 a2 a3:=by kernel_rfl
theorem slices_pdqsortOrdered_string.step0 (k:Nat) (x0:List ByteArray) (x1:Int) (x2:Int) (x3:Int) (x8:Bool) (x9:Bool):runC envX (tabC (slices_pdqsortOrdered_string.C k)) (tabL 134 k slices_pdqsortOrdered_string.L) 0 (loopAt Tryd.f47 0) (stOf 134 slices_pdqsortOrdered_string.sp0 (x0,x1,x2,x3,x8,x9,())) (slices_pdqsortOrdered_string.A0.cont 134 k)=slices_pdqsortOrdered_string.l0 (k+1) x0 x1 x2 x3 x8 x9:=by kernel_rfl
theorem slices_pdqsortOrdered_string.G (hE:EnvOk Tryd.prog envX) (pv:Nat->Value) (k:Nat):∀ cal A,slices_pdqsortOrdered_string.C k cal=some A->ArmOk Tryd.prog envX pv cal A:=by
 intro cal A h
 unfold slices_pdqsortOrdered_string.C at h
 split at h
 ·cases h; exact ⟨_,rfl,fun x0 x y hy=>slices_insertionSortOrdered_string.good hE pv k x0 x.1 x.2.1 hy⟩
 ·cases h
theorem slices_pdqsortOrdered_string.good (hE:EnvOk Tryd.prog envX) (pv:Nat->Value) (k:Nat) (a0:List ByteArray) (a1:Int) (a2:Int) (a3:Int) {y:_} (h:slices_pdqsortOrdered_string.F k a0 a1 a2 a3=some y):MeetsM Tryd.prog envX pv 47 (.fr 9 .str a0) (tvals [(.int .i64),(.int .i64),(.int .i64)] (a1,a2,a3,())) (.kep (.fr 9 .str y) (.tup [])) :=
 funM_loops hE (t:=slices_pdqsortOrdered_string.C) k (fun k _=>slices_pdqsortOrdered_string.G hE pv k) (f:=47) (fn:=Tryd.f47) (by kernel_rfl) rfl (by kernel_rfl) (.inl rfl) (by kernel_rfl) (lt:=slices_pdqsortOrdered_string.L) (by kernel_rfl) (fun b A h=>by
  unfold slices_pdqsortOrdered_string.L at h; split at h
  ·cases h; exact ⟨by kernel_rfl,by kernel_rfl,fun _=>rfl,fun _=>rfl⟩
  ·cases h) (fun b A h=>by
  unfold slices_pdqsortOrdered_string.L at h; split at h
  ·cases h; exact fun k x=>slices_pdqsortOrdered_string.step0 k x.1 x.2.1 x.2.2.1 x.2.2.2.1 x.2.2.2.2.1 x.2.2.2.2.2.1
  ·cases h) ((slices_pdqsortOrdered_string.run k a0 a1 a2 a3).trans h) (fun r hr=>wk_viewK0 hr)
def bits_Len64.F (a0:Int):Option (Int):=bif (decide (a0 ≥ 4294967296)) then (bif decide (0<=32) then (bif (decide ((Int.fdiv a0 (2 ^ min (32:Int).toNat (IntKind.bits .u64))) ≥ 65536)) then (bif decide (0<=16) then (bif (decide ((Int.fdiv (Int.fdiv a0 (2 ^ min (32:Int).toNat (IntKind.bits .u64))) (2 ^ min (16:Int).toNat (IntKind.bits .u64))) ≥ 256)) then (bif decide (0<=8) then (bif decide (0<=(IntKind.wrap .u8 (Int.fdiv (Int.fdiv (Int.fdiv a0 (2 ^ min (32:Int).toNat (IntKind.bits .u64))) (2 ^ min (16:Int).toNat (IntKind.bits .u64))) (2 ^ min (8:Int).toNat (IntKind.bits .u64))))) then (bif decide ((IntKind.wrap .u8 (Int.fdiv (Int.fdiv (Int.fdiv a0 (2 ^ min (32:Int).toNat (IntKind.bits .u64))) (2 ^ min (16:Int).toNat (IntKind.bits .u64))) (2 ^ min (8:Int).toNat (IntKind.bits .u64))))<(strV0.size:Int)) then (some (IntKind.wrap .i64 ((IntKind.wrap .i64 ((IntKind.wrap .i64 (32+16))+8))+(IntKind.wrap .i64 (bt strV0 ((IntKind.wrap .u8 (Int.fdiv (Int.fdiv (Int.fdiv a0 (2 ^ min (32:Int).toNat (IntKind.bits .u64))) (2 ^ min (16:Int).toNat (IntKind.bits .u64))) (2 ^ min (8:Int).toNat (IntKind.bits .u64)))):Int).toNat))))) else none) else none) else none) else (bif decide (0<=(IntKind.wrap .u8 (Int.fdiv (Int.fdiv a0 (2 ^ min (32:Int).toNat (IntKind.bits .u64))) (2 ^ min (16:Int).toNat (IntKind.bits .u64))))) then (bif decide ((IntKind.wrap .u8 (Int.fdiv (Int.fdiv a0 (2 ^ min (32:Int).toNat (IntKind.bits .u64))) (2 ^ min (16:Int).toNat (IntKind.bits .u64))))<(strV0.size:Int)) then (some (IntKind.wrap .i64 ((IntKind.wrap .i64 (32+16))+(IntKind.wrap .i64 (bt strV0 ((IntKind.wrap .u8 (Int.fdiv (Int.fdiv a0 (2 ^ min (32:Int).toNat (IntKind.bits .u64))) (2 ^ min (16:Int).toNat (IntKind.bits .u64)))):Int).toNat))))) else none) else none)) else none) else (bif (decide ((Int.fdiv a0 (2 ^ min (32:Int).toNat (IntKind.bits .u64))) ≥ 256)) then (bif decide (0<=8) then (bif decide (0<=(IntKind.wrap .u8 (Int.fdiv (Int.fdiv a0 (2 ^ min (32:Int).toNat (IntKind.bits .u64))) (2 ^ min (8:Int).toNat (IntKind.bits .u64))))) then (bif decide ((IntKind.wrap .u8 (Int.fdiv (Int.fdiv a0 (2 ^ min (32:Int).toNat (IntKind.bits .u64))) (2 ^ min (8:Int).toNat (IntKind.bits .u64))))<(strV0.size:Int)) then (some (IntKind.wrap .i64 ((IntKind.wrap .i64 (32+8))+(IntKind.wrap .i64 (bt strV0 ((IntKind.wrap .u8 (Int.fdiv (Int.fdiv a0 (2 ^ min (32:Int).toNat (IntKind.bits .u64))) (2 ^ min (8:Int).toNat (IntKind.bits .u64)))):Int).toNat))))) else none) else none) else none) else (bif decide (0<=(IntKind.wrap .u8 (Int.fdiv a0 (2 ^ min (32:Int).toNat (IntKind.bits .u64))))) then (bif decide ((IntKind.wrap .u8 (Int.fdiv a0 (2 ^ min (32:Int).toNat (IntKind.bits .u64))))<(strV0.size:Int)) then (some (IntKind.wrap .i64 (32+(IntKind.wrap .i64 (bt strV0 ((IntKind.wrap .u8 (Int.fdiv a0 (2 ^ min (32:Int).toNat (IntKind.bits .u64)))):Int).toNat))))) else none) else none))) else none) else (bif (decide (a0 ≥ 65536)) then (bif decide (0<=16) then (bif (decide ((Int.fdiv a0 (2 ^ min (16:Int).toNat (IntKind.bits .u64))) ≥ 256)) then (bif decide (0<=8) then (bif decide (0<=(IntKind.wrap .u8 (Int.fdiv (Int.fdiv a0 (2 ^ min (16:Int).toNat (IntKind.bits .u64))) (2 ^ min (8:Int).toNat (IntKind.bits .u64))))) then (bif decide ((IntKind.wrap .u8 (Int.fdiv (Int.fdiv a0 (2 ^ min (16:Int).toNat (IntKind.bits .u64))) (2 ^ min (8:Int).toNat (IntKind.bits .u64))))<(strV0.size:Int)) then (some (IntKind.wrap .i64 ((IntKind.wrap .i64 ((IntKind.wrap .i64 (0+16))+8))+(IntKind.wrap .i64 (bt strV0 ((IntKind.wrap .u8 (Int.fdiv (Int.fdiv a0 (2 ^ min (16:Int).toNat (IntKind.bits .u64))) (2 ^ min (8:Int).toNat (IntKind.bits .u64)))):Int).toNat))))) else none) else none) else none) else (bif decide (0<=(IntKind.wrap .u8 (Int.fdiv a0 (2 ^ min (16:Int).toNat (IntKind.bits .u64))))) then (bif decide ((IntKind.wrap .u8 (Int.fdiv a0 (2 ^ min (16:Int).toNat (IntKind.bits .u64))))<(strV0.size:Int)) then (some (IntKind.wrap .i64 ((IntKind.wrap .i64 (0+16))+(IntKind.wrap .i64 (bt strV0 ((IntKind.wrap .u8 (Int.fdiv a0 (2 ^ min (16:Int).toNat (IntKind.bits .u64)))):Int).toNat))))) else none) else none)) else none) else (bif (decide (a0 ≥ 256)) then (bif decide (0<=8) then (bif decide (0<=(IntKind.wrap .u8 (Int.fdiv a0 (2 ^ min (8:Int).toNat (IntKind.bits .u64))))) then (bif decide ((IntKind.wrap .u8 (Int.fdiv a0 (2 ^ min (8:Int).toNat (IntKind.bits .u64))))<(strV0.size:Int)) then (some (IntKind.wrap .i64 ((IntKind.wrap .i64 (0+8))+(IntKind.wrap .i64 (bt strV0 ((IntKind.wrap .u8 (Int.fdiv a0 (2 ^ min (8:Int).toNat (IntKind.bits .u64)))):Int).toNat))))) else none) else none) else none) else (bif decide (0<=(IntKind.wrap .u8 a0)) then (bif decide ((IntKind.wrap .u8 a0)<(strV0.size:Int)) then (some (IntKind.wrap .i64 (0+(IntKind.wrap .i64 (bt strV0 ((IntKind.wrap .u8 a0):Int).toNat))))) else none) else none)))
def bits_Len64.C:Cal->Option CArm:=fun c=>match c with
 | _=>none
theorem bits_Len64.run (a0:Int):runF envX (tabC bits_Len64.C) (tabL 25 0 (fun _=>none)) Tryd.f70 [.t (.int .u64) a0] (viewR1 (.t (.int .i64)))=bits_Len64.F a0:=by kernel_rfl
theorem bits_Len64.G (hE:EnvOk Tryd.prog envX) (pv:Nat->Value):∀ cal A,bits_Len64.C cal=some A->ArmOk Tryd.prog envX pv cal A:=by
 intro cal A h
 unfold bits_Len64.C at h
 cases h
theorem bits_Len64.good (hE:EnvOk Tryd.prog envX) (pv:Nat->Value) (a0:Int) {y:_} (h:bits_Len64.F a0=some y):Meets Tryd.prog envX pv (.f 70) (tvals [(.int .u64)] (a0,())) (.t (.int .i64) y) :=
 fun_plain hE (bits_Len64.G hE pv) (f:=70) (fn:=Tryd.f70) (by kernel_rfl) rfl (by kernel_rfl) (by kernel_rfl) ((bits_Len64.run a0).trans h) (fun r hr=>wk_view1 hr)
def bits_Len.F (a0:Int):Option (Int):=(bits_Len64.F a0).bind fun r1=>some r1
def bits_Len.C:Cal->Option CArm:=fun c=>match c with
 | .f 70=>some (.p [(.int .u64)] _ (fun x=>bits_Len64.F x.1) (fun r=>(.t (.int .i64) r)))
 | _=>none
theorem bits_Len.run (a0:Int):runF envX (tabC bits_Len.C) (tabL 8 0 (fun _=>none)) Tryd.f48 [.t (.int .u64) a0] (viewR1 (.t (.int .i64)))=bits_Len.F a0:=by kernel_rfl
theorem bits_Len.G (hE:EnvOk Tryd.prog envX) (pv:Nat->Value):∀ cal A,bits_Len.C cal=some A->ArmOk Tryd.prog envX pv cal A:=by
 intro cal A h
 unfold bits_Len.C at h
 split at h
 ·cases h; exact fun x y hy=>bits_Len64.good hE pv x.1 hy
 ·cases h
theorem bits_Len.good (hE:EnvOk Tryd.prog envX) (pv:Nat->Value) (a0:Int) {y:_} (h:bits_Len.F a0=some y):Meets Tryd.prog envX pv (.f 48) (tvals [(.int .u64)] (a0,())) (.t (.int .i64) y) :=
 fun_plain hE (bits_Len.G hE pv) (f:=48) (fn:=Tryd.f48) (by kernel_rfl) rfl (by kernel_rfl) (by kernel_rfl) ((bits_Len.run a0).trans h) (fun r hr=>wk_view1 hr)
def slices_Sort_string.F (k:Nat) (a0:List ByteArray):Option (List ByteArray):=(bits_Len.F (IntKind.wrap .u64 (a0.length:Int))).bind fun r1=>(slices_pdqsortOrdered_string.F k a0 0 (a0.length:Int) r1).bind fun r2=>bif Nat.beq (r2).length a0.length then (some r2) else none
def slices_Sort_string.C (k:Nat):Cal->Option CArm:=fun c=>match c with
 | .f 48=>some (.p [(.int .u64)] _ (fun x=>bits_Len.F x.1) (fun r=>(.t (.int .i64) r)))
 | .f 47=>some (.m (.fr 9 .str) [(.int .i64),(.int .i64),(.int .i64)] _ (fun x0 x=>slices_pdqsortOrdered_string.F k x0 x.1 x.2.1 x.2.2.1) (fun r=> .kep (.fr 9 .str r) (.tup [])))
 | _=>none
theorem slices_Sort_string.run (k:Nat) (a0:List ByteArray):runM envX (tabC (slices_Sort_string.C k)) (tabL 11 0 (fun _=>none)) Tryd.f34 mbase (.fr 9 .str a0) [] (viewK0 (.fr 9 .str))=slices_Sort_string.F k a0:=by kernel_rfl
theorem slices_Sort_string.G (hE:EnvOk Tryd.prog envX) (pv:Nat->Value) (k:Nat):∀ cal A,slices_Sort_string.C k cal=some A->ArmOk Tryd.prog envX pv cal A:=by
 intro cal A h
 unfold slices_Sort_string.C at h
 split at h
 ·cases h; exact fun x y hy=>bits_Len.good hE pv x.1 hy
 ·cases h; exact ⟨_,rfl,fun x0 x y hy=>slices_pdqsortOrdered_string.good hE pv k x0 x.1 x.2.1 x.2.2.1 hy⟩
 ·cases h
theorem slices_Sort_string.good (hE:EnvOk Tryd.prog envX) (pv:Nat->Value) (k:Nat) (a0:List ByteArray) {y:_} (h:slices_Sort_string.F k a0=some y):MeetsM Tryd.prog envX pv 34 (.fr 9 .str a0) (tvals [] (())) (.kep (.fr 9 .str y) (.tup [])) :=
 funM_plain hE (slices_Sort_string.G hE pv k) (f:=34) (fn:=Tryd.f34) (by kernel_rfl) rfl (by kernel_rfl) (.inl rfl) (by kernel_rfl) ((slices_Sort_string.run k a0).trans h) (fun r hr=>wk_viewK0 hr)
def slices_Compact_string.F (a0:List ByteArray):Option (List ByteArray):=xCompact a0
theorem slices_Compact_string.good (hE:EnvOk Tryd.prog envX) (pv:Nat->Value) (a0:List ByteArray) {y:_} (h:slices_Compact_string.F a0=some y):MeetsM Tryd.prog envX pv 35 (.fr 9 .str a0) (tvals [] (())) (.mov 9 .str y) :=
 ext_compact (fn:=Tryd.f35) (by kernel_rfl) rfl (by kernel_rfl) Tryd.slices_Compact_string Tryd.slices_Compact_string_empty h
-- NO 16 loop.example/g00896/impl.QueryWords: handed over: t for ('fr',9,('str',))
def laws_eqStringS.l0:Nat->(List ByteArray)->(List ByteArray)->Int->Option (Sum Bool Unit)
 | 0,_,_,_=>none
 | k+1,x0,x1,x5=>bif (decide (x5<(x0.length:Int))) then (bif decide (0<=x5) then (bif decide (x5<(x0.length:Int)) then (bif decide (0<=x5) then (bif decide (x5<(x1.length:Int)) then (bif (!beqS (x0.getD (x5:Int).toNat (⟨#[]⟩:ByteArray)) (x1.getD (x5:Int).toNat (⟨#[]⟩:ByteArray))) then (some (.inl false)) else (laws_eqStringS.l0 k x0 x1 (IntKind.wrap .i64 (x5+1)))) else none) else none) else none) else none) else (some (.inr ()))
def laws_eqStringS.F (k:Nat) (a0:List ByteArray) (a1:List ByteArray):Option (Bool):=bif ((a0.length:Int) != (a1.length:Int)) then (some false) else ((laws_eqStringS.l0 k a0 a1 0).bind fun y1=>match y1 with | .inl z2=>some z2 | .inr z2=>some true)
def laws_eqStringS.C (k:Nat):Cal->Option CArm:=fun c=>match c with
 | _=>none
def laws_eqStringS.sp0:List Sp:=[.t 0 (.sl .str),.t 1 (.sl .str),.t 5 (.int .i64)]
def laws_eqStringS.sp0_0:List Sp:=[.t 4 .bool]
def laws_eqStringS.sp0_1:List Sp:=[]
def laws_eqStringS.A0:LArm:=.two laws_eqStringS.sp0 laws_eqStringS.sp0_0 laws_eqStringS.sp0_1 (Bool) (Unit) (fun k x=>laws_eqStringS.l0 k x.1 x.2.1 x.2.2.1) .ret (.exit 0) (fun y=>(y,())) (fun x=>x.1) (fun y=>()) (fun x=>())
def laws_eqStringS.L:Nat->Option LArm:=fun b=>match b with
 | 0=>some laws_eqStringS.A0
 | _=>none
theorem laws_eqStringS.run (k:Nat) (a0:List ByteArray) (a1:List ByteArray):runF envX (tabC (laws_eqStringS.C k)) (tabL 26 k laws_eqStringS.L) Tryd.f17 [.t (.sl .str) a0,.t (.sl .str) a1] (viewR1 (.t .bool))=laws_eqStringS.F k a0 a1:=by kernel_rfl
theorem laws_eqStringS.step0 (k:Nat) (x0:List ByteArray) (x1:List ByteArray) (x5:Int):runC envX (tabC (laws_eqStringS.C k)) (tabL 26 k laws_eqStringS.L) 0 (loopAt Tryd.f17 0) (stOf 26 laws_eqStringS.sp0 (x0,x1,x5,())) (laws_eqStringS.A0.cont 26 k)=laws_eqStringS.l0 (k+1) x0 x1 x5:=by kernel_rfl
theorem laws_eqStringS.G (hE:EnvOk Tryd.prog envX) (pv:Nat->Value) (k:Nat):∀ cal A,laws_eqStringS.C k cal=some A->ArmOk Tryd.prog envX pv cal A:=by
 intro cal A h
 unfold laws_eqStringS.C at h
 cases h
theorem laws_eqStringS.good (hE:EnvOk Tryd.prog envX) (pv:Nat->Value) (k:Nat) (a0:List ByteArray) (a1:List ByteArray) {y:_} (h:laws_eqStringS.F k a0 a1=some y):Meets Tryd.prog envX pv (.f 17) (tvals [(.sl .str),(.sl .str)] (a0,a1,())) (.t .bool y) :=
 fun_loops hE (t:=laws_eqStringS.C) k (fun k _=>laws_eqStringS.G hE pv k) (f:=17) (fn:=Tryd.f17) (by kernel_rfl) rfl (by kernel_rfl) (by kernel_rfl) (lt:=laws_eqStringS.L) (by kernel_rfl) (fun b A h=>by
  unfold laws_eqStringS.L at h; split at h
  ·cases h; exact ⟨by kernel_rfl,by kernel_rfl,by kernel_rfl,fun _=>rfl,fun _=>rfl,fun _=>rfl⟩
  ·cases h) (fun b A h=>by
  unfold laws_eqStringS.L at h; split at h
  ·cases h; exact fun k x=>laws_eqStringS.step0 k x.1 x.2.1 x.2.2.1
  ·cases h) ((laws_eqStringS.run k a0 a1).trans h) (fun r hr=>wk_view1 hr)
def laws_markStringS.l0:Nat->(List ByteArray)->Int->Int->Option ((List ByteArray) × Int)
 | 0,_,_,_=>none
 | k+1,x0,x1,x5=>bif (decide (x5<(x0.length:Int))) then ((laws_markText.F k x1).bind fun r1=>bif decide (0<=x5) then (bif decide (x5<(x0.length:Int)) then (laws_markStringS.l0 k (x0.set ((x5:Int).toNat) r1) (IntKind.wrap .i64 (x1+1)) (IntKind.wrap .i64 (x5+1))) else none) else none) else (some (x0,x1))
def laws_markStringS.F (k:Nat) (a0:List ByteArray) (a1:Int):Option ((List ByteArray) × Int):=(laws_markStringS.l0 k a0 a1 0).bind fun y2=>bif Nat.beq (y2.1).length a0.length then (some (y2.1,y2.2)) else none
def laws_markStringS.C (k:Nat):Cal->Option CArm:=fun c=>match c with
 | .f 36=>some (.p [(.int .i64)] _ (fun x=>laws_markText.F k x.1) (fun r=>(.t .str r)))
 | _=>none
def laws_markStringS.sp0:List Sp:=[.own 0 1099511627776 9 .str false true,.t 1 (.int .i64),.t 5 (.int .i64)]
def laws_markStringS.sp0_0:List Sp:=[.own 0 1099511627776 9 .str false true,.t 1 (.int .i64)]
def laws_markStringS.A0:LArm:=.one laws_markStringS.sp0 laws_markStringS.sp0_0 ((List ByteArray) × Int) (fun k x=>laws_markStringS.l0 k x.1 x.2.1 x.2.2.1) (.exit 0) (fun y=>(y.1,y.2,())) (fun x=>(x.1,x.2.1))
def laws_markStringS.L:Nat->Option LArm:=fun b=>match b with
 | 0=>some laws_markStringS.A0
 | _=>none
theorem laws_markStringS.run (k:Nat) (a0:List ByteArray) (a1:Int):runM envX (tabC (laws_markStringS.C k)) (tabL 20 k laws_markStringS.L) Tryd.f18 mbase (.fr 9 .str a0) [.t (.int .i64) a1] (viewK (.fr 9 .str) (viewR1 (.t (.int .i64))))=laws_markStringS.F k a0 a1:=by kernel_rfl
theorem laws_markStringS.step0 (k:Nat) (x0:List ByteArray) (x1:Int) (x5:Int):runC envX (tabC (laws_markStringS.C k)) (tabL 20 k laws_markStringS.L) 0 (loopAt Tryd.f18 0) (stOf 20 laws_markStringS.sp0 (x0,x1,x5,())) (laws_markStringS.A0.cont 20 k)=laws_markStringS.l0 (k+1) x0 x1 x5:=by kernel_rfl
theorem laws_markStringS.G (hE:EnvOk Tryd.prog envX) (pv:Nat->Value) (k:Nat):∀ cal A,laws_markStringS.C k cal=some A->ArmOk Tryd.prog envX pv cal A:=by
 intro cal A h
 unfold laws_markStringS.C at h
 split at h
 ·cases h; exact fun x y hy=>laws_markText.good hE pv k x.1 hy
 ·cases h
theorem laws_markStringS.good (hE:EnvOk Tryd.prog envX) (pv:Nat->Value) (k:Nat) (a0:List ByteArray) (a1:Int) {y:_} (h:laws_markStringS.F k a0 a1=some y):MeetsM Tryd.prog envX pv 18 (.fr 9 .str a0) (tvals [(.int .i64)] (a1,())) (.kep (.fr 9 .str y.1) (.t (.int .i64) y.2)) :=
 funM_loops hE (t:=laws_markStringS.C) k (fun k _=>laws_markStringS.G hE pv k) (f:=18) (fn:=Tryd.f18) (by kernel_rfl) rfl (by kernel_rfl) (.inl rfl) (by kernel_rfl) (lt:=laws_markStringS.L) (by kernel_rfl) (fun b A h=>by
  unfold laws_markStringS.L at h; split at h
  ·cases h; exact ⟨by kernel_rfl,by kernel_rfl,fun _=>rfl,fun _=>rfl⟩
  ·cases h) (fun b A h=>by
  unfold laws_markStringS.L at h; split at h
  ·cases h; exact fun k x=>laws_markStringS.step0 k x.1 x.2.1 x.2.2.1
  ·cases h) ((laws_markStringS.run k a0 a1).trans h) (fun r hr=>wk_viewK (fun r y h=>wk_view1 h) hr)
def laws_heldStringS.l0:Nat->(List ByteArray)->Int->Int->Option (Sum Int Int)
 | 0,_,_,_=>none
 | k+1,x0,x1,x5=>bif (decide (x5<(x0.length:Int))) then (bif decide (0<=x5) then (bif decide (x5<(x0.length:Int)) then ((laws_markText.F k x1).bind fun r1=>bif (!beqS (x0.getD (x5:Int).toNat (⟨#[]⟩:ByteArray)) r1) then (some (.inl (-1))) else (laws_heldStringS.l0 k x0 (IntKind.wrap .i64 (x1+1)) (IntKind.wrap .i64 (x5+1)))) else none) else none) else (some (.inr x1))
def laws_heldStringS.F (k:Nat) (a0:List ByteArray) (a1:Int):Option (Int):=(laws_heldStringS.l0 k a0 a1 0).bind fun y2=>match y2 with | .inl z3=>some z3 | .inr z3=>some z3
def laws_heldStringS.C (k:Nat):Cal->Option CArm:=fun c=>match c with
 | .f 36=>some (.p [(.int .i64)] _ (fun x=>laws_markText.F k x.1) (fun r=>(.t .str r)))
 | _=>none
def laws_heldStringS.sp0:List Sp:=[.t 0 (.sl .str),.t 1 (.int .i64),.t 5 (.int .i64)]
def laws_heldStringS.sp0_0:List Sp:=[.t 4 (.int .i64)]
def laws_heldStringS.sp0_1:List Sp:=[.t 1 (.int .i64)]
def laws_heldStringS.A0:LArm:=.two laws_heldStringS.sp0 laws_heldStringS.sp0_0 laws_heldStringS.sp0_1 (Int) (Int) (fun k x=>laws_heldStringS.l0 k x.1 x.2.1 x.2.2.1) .ret (.exit 0) (fun y=>(y,())) (fun x=>x.1) (fun y=>(y,())) (fun x=>x.1)
def laws_heldStringS.L:Nat->Option LArm:=fun b=>match b with
 | 0=>some laws_heldStringS.A0
 | _=>none
theorem laws_heldStringS.run (k:Nat) (a0:List ByteArray) (a1:Int):runF envX (tabC (laws_heldStringS.C k)) (tabL 22 k laws_heldStringS.L) Tryd.f19 [.t (.sl .str) a0,.t (.int .i64) a1] (viewR1 (.t (.int .i64)))=laws_heldStringS.F k a0 a1:=by kernel_rfl
theorem laws_heldStringS.step0 (k:Nat) (x0:List ByteArray) (x1:Int) (x5:Int):runC envX (tabC (laws_heldStringS.C k)) (tabL 22 k laws_heldStringS.L) 0 (loopAt Tryd.f19 0) (stOf 22 laws_heldStringS.sp0 (x0,x1,x5,())) (laws_heldStringS.A0.cont 22 k)=laws_heldStringS.l0 (k+1) x0 x1 x5:=by kernel_rfl
theorem laws_heldStringS.G (hE:EnvOk Tryd.prog envX) (pv:Nat->Value) (k:Nat):∀ cal A,laws_heldStringS.C k cal=some A->ArmOk Tryd.prog envX pv cal A:=by
 intro cal A h
 unfold laws_heldStringS.C at h
 split at h
 ·cases h; exact fun x y hy=>laws_markText.good hE pv k x.1 hy
 ·cases h
theorem laws_heldStringS.good (hE:EnvOk Tryd.prog envX) (pv:Nat->Value) (k:Nat) (a0:List ByteArray) (a1:Int) {y:_} (h:laws_heldStringS.F k a0 a1=some y):Meets Tryd.prog envX pv (.f 19) (tvals [(.sl .str),(.int .i64)] (a0,a1,())) (.t (.int .i64) y) :=
 fun_loops hE (t:=laws_heldStringS.C) k (fun k _=>laws_heldStringS.G hE pv k) (f:=19) (fn:=Tryd.f19) (by kernel_rfl) rfl (by kernel_rfl) (by kernel_rfl) (lt:=laws_heldStringS.L) (by kernel_rfl) (fun b A h=>by
  unfold laws_heldStringS.L at h; split at h
  ·cases h; exact ⟨by kernel_rfl,by kernel_rfl,by kernel_rfl,fun _=>rfl,fun _=>rfl,fun _=>rfl⟩
  ·cases h) (fun b A h=>by
  unfold laws_heldStringS.L at h; split at h
  ·cases h; exact fun k x=>laws_heldStringS.step0 k x.1 x.2.1 x.2.2.1
  ·cases h) ((laws_heldStringS.run k a0 a1).trans h) (fun r hr=>wk_view1 hr)
mutual
def impl_queryWords_t.F:Nat->Query->Bool->Option (List ByteArray)
 | 0,_,_=>none
 | k+1,a0,a1=>bif (a0.op==1) then (bif a1 then (bif room (([]:List ByteArray).length+([a0.word]:List ByteArray).length) .str then ((impl_queryWords_t.l0 k a1 a0 (([]:List ByteArray)++([a0.word]:List ByteArray)) a0.parts (a0.parts.length:Int) 0).bind fun y2=>some y2) else none) else ((impl_queryWords_t.l0 k a1 a0 ([]:List ByteArray) a0.parts (a0.parts.length:Int) 0).bind fun y4=>some y4)) else ((impl_queryWords_t.l0 k a1 a0 ([]:List ByteArray) a0.parts (a0.parts.length:Int) 0).bind fun y6=>some y6)
def impl_queryWords_t.l0:Nat->Bool->Query->(List ByteArray)->(List Query)->Int->Int->Option ((List ByteArray))
 | 0,_,_,_,_,_,_=>none
 | k+1,x1,x2,x5,x21,x22,x23=>bif (decide (x23<x22)) then (bif decide (0<=x23) then (bif decide (x23<(x21.length:Int)) then ((impl_queryWords_t.F k (x21.getD (x23:Int).toNat (dflt .query)) (!(x1==(x2.op==2)))).bind fun r5=>bif room (x5.length+r5.length) .str then (impl_queryWords_t.l0 k x1 x2 (x5++r5) x21 x22 (IntKind.wrap .i64 (x23+1))) else none) else none) else none) else (some x5)
end
def impl_queryWords_t.C (k:Nat):Cal->Option CArm:=fun c=>match c with
 | .f 33=>some (.tt [.query,.bool] _ (fun x=>impl_queryWords_t.F k x.1 x.2.1) (fun r=>(.fr 9 .str r)))
 | _=>none
def impl_queryWords_t.sp0:List Sp:=[.t 1 .bool,.boxT 2 0 .query,.own 5 1024 9 .str false true,.t 21 (.sl .query),.t 22 (.int .i64),.t 23 (.int .i64)]
def impl_queryWords_t.sp0_0:List Sp:=[.own 5 1024 9 .str false true]
def impl_queryWords_t.A0:LArm:=.one impl_queryWords_t.sp0 impl_queryWords_t.sp0_0 ((List ByteArray)) (fun k x=>impl_queryWords_t.l0 k x.1 x.2.1 x.2.2.1 x.2.2.2.1 x.2.2.2.2.1 x.2.2.2.2.2.1) (.exit 0) (fun y=>(y,())) (fun x=>x.1)
def impl_queryWords_t.L:Nat->Option LArm:=fun b=>match b with
 | 0=>some impl_queryWords_t.A0
 | _=>none
theorem impl_queryWords_t.run (k:Nat) (a0:Query) (a1:Bool):Gx.runT envT (tabC (impl_queryWords_t.C k)) (tabL 38 k impl_queryWords_t.L) Tryd.f33 [.t .query a0,.t .bool a1] (viewK1 (.fr 9 .str))=impl_queryWords_t.F (k+1) a0 a1:=by kernel_rfl
theorem impl_queryWords_t.step0 (k:Nat) (x1:Bool) (x2:Query) (x5:List ByteArray) (x21:List Query) (x22:Int) (x23:Int):runC envT (tabC (impl_queryWords_t.C k)) (tabL 38 k impl_queryWords_t.L) 0 (loopAt Tryd.f33 0) (stOf 38 impl_queryWords_t.sp0 (x1,x2,x5,x21,x22,x23,())) (impl_queryWords_t.A0.cont 38 k)=impl_queryWords_t.l0 (k+1) x1 x2 x5 x21 x22 x23:=by kernel_rfl
def impl_queryWords_t.Gd (pv:Nat->Value) (k:Nat):Prop:=(∀ (a0:Query) (a1:Bool) {y:_},impl_queryWords_t.F k a0 a1=some y->MeetsT Tryd.prog envT pv 33 (tvals [.query,.bool] (a0,a1,())) (.fr 9 .str y))
theorem impl_queryWords_t.G (hE:EnvOk Tryd.prog envT) (pv:Nat->Value) (k:Nat) (hI:impl_queryWords_t.Gd pv k):∀ cal A,impl_queryWords_t.C k cal=some A->ArmOk Tryd.prog envT pv cal A:=by
 intro cal A h
 unfold impl_queryWords_t.C at h
 split at h
 ·cases h; exact ⟨_,rfl,fun x y hy=>hI x.1 x.2.1 hy⟩
 ·cases h
theorem impl_queryWords_t.gd (hE:EnvOk Tryd.prog envT) (pv:Nat->Value) (k:Nat) (hI:∀ k',k'<=k->impl_queryWords_t.Gd pv k') (a0:Query) (a1:Bool) {y:_} (h:impl_queryWords_t.F (k+1) a0 a1=some y):MeetsT Tryd.prog envT pv 33 (tvals [.query,.bool] (a0,a1,())) (.fr 9 .str y) :=
 funT_loops hE (t:=impl_queryWords_t.C) k (fun k hk=>impl_queryWords_t.G hE pv k (hI k hk)) (f:=33) (fn:=Tryd.f33) (by kernel_rfl) rfl (by kernel_rfl) (by kernel_rfl) (lt:=impl_queryWords_t.L) (by kernel_rfl) (fun b A h=>by
  unfold impl_queryWords_t.L at h; split at h
  ·cases h; exact ⟨by kernel_rfl,by kernel_rfl,fun _=>rfl,fun _=>rfl⟩
  ·cases h) (fun b A h=>by
  unfold impl_queryWords_t.L at h; split at h
  ·cases h; exact fun k x=>impl_queryWords_t.step0 k x.1 x.2.1 x.2.2.1 x.2.2.2.1 x.2.2.2.2.1 x.2.2.2.2.2.1
  ·cases h) ((impl_queryWords_t.run k a0 a1).trans h) (fun r hr=>kt_view1 (k:=(.fr 9 .str)) hr)
theorem impl_queryWords_t.all (hE:EnvOk Tryd.prog envT) (pv:Nat->Value):∀ k k',k'<=k->impl_queryWords_t.Gd pv k':=by
 intro k
 induction k with
 | zero=>
  intro k' hk
  obtain rfl:k'=0:=by omega
  exact fun _ _ y h=>by cases (show (none:Option _)=some y from h)
 | succ k ih=>
  intro k' hk
  rcases Nat.lt_or_ge k' (k+1) with hlt | hge
  ·exact ih k' (by omega)
  ·obtain rfl:k'=k+1:=by omega
   exact fun a0 a1 y h=>impl_queryWords_t.gd hE pv k ih a0 a1 h
theorem impl_queryWords_t.good (hE:EnvOk Tryd.prog envT) (pv:Nat->Value) (k:Nat) (a0:Query) (a1:Bool) {y:_} (h:impl_queryWords_t.F k a0 a1=some y):MeetsT Tryd.prog envT pv 33 (tvals [.query,.bool] (a0,a1,())) (.fr 9 .str y) :=
 (impl_queryWords_t.all hE pv k k (Nat.le_refl k)) a0 a1 h
def impl_QueryWords_t.F (k:Nat) (a0:Query):Option ((List ByteArray) × Bool):=(impl_IsValidQuery.F k a0).bind fun r1=>bif (!r1) then (some ([],false)) else ((impl_queryWords_t.F k a0 true).bind fun r2=>(slices_Sort_string.F k r2).bind fun r3=>(slices_Compact_string.F r3).bind fun r4=>some (r4,true))
def impl_QueryWords_t.C (k:Nat):Cal->Option CArm:=fun c=>match c with
 | .f 33=>some (.tt [.query,.bool] _ (fun x=>impl_queryWords_t.F k x.1 x.2.1) (fun r=>(.fr 9 .str r)))
 | .f 24=>some (.p [.query] _ (fun x=>impl_IsValidQuery.F k x.1) (fun r=>(.t .bool r)))
 | .f 34=>some (.m (.fr 9 .str) [] _ (fun x0 x=>slices_Sort_string.F k x0) (fun r=> .kep (.fr 9 .str r) (.tup [])))
 | .f 35=>some (.m (.fr 9 .str) [] _ (fun x0 x=>slices_Compact_string.F x0) (fun r=> .mov 9 .str r))
 | _=>none
theorem impl_QueryWords_t.run (k:Nat) (a0:Query):Gx.runT envT (tabC (impl_QueryWords_t.C k)) (tabL 14 0 (fun _=>none)) Tryd.f16 [.t .query a0] (viewK2 (.fr 9 .str) (.t .bool))=impl_QueryWords_t.F k a0:=by kernel_rfl
theorem impl_QueryWords_t.G (hE:EnvOk Tryd.prog envT) (pv:Nat->Value) (k:Nat):∀ cal A,impl_QueryWords_t.C k cal=some A->ArmOk Tryd.prog envT pv cal A:=by
 intro cal A h
 unfold impl_QueryWords_t.C at h
 split at h
 ·cases h; exact ⟨_,rfl,fun x y hy=>impl_queryWords_t.good hE pv k x.1 x.2.1 hy⟩
 ·cases h; exact fun x y hy=>impl_IsValidQuery.good envOk pv k x.1 hy
 ·cases h; exact ⟨_,rfl,fun x0 x y hy=>slices_Sort_string.good envOk pv k x0 hy⟩
 ·cases h; exact ⟨_,rfl,fun x0 x y hy=>slices_Compact_string.good envOk pv x0 hy⟩
 ·cases h
theorem impl_QueryWords_t.good (hE:EnvOk Tryd.prog envT) (pv:Nat->Value) (k:Nat) (a0:Query) {y:_} (h:impl_QueryWords_t.F k a0=some y):MeetsT Tryd.prog envT pv 16 (tvals [.query] (a0,())) (.tup [.fr 9 .str y.1,.t .bool y.2]) :=
 funT_plain hE (impl_QueryWords_t.G hE pv k) (f:=16) (fn:=Tryd.f16) (by kernel_rfl) rfl (by kernel_rfl) (by kernel_rfl) ((impl_QueryWords_t.run k a0).trans h) (fun r hr=>kt_view2 (k:=(.fr 9 .str)) (l:=(.t .bool)) hr)
mutual
def laws_markQueryS_d.F:Nat->(List Query)->Int->Option (Int)
 | 0,_,_=>none
 | k+1,a0,a1=>(laws_markQueryS_d.l0 k a0 a1 0).bind fun y4=>some y4.2
def laws_markQueryS_d.l0:Nat->(List Query)->Int->Int->Option ((List Query) × Int)
 | 0,_,_,_=>none
 | k+1,x0,x1,x5=>bif (decide (x5<(x0.length:Int))) then (bif decide (0<=x5) then (bif decide (x5<(x0.length:Int)) then ((laws_markText.F k (IntKind.wrap .i64 (x1+1))).bind fun r1=>bif decide (0<=x5) then (bif decide (x5<(x0.length:Int)) then ((laws_markText.F k (IntKind.wrap .i64 ((IntKind.wrap .i64 (x1+1))+1))).bind fun r2=>bif decide (0<=x5) then (bif decide (x5<(x0.length:Int)) then (bif decide (0<=x5) then (bif decide (x5<(x0.length:Int)) then ((laws_markQueryS_d.F k ((x0.getD (x5:Int).toNat (dflt .query)).parts) (IntKind.wrap .i64 ((IntKind.wrap .i64 ((IntKind.wrap .i64 (x1+1))+1))+1))).bind fun r3=>laws_markQueryS_d.l0 k x0 r3 (IntKind.wrap .i64 (x5+1))) else none) else none) else none) else none) else none) else none) else none) else none) else (some (x0,x1))
end
def laws_markQueryS_d.C (k:Nat):Cal->Option CArm:=fun c=>match c with
 | .f 27=>some (.d (.sl .query) (fun x q=>laws_markQueryS_d.F k x q))
 | .f 36=>some (.p [(.int .i64)] _ (fun x=>laws_markText.F k x.1) (fun r=>(.t .str r)))
 | _=>none
def laws_markQueryS_d.sp0:List Sp:=[.ds 0 1099511627776 (.sl .query) (.sl .query),.t 1 (.int .i64),.t 5 (.int .i64)]
def laws_markQueryS_d.sp0_0:List Sp:=[.ds 0 1099511627776 (.sl .query) (.sl .query),.t 1 (.int .i64)]
def laws_markQueryS_d.A0:LArm:=.one laws_markQueryS_d.sp0 laws_markQueryS_d.sp0_0 ((List Query) × Int) (fun k x=>laws_markQueryS_d.l0 k x.1 x.2.1 x.2.2.1) (.exit 0) (fun y=>(y.1,y.2,())) (fun x=>(x.1,x.2.1))
def laws_markQueryS_d.L:Nat->Option LArm:=fun b=>match b with
 | 0=>some laws_markQueryS_d.A0
 | _=>none
theorem laws_markQueryS_d.run (k:Nat) (a0:List Query) (a1:Int):runD envX (tabC (laws_markQueryS_d.C k)) (tabL 43 k laws_markQueryS_d.L) Tryd.f27 (.sl .query) a0 a1 (viewR1 (.t (.int .i64)))=laws_markQueryS_d.F (k+1) a0 a1:=by kernel_rfl
theorem laws_markQueryS_d.step0 (k:Nat) (x0:List Query) (x1:Int) (x5:Int):runC envX (tabC (laws_markQueryS_d.C k)) (tabL 43 k laws_markQueryS_d.L) 0 (loopAt Tryd.f27 0) (stOf 43 laws_markQueryS_d.sp0 (x0,x1,x5,())) (laws_markQueryS_d.A0.cont 43 k)=laws_markQueryS_d.l0 (k+1) x0 x1 x5:=by kernel_rfl
def laws_markQueryS_d.Gd (pv:Nat->Value) (k:Nat):Prop:=(∀ (a0:List Query) (a1:Int) {y:_},laws_markQueryS_d.F k a0 a1=some y->MeetsD Tryd.prog envX pv 27 (.sl .query) a0 a1 y)
theorem laws_markQueryS_d.G (hE:EnvOk Tryd.prog envX) (pv:Nat->Value) (k:Nat) (hI:laws_markQueryS_d.Gd pv k):∀ cal A,laws_markQueryS_d.C k cal=some A->ArmOk Tryd.prog envX pv cal A:=by
 intro cal A h
 unfold laws_markQueryS_d.C at h
 split at h
 ·cases h; exact ⟨_,rfl,fun x q y hy=>hI x q hy⟩
 ·cases h; exact fun x y hy=>laws_markText.good hE pv k x.1 hy
 ·cases h
theorem laws_markQueryS_d.gd (hE:EnvOk Tryd.prog envX) (pv:Nat->Value) (k:Nat) (hI:∀ k',k'<=k->laws_markQueryS_d.Gd pv k') (a0:List Query) (a1:Int) {y:_} (h:laws_markQueryS_d.F (k+1) a0 a1=some y):MeetsD Tryd.prog envX pv 27 (.sl .query) a0 a1 y :=
 funD_loops hE (t:=laws_markQueryS_d.C) k (fun k hk=>laws_markQueryS_d.G hE pv k (hI k hk)) (f:=27) (fn:=Tryd.f27) (by kernel_rfl) rfl (by kernel_rfl) (by kernel_rfl) (lt:=laws_markQueryS_d.L) (by kernel_rfl) (fun b A h=>by
  unfold laws_markQueryS_d.L at h; split at h
  ·cases h; exact ⟨by kernel_rfl,by kernel_rfl,fun _=>rfl,fun _=>rfl⟩
  ·cases h) (fun b A h=>by
  unfold laws_markQueryS_d.L at h; split at h
  ·cases h; exact fun k x=>laws_markQueryS_d.step0 k x.1 x.2.1 x.2.2.1
  ·cases h) rfl ((laws_markQueryS_d.run k a0 a1).trans h) (fun r hr=>view_int hr)
theorem laws_markQueryS_d.all (hE:EnvOk Tryd.prog envX) (pv:Nat->Value):∀ k k',k'<=k->laws_markQueryS_d.Gd pv k':=by
 intro k
 induction k with
 | zero=>
  intro k' hk
  obtain rfl:k'=0:=by omega
  exact fun _ _ y h=>by cases (show (none:Option _)=some y from h)
 | succ k ih=>
  intro k' hk
  rcases Nat.lt_or_ge k' (k+1) with hlt | hge
  ·exact ih k' (by omega)
  ·obtain rfl:k'=k+1:=by omega
   exact fun a0 a1 y h=>laws_markQueryS_d.gd hE pv k ih a0 a1 h
theorem laws_markQueryS_d.good (hE:EnvOk Tryd.prog envX) (pv:Nat->Value) (k:Nat) (a0:List Query) (a1:Int) {y:_} (h:laws_markQueryS_d.F k a0 a1=some y):MeetsD Tryd.prog envX pv 27 (.sl .query) a0 a1 y :=
 (laws_markQueryS_d.all hE pv k k (Nat.le_refl k)) a0 a1 h
def laws_markQuery_d.F (k:Nat) (a0:Query) (a1:Int):Option (Int):=(laws_markQueryS_d.F k a0.parts a1).bind fun r1=>some r1
def laws_markQuery_d.C (k:Nat):Cal->Option CArm:=fun c=>match c with
 | .f 27=>some (.d (.sl .query) (fun x q=>laws_markQueryS_d.F k x q))
 | _=>none
theorem laws_markQuery_d.run (k:Nat) (a0:Query) (a1:Int):runD envX (tabC (laws_markQuery_d.C k)) (tabL 10 0 (fun _=>none)) Tryd.f11 .query a0 a1 (viewR1 (.t (.int .i64)))=laws_markQuery_d.F k a0 a1:=by kernel_rfl
theorem laws_markQuery_d.G (hE:EnvOk Tryd.prog envX) (pv:Nat->Value) (k:Nat):∀ cal A,laws_markQuery_d.C k cal=some A->ArmOk Tryd.prog envX pv cal A:=by
 intro cal A h
 unfold laws_markQuery_d.C at h
 split at h
 ·cases h; exact ⟨_,rfl,fun x q y hy=>laws_markQueryS_d.good hE pv k x q hy⟩
 ·cases h
theorem laws_markQuery_d.good (hE:EnvOk Tryd.prog envX) (pv:Nat->Value) (k:Nat) (a0:Query) (a1:Int) {y:_} (h:laws_markQuery_d.F k a0 a1=some y):MeetsD Tryd.prog envX pv 11 .query a0 a1 y :=
 funD_plain hE (laws_markQuery_d.G hE pv k) (f:=11) (fn:=Tryd.f11) (by kernel_rfl) rfl (by kernel_rfl) (by kernel_rfl) rfl ((laws_markQuery_d.run k a0 a1).trans h) (fun r hr=>view_int hr)
def laws_FnExactQueryWords.F (k:Nat) (a0:Query):Option (Bool):=(laws_szQuery.F k a0 1048576).bind fun r1=>bif (decide (r1<0)) then (some true) else ((laws_toQuery_p.F k a0).bind fun r2=>(spec_QueryWords.F k r2).bind fun r3=>(laws_toQuery_p.F k a0).bind fun r4=>(impl_QueryWords_t.F k r4).bind fun r5=>(laws_eqStringS.F k r5.1 r3.1).bind fun r6=>bif (!r6) then (some false) else (bif (!(r5.2==r3.2)) then (some false) else ((laws_toQuery_p.F k a0).bind fun r7=>(laws_eqQuery.F k r4 r7).bind fun r8=>bif (!r8) then (some false) else ((laws_markQuery_d.F k r4 1).bind fun r9=>bif (decide (r9<0)) then (some false) else ((laws_eqStringS.F k r5.1 r3.1).bind fun r10=>bif (!r10) then (some false) else (bif (!(r5.2==r3.2)) then (some false) else ((laws_markStringS.F k r5.1 1).bind fun r11=>(laws_heldStringS.F k r11.1 1).bind fun r12=>bif (decide (r12<0)) then (some false) else (bif (r12 != r11.2) then (some false) else ((laws_toQuery_p.F k a0).bind fun r13=>(impl_QueryWords_t.F k r13).bind fun r14=>(laws_eqStringS.F k r14.1 r3.1).bind fun r15=>bif (!r15) then (some false) else (bif (!(r14.2==r3.2)) then (some false) else ((laws_heldStringS.F k r11.1 1).bind fun r16=>bif (decide (r16<0)) then (some false) else (bif (r16 != r11.2) then (some false) else (some true)))))))))))))
def laws_FnExactQueryWords.C (k:Nat):Cal->Option CArm:=fun c=>match c with
 | .f 8=>some (.pp [.query] .query (fun x=>laws_toQuery_p.F k x.1))
 | .f 16=>some (.tt [.query] _ (fun x=>impl_QueryWords_t.F k x.1) (fun r=>(.tup [.fr 9 .str r.1,.t .bool r.2])))
 | .f 11=>some (.d .query (fun x q=>laws_markQuery_d.F k x q))
 | .f 6=>some (.p [.query,(.int .i64)] _ (fun x=>laws_szQuery.F k x.1 x.2.1) (fun r=>(.t (.int .i64) r)))
 | .f 15=>some (.p [.query] _ (fun x=>spec_QueryWords.F k x.1) (fun r=>(.tup [.t (.sl .str) r.1,.t .bool r.2])))
 | .f 17=>some (.p [(.sl .str),(.sl .str)] _ (fun x=>laws_eqStringS.F k x.1 x.2.1) (fun r=>(.t .bool r)))
 | .f 10=>some (.p [.query,.query] _ (fun x=>laws_eqQuery.F k x.1 x.2.1) (fun r=>(.t .bool r)))
 | .f 18=>some (.m (.fr 9 .str) [(.int .i64)] _ (fun x0 x=>laws_markStringS.F k x0 x.1) (fun r=> .kep (.fr 9 .str r.1) (.t (.int .i64) r.2)))
 | .f 19=>some (.p [(.sl .str),(.int .i64)] _ (fun x=>laws_heldStringS.F k x.1 x.2.1) (fun r=>(.t (.int .i64) r)))
 | _=>none
theorem laws_FnExactQueryWords.run (k:Nat) (a0:Query):runF envX (tabC (laws_FnExactQueryWords.C k)) (tabL 96 0 (fun _=>none)) Tryd.f5 [.t .query a0] (viewR1 (.t .bool))=laws_FnExactQueryWords.F k a0:=by kernel_rfl
theorem laws_FnExactQueryWords.G (hE:EnvOk Tryd.prog envX) (pv:Nat->Value) (k:Nat):∀ cal A,laws_FnExactQueryWords.C k cal=some A->ArmOk Tryd.prog envX pv cal A:=by
 intro cal A h
 unfold laws_FnExactQueryWords.C at h
 split at h
 ·cases h; exact ⟨_,rfl,fun x y hy=>meetsP_of (E:=envX) (E':=envP) rfl rfl rfl fun n=>laws_toQuery_p.good envOkP pv n k x.1 hy⟩
 ·cases h; exact ⟨_,rfl,fun x y hy=>impl_QueryWords_t.good envOkT pv k x.1 hy⟩
 ·cases h; exact ⟨_,rfl,fun x q y hy=>laws_markQuery_d.good hE pv k x q hy⟩
 ·cases h; exact fun x y hy=>laws_szQuery.good hE pv k x.1 x.2.1 hy
 ·cases h; exact fun x y hy=>spec_QueryWords.good hE pv k x.1 hy
 ·cases h; exact fun x y hy=>laws_eqStringS.good hE pv k x.1 x.2.1 hy
 ·cases h; exact fun x y hy=>laws_eqQuery.good hE pv k x.1 x.2.1 hy
 ·cases h; exact ⟨_,rfl,fun x0 x y hy=>laws_markStringS.good hE pv k x0 x.1 hy⟩
 ·cases h; exact fun x y hy=>laws_heldStringS.good hE pv k x.1 x.2.1 hy
 ·cases h
theorem laws_FnExactQueryWords.good (hE:EnvOk Tryd.prog envX) (pv:Nat->Value) (k:Nat) (a0:Query) {y:_} (h:laws_FnExactQueryWords.F k a0=some y):Meets Tryd.prog envX pv (.f 5) (tvals [.query] (a0,())) (.t .bool y) :=
 fun_plain hE (laws_FnExactQueryWords.G hE pv k) (f:=5) (fn:=Tryd.f5) (by kernel_rfl) rfl (by kernel_rfl) (by kernel_rfl) ((laws_FnExactQueryWords.run k a0).trans h) (fun r hr=>wk_view1 hr)
end Go.Proofs.YtkbichbahpnmmaaDoor
end
section
/- Plain laws: queries,their check. -/
namespace Go.Proofs.YtkbichbahpnmmaaDoor
open Go.Gx
theorem getD_at {α:Type} {xs:List α} {i:Nat} (h:i<xs.length) (d:α):xs.getD i d=xs[i]:=by simp [List.getD,List.getElem?_eq_getElem h]
theorem wf_len {e:Ty} {xs:List (den e)} (h:WF (.sl e) xs):xs.length<=9223372036854775807:=by
 cases h with | sl _ _ h _=>exact maxLen_eq ▸ h
mutual
def qsize:Query->Nat
 | .mk _ _ _ ps=>1+qsizeL ps
def qsizeL:List Query->Nat
 | []=>0
 | q :: l=>qsize q+qsizeL l
end
mutual
def totQ:Query->Nat
 | .mk _ f w ps=>f.size+w.size+totQs ps
def totQs:List Query->Nat
 | []=>0
 | q :: l=>1+totQ q+totQs l
end
theorem qsize_eq (q:Query):qsize q=1+qsizeL q.parts:=by cases q; simp only [qsize,Query.parts]
theorem totQ_eq (q:Query):totQ q=q.field.size+q.word.size+totQs q.parts:=by cases q; simp only [totQ,Query.parts,Query.field,Query.word]
theorem qsizeL_drop {ps:List Query} {i:Nat} (h:i<ps.length):qsizeL (ps.drop i)=qsize ps[i]+qsizeL (ps.drop (i+1)):=by rw [List.drop_eq_getElem_cons h]; simp only [qsizeL]
theorem totQs_drop {ps:List Query} {i:Nat} (h:i<ps.length):totQs (ps.drop i)=1+totQ ps[i]+totQs (ps.drop (i+1)):=by rw [List.drop_eq_getElem_cons h]; simp only [totQs]
theorem qsize_pos (q:Query):1<=qsize q:=by rw [qsize_eq]; omega
theorem qsize_mem {p:Query}:∀ {ps:List Query},p ∈ ps->qsize p<=qsizeL ps
 | [],h=>by cases h
 | q :: l,h=>by
  simp only [qsizeL]
  rcases List.mem_cons.1 h with rfl | h
  ·omega
  ·have:=qsize_mem h; omega
theorem totQ_mem {p:Query}:∀ {ps:List Query},p ∈ ps->totQ p<=totQs ps
 | [],h=>by cases h
 | q :: l,h=>by
  simp only [totQs]
  rcases List.mem_cons.1 h with rfl | h
  ·omega
  ·have:=totQ_mem h; omega
theorem len_totQs:∀ ps:List Query,ps.length<=totQs ps
 | []=>Nat.zero_le _
 | q :: l=>by simp only [totQs,List.length_cons]; have:=len_totQs l; omega
theorem byQ {P:Query->Prop} (h:∀ q,(∀ p ∈ q.parts,P p)->P q) (q:Query):P q:=by
 have:∀ n q,qsize q<=n->P q:=by
  intro n
  induction n with
  | zero=>intro q hq; have:=qsize_pos q; omega
  | succ n ih=>
   intro q hq
   refine h q fun p hp=>ih p ?_
   have:=qsize_mem hp
   rw [qsize_eq] at hq
   omega
 exact this _ q (Nat.le_refl _)
theorem wf_q {q:Query} (h:WF .query q) : -9223372036854775808<=q.op/\q.op<=9223372036854775807/\q.field.size<=9223372036854775807/\q.word.size<=9223372036854775807/\q.parts.length<=9223372036854775807/\∀ p ∈ q.parts,WF .query p:=by
 cases h with
 | query _ h1 h2 h3 h4=>
  refine ⟨(wf_i64 h1).1,(wf_i64 h1).2,wf_str h2,wf_str h3,wf_len h4,fun p hp=> ?_⟩
  obtain ⟨i,hi,rfl⟩:=List.getElem_of_mem hp
  cases h4 with | sl _ _ _ h=>exact h i hi
theorem szQ_ev:∀ q:Query,WF .query q->∀ l:Int,0<=l->l<=1048576->Ev (fun k=>laws_szQuery.F k q l) (if l-totQ q<0 then -1 else l-totQ q):=by
 refine byQ fun q ih hw l h0 h1=> ?_
 obtain ⟨_,_,hf,hwd,hpl,hps⟩:=wf_q hw
 have loop:q.parts.length<=1048576->∀ n i:Nat,i+n=q.parts.length->∀ l:Int,0<=l->l<=1048576->∀ T:Int,T=l-(totQs (q.parts.drop i)-(q.parts.length-i:Nat)) ->
   Ev (fun k=>laws_szQueryS.l0 k q.parts l i) (if T<0 then .inl (-1) else .inr T):=by
  intro hlen n
  induction n with
  | zero=>
   intro i h l h0 h1 T hT
   refine Ev.step (fun k=>by rw [laws_szQueryS.l0]) ?_
   simp (disch:=omega) only [cneg]
   rw [List.drop_eq_nil_of_le (by omega)] at hT
   simp only [totQs] at hT
   rw [if_neg (by omega)]
   exact (Ev.pure _).eq (by congr 1; omega)
  | succ n ihn=>
   intro i h l h0 h1 T hT
   have hi:i<q.parts.length:=by omega
   have hd:=totQs_drop hi
   have hlt:=len_totQs (q.parts.drop (i+1))
   rw [List.length_drop] at hlt
   refine Ev.step (fun k=>by rw [laws_szQueryS.l0]) ?_
   simp (disch:=omega) only [cpos,Int.toNat_natCast,getD_at hi]
   refine Ev.bind (ih _ (List.getElem_mem hi) (hps _ (List.getElem_mem hi)) l h0 h1) ?_
   by_cases c:l-(totQ q.parts[i]:Int)<0
   ·rw [if_pos c]
    simp (disch:=omega) only [cpos]
    rw [if_pos (by omega)]
    exact Ev.pure _
   ·rw [if_neg c]
    simp (disch:=omega) only [cneg,wrap_in]
    exact ihn (i+1) (by omega) (l-totQ q.parts[i]) (by omega) (by omega) T (by omega)
 rw [totQ_eq]
 have hlp:=len_totQs q.parts
 refine Ev.step (fun k=>by rw [laws_szQuery.F]) ?_
 by_cases c1:l-(q.field.size:Int)<0
 ·simp (disch:=omega) only [wrap_in,cpos]
  rw [if_pos (by omega)]; exact Ev.pure _
 ·by_cases c2:l-(q.field.size:Int)-(q.word.size:Int)<0
  ·simp (disch:=omega) only [wrap_in,cpos,cneg]
   rw [if_pos (by omega)]; exact Ev.pure _
  ·simp (disch:=omega) only [wrap_in,cneg]
   have inner:Ev (fun k=>laws_szQueryS.F k q.parts (l-(q.field.size:Int)-(q.word.size:Int))) (if l-(q.field.size:Int)-(q.word.size:Int)-totQs q.parts<0 then -1 else l-(q.field.size:Int)-(q.word.size:Int)-totQs q.parts):=by
    refine Ev.step (fun k=>by rw [laws_szQueryS.F]) ?_
    by_cases c3:l-(q.field.size:Int)-(q.word.size:Int)-(q.parts.length:Int)<0
    ·simp (disch:=omega) only [wrap_in,cpos]
     rw [if_pos (by omega)]; exact Ev.pure _
    ·simp (disch:=omega) only [wrap_in,cneg]
     have:=loop (by omega) q.parts.length 0 (by omega) (l-(q.field.size:Int)-(q.word.size:Int)-(q.parts.length:Int)) (by omega) (by omega) (l-(q.field.size:Int)-(q.word.size:Int)-totQs q.parts) (by simp only [List.drop_zero,Nat.sub_zero]; omega)
     by_cases c4:l-(q.field.size:Int)-(q.word.size:Int)-totQs q.parts<0
     ·rw [if_pos c4] at this ⊢; exact Ev.bind this (Ev.pure _)
     ·rw [if_neg c4] at this ⊢; exact Ev.bind this (Ev.pure _)
   refine Ev.bind inner ?_
   by_cases c4:l-(q.field.size:Int)-(q.word.size:Int)-totQs q.parts<0
   ·simp (disch:=omega) only [if_pos c4,cpos]
    rw [if_pos (by omega)]; exact Ev.pure _
   ·simp (disch:=omega) only [if_neg c4,cneg]
    rw [if_neg (by omega)]; exact (Ev.pure _).eq (by omega)
def smallQ (q:Query):Prop:=totQ q<=1048576
theorem smallQ_part {q p:Query} (h:smallQ q) (hp:p ∈ q.parts):smallQ p:=by
 have h1:=totQ_mem hp
 have h2:=totQ_eq q
 unfold smallQ at *
 omega
theorem smallQ_len {q:Query} (h:smallQ q):q.field.size<=1048576/\q.word.size<=1048576/\q.parts.length<=1048576:=by
 have h1:=len_totQs q.parts
 have h2:=totQ_eq q
 unfold smallQ at *
 omega
theorem toQp_ev:∀ q:Query,smallQ q->Ev (fun k=>laws_toQuery_p.F k q) q:=by
 refine byQ fun q ih hs=> ?_
 obtain ⟨_,_,hlen⟩:=smallQ_len hs
 have loop:∀ n i:Nat,i+n=q.parts.length->∀ ys:List Query,ys.length=q.parts.length->ys.take i=q.parts.take i->Ev (fun k=>laws_toQueryS_p.l0 k q.parts ys i) q.parts:=by
  intro n
  induction n with
  | zero=>
   intro i h ys hy ht
   refine Ev.step (fun k=>by rw [laws_toQueryS_p.l0]) ?_
   simp (disch:=omega) only [cneg]
   have:ys=q.parts:=by
    rw [List.take_of_length_le (by omega),List.take_of_length_le (by omega)] at ht
    exact ht
   rw [this]; exact Ev.pure _
  | succ n ihn=>
   intro i h ys hy ht
   have hi:i<q.parts.length:=by omega
   refine Ev.step (fun k=>by rw [laws_toQueryS_p.l0]) ?_
   simp (disch:=omega) only [cpos,Int.toNat_natCast,getD_at hi]
   refine Ev.bind (ih _ (List.getElem_mem hi) (smallQ_part hs (List.getElem_mem hi))) ?_
   simp (disch:=omega) only [cpos,wrap_in]
   exact ihn (i+1) (by omega) (ys.set i q.parts[i]) (by simpa using hy) (by
    rw [List.take_add_one,List.take_add_one,List.take_set_of_le (Nat.le_refl i),ht]
    simp [show i<ys.length by omega,hi])
 refine Ev.step (fun k=>by rw [laws_toQuery_p.F]) ?_
 have inner:Ev (fun k=>laws_toQueryS_p.F k q.parts) q.parts:=by
  refine Ev.step (fun k=>by rw [laws_toQueryS_p.F]) ?_
  have hn:nb .query=64:=rfl
  simp (disch:=first | omega | (simp only [hn,Int.toNat_natCast]; omega)) only [ceq,cpos,cble]
  exact Ev.bind (loop q.parts.length 0 (by omega) _ (by simp) (by simp)) (Ev.pure _)
 refine Ev.bind inner ((Ev.pure _).eq ?_)
 cases q; rfl
theorem eqQ_ev:∀ q:Query,smallQ q->Ev (fun k=>laws_eqQuery.F k q q) true:=by
 refine byQ fun q ih hs=> ?_
 obtain ⟨_,_,hlen⟩:=smallQ_len hs
 have loop:∀ n i:Nat,i+n=q.parts.length->Ev (fun k=>laws_eqQueryS.l0 k q.parts q.parts i) (.inr ()):=by
  intro n
  induction n with
  | zero=>
   intro i h
   refine Ev.step (fun k=>by rw [laws_eqQueryS.l0]) ?_
   simp (disch:=omega) only [cneg]
   exact Ev.pure _
  | succ n ihn=>
   intro i h
   have hi:i<q.parts.length:=by omega
   refine Ev.step (fun k=>by rw [laws_eqQueryS.l0]) ?_
   simp (disch:=omega) only [cpos,Int.toNat_natCast,getD_at hi]
   refine Ev.bind (ih _ (List.getElem_mem hi) (smallQ_part hs (List.getElem_mem hi))) ?_
   simp (disch:=omega) only [Bool.not_true,cond_false,wrap_in]
   exact ihn (i+1) (by omega)
 refine Ev.step (fun k=>by rw [laws_eqQuery.F]) ?_
 simp only [beqS_self,Bool.not_true,cond_false,bne_self_eq_false]
 have inner:Ev (fun k=>laws_eqQueryS.F k q.parts q.parts) true:=by
  refine Ev.step (fun k=>by rw [laws_eqQueryS.F]) ?_
  simp only [bne_self_eq_false,cond_false]
  exact Ev.bind (loop q.parts.length 0 (by omega)) (Ev.pure _)
 exact Ev.bind inner (Ev.pure _)
def signB (b:UInt8):Bool:=(decide (97<=b.toNat) && decide (b.toNat<=122)) || (decide (48<=b.toNat) && decide (b.toNat<=57))
theorem digit_ev (b:UInt8):spec_l6Digit.F (b.toNat:Int)=some (decide (48<=b.toNat) && decide (b.toNat<=57)):=by
 unfold spec_l6Digit.F
 rw [show decide ((b.toNat:Int) ≥ 48)=decide (48<=b.toNat) from decide_eq_decide.2 (by omega),show decide ((b.toNat:Int)<=57)=decide (b.toNat<=57) from decide_eq_decide.2 (by omega)]
 cases decide (48<=b.toNat) <;> rfl
theorem isDigit_ev (b:UInt8):impl_isDigit.F (b.toNat:Int)=some (decide (48<=b.toNat) && decide (b.toNat<=57)):=by
 unfold impl_isDigit.F
 rw [show decide ((b.toNat:Int) ≥ 48)=decide (48<=b.toNat) from decide_eq_decide.2 (by omega),show decide ((b.toNat:Int)<=57)=decide (b.toNat<=57) from decide_eq_decide.2 (by omega)]
 cases decide (48<=b.toNat) <;> rfl
theorem isLower_ev (b:UInt8):impl_isLower.F (b.toNat:Int)=some (decide (97<=b.toNat) && decide (b.toNat<=122)):=by
 unfold impl_isLower.F
 rw [show decide ((b.toNat:Int) ≥ 97)=decide (97<=b.toNat) from decide_eq_decide.2 (by omega),show decide ((b.toNat:Int)<=122)=decide (b.toNat<=122) from decide_eq_decide.2 (by omega)]
 cases decide (97<=b.toNat) <;> rfl
theorem sign_ev (b:UInt8):spec_l22Sign.F (b.toNat:Int)=some (signB b):=by
 unfold spec_l22Sign.F signB
 rw [digit_ev,show decide ((b.toNat:Int) ≥ 97)=decide (97<=b.toNat) from decide_eq_decide.2 (by omega),show decide ((b.toNat:Int)<=122)=decide (b.toNat<=122) from decide_eq_decide.2 (by omega)]
 cases decide (97<=b.toNat) <;> cases decide (b.toNat<=122) <;> rfl
theorem in_ev (a b c:Int):spec_l1In.F a b c=some (decide (a ≥ b) && decide (a<=c)):=by
 unfold spec_l1In.F
 cases decide (a ≥ b) <;> rfl
theorem inside_ev (a b c:Int):impl_inside.F a b c=some (decide (a ≥ b) && decide (a<=c)):=by
 unfold impl_inside.F
 cases decide (a ≥ b) <;> rfl
theorem all_drop {s:ByteArray} {i:Nat} (hi:i<s.size) (p:UInt8->Bool):((L s).drop i).all p=(p ((L s).getD i 0) && ((L s).drop (i+1)).all p):=by
 have hl:i<(L s).length:=by rw [L_size]; exact hi
 rw [List.drop_eq_getElem_cons hl,getD_at hl]; rfl
theorem specWord_l0 (s:ByteArray) (hs:s.size<=9223372036854775806):∀ n i:Nat,i+n=s.size->Ev (fun k=>spec_l22Word.l0 k s i) (if ((L s).drop i).all signB=true then .inr s else .inl false)
 | 0,i,h=>by
  refine Ev.step (fun k=>by rw [spec_l22Word.l0]) ?_
  simp (disch:=omega) only [cneg]
  rw [List.drop_eq_nil_of_le (by rw [L_size]; omega)]
  exact Ev.pure _
 | n+1,i,h=>by
  refine Ev.step (fun k=>by rw [spec_l22Word.l0]) ?_
  simp (disch:=omega) only [cpos,Int.toNat_natCast,L_bt]
  refine Ev.bind0 (sign_ev _) ?_
  rw [all_drop (by omega)]
  cases hlow:signB ((L s).getD i 0) with
  | false=>simp only [Bool.not_false,cond_true,Bool.false_and]; exact Ev.pure _
  | true=>
   simp (disch:=omega) only [Bool.not_true,cond_false,Bool.true_and,wrap_in]
   exact specWord_l0 s hs n (i+1) (by omega)
theorem implWord_l0 (s:ByteArray) (hs:s.size<=9223372036854775806):∀ n i:Nat,i+n=s.size->Ev (fun k=>impl_isQueryWord.l0 k s i) (if ((L s).drop i).all signB=true then .inr s else .inl false)
 | 0,i,h=>by
  refine Ev.step (fun k=>by rw [impl_isQueryWord.l0]) ?_
  simp (disch:=omega) only [cneg]
  rw [List.drop_eq_nil_of_le (by rw [L_size]; omega)]
  exact Ev.pure _
 | n+1,i,h=>by
  have ih:=implWord_l0 s hs n (i+1) (by omega)
  refine Ev.step (fun k=>by rw [impl_isQueryWord.l0]) ?_
  simp (disch:=omega) only [cpos,Int.toNat_natCast,L_bt]
  refine Ev.bind0 (isLower_ev _) ?_
  rw [all_drop (by omega)]
  unfold signB at ih ⊢
  cases hlow:(decide (97<=((L s).getD i 0).toNat) && decide (((L s).getD i 0).toNat<=122)) with
  | true=>
   simp (disch:=omega) only [Bool.not_true,cond_false,Bool.true_or,Bool.true_and,wrap_in]
   exact ih
  | false=>
   simp (disch:=omega) only [Bool.not_false,cond_true,Bool.false_or,cpos]
   refine Ev.bind0 (isDigit_ev _) ?_
   cases hd:(decide (48<=((L s).getD i 0).toNat) && decide (((L s).getD i 0).toNat<=57)) with
   | false=>simp only [Bool.not_false,cond_true,Bool.false_and]; exact Ev.pure _
   | true=>
    simp (disch:=omega) only [Bool.not_true,cond_false,Bool.true_and,wrap_in]
    exact ih
def wordB (s:ByteArray):Bool:=(L s).all signB && ((decide ((s.size:Int) ≥ 1) && decide ((s.size:Int)<=15)) && (!beqS s ⟨#[110,111,116]⟩ && (!beqS s ⟨#[97,110,100]⟩ && !beqS s ⟨#[111,114]⟩)))
theorem specWord_ev (s:ByteArray) (hs:s.size<=9223372036854775806):Ev (fun k=>spec_l22Word.F k s) (wordB s):=by
 unfold spec_l22Word.F wordB
 have:=specWord_l0 s hs s.size 0 (by omega)
 rw [List.drop_zero] at this
 cases hall:(L s).all signB with
 | false=>rw [hall] at this; exact Ev.bind this (Ev.pure _)
 | true=>
  rw [hall] at this
  refine Ev.bind this (Ev.bind0 (in_ev _ _ _) ?_)
  simp only [Bool.true_and]
  cases (decide ((s.size:Int) ≥ 1) && decide ((s.size:Int)<=15)) <;> cases (!beqS s ⟨#[110,111,116]⟩) <;> cases (!beqS s ⟨#[97,110,100]⟩) <;> exact Ev.pure _
theorem implWord_ev (s:ByteArray) (hs:s.size<=9223372036854775806):Ev (fun k=>impl_isQueryWord.F k s) (wordB s):=by
 unfold impl_isQueryWord.F wordB
 have:=implWord_l0 s hs s.size 0 (by omega)
 rw [List.drop_zero] at this
 cases hall:(L s).all signB with
 | false=>rw [hall] at this; exact Ev.bind this (Ev.pure _)
 | true=>
  rw [hall] at this
  refine Ev.bind this (Ev.bind0 (inside_ev _ _ _) ?_)
  simp only [Bool.true_and]
  cases (decide ((s.size:Int) ≥ 1) && decide ((s.size:Int)<=15)) <;> cases (!beqS s ⟨#[110,111,116]⟩) <;> cases (!beqS s ⟨#[97,110,100]⟩) <;> exact Ev.pure _
theorem beqS_comm (s t:ByteArray):beqS s t=beqS t s:=by
 rw [Bool.eq_iff_iff,beqS_iff,beqS_iff]
 exact eq_comm
def memS (s:ByteArray) (xs:List ByteArray):Bool:=xs.any fun f=>beqS f s
theorem memS_cons (s x:ByteArray) (xs:List ByteArray):memS s (x :: xs)=(beqS x s || memS s xs):=rfl
theorem field_l0 (s:ByteArray) (xs:List ByteArray) (hl:xs.length<=1000):∀ n i:Nat,i+n=xs.length->Ev (fun k=>spec_l22Field.l0 k s xs i) (if memS s (xs.drop i)=true then .inl true else .inr s)
 | 0,i,h=>by
  refine Ev.step (fun k=>by rw [spec_l22Field.l0]) ?_
  simp (disch:=omega) only [cneg]
  rw [List.drop_eq_nil_of_le (by omega)]
  exact Ev.pure _
 | n+1,i,h=>by
  have hi:i<xs.length:=by omega
  refine Ev.step (fun k=>by rw [spec_l22Field.l0]) ?_
  simp (disch:=omega) only [cpos,Int.toNat_natCast,getD_at hi]
  rw [List.drop_eq_getElem_cons hi,memS_cons]
  cases beqS xs[i] s with
  | true=>simp only [Bool.true_or,cond_true]; exact Ev.pure _
  | false=>
   simp (disch:=omega) only [Bool.false_or,cond_false,wrap_in]
   exact field_l0 s xs hl n (i+1) (by omega)
theorem index_l0 (s:ByteArray) (xs:List ByteArray) (hl:xs.length<=1000):∀ n i:Nat,i+n=xs.length->∃ r,Ev (fun k=>slices_Index_string.l0 k xs s xs.length i) r/\((memS s (xs.drop i)=true/\∃ j:Int,r = .inl j/\0<=j)\/(memS s (xs.drop i)=false/\r = .inr ()))
 | 0,i,h=>by
  refine ⟨.inr (),Ev.step (fun k=>by rw [slices_Index_string.l0]) ?_,.inr ⟨by rw [List.drop_eq_nil_of_le (by omega)]; rfl,rfl⟩⟩
  simp (disch:=omega) only [cneg]
  exact Ev.pure _
 | n+1,i,h=>by
  have hi:i<xs.length:=by omega
  obtain ⟨r,h1,h2⟩:=index_l0 s xs hl n (i+1) (by omega)
  rw [List.drop_eq_getElem_cons hi,memS_cons]
  cases hb:beqS xs[i] s with
  | true=>
   refine ⟨.inl i,Ev.step (fun k=>by rw [slices_Index_string.l0]) ?_,.inl ⟨rfl,i,rfl,by omega⟩⟩
   simp (disch:=omega) only [cpos,Int.toNat_natCast,getD_at hi]
   rw [beqS_comm,hb]
   exact Ev.pure _
  | false=>
   refine ⟨r,Ev.step (fun k=>by rw [slices_Index_string.l0]) ?_,by rw [Bool.false_or]; exact h2⟩
   simp (disch:=omega) only [cpos,Int.toNat_natCast,getD_at hi]
   rw [beqS_comm,hb]
   simp (disch:=omega) only [cond_false,wrap_in]
   exact h1
theorem contains_ev (s:ByteArray) (xs:List ByteArray) (hl:xs.length<=1000):Ev (fun k=>slices_Contains_string.F k xs s) (memS s xs):=by
 unfold slices_Contains_string.F slices_Index_string.F
 obtain ⟨r,h1,h2⟩:=index_l0 s xs hl xs.length 0 (by omega)
 rw [List.drop_zero] at h2
 rcases h2 with ⟨h3,j,rfl,hj⟩ | ⟨h3,rfl⟩
 ·refine Ev.bind (Ev.bind h1 (Ev.pure _)) ((Ev.pure _).eq ?_)
  rw [h3]; exact decide_eq_true hj
 ·refine Ev.bind (Ev.bind h1 (Ev.pure _)) ((Ev.pure _).eq ?_)
  rw [h3]; rfl
def fieldB (s:ByteArray):Bool:=memS s glV0 || beqS s ⟨#[]⟩
theorem specField_ev (s:ByteArray):Ev (fun k=>spec_l22Field.F k s) (fieldB s):=by
 unfold spec_l22Field.F
 refine Ev.bind0 (a:=glV0) rfl ?_
 have:=field_l0 s glV0 (by decide) glV0.length 0 (by omega)
 rw [List.drop_zero] at this
 unfold fieldB
 cases hm:memS s glV0 with
 | true=>rw [hm] at this; exact Ev.bind this (Ev.pure _)
 | false=>rw [hm] at this; exact Ev.bind this (Ev.pure _)
theorem isField_ev (s:ByteArray):Ev (fun k=>impl_isField.F k s) (memS s glV0):=by
 unfold impl_isField.F
 exact Ev.bind (contains_ev s glV0 (by decide)) (Ev.pure _)
def formB (q:Query):Bool:=cond (q.op==1) (wordB q.word && (fieldB q.field && ((q.parts.length:Int)==0)))
 (cond (q.op==2) (beqS q.word ⟨#[]⟩ && (beqS q.field ⟨#[]⟩ && ((q.parts.length:Int)==1)))
  (cond (q.op==3 || q.op==4) (beqS q.word ⟨#[]⟩ && (beqS q.field ⟨#[]⟩ && ((q.parts.length:Int)==2))) false))
theorem form_ev (q:Query) (h:q.word.size<=1048576):Ev (fun k=>spec_l22Form.F k q) (formB q):=by
 unfold spec_l22Form.F formB
 cases q.op==1 with
 | true=>
  simp only [cond_true]
  refine Ev.bind (specWord_ev _ (by omega)) ?_
  cases wordB q.word with
  | false=>exact Ev.pure _
  | true=>
   simp only [cond_true,Bool.true_and]
   refine Ev.bind (specField_ev _) ?_
   cases fieldB q.field <;> exact Ev.pure _
 | false=>
  simp only [cond_false]
  cases q.op==2 <;> cases q.op==3 <;> cases q.op==4 <;> cases beqS q.word ⟨#[]⟩ <;> cases beqS q.field ⟨#[]⟩ <;> exact Ev.pure _
mutual
def qforms:Query->Bool
 | .mk a b c ps=>formB (.mk a b c ps) && qformsL ps
def qformsL:List Query->Bool
 | []=>true
 | q :: l=>qforms q && qformsL l
end
theorem qformsL_nil:qformsL []=true:=by simp only [qformsL]
theorem qsizeL_nil:qsizeL []=0:=by simp only [qsizeL]
theorem qforms_eq (q:Query):qforms q=(formB q && qformsL q.parts):=by cases q; simp only [qforms,Query.parts]
theorem qformsL_drop {ps:List Query} {i:Nat} (h:i<ps.length):qformsL (ps.drop i)=(qforms ps[i] && qformsL (ps.drop (i+1))):=by rw [List.drop_eq_getElem_cons h]; simp only [qformsL]
theorem forms_ev:∀ q:Query,smallQ q->Ev (fun k=>spec_l22Forms.F k q) (qforms q):=by
 refine byQ fun q ih hs=> ?_
 obtain ⟨_,hw,hlen⟩:=smallQ_len hs
 have loop:∀ n i:Nat,i+n=q.parts.length->Ev (fun k=>spec_l22Forms.l0 k q i) (if qformsL (q.parts.drop i)=true then .inr () else .inl false):=by
  intro n
  induction n with
  | zero=>
   intro i h
   refine Ev.step (fun k=>by rw [spec_l22Forms.l0]) ?_
   simp (disch:=omega) only [cneg]
   rw [List.drop_eq_nil_of_le (by omega)]
   simp only [qformsL]
   exact Ev.pure _
  | succ n ihn=>
   intro i h
   have hi:i<q.parts.length:=by omega
   refine Ev.step (fun k=>by rw [spec_l22Forms.l0]) ?_
   simp (disch:=omega) only [cpos,Int.toNat_natCast,getD_at hi]
   refine Ev.bind (ih _ (List.getElem_mem hi) (smallQ_part hs (List.getElem_mem hi))) ?_
   rw [qformsL_drop hi]
   cases qforms q.parts[i] with
   | false=>exact Ev.pure _
   | true=>
    simp (disch:=omega) only [Bool.not_true,cond_false,Bool.true_and,wrap_in]
    exact ihn (i+1) (by omega)
 refine Ev.step (fun k=>by rw [spec_l22Forms.F]) ?_
 refine Ev.bind (form_ev q hw) ?_
 rw [qforms_eq]
 cases formB q with
 | false=>exact Ev.pure _
 | true=>
  simp only [Bool.not_true,cond_false,Bool.true_and]
  have:=loop q.parts.length 0 (by omega)
  rw [List.drop_zero] at this
  cases hf:qformsL q.parts with
  | false=>rw [hf] at this; exact Ev.bind this (Ev.pure _)
  | true=>rw [hf] at this; exact Ev.bind this (Ev.pure _)
theorem qsizeL_le:∀ ps:List Query,qsizeL ps<=totQs ps:=by
 have one:∀ q:Query,qsize q<=1+totQ q:=byQ fun q ih=>by
  rw [qsize_eq,totQ_eq]
  have:∀ ps:List Query,(∀ p ∈ ps,qsize p<=1+totQ p)->qsizeL ps<=totQs ps:=by
   intro ps
   induction ps with
   | nil=>intro _; exact Nat.le_refl _
   | cons p l ihl=>
    intro h
    simp only [qsizeL,totQs]
    have h1:=h p List.mem_cons_self
    have h2:=ihl fun x hx=>h x (List.mem_cons_of_mem _ hx)
    omega
  have:=this q.parts ih
  omega
 intro ps
 induction ps with
 | nil=>exact Nat.le_refl _
 | cons p l ih=>simp only [qsizeL,totQs]; have:=one p; omega
theorem size_ev:∀ q:Query,smallQ q->Ev (fun k=>spec_l22Size.F k q) (qsize q):=by
 refine byQ fun q ih hs=> ?_
 obtain ⟨_,_,hlen⟩:=smallQ_len hs
 have hq:=qsizeL_le q.parts
 have ht:=totQ_eq q
 have loop:∀ n i:Nat,i+n=q.parts.length->∀ c:Nat,c+qsizeL (q.parts.drop i)<=1+qsizeL q.parts->Ev (fun k=>spec_l22Size.l0 k q c i) ((c+qsizeL (q.parts.drop i):Nat):Int):=by
  intro n
  induction n with
  | zero=>
   intro i h c hc
   refine Ev.step (fun k=>by rw [spec_l22Size.l0]) ?_
   simp (disch:=omega) only [cneg]
   rw [List.drop_eq_nil_of_le (by omega)]
   simp only [qsizeL,Nat.add_zero]
   exact Ev.pure _
  | succ n ihn=>
   intro i h c hc
   have hi:i<q.parts.length:=by omega
   have hd:=qsizeL_drop hi
   unfold smallQ at hs
   refine Ev.step (fun k=>by rw [spec_l22Size.l0]) ?_
   simp (disch:=omega) only [cpos,Int.toNat_natCast,getD_at hi]
   refine Ev.bind (ih _ (List.getElem_mem hi) (smallQ_part hs (List.getElem_mem hi))) ?_
   simp (disch:=omega) only [wrap_in]
   have:=ihn (i+1) (by omega) (c+qsize q.parts[i]) (by omega)
   rw [hd,show c+(qsize q.parts[i]+qsizeL (q.parts.drop (i+1)))=c+qsize q.parts[i]+qsizeL (q.parts.drop (i+1)) by omega]
   exact this
 refine Ev.step (fun k=>by rw [spec_l22Size.F]) ?_
 have:=loop q.parts.length 0 (by omega) 1 (by rw [List.drop_zero]; omega)
 rw [List.drop_zero,<- qsize_eq] at this
 exact Ev.bind this (Ev.pure _)
def goodQ (q:Query):Bool:=qforms q && decide ((qsize q:Int)<=15)
theorem specGood_ev (q:Query) (hs:smallQ q):Ev (fun k=>spec_l22Good.F k q) (goodQ q):=by
 unfold spec_l22Good.F goodQ
 refine Ev.bind (forms_ev q hs) ?_
 cases qforms q with
 | false=>exact Ev.pure _
 | true=>exact Ev.bind (size_ev q hs) (Ev.pure _)
theorem queries_ev:∀ q:Query,smallQ q->∀ m:Int,m<=15->0<=m->∃ c:Int,Ev (fun k=>impl_queries.F k q m) (c,qforms q && decide ((qsize q:Int)<=m))/\0<=c/\c<=m/\((qforms q && decide ((qsize q:Int)<=m))=true->c=qsize q):=by
 refine byQ fun q ih hs m hm hm0=> ?_
 obtain ⟨_,hw,hlen⟩:=smallQ_len hs
 by_cases c1:m<1
 ·refine ⟨0,Ev.step (fun k=>by rw [impl_queries.F]) ?_,Int.le_refl _,hm0,fun h=> ?_⟩
  ·simp (disch:=omega) only [cpos]
   have:=qsize_pos q
   rw [decide_eq_false (show ¬ (qsize q:Int)<=m by omega),Bool.and_false]
   exact Ev.pure _
  ·have:=qsize_pos q
   rw [decide_eq_false (show ¬ (qsize q:Int)<=m by omega),Bool.and_false] at h
   cases h
 ·have loop:∀ n i:Nat,i+n=q.parts.length->∀ (b:Bool) (c:Int),0<=c->c<=m->∃ r,Ev (fun k=>impl_queries.l1 k m b c q.parts q.parts.length i) r /\
    (((b && (qformsL (q.parts.drop i) && decide (c+qsizeL (q.parts.drop i)<=m)))=true/\r = .inr (true,c+qsizeL (q.parts.drop i))) \/
     ((b && (qformsL (q.parts.drop i) && decide (c+qsizeL (q.parts.drop i)<=m)))=false/\(r = .inl (0,false)\/∃ c',r = .inr (false,c')/\0<=c'/\c'<=m))):=by
   intro n
   induction n with
   | zero=>
    intro i h b c h0 h1
    refine ⟨.inr (b,c),Ev.step (fun k=>by rw [impl_queries.l1]) ?_,?_⟩
    ·simp (disch:=omega) only [cneg]
     exact Ev.pure _
    ·rw [List.drop_eq_nil_of_le (by omega)]
     rw [qformsL_nil,qsizeL_nil,Bool.true_and,decide_eq_true (show c+((0:Nat):Int)<=m by omega),Bool.and_true]
     cases b with
     | true=>exact .inl ⟨rfl,by congr 2; omega⟩
     | false=>exact .inr ⟨rfl,.inr ⟨c,rfl,h0,h1⟩⟩
   | succ n ihn=>
    intro i h b c h0 h1
    have hi:i<q.parts.length:=by omega
    cases b with
    | false=>
     refine ⟨.inl (0,false),Ev.step (fun k=>by rw [impl_queries.l1]) ?_,.inr ⟨rfl,.inl rfl⟩⟩
     simp (disch:=omega) only [cpos,Bool.not_false,cond_true]
     exact Ev.pure _
    | true=>
     obtain ⟨c2,e1,e2,e3,e4⟩:=ih _ (List.getElem_mem hi) (smallQ_part hs (List.getElem_mem hi)) (m-c) (by omega) (by omega)
     obtain ⟨r,f1,f2⟩:=ihn (i+1) (by omega) (qforms q.parts[i] && decide ((qsize q.parts[i]:Int)<=m-c)) (c+c2) (by omega) (by omega)
     refine ⟨r,Ev.step (fun k=>by rw [impl_queries.l1]) ?_,?_⟩
     ·simp (disch:=omega) only [cpos,Int.toNat_natCast,getD_at hi,Bool.not_true,cond_false,wrap_in]
      refine Ev.bind e1 ?_
      simp (disch:=omega) only [wrap_in]
      exact f1
     ·rw [qformsL_drop hi,qsizeL_drop hi,Bool.true_and]
      cases hg:(qforms q.parts[i] && decide ((qsize q.parts[i]:Int)<=m-c)) with
      | true=>
       have hc2:=e4 hg
       rw [hg] at f2
       obtain ⟨hg1,hg2⟩:=Bool.and_eq_true_iff.1 hg
       have hg2:=of_decide_eq_true hg2
       rw [hg1,Bool.true_and]
       have es:c+((qsize q.parts[i]+qsizeL (q.parts.drop (i+1)):Nat):Int)=c+c2+(qsizeL (q.parts.drop (i+1)):Int):=by omega
       rw [es]
       simpa only [Bool.true_and] using f2
      | false=>
       rw [hg] at f2
       have hfalse:(qforms q.parts[i] && qformsL (q.parts.drop (i+1)) && decide (c+((qsize q.parts[i]+qsizeL (q.parts.drop (i+1)):Nat):Int)<=m))=false:=by
        cases hq:qforms q.parts[i] with
        | false=>rfl
        | true=>
         rw [hq,Bool.true_and] at hg
         have:=of_decide_eq_false hg
         rw [decide_eq_false (by omega),Bool.and_false]
       refine .inr ⟨hfalse,?_⟩
       rcases f2 with ⟨h5,_⟩ | ⟨_,h5⟩
       ·cases h5
       ·exact h5
  have fin:∀ b:Bool,∃ c:Int,Ev (fun k=>(impl_queries.l1 k m b 1 q.parts (q.parts.length:Int) 0).bind fun y=>match y with | .inl z=>some (z.1,z.2) | .inr z=>some (z.2,z.1)) (c,b && (qformsL q.parts && decide ((qsize q:Int)<=m)))/\0<=c/\c<=m/\((b && (qformsL q.parts && decide ((qsize q:Int)<=m)))=true->c=qsize q):=by
   intro b
   obtain ⟨r,f1,f2⟩:=loop q.parts.length 0 (by omega) b 1 (by omega) (by omega)
   rw [List.drop_zero,show (1:Int)+(qsizeL q.parts:Int)=(qsize q:Int) by rw [qsize_eq]; omega] at f2
   rcases f2 with ⟨h5,rfl⟩ | ⟨h5,rfl | ⟨c',rfl,h6,h7⟩⟩
   ·refine ⟨qsize q,Ev.bind f1 (by rw [h5]; exact Ev.pure _),by omega,?_,fun _=>rfl⟩
    have:=(Bool.and_eq_true_iff.1 (Bool.and_eq_true_iff.1 h5).2).2
    exact of_decide_eq_true this
   ·exact ⟨0,Ev.bind f1 (by rw [h5]; exact Ev.pure _),by omega,by omega,fun h=>by rw [h5] at h; cases h⟩
   ·exact ⟨c',Ev.bind f1 (by rw [h5]; exact Ev.pure _),h6,h7,fun h=>by rw [h5] at h; cases h⟩
  have body:∃ c:Int,Ev (fun k=>impl_queries.F k q m) (c,formB q && (qformsL q.parts && decide ((qsize q:Int)<=m)))/\0<=c/\c<=m/\((formB q && (qformsL q.parts && decide ((qsize q:Int)<=m)))=true->c=qsize q):=by
   obtain ⟨c,g1,g2⟩:=fin (formB q)
   refine ⟨c,Ev.step (fun k=>by rw [impl_queries.F]) ?_,g2⟩
   clear g2
   simp (disch:=omega) only [cneg]
   unfold formB fieldB at *
   cases h1:q.op==1 with
   | true=>
    rw [h1] at g1
    simp only [cond_true] at g1 ⊢
    refine Ev.bind (implWord_ev _ (by omega)) ?_
    cases hwd:wordB q.word with
    | false=>rw [hwd] at g1; exact g1
    | true=>
     rw [hwd] at g1
     simp only [cond_true,Bool.true_and] at g1 ⊢
     cases hfe:beqS q.field ⟨#[]⟩ with
     | true=>rw [hfe] at g1; simp only [Bool.or_true,Bool.true_and,cond_true] at g1 ⊢; exact g1
     | false=>
      rw [hfe] at g1
      simp only [cond_false,Bool.or_false] at g1 ⊢
      refine Ev.bind (isField_ev _) ?_
      cases hm:memS q.field glV0 with
      | true=>rw [hm] at g1; exact g1
      | false=>rw [hm] at g1; exact g1
   | false=>
    rw [h1] at g1
    simp only [cond_false] at g1 ⊢
    cases h2:q.op==2 <;> cases h3:q.op==3 <;> cases h4:q.op==4 <;> cases h5:beqS q.word ⟨#[]⟩ <;> cases h6:beqS q.field ⟨#[]⟩ <;> rw [h2,h3,h4,h5,h6] at g1 <;> exact g1
  rw [qforms_eq,Bool.and_assoc]
  exact body
theorem implGood_ev (q:Query) (hs:smallQ q):Ev (fun k=>impl_IsValidQuery.F k q) (goodQ q):=by
 obtain ⟨c,h1,_⟩:=queries_ev q hs 15 (by omega) (by omega)
 unfold impl_IsValidQuery.F goodQ
 exact Ev.bind h1 (Ev.pure _)
end Go.Proofs.YtkbichbahpnmmaaDoor
end
section
/- Plain laws: the text of a query. -/
namespace Go.Proofs.YtkbichbahpnmmaaDoor
open Go.Gx
theorem size_app (s t:ByteArray):(s++t).size=s.size+t.size:=by
 rw [<- L_size,L_append,List.length_append,L_size,L_size]
end Go.Proofs.YtkbichbahpnmmaaDoor
end
section
/- Plain laws: which query has which text. -/
namespace Go.Proofs.YtkbichbahpnmmaaDoor
open Go.Gx
inductive Tx:Query->List UInt8->Nat->Prop
 | word {w:ByteArray}:wordB w=true->Tx (.mk 1 ⟨#[]⟩ w []) (L w) 1
 | field {f w:ByteArray}:memS f glV0=true->wordB w=true->Tx (.mk 1 f w []) (L f++58 :: L w) 1
 | not {p:Query} {s:List UInt8} {d:Nat}:Tx p s d->Tx (.mk 2 ⟨#[]⟩ ⟨#[]⟩ [p]) (110 :: 111 :: 116 :: 32 :: s) (d+1)
 | and {a b:Query} {s t:List UInt8} {d d':Nat}:Tx a s d->Tx b t d'->Tx (.mk 3 ⟨#[]⟩ ⟨#[]⟩ [a,b]) (40 :: (s++32 :: 97 :: 110 :: 100 :: 32 :: (t++[41]))) (max d d'+1)
 | or {a b:Query} {s t:List UInt8} {d d':Nat}:Tx a s d->Tx b t d'->Tx (.mk 4 ⟨#[]⟩ ⟨#[]⟩ [a,b]) (40 :: (s++32 :: 111 :: 114 :: 32 :: (t++[41]))) (max d d'+1)
theorem beqS_z {s:ByteArray} (h:beqS s ⟨#[]⟩=true):s=⟨#[]⟩:=beqS_iff.1 h
theorem forms_tx:∀ q:Query,qforms q=true->∃ s d,Tx q s d:=by
 refine byQ fun q ih hf=> ?_
 obtain ⟨op,f,w,ps⟩:=q
 rw [qforms_eq] at hf
 obtain ⟨h1,h2⟩:=Bool.and_eq_true_iff.1 hf
 unfold formB at h1
 simp only [Query.op,Query.field,Query.word,Query.parts] at h1 h2 ih
 by_cases c1:op=1
 ·subst c1
  simp only [beq_self_eq_true,cond_true,Bool.and_eq_true,beq_iff_eq,fieldB,Bool.or_eq_true] at h1
  obtain ⟨a1,a2,a3⟩:=h1
  obtain rfl:ps=[]:=List.eq_nil_of_length_eq_zero (by omega)
  rcases a2 with a2 | a2
  ·exact ⟨_,_,.field a2 a1⟩
  ·rw [beqS_z a2]; exact ⟨_,_,.word a1⟩
 rw [show (op==1)=false by simpa using c1,cond_false] at h1
 by_cases c2:op=2
 ·subst c2
  simp only [beq_self_eq_true,cond_true,Bool.and_eq_true,beq_iff_eq] at h1
  obtain ⟨a1,a2,a3⟩:=h1
  obtain ⟨p,rfl⟩:=List.length_eq_one_iff.1 (show ps.length=1 by omega)
  simp only [qformsL,Bool.and_true] at h2
  obtain ⟨s,d,hs⟩:=ih p (by simp) h2
  rw [beqS_z a1,beqS_z a2]
  exact ⟨_,_,.not hs⟩
 rw [show (op==2)=false by simpa using c2,cond_false] at h1
 cases c:(op==3 || op==4) with
 | false=>rw [c] at h1; cases h1
 | true=>
  rw [c] at h1
  simp only [cond_true,Bool.and_eq_true,beq_iff_eq] at h1
  obtain ⟨a1,a2,a3⟩:=h1
  obtain ⟨a,b,rfl⟩:∃ a b,ps=[a,b]:=by
   match ps,a3 with
   | [a,b],_=>exact ⟨a,b,rfl⟩
   | [],h=>simp at h
   | [_],h=>simp at h
   | _ :: _ :: _ :: _,h=>simp at h; omega
  simp only [qformsL,Bool.and_true,Bool.and_eq_true] at h2
  obtain ⟨s,d,hs⟩:=ih a (by simp) h2.1
  obtain ⟨t,d',ht⟩:=ih b (by simp) h2.2
  rw [beqS_z a1,beqS_z a2]
  simp only [Bool.or_eq_true,beq_iff_eq] at c
  rcases c with rfl | rfl
  ·exact ⟨_,_,.and hs ht⟩
  ·exact ⟨_,_,.or hs ht⟩
end Go.Proofs.YtkbichbahpnmmaaDoor
end
section
/- Plain laws: marks of queries,copies of queries with a mark. -/
namespace Go.Proofs.YtkbichbahpnmmaaDoor
open Go.Gx
theorem markText_l0:∀ n:Nat,n<=1099511627776->∀ s:ByteArray,s.size+n<=9223372036854775806->∃ r,Ev (fun k=>laws_markText.l0 k (n:Int) s) r/\r.size<=s.size+n:=fun n=>by
 induction n using Nat.strongRecOn with
 | ind n ih=>
  intro hn s hs
  by_cases c:n=0
  ·refine ⟨s,Ev.step (fun k=>by rw [laws_markText.l0]) ?_,by omega⟩
   simp (disch:=omega) only [cneg]
   exact Ev.pure _
  ·have ed:Int.tdiv (n:Int) 10=((n / 10:Nat):Int):=by
    rw [Int.tdiv_eq_ediv_of_nonneg (by omega)]; omega
   have e1:∀ v:Int,(strL ([v]:List Int)).size=1:=fun v=>rfl
   obtain ⟨r,r1,r2⟩:=ih (n / 10) (by omega) (by omega) (strL ([IntKind.wrap .u8 (IntKind.wrap .i64 (48+Int.tmod (n:Int) 10))]:List Int)++s) (by rw [size_app,e1]; omega)
   rw [size_app,e1] at r2
   refine ⟨r,Ev.step (fun k=>by rw [laws_markText.l0]) ?_,by omega⟩
   have w1:IntKind.wrap .i64 (Int.tdiv (n:Int) 10)=((n / 10:Nat):Int):=by rw [ed,wrap_in (by omega) (by omega)]
   have hz:((10:Nat)==0)=false:=rfl
   rw [w1,hz]
   simp only [cond_false]
   simp (disch:=(try simp only [e1]); omega) only [cpos,cble]
   exact r1
theorem markText_ev (n:Nat) (hn:n<=1099511627776):∃ r,Ev (fun k=>laws_markText.F k (n:Int)) r:=by
 unfold laws_markText.F
 by_cases c:n=0
 ·refine ⟨⟨#[109,48]⟩,?_⟩
  simp (disch:=omega) only [cpos]
  exact Ev.pure _
 ·obtain ⟨r,r1,r2⟩:=markText_l0 n hn ⟨#[]⟩ (by rw [show (⟨#[]⟩:ByteArray).size=0 from rfl]; omega)
  have e0:(⟨#[]⟩:ByteArray).size=0:=rfl
  have e1:(⟨#[109]⟩:ByteArray).size=1:=rfl
  refine ⟨⟨#[109]⟩++r,?_⟩
  simp (disch:=omega) only [cneg]
  refine Ev.bind r1 ?_
  simp (disch:=omega) only [e1,cble]
  exact Ev.pure _
open Classical in
noncomputable def mt (n:Nat):ByteArray:=if h:∃ r,Ev (fun k=>laws_markText.F k (n:Int)) r then h.choose else ⟨#[]⟩
theorem mt_ev (n:Nat) (hn:n<=1099511627776):Ev (fun k=>laws_markText.F k (n:Int)) (mt n):=by
 have h:=markText_ev n hn
 unfold mt
 rw [dif_pos h]
 exact h.choose_spec
noncomputable def mtZ (z:Int):ByteArray:=mt z.toNat
theorem mtZ_ev {z:Int} (h0:0<=z) (h1:z<=1099511627776):Ev (fun k=>laws_markText.F k z) (mtZ z):=by
 have h:=mt_ev z.toNat (by omega)
 rw [show ((z.toNat:Nat):Int)=z by omega] at h
 exact h
theorem qsizeL_len:∀ xs:List Query,xs.length<=qsizeL xs
 | []=>Nat.zero_le _
 | q :: l=>by simp only [qsizeL,List.length_cons]; have:=qsizeL_len l; have:=qsize_pos q; omega
theorem dmQ_all:∀ n:Nat,∀ xs:List Query,qsizeL xs<=n->∀ z:Int,0<=z->z+3 * (qsizeL xs:Int)<=1099511627776 ->
  Ev (fun k=>laws_markQueryS_d.F k xs z) (z+3 * (qsizeL xs:Int)):=by
 intro n
 induction n with
 | zero=>
  intro xs h z h0 h1
  cases xs with
  | nil=>
   refine Ev.step (fun k=>by rw [laws_markQueryS_d.F]) ?_
   refine Ev.bind (a:=([],z)) ?_ ((Ev.pure _).eq (by simp [qsizeL]))
   refine Ev.step (fun k=>by rw [laws_markQueryS_d.l0]) ?_
   simp (disch:=(simp only [List.length_nil]; omega)) only [cneg]
   exact Ev.pure _
  | cons q l=>simp only [qsizeL] at h; have:=qsize_pos q; omega
 | succ n ih=>
  intro xs h z h0 h1
  have hlen:=qsizeL_len xs
  have loop:∀ m i:Nat,i+m=xs.length->∀ z:Int,0<=z->z+3 * (qsizeL (xs.drop i):Int)<=1099511627776->Ev (fun k=>laws_markQueryS_d.l0 k xs z i) (xs,z+3 * (qsizeL (xs.drop i):Int)):=by
   intro m
   induction m with
   | zero=>
    intro i hi z h0 h1
    refine Ev.step (fun k=>by rw [laws_markQueryS_d.l0]) ?_
    simp (disch:=omega) only [cneg]
    rw [List.drop_eq_nil_of_le (by omega)]
    exact (Ev.pure _).eq (by simp [qsizeL])
   | succ m ihm=>
    intro i him z h0 h1
    have hi:i<xs.length:=by omega
    have hd:=qsizeL_drop hi
    have hs:=qsize_mem (List.getElem_mem hi)
    rw [hd,qsize_eq] at h1
    rw [qsize_eq] at hs
    obtain ⟨r1,hr1⟩:∃ r,Ev (fun k=>laws_markText.F k (z+1)) r:=⟨_,mtZ_ev (by omega) (by omega)⟩
    obtain ⟨r2,hr2⟩:∃ r,Ev (fun k=>laws_markText.F k (z+1+1)) r:=⟨_,mtZ_ev (by omega) (by omega)⟩
    refine Ev.step (fun k=>by rw [laws_markQueryS_d.l0]) ?_
    simp (disch:=omega) only [cpos,Int.toNat_natCast,getD_at hi,wrap_in]
    refine Ev.bind hr1 ?_
    refine Ev.bind hr2 ?_
    refine Ev.bind (ih xs[i].parts (by omega) (z+1+1+1) (by omega) (by omega)) ?_
    refine (ihm (i+1) (by omega) (z+1+1+1+3 * (qsizeL xs[i].parts:Int)) (by omega) (by omega)).eq ?_
    rw [hd,qsize_eq]
    congr 1; omega
  refine Ev.step (fun k=>by rw [laws_markQueryS_d.F]) ?_
  exact Ev.bind (loop xs.length 0 (by omega) z h0 (by rw [List.drop_zero]; exact h1)) ((Ev.pure _).eq (by rw [List.drop_zero]))
mutual
theorem qsize_tot:∀ q:Query,qsize q<=1+totQ q
 | .mk a b c ps=>by
  simp only [qsize,totQ]
  have:=qsizeL_tot ps
  omega
theorem qsizeL_tot:∀ xs:List Query,qsizeL xs<=totQs xs
 | []=>by simp [qsizeL,totQs]
 | q :: l=>by
  simp only [qsizeL,totQs]
  have:=qsize_tot q
  have:=qsizeL_tot l
  omega
end
theorem dmQ_ev (q:Query) (hs:smallQ q):∃ m:Int,0<=m/\Ev (fun k=>laws_markQuery_d.F k q 1) m:=by
 have h1:=qsizeL_tot q.parts
 have h2:=totQ_eq q
 unfold smallQ at hs
 refine ⟨1+3 * (qsizeL q.parts:Int),by omega,?_⟩
 unfold laws_markQuery_d.F
 exact Ev.bind (dmQ_all _ q.parts (Nat.le_refl _) 1 (by omega) (by omega)) (Ev.pure _)
end Go.Proofs.YtkbichbahpnmmaaDoor
end
section
/- Plain laws: marks and equality of lists of texts,beside queries. -/
namespace Go.Proofs.YtkbichbahpnmmaaDoor
open Go.Gx
noncomputable def marks (i:Nat):List ByteArray:=(List.range i).map fun j=>mt (j+1)
theorem marks_len (i:Nat):(marks i).length=i:=by simp [marks]
theorem mark_l0 (xs:List ByteArray) (hlen:xs.length<=1048576):∀ n i:Nat,i+n=xs.length->Ev (fun k=>laws_markStringS.l0 k (marks i++xs.drop i) ((1+i:Nat):Int) i) (marks xs.length,((1+xs.length:Nat):Int))
 | 0,i,h=>by
  have hl:(marks i++xs.drop i).length=xs.length:=by rw [List.length_append,marks_len,List.length_drop]; omega
  refine Ev.step (fun k=>by rw [laws_markStringS.l0]) ?_
  simp (disch:=omega) only [cneg]
  rw [List.drop_eq_nil_of_le (by omega),List.append_nil,show i=xs.length by omega]
  exact Ev.pure _
 | n+1,i,h=>by
  have hi:i<xs.length:=by omega
  have hl:(marks i++xs.drop i).length=xs.length:=by rw [List.length_append,marks_len,List.length_drop]; omega
  refine Ev.step (fun k=>by rw [laws_markStringS.l0]) ?_
  simp (disch:=omega) only [cpos,Int.toNat_natCast]
  refine Ev.bind (mt_ev (1+i) (by omega)) ?_
  have e:(marks i++xs.drop i).set i (mt (1+i))=marks (i+1)++xs.drop (i+1):=by
   rw [List.set_append_right _ _ (by rw [marks_len]; exact Nat.le_refl _),marks_len,Nat.sub_self,List.drop_eq_getElem_cons hi,List.set_cons_zero]
   unfold marks
   rw [List.range_succ,List.map_append,List.append_assoc,Nat.add_comm 1]
   rfl
  simp (disch:=omega) only [wrap_in,e]
  rw [show (((1+i:Nat):Int)+1)=((1+(i+1):Nat):Int) by omega]
  exact mark_l0 xs hlen n (i+1) (by omega)
theorem mark_ev (xs:List ByteArray) (hlen:xs.length<=1048576):Ev (fun k=>laws_markStringS.F k xs 1) (marks xs.length,((1+xs.length:Nat):Int)):=by
 unfold laws_markStringS.F
 refine Ev.bind (mark_l0 xs hlen xs.length 0 (by omega)) ?_
 rw [show Nat.beq (marks xs.length,((1+xs.length:Nat):Int)).1.length xs.length=true by rw [Nat.beq_eq]; exact marks_len _]
 exact Ev.pure _
theorem held_l0 (m:Nat) (hlen:m<=1048576):∀ n i:Nat,i+n=m->Ev (fun k=>laws_heldStringS.l0 k (marks m) ((1+i:Nat):Int) i) (.inr ((1+m:Nat):Int))
 | 0,i,h=>by
  have hl:=marks_len m
  refine Ev.step (fun k=>by rw [laws_heldStringS.l0]) ?_
  simp (disch:=omega) only [cneg]
  rw [show i=m by omega]
  exact Ev.pure _
 | n+1,i,h=>by
  have hl:=marks_len m
  have hi:i<(marks m).length:=by omega
  have e:(marks m)[i]=mt (1+i):=by simp [marks,Nat.add_comm]
  refine Ev.step (fun k=>by rw [laws_heldStringS.l0]) ?_
  simp (disch:=omega) only [cpos,Int.toNat_natCast,getD_at hi,e]
  refine Ev.bind (mt_ev (1+i) (by omega)) ?_
  simp (disch:=omega) only [beqS_self,Bool.not_true,cond_false,wrap_in]
  rw [show (((1+i:Nat):Int)+1)=((1+(i+1):Nat):Int) by omega]
  exact held_l0 m hlen n (i+1) (by omega)
theorem held_ev (m:Nat) (hlen:m<=1048576):Ev (fun k=>laws_heldStringS.F k (marks m) 1) ((1+m:Nat):Int):=by
 unfold laws_heldStringS.F
 exact Ev.bind (held_l0 m hlen m 0 (by omega)) (Ev.pure _)
theorem eqS_l0 (xs:List ByteArray) (hlen:xs.length<=1048576):∀ n i:Nat,i+n=xs.length->Ev (fun k=>laws_eqStringS.l0 k xs xs i) (.inr ())
 | 0,i,h=>by
  refine Ev.step (fun k=>by rw [laws_eqStringS.l0]) ?_
  simp (disch:=omega) only [cneg]
  exact Ev.pure _
 | n+1,i,h=>by
  refine Ev.step (fun k=>by rw [laws_eqStringS.l0]) ?_
  simp (disch:=omega) only [cpos,Int.toNat_natCast,beqS_self,Bool.not_true,cond_false,wrap_in]
  exact eqS_l0 xs hlen n (i+1) (by omega)
theorem eqS_ev (xs:List ByteArray) (hlen:xs.length<=1048576):Ev (fun k=>laws_eqStringS.F k xs xs) true:=by
 unfold laws_eqStringS.F
 simp (disch:=omega) only [cbeq]
 exact Ev.bind (eqS_l0 xs hlen xs.length 0 (by omega)) (Ev.pure _)
end Go.Proofs.YtkbichbahpnmmaaDoor
end
section
/- Ascending lists of texts: put,sorted by insertion,compacted. No program in sight. -/
namespace Go.Proofs.YtkbichbahpnmmaaDoor
open Go.Gx
abbrev blt (x y:List UInt8):Bool:=Op.bytesLess x y
theorem blt_irr:∀ x:List UInt8,blt x x=false
 | []=>rfl
 | a :: x=>by
  have:¬ a<a:=by simp
  have ih:=blt_irr x
  simp only [blt] at ih
  simp [blt,Op.bytesLess,ih]
theorem blt_trans:∀ {x y z:List UInt8},blt x y=true->blt y z=true->blt x z=true
 | x,y,[],_,h=>by cases y <;> simp [blt,Op.bytesLess] at h
 | x,[],c :: z,h,_=>by cases x <;> simp [blt,Op.bytesLess] at h
 | [],b :: y,c :: z,_,_=>rfl
 | a :: x,b :: y,c :: z,h,k=>by
  simp only [blt,Op.bytesLess,Bool.or_eq_true,decide_eq_true_eq,Bool.and_eq_true,beq_iff_eq] at h k ⊢
  rcases h with h | ⟨rfl,h⟩
  ·rcases k with k | ⟨rfl,k⟩
   ·exact .inl (UInt8.lt_trans h k)
   ·exact .inl h
  ·rcases k with k | ⟨rfl,k⟩
   ·exact .inl k
   ·exact .inr ⟨rfl,blt_trans h k⟩
theorem blt_tot:∀ {x y:List UInt8},blt x y=false->blt y x=false->x=y
 | [],[],_,_=>rfl
 | [],_ :: _,h,_=>by simp [blt,Op.bytesLess] at h
 | _ :: _,[],_,h=>by simp [blt,Op.bytesLess] at h
 | a :: x,b :: y,h,k=>by
  simp only [blt,Op.bytesLess,Bool.or_eq_false_iff,decide_eq_false_iff_not,Bool.and_eq_false_iff,beq_eq_false_iff_ne] at h k
  have e:a=b:=by
   have h1:¬ a.toNat<b.toNat:=h.1
   have h2:¬ b.toNat<a.toNat:=k.1
   exact UInt8.toNat_inj.1 (by omega)
  subst e
  have h2:=h.2.resolve_left (by simp)
  have k2:=k.2.resolve_left (by simp)
  rw [blt_tot h2 k2]
theorem ltS_b (s t:ByteArray):ltS s t=blt (L s) (L t):=by unfold ltS; rw [toList_eq,toList_eq]; rfl
theorem ltS_irr (s:ByteArray):ltS s s=false:=by rw [ltS_b]; exact blt_irr _
theorem ltS_trans {s t u:ByteArray} (h:ltS s t=true) (k:ltS t u=true):ltS s u=true:=by rw [ltS_b] at *; exact blt_trans h k
theorem ltS_tot {s t:ByteArray} (h:ltS s t=false) (k:ltS t s=false):s=t:=by rw [ltS_b] at *; exact L_inj (blt_tot h k)
theorem ltS_asym {s t:ByteArray} (h:ltS s t=true):ltS t s=false:=by
 cases k:ltS t s with
 | false=>rfl
 | true=>have:=ltS_trans h k; rw [ltS_irr] at this; cases this
theorem ltS_le {s t u:ByteArray} (h:ltS s t=true) (k:ltS u t=false):ltS s u=true:=by
 cases e:ltS s u with
 | true=>rfl
 | false=>
  cases f:ltS t u with
  | true=>have:=ltS_trans h f; rw [this] at e; cases e
  | false=>rw [ltS_tot k f,h] at e; cases e
abbrev AscS (l:List ByteArray):Prop:=l.Pairwise fun a b=>ltS a b=true
theorem ascS_eq:∀ {l m:List ByteArray},AscS l->AscS m->(∀ x,x ∈ l ↔ x ∈ m)->l=m
 | [],[],_,_,_=>rfl
 | [],y :: m,_,_,h=>absurd ((h y).2 List.mem_cons_self) (by simp)
 | x :: l,[],_,_,h=>absurd ((h x).1 List.mem_cons_self) (by simp)
 | x :: l,y :: m,hl,hm,h=>by
  replace hl:=List.pairwise_cons.1 hl
  replace hm:=List.pairwise_cons.1 hm
  have e:x=y:=by
   rcases List.mem_cons.1 ((h x).1 List.mem_cons_self) with h1 | h1
   ·exact h1
   ·rcases List.mem_cons.1 ((h y).2 List.mem_cons_self) with h2 | h2
    ·exact h2.symm
    ·have:=ltS_asym (hm.1 x h1)
     rw [hl.1 y h2] at this; cases this
  subst e
  rw [ascS_eq hl.2 hm.2 fun z=> ?_]
  have hz:=h z
  rw [List.mem_cons,List.mem_cons] at hz
  constructor
  ·intro hzl
   rcases hz.1 (.inr hzl) with rfl | h'
   ·have:=hl.1 z hzl; rw [ltS_irr] at this; cases this
   ·exact h'
  ·intro hzm
   rcases hz.2 (.inr hzm) with rfl | h'
   ·have:=hm.1 z hzm; rw [ltS_irr] at this; cases this
   ·exact h'
def below (x:ByteArray):List ByteArray->Nat
 | []=>0
 | y :: l=>bif ltS y x then below x l+1 else 0
theorem below_le (x:ByteArray):∀ l,below x l<=l.length
 | []=>Nat.le_refl _
 | y :: l=>by
  have:=below_le x l
  unfold below
  cases ltS y x <;> simp only [cond_true,cond_false,List.length_cons] <;> omega
def putV:List ByteArray->ByteArray->List ByteArray
 | [],x=>[x]
 | y :: l,x=>bif ltS y x then y :: putV l x else bif beqS y x then y :: l else x :: y :: l
theorem putV_at (x:ByteArray):∀ l:List ByteArray,putV l x=if below x l<l.length/\l.getD (below x l) ⟨#[]⟩=x then l else l.take (below x l)++[x]++l.drop (below x l)
 | []=>by simp [putV,below]
 | y :: l=>by
  have ih:=putV_at x l
  unfold putV below
  cases hl:ltS y x with
  | true=>
   simp only [cond_true,List.length_cons,Nat.add_lt_add_iff_right,List.getD_cons_succ,List.take_succ_cons,List.drop_succ_cons]
   rw [ih]
   split <;> rfl
  | false=>
   simp only [cond_false,List.length_cons,Nat.zero_lt_succ,List.getD_cons_zero,true_and,List.take_zero,List.drop_zero,List.nil_append]
   cases hb:beqS y x with
   | true=>rw [if_pos (beqS_iff.1 hb)]; rfl
   | false=>rw [if_neg (fun e=>by rw [e,beqS_self] at hb; cases hb)]; rfl
theorem putV_mem (x:ByteArray):∀ {l:List ByteArray} {z:ByteArray},z ∈ putV l x ↔ z=x\/z ∈ l
 | [],z=>by simp [putV]
 | y :: l,z=>by
  unfold putV
  cases ltS y x with
  | true=>
   simp only [cond_true,List.mem_cons,putV_mem x (l:=l)]
   constructor
   ·rintro (h | h | h)
    ·exact .inr (.inl h)
    ·exact .inl h
    ·exact .inr (.inr h)
   ·rintro (h | h | h)
    ·exact .inr (.inl h)
    ·exact .inl h
    ·exact .inr (.inr h)
  | false=>
   cases hb:beqS y x with
   | true=>
    have e:=beqS_iff.1 hb
    subst e
    simp only [cond_false,cond_true,List.mem_cons]
    constructor
    ·exact .inr
    ·rintro (h | h)
     ·exact .inl h
     ·exact h
   | false=>simp only [cond_false,List.mem_cons]
theorem putV_asc (x:ByteArray):∀ {l:List ByteArray},AscS l->AscS (putV l x)
 | [],_=>List.pairwise_singleton _ _
 | y :: l,h=>by
  have h':=List.pairwise_cons.1 h
  unfold putV
  cases hl:ltS y x with
  | true=>
   refine List.pairwise_cons.2 ⟨fun z hz=> ?_,putV_asc x h'.2⟩
   rcases (putV_mem x).1 hz with rfl | hz
   ·exact hl
   ·exact h'.1 z hz
  | false=>
   cases hb:beqS y x with
   | true=>exact h
   | false=>
    have hxy:ltS x y=true:=by
     cases e:ltS x y with
     | true=>rfl
     | false=>rw [ltS_tot hl e,beqS_self] at hb; cases hb
    refine List.pairwise_cons.2 ⟨fun z hz=> ?_,h⟩
    rcases List.mem_cons.1 hz with rfl | hz
    ·exact hxy
    ·exact ltS_trans hxy (h'.1 z hz)
theorem putV_len (x:ByteArray):∀ l:List ByteArray,(putV l x).length<=l.length+1
 | []=>by simp [putV]
 | y :: l=>by
  have:=putV_len x l
  unfold putV
  cases ltS y x <;> cases beqS y x <;> simp only [cond_true,cond_false,List.length_cons] <;> omega
theorem foldP:∀ (W acc:List ByteArray),AscS acc->AscS (W.foldl putV acc)/\(W.foldl putV acc).length<=acc.length+W.length/\∀ z,z ∈ W.foldl putV acc ↔ z ∈ acc\/z ∈ W
 | [],acc,h=>⟨h,Nat.le_refl _,fun z=>by simp⟩
 | x :: W,acc,h=>by
  obtain ⟨h1,h2,h3⟩:=foldP W (putV acc x) (putV_asc x h)
  have:=putV_len x acc
  refine ⟨h1,by rw [List.foldl_cons,List.length_cons]; omega,fun z=> ?_⟩
  rw [List.foldl_cons,h3,putV_mem,List.mem_cons]
  constructor
  ·rintro ((h | h) | h)
   ·exact .inr (.inl h)
   ·exact .inl h
   ·exact .inr (.inr h)
  ·rintro (h | h | h)
   ·exact .inl (.inr h)
   ·exact .inl (.inl h)
   ·exact .inr h
abbrev WS (l:List ByteArray):Prop:=l.Pairwise fun a b=>ltS b a=false
def posW (x:ByteArray) (out:List ByteArray):Nat->Nat
 | 0=>0
 | k+1=>bif ltS x (out.getD k ⟨#[]⟩) then posW x out k else k+1
theorem posW_le (x:ByteArray) (out:List ByteArray):∀ k,posW x out k<=k
 | 0=>Nat.le_refl _
 | k+1=>by
  have:=posW_le x out k
  unfold posW
  cases ltS x (out.getD k ⟨#[]⟩) <;> simp only [cond_true,cond_false] <;> omega
theorem posW_hi (x:ByteArray) (out:List ByteArray):∀ k j,posW x out k<=j->j<k->ltS x (out.getD j ⟨#[]⟩)=true
 | 0,j,_,h=>by omega
 | k+1,j,h,h'=>by
  unfold posW at h
  cases hd:ltS x (out.getD k ⟨#[]⟩) with
  | false=>rw [hd,cond_false] at h; omega
  | true=>
   rw [hd,cond_true] at h
   by_cases e:j=k
   ·subst e; exact hd
   ·exact posW_hi x out k j h (by omega)
theorem posW_lo (x:ByteArray) (out:List ByteArray):∀ k,0<posW x out k->ltS x (out.getD (posW x out k-1) ⟨#[]⟩)=false
 | 0,h=>by simp [posW] at h
 | k+1,h=>by
  unfold posW at h ⊢
  cases hd:ltS x (out.getD k ⟨#[]⟩) with
  | false=>rw [cond_false,Nat.add_sub_cancel]; exact hd
  | true=>
   rw [hd,cond_true] at h
   rw [cond_true]
   exact posW_lo x out k h
def insW (out:List ByteArray) (x:ByteArray):List ByteArray:=out.take (posW x out out.length)++x :: out.drop (posW x out out.length)
theorem insW_len (out:List ByteArray) (x:ByteArray):(insW out x).length=out.length+1:=by
 have:=posW_le x out out.length
 unfold insW
 simp only [List.length_append,List.length_take,List.length_cons,List.length_drop]
 omega
theorem insW_mem {out:List ByteArray} {x y:ByteArray}:y ∈ insW out x ↔ y=x\/y ∈ out:=by
 unfold insW
 have:y ∈ out ↔ y ∈ out.take (posW x out out.length)\/y ∈ out.drop (posW x out out.length):=by
  rw [<- List.mem_append,List.take_append_drop]
 rw [this]
 simp only [List.mem_append,List.mem_cons]
 constructor
 ·rintro (h | h | h)
  ·exact .inr (.inl h)
  ·exact .inl h
  ·exact .inr (.inr h)
 ·rintro (h | h | h)
  ·exact .inr (.inl h)
  ·exact .inl h
  ·exact .inr (.inr h)
theorem ws_le {l:List ByteArray} (h:WS l) {i j:Nat} (hij:i<j) (hj:j<l.length):ltS (l.getD j ⟨#[]⟩) (l.getD i ⟨#[]⟩)=false:=by
 have:=List.pairwise_iff_getElem.1 h i j (by omega) hj hij
 simpa [List.getD,hj,show i<l.length by omega] using this
theorem insW_ws {out:List ByteArray} {x:ByteArray} (h:WS out):WS (insW out x):=by
 have hp:=posW_le x out out.length
 have mem_get:∀ {y:ByteArray} {l:List ByteArray},y ∈ l->∃ j,j<l.length/\l.getD j ⟨#[]⟩=y:=fun {y l} hy=>by
  obtain ⟨j,hj,e⟩:=List.getElem_of_mem hy
  exact ⟨j,hj,by simp [List.getD,hj,e]⟩
 have hlo:∀ y ∈ out.take (posW x out out.length),ltS x y=false:=fun y hy=>by
  obtain ⟨j,hj,e⟩:=mem_get hy
  rw [List.length_take] at hj
  have e2:out.getD j ⟨#[]⟩=y:=by
   rw [<- e,List.getD_eq_getElem?_getD,List.getD_eq_getElem?_getD,List.getElem?_take,if_pos (by omega)]
  have h1:=posW_lo x out out.length (by omega)
  by_cases e4:j=posW x out out.length-1
  ·rw [<- e4,e2] at h1; exact h1
  ·have h2:=ws_le h (i:=j) (j:=posW x out out.length-1) (by omega) (by omega)
   rw [e2] at h2
   cases hxy:ltS x y with
   | false=>rfl
   | true=>rw [ltS_le hxy h2] at h1; cases h1
 have hhi:∀ y ∈ out.drop (posW x out out.length),ltS y x=false:=fun y hy=>by
  obtain ⟨j,hj,e⟩:=mem_get hy
  rw [List.length_drop] at hj
  have e2:out.getD (posW x out out.length+j) ⟨#[]⟩=y:=by
   rw [<- e,List.getD_eq_getElem?_getD,List.getD_eq_getElem?_getD,List.getElem?_drop]
  rw [<- e2]
  exact ltS_asym (posW_hi x out out.length _ (by omega) (by omega))
 unfold insW
 refine List.pairwise_append.2 ⟨h.sublist (List.take_sublist _ _),List.pairwise_cons.2 ⟨hhi,h.sublist (List.drop_sublist _ _)⟩,fun a ha b hb=> ?_⟩
 rcases List.mem_cons.1 hb with rfl | hb
 ·exact hlo a ha
 ·have h1:WS (out.take (posW x out out.length)++out.drop (posW x out out.length)):=by rw [List.take_append_drop]; exact h
  exact (List.pairwise_append.1 h1).2.2 a ha b hb
theorem foldW:∀ (xs out:List ByteArray),WS out->WS (xs.foldl insW out)/\(xs.foldl insW out).length=out.length+xs.length/\∀ y,y ∈ xs.foldl insW out ↔ y ∈ out\/y ∈ xs
 | [],out,h=>⟨h,rfl,fun y=>by simp⟩
 | x :: xs,out,h=>by
  obtain ⟨k1,k2,k3⟩:=foldW xs (insW out x) (insW_ws h)
  refine ⟨k1,by rw [List.foldl_cons,k2,insW_len,List.length_cons]; omega,fun y=> ?_⟩
  rw [List.foldl_cons,k3,insW_mem,List.mem_cons]
  constructor
  ·rintro ((h | h) | h)
   ·exact .inr (.inl h)
   ·exact .inl h
   ·exact .inr (.inr h)
  ·rintro (h | h | h)
   ·exact .inl (.inr h)
   ·exact .inl (.inl h)
   ·exact .inr h
def atW (x:ByteArray) (out rest:List ByteArray) (j:Nat):List ByteArray:=out.take j++x :: (out.drop j++rest)
theorem atW_split (x:ByteArray) (out rest:List ByteArray) (j:Nat) (h:j<out.length) :
  atW x out rest (j+1)=out.take j++out[j] :: x :: (out.drop (j+1)++rest)/\atW x out rest j=out.take j++x :: out[j] :: (out.drop (j+1)++rest):=by
 unfold atW
 constructor
 ·rw [<- List.take_append_getElem h,List.append_assoc]; rfl
 ·rw [List.drop_eq_getElem_cons h]; rfl
theorem atW_len (x:ByteArray) (out rest:List ByteArray) (j:Nat) (h:j<=out.length):(atW x out rest j).length=out.length+1+rest.length:=by
 unfold atW
 simp only [List.length_append,List.length_take,List.length_cons,List.length_drop]
 omega
theorem atW_get (x:ByteArray) (out rest:List ByteArray) (j:Nat) (h:j<out.length):(atW x out rest (j+1)).getD (j+1) ⟨#[]⟩=x/\(atW x out rest (j+1)).getD j ⟨#[]⟩=out[j]:=by
 have hl:(out.take j).length=j:=by rw [List.length_take]; omega
 rw [(atW_split x out rest j h).1]
 constructor
 ·rw [List.getD_eq_getElem?_getD,List.getElem?_append_right (by omega),hl,show j+1-j=1 by omega]; rfl
 ·rw [List.getD_eq_getElem?_getD,List.getElem?_append_right (by omega),hl,Nat.sub_self]; rfl
theorem atW_swap (x:ByteArray) (out rest:List ByteArray) (j:Nat) (h:j<out.length):((atW x out rest (j+1)).set (j+1) out[j]).set j x=atW x out rest j:=by
 have hl:(out.take j).length=j:=by rw [List.length_take]; omega
 rw [(atW_split x out rest j h).1,(atW_split x out rest j h).2,List.set_append_right _ _ (by omega),hl,show j+1-j=1 by omega,List.set_append_right _ _ (by omega),hl,Nat.sub_self]
 rfl
theorem compact_m (d:Array (List UInt8)) (hd:∀ i j,i<j->j<d.size->blt d[j]! d[i]! = false):∀ m,m<=d.size->(Lib.compactUpTo d m).Pairwise (fun a b=>blt a b=true)/\(∀ y,y ∈ Lib.compactUpTo d m ↔ ∃ j,j<m/\d[j]! = y):=fun m=>by
 induction m with
 | zero=>intro _; exact ⟨by simp [Lib.compactUpTo],fun y=>by simp [Lib.compactUpTo]⟩
 | succ m ih=>
  intro hm
  obtain ⟨h1,h2⟩:=ih (by omega)
  rw [Lib.compactUpTo_succ]
  cases hk:Lib.keeps d m with
  | true=>
   simp only [if_true]
   refine ⟨List.pairwise_append.2 ⟨h1,List.pairwise_singleton _ _,fun a ha b hb=> ?_⟩,fun y=> ?_⟩
   ·rw [List.mem_singleton.1 hb]
    obtain ⟨j,hj,rfl⟩:=(h2 a).1 ha
    unfold Lib.keeps at hk
    have hne:=(of_decide_eq_true hk).resolve_left (by omega)
    have e1:blt d[m]! d[m-1]! = false:=hd (m-1) m (by omega) (by omega)
    have e2:blt d[m-1]! d[m]! = true:=by
     cases e:blt d[m-1]! d[m]! with
     | true=>rfl
     | false=>exact absurd (blt_tot e1 e) hne
    by_cases e:j=m-1
    ·rw [e]; exact e2
    ·have e3:blt d[m-1]! d[j]! = false:=hd j (m-1) (by omega) (by omega)
     cases e4:blt d[j]! d[m-1]! with
     | true=>exact blt_trans e4 e2
     | false=>rw [blt_tot e4 e3]; exact e2
   ·rw [List.mem_append,h2,List.mem_singleton]
    constructor
    ·rintro (⟨j,hj,e⟩ | e)
     ·exact ⟨j,by omega,e⟩
     ·exact ⟨m,by omega,e.symm⟩
    ·rintro ⟨j,hj,e⟩
     by_cases ej:j=m
     ·right; rw [<- e,ej]
     ·exact .inl ⟨j,by omega,e⟩
  | false=>
   simp only [Bool.false_eq_true,if_false,List.append_nil]
   refine ⟨h1,fun y=> ?_⟩
   rw [h2]
   unfold Lib.keeps at hk
   have hk:=of_decide_eq_false hk
   constructor
   ·rintro ⟨j,hj,e⟩; exact ⟨j,by omega,e⟩
   ·rintro ⟨j,hj,e⟩
    by_cases ej:j=m
    ·subst ej
     have h0:j ≠ 0:=fun e=>hk (.inl e)
     refine ⟨j-1,by omega,?_⟩
     rw [<- e]
     apply Classical.byContradiction
     intro hn
     exact hk (.inr fun e2=>hn e2.symm)
    ·exact ⟨j,by omega,e⟩
theorem cmpS_asc {xs:List ByteArray} (h:WS xs):AscS (cmpS xs)/\∀ y,y ∈ cmpS xs ↔ y ∈ xs:=by
 have hsz:((xs.map fun (s:ByteArray)=>s.data.toList).toArray).size=xs.length:=by simp
 have hget:∀ j (hj:j<xs.length),((xs.map fun (s:ByteArray)=>s.data.toList).toArray)[j]! = L xs[j]:=fun j hj=>by
  rw [getElem!_pos _ j (by simpa using hj)]; simp [L]
 obtain ⟨h1,h2⟩:=compact_m (xs.map fun (s:ByteArray)=>s.data.toList).toArray (fun i j hij hj=>by
  rw [hsz] at hj
  rw [hget i (by omega),hget j hj,<- ltS_b]
  exact List.pairwise_iff_getElem.1 h i j (by omega) hj hij) xs.length (by omega)
 have e:Lib.compact (xs.map fun (s:ByteArray)=>s.data.toList)=Lib.compactUpTo (xs.map fun (s:ByteArray)=>s.data.toList).toArray xs.length:=by
  unfold Lib.compact; rw [List.length_map]
 unfold cmpS
 rw [e]
 refine ⟨List.pairwise_map.2 (h1.imp fun {a b} hab=>by rw [ltS_b,L_mk,L_mk]; exact hab),fun y=> ?_⟩
 rw [List.mem_map]
 constructor
 ·rintro ⟨a,ha,rfl⟩
  obtain ⟨j,hj,rfl⟩:=(h2 a).1 ha
  rw [hget j hj]
  have:(⟨(L xs[j]).toArray⟩:ByteArray)=xs[j]:=L_inj (L_mk _)
  rw [this]
  exact List.getElem_mem hj
 ·intro hy
  obtain ⟨j,hj,rfl⟩:=List.getElem_of_mem hy
  exact ⟨_,(h2 _).2 ⟨j,hj,rfl⟩,by rw [hget j hj]; exact L_inj (L_mk _)⟩
end Go.Proofs.YtkbichbahpnmmaaDoor
end
section
/- The plain law of QueryWords. -/
namespace Go.Proofs.YtkbichbahpnmmaaDoor
open Go.Gx
theorem room_st {n:Nat} (h:n<=100000):room n .str=true:=by
 have h2:nb .str<=1000:=by decide
 have h3:n * nb .str<=100000 * 1000:=Nat.mul_le_mul h h2
 exact Nat.ble_eq_true_of_le (Nat.le_trans h3 (by decide))
theorem put_l0 (l:List ByteArray) (x:ByteArray) (hl:l.length<=1000):∀ n i:Nat,i+n=l.length->Ev (fun k=>spec_l22Put.l0 k l x i) (l,x,((i+below x (l.drop i):Nat):Int))
 | 0,i,h=>by
  refine Ev.step (fun k=>by rw [spec_l22Put.l0]) ?_
  simp (disch:=omega) only [cneg]
  rw [List.drop_eq_nil_of_le (by omega)]
  exact Ev.pure _
 | n+1,i,h=>by
  have hi:i<l.length:=by omega
  refine Ev.step (fun k=>by rw [spec_l22Put.l0]) ?_
  simp (disch:=omega) only [cpos,Int.toNat_natCast,getD_at hi]
  rw [List.drop_eq_getElem_cons hi,below]
  cases ltS l[i] x with
  | false=>exact Ev.pure _
  | true=>
   simp (disch:=omega) only [cond_true,wrap_in]
   refine (put_l0 l x hl n (i+1) (by omega)).eq ?_
   rw [show i+1+below x (l.drop (i+1))=i+(below x (l.drop (i+1))+1) by omega]
theorem put_ev (l:List ByteArray) (x:ByteArray) (hl:l.length<=1000):Ev (fun k=>spec_l22Put.F k l x) (putV l x):=by
 have h:=put_l0 l x hl l.length 0 (by omega)
 rw [List.drop_zero,Nat.zero_add] at h
 have hb:=below_le x l
 have hv:=putV_at x l
 have r1:room (([]:List ByteArray).length+(l.take (below x l)).length) .str=true:=room_st (by simp only [List.length_nil,List.length_take]; omega)
 have r2:room ((([]:List ByteArray)++l.take (below x l)).length+([x]:List ByteArray).length) .str=true:=room_st (by simp only [List.length_append,List.length_nil,List.length_take,List.length_singleton]; omega)
 have r3:room (((([]:List ByteArray)++l.take (below x l))++([x]:List ByteArray)).length+(l.drop (below x l)).length) .str=true:=room_st (by simp only [List.length_append,List.length_nil,List.length_take,List.length_singleton,List.length_drop]; omega)
 unfold spec_l22Put.F
 refine Ev.bind h ?_
 by_cases c:below x l<l.length
 ·simp (disch:=omega) only [cpos,Int.toNat_natCast]
  cases hq:beqS (l.getD (below x l) ⟨#[]⟩) x with
  | true=>
   rw [if_pos ⟨c,beqS_iff.1 hq⟩] at hv
   rw [hv]; exact Ev.pure _
  | false=>
   rw [if_neg (fun e=>by rw [e.2,beqS_self] at hq; cases hq)] at hv
   simp (disch:=omega) only [cond_false,cpos,r1,r2,r3,cond_true]
   rw [hv]; exact (Ev.pure _).eq (by simp)
 ·rw [if_neg (fun e=>c e.1)] at hv
  simp (disch:=omega) only [cneg,cpos,Int.toNat_natCast,r1,r2,r3,cond_true]
  rw [hv]; exact (Ev.pure _).eq (by simp)
mutual
def wlQ:Query->Bool->List ByteArray
 | .mk op f w ps,b=>(bif op==1 then (bif b then [w] else []) else [])++wlL ps (!(b==(op==2)))
def wlL:List Query->Bool->List ByteArray
 | [],_=>[]
 | q :: l,b=>wlQ q b++wlL l b
end
theorem wlQ_eq (q:Query) (b:Bool):wlQ q b=(bif q.op==1 then (bif b then [q.word] else []) else [])++wlL q.parts (!(b==(q.op==2))):=by cases q; simp only [wlQ,Query.op,Query.word,Query.parts]
mutual
theorem wlQ_len:∀ (q:Query) (b:Bool),(wlQ q b).length<=qsize q
 | .mk op f w ps,b=>by
  have:=wlL_len ps (!(b==(op==2)))
  simp only [wlQ,qsize,List.length_append]
  have:(bif op==1 then (bif b then [w] else []) else ([]:List ByteArray)).length<=1:=by cases (op==1) <;> cases b <;> simp
  omega
theorem wlL_len:∀ (l:List Query) (b:Bool),(wlL l b).length<=qsizeL l
 | [],b=>by simp [wlL,qsizeL]
 | q :: l,b=>by
  have h1:=wlQ_len q b
  have h2:=wlL_len l b
  simp only [wlL,qsizeL,List.length_append]
  omega
end
theorem impl_words:∀ q:Query,qsize q<=1000->∀ b:Bool,Ev (fun k=>impl_queryWords_t.F k q b) (wlQ q b):=by
 refine byQ fun q ih hq b=> ?_
 have hq':=qsize_eq q
 have hpl:=qsizeL_len q.parts
 have loop:∀ n i:Nat,i+n=q.parts.length->∀ acc:List ByteArray,acc.length+qsizeL (q.parts.drop i)<=2000->Ev (fun k=>impl_queryWords_t.l0 k b q acc q.parts q.parts.length i) (acc++wlL (q.parts.drop i) (!(b==(q.op==2)))):=by
  intro n
  induction n with
  | zero=>
   intro i h acc ha
   refine Ev.step (fun k=>by rw [impl_queryWords_t.l0]) ?_
   simp (disch:=omega) only [cneg]
   rw [List.drop_eq_nil_of_le (by omega)]
   exact (Ev.pure _).eq (by simp [wlL])
  | succ n ihn=>
   intro i h acc ha
   have hi:i<q.parts.length:=by omega
   have hs:=qsize_mem (List.getElem_mem hi)
   have hd:=qsizeL_drop hi
   have hlen:=wlQ_len q.parts[i] (!(b==(q.op==2)))
   refine Ev.step (fun k=>by rw [impl_queryWords_t.l0]) ?_
   simp (disch:=omega) only [cpos,Int.toNat_natCast,getD_at hi]
   refine Ev.bind (ih _ (List.getElem_mem hi) (by omega) _) ?_
   rw [room_st (by omega)]
   simp (disch:=omega) only [cond_true,wrap_in]
   refine (ihn (i+1) (by omega) _ (by rw [List.length_append]; omega)).eq ?_
   rw [List.drop_eq_getElem_cons hi]
   simp only [wlL,List.append_assoc]
 have l0:∀ acc:List ByteArray,acc.length+qsizeL q.parts<=2000->Ev (fun k=>impl_queryWords_t.l0 k b q acc q.parts q.parts.length (0:Nat)) (acc++wlL q.parts (!(b==(q.op==2)))):=fun acc ha=>by
  have:=loop q.parts.length 0 (by omega) acc (by rw [List.drop_zero]; exact ha)
  rwa [List.drop_zero] at this
 rw [wlQ_eq]
 refine Ev.step (fun k=>by rw [impl_queryWords_t.F]) ?_
 cases h1:(q.op==1) with
 | true=>
  cases b with
  | true=>
   have hr:room (([]:List ByteArray).length+([q.word]:List ByteArray).length) .str=true:=room_st (by simp)
   simp only [cond_true,hr]
   exact Ev.bind (l0 _ (by simp; omega)) (Ev.pure _)
  | false=>
   simp only [cond_true,cond_false]
   exact Ev.bind (l0 _ (by simp; omega)) (Ev.pure _)
 | false=>
  simp only [cond_false]
  exact Ev.bind (l0 _ (by simp; omega)) (Ev.pure _)
theorem formsL_mem {p:Query}:∀ {ps:List Query},qformsL ps=true->p ∈ ps->qforms p=true
 | [],_,h=>by cases h
 | x :: l,h,hp=>by
  simp only [qformsL,Bool.and_eq_true] at h
  rcases List.mem_cons.1 hp with rfl | hp
  ·exact h.1
  ·exact formsL_mem h.2 hp
theorem spec_words:∀ q:Query,qforms q=true->qsize q<=1000->∀ (b:Bool) (acc:List ByteArray),AscS acc->acc.length+qsize q<=1000->Ev (fun k=>spec_l22Wanted.F k acc q b) ((wlQ q b).foldl putV acc):=by
 refine byQ fun q ih hfm hq b acc hasc hacc=> ?_
 rw [qforms_eq] at hfm
 obtain ⟨hf1,hf2⟩:=Bool.and_eq_true_iff.1 hfm
 have hq':=qsize_eq q
 have hpl:=qsizeL_len q.parts
 have loop:∀ n i:Nat,i+n=q.parts.length->∀ acc:List ByteArray,AscS acc->acc.length+qsizeL (q.parts.drop i)<=1000->Ev (fun k=>spec_l22Wanted.l0 k acc b q i) ((wlL (q.parts.drop i) (!(b==(q.op==2)))).foldl putV acc):=by
  intro n
  induction n with
  | zero=>
   intro i h acc hs ha
   refine Ev.step (fun k=>by rw [spec_l22Wanted.l0]) ?_
   simp (disch:=omega) only [cneg]
   rw [List.drop_eq_nil_of_le (by omega)]
   exact (Ev.pure _).eq (by simp [wlL])
  | succ n ihn=>
   intro i h acc hs ha
   have hi:i<q.parts.length:=by omega
   have hm:=qsize_mem (List.getElem_mem hi)
   have hd:=qsizeL_drop hi
   have hlen:=wlQ_len q.parts[i] (!(b==(q.op==2)))
   obtain ⟨k1,k2,_⟩:=foldP (wlQ q.parts[i] (!(b==(q.op==2)))) acc hs
   refine Ev.step (fun k=>by rw [spec_l22Wanted.l0]) ?_
   simp (disch:=omega) only [cpos,Int.toNat_natCast,getD_at hi]
   refine Ev.bind (ih _ (List.getElem_mem hi) (formsL_mem hf2 (List.getElem_mem hi)) (by omega) _ acc hs (by omega)) ?_
   simp (disch:=omega) only [wrap_in]
   refine (ihn (i+1) (by omega) _ k1 (by omega)).eq ?_
   rw [List.drop_eq_getElem_cons hi]
   simp only [wlL,List.foldl_append]
 have l0:∀ acc:List ByteArray,AscS acc->acc.length+qsizeL q.parts<=1000->Ev (fun k=>spec_l22Wanted.l0 k acc b q (0:Nat)) ((wlL q.parts (!(b==(q.op==2)))).foldl putV acc):=fun acc hs ha=>by
  have:=loop q.parts.length 0 (by omega) acc hs (by rw [List.drop_zero]; exact ha)
  rwa [List.drop_zero] at this
 rw [wlQ_eq]
 refine Ev.step (fun k=>by rw [spec_l22Wanted.F]) ?_
 cases h1:(q.op==1) with
 | true=>
  cases b with
  | true=>
   simp only [cond_true]
   have hp:q.parts=[]:=by
    unfold formB at hf1
    rw [h1] at hf1
    simp only [cond_true,Bool.and_eq_true,beq_iff_eq] at hf1
    exact List.eq_nil_of_length_eq_zero (by omega)
   refine Ev.bind (put_ev acc q.word (by omega)) ((Ev.pure _).eq ?_)
   rw [hp]
   simp [wlL]
  | false=>
   simp only [cond_true,cond_false]
   exact Ev.bind (l0 _ hasc (by omega)) (Ev.pure _)
 | false=>
  simp only [cond_false]
  exact Ev.bind (l0 _ hasc (by omega)) (Ev.pure _)
theorem words_tx {q:Query} {s:List UInt8} {d:Nat} (h:Tx q s d):∀ b,2 * (wlQ q b).length<=qsize q+1:=by
 induction h with
 | word hw=>intro b; cases b <;> simp [wlQ,wlL,qsize,qsizeL]
 | field hf hw=>intro b; cases b <;> simp [wlQ,wlL,qsize,qsizeL]
 | not _ ih=>intro b; have h1:=ih (!(b==((2:Int)==2))); simp [wlQ,wlL,qsize,qsizeL] at h1 ⊢; omega
 | and _ _ ih ih'=>intro b; have h1:=ih (!(b==((3:Int)==2))); have h2:=ih' (!(b==((3:Int)==2))); simp [wlQ,wlL,qsize,qsizeL] at h1 h2 ⊢; omega
 | or _ _ ih ih'=>intro b; have h1:=ih (!(b==((4:Int)==2))); have h2:=ih' (!(b==((4:Int)==2))); simp [wlQ,wlL,qsize,qsizeL] at h1 h2 ⊢; omega
theorem words8 (q:Query) (hf:qforms q=true) (hz:qsize q<=15):(wlQ q true).length<=12:=by
 obtain ⟨s,d,h⟩:=forms_tx q hf
 have:=words_tx h true
 omega
theorem less_str (x y:ByteArray):cmp_Less_string.F x y=some (ltS x y):=by
 unfold cmp_Less_string.F cmp_isNaN_string.F
 simp [beqS_self]
theorem ss_l2 (x:ByteArray) (out rest:List ByteArray) (b i:Int) (hl:out.length+rest.length<=100) :
  ∀ j:Nat,j<=out.length->Ev (fun k=>slices_insertionSortOrdered_string.l2 k (atW x out rest j) 0 b i j) (atW x out rest (posW x out j),0,b,i)
 | 0,hj=>by
  refine Ev.step (fun k=>by rw [slices_insertionSortOrdered_string.l2]) ?_
  simp (disch:=omega) only [cneg]
  exact Ev.pure _
 | j+1,hj=>by
  have ih:=ss_l2 x out rest b i hl j (by omega)
  have hlen:=atW_len x out rest (j+1) (by omega)
  obtain ⟨g1,g2⟩:=atW_get x out rest j (by omega)
  have hj1:IntKind.wrap .i64 (((j+1:Nat):Int)-1)=(j:Int):=by rw [wrap_in (by omega) (by omega)]; omega
  refine Ev.step (fun k=>by rw [slices_insertionSortOrdered_string.l2]) ?_
  rw [hj1]
  simp (disch:=omega) only [cpos,Int.toNat_natCast,g1,g2]
  refine Ev.bind0 (less_str _ _) ?_
  unfold posW
  rw [getD_at (show j<out.length by omega)]
  cases ltS x out[j] with
  | false=>exact Ev.pure _
  | true=>
   simp (disch:=omega) only [cond_true,cpos,List.length_set,atW_swap x out rest j (by omega)]
   exact ih
theorem ss_l0 (keys:List ByteArray) (hk:keys.length<=100) :
  ∀ n i:Nat,i+n=keys.length->∀ out:List ByteArray,out.length=i->Ev (fun k=>slices_insertionSortOrdered_string.l0 k (out++keys.drop i) 0 keys.length i) ((keys.drop i).foldl insW out)
 | 0,i,h,out,ho=>by
  refine Ev.step (fun k=>by rw [slices_insertionSortOrdered_string.l0]) ?_
  simp (disch:=omega) only [cneg]
  rw [List.drop_eq_nil_of_le (by omega),List.append_nil]
  exact Ev.pure _
 | n+1,i,h,out,ho=>by
  have hi:i<keys.length:=by omega
  have hd:keys.drop i=keys[i] :: keys.drop (i+1):=List.drop_eq_getElem_cons hi
  have h2:=ss_l2 keys[i] out (keys.drop (i+1)) keys.length i (by rw [List.length_drop]; omega) out.length (Nat.le_refl _)
  have e1:atW keys[i] out (keys.drop (i+1)) out.length=out++keys.drop i:=by unfold atW; rw [List.take_length,List.drop_length,hd]; rfl
  have e2:atW keys[i] out (keys.drop (i+1)) (posW keys[i] out out.length)=insW out keys[i]++keys.drop (i+1):=by unfold atW insW; rw [List.append_assoc]; rfl
  rw [e1,e2,ho] at h2
  have ih:=ss_l0 keys hk n (i+1) (by omega) (insW out keys[i]) (by rw [insW_len,ho])
  refine Ev.step (fun k=>by rw [slices_insertionSortOrdered_string.l0]) ?_
  simp (disch:=omega) only [cpos]
  refine Ev.bind h2 ?_
  simp (disch:=omega) only [wrap_in,ho]
  have e3:(keys.drop i).foldl insW out=(keys.drop (i+1)).foldl insW (insW out keys[i]):=by rw [hd,List.foldl_cons]
  rw [e3]
  exact ih
theorem len_someW:∀ n:Fin 13,(bits_Len.F (IntKind.wrap .u64 (n.val:Int))).isSome=true:=by decide +kernel
theorem lenBitsW {n:Nat} (h:n<=12):∃ r,bits_Len.F (IntKind.wrap .u64 (n:Int))=some r:=by
 have:=len_someW ⟨n,by omega⟩
 exact Option.isSome_iff_exists.1 this
theorem sortS_ev (g:List ByteArray) (hg:g.length<=12):∃ s,Ev (fun k=>slices_Sort_string.F k g) s/\WS s/\s.length=g.length/\∀ y,y ∈ s ↔ y ∈ g:=by
 obtain ⟨f1,f2,f3⟩:=foldW g [] .nil
 have f2:(g.foldl insW []).length=g.length:=by rw [f2]; simp
 have h:Ev (fun k=>slices_insertionSortOrdered_string.l0 k g 0 g.length (1:Nat)) (g.foldl insW []):=by
  cases g with
  | nil=>
   refine Ev.step (fun k=>by rw [slices_insertionSortOrdered_string.l0]) ?_
   simp (disch:=simp) only [cneg]
   exact Ev.pure _
  | cons x r=>exact ss_l0 (x :: r) (by simp at hg ⊢; omega) r.length 1 (by simp; omega) [x] rfl
 refine ⟨_,?_,f1,f2,fun y=>by rw [f3]; simp⟩
 obtain ⟨r,hr⟩:=lenBitsW (n:=g.length) hg
 unfold slices_Sort_string.F
 refine Ev.bind0 hr (Ev.bind (a:=g.foldl insW []) ?_ ?_)
 ·unfold slices_pdqsortOrdered_string.F
  refine Ev.bind (a:=g.foldl insW []) (Ev.step (fun k=>by rw [slices_pdqsortOrdered_string.l0]) ?_) ?_
  ·have hle:IntKind.wrap .i64 ((g.length:Int)-0)<=12:=by rw [wrap_in (by omega) (by omega)]; omega
   simp (disch:=first | exact hle | omega) only [cpos]
   refine Ev.bind (a:=g.foldl insW []) ?_ (Ev.pure _)
   unfold slices_insertionSortOrdered_string.F
   refine Ev.bind (f:=fun k=>slices_insertionSortOrdered_string.l0 k g 0 (g.length:Int) (IntKind.wrap .i64 (0+1))) (a:=g.foldl insW []) h ?_
   rw [f2,Nat.beq_refl]
   exact Ev.pure _
  ·rw [f2,Nat.beq_refl]
   exact Ev.pure _
 ·rw [f2,Nat.beq_refl]
  exact Ev.pure _
theorem queryWords_ev (q:Query) (hs:smallQ q):∃ r b,Ev (fun k=>spec_QueryWords.F k q) (r,b)/\Ev (fun k=>impl_QueryWords_t.F k q) (r,b)/\r.length<=1000:=by
 have a1:=specGood_ev q hs
 have a2:=implGood_ev q hs
 unfold spec_QueryWords.F impl_QueryWords_t.F
 cases hB:goodQ q with
 | false=>
  rw [hB] at a1 a2
  exact ⟨[],false,Ev.bind a1 (Ev.pure _),Ev.bind a2 (Ev.pure _),by simp⟩
 | true=>
  rw [hB] at a1 a2
  unfold goodQ at hB
  rw [Bool.and_eq_true,decide_eq_true_eq] at hB
  obtain ⟨hf,hz⟩:=hB
  have hW:=wlQ_len q true
  have w1:=spec_words q hf (by omega) true [] .nil (by simp; omega)
  have w2:=impl_words q (by omega) true
  obtain ⟨k1,k2,k3⟩:=foldP (wlQ q true) [] .nil
  have h8:(wlQ q true).length<=12:=words8 q hf (by omega)
  obtain ⟨s,s1,s2,s3,s4⟩:=sortS_ev (wlQ q true) h8
  obtain ⟨c1,c2⟩:=cmpS_asc s2
  have e:cmpS s=(wlQ q true).foldl putV []:=ascS_eq c1 k1 fun x=>by rw [c2,s4,k3]; simp
  have hx:slices_Compact_string.F s=some (cmpS s):=by
   unfold slices_Compact_string.F xCompact
   rw [Nat.ble_eq_true_of_le (by omega)]; rfl
  refine ⟨(wlQ q true).foldl putV [],true,Ev.bind a1 (Ev.bind w1 (Ev.pure _)),Ev.bind a2 (Ev.bind w2 (Ev.bind s1 (Ev.bind0 hx ((Ev.pure _).eq (by rw [e]))))),by simp at k2; omega⟩
theorem queryWords_law (q:Query) (hw:WF .query q):∃ k,laws_FnExactQueryWords.F k q=some true:=by
 refine Ev.get (?_:Ev (fun k=>laws_FnExactQueryWords.F k q) true)
 unfold laws_FnExactQueryWords.F
 refine Ev.bind (szQ_ev q hw 1048576 (by omega) (by omega)) ?_
 by_cases c:(1048576:Int)-totQ q<0
 ·rw [if_pos c]
  exact Ev.pure _
 rw [if_neg c]
 simp (disch:=omega) only [cneg]
 have hs:smallQ q:=by unfold smallQ; omega
 obtain ⟨v,b,v1,v2,v3⟩:=queryWords_ev q hs
 have tl:=toQp_ev q hs
 have eqv:=eqS_ev v (by omega)
 refine Ev.bind tl (Ev.bind v1 (Ev.bind tl (Ev.bind v2 (Ev.bind eqv ?_))))
 simp only [beq_self_eq_true,Bool.not_true,cond_false]
 refine Ev.bind tl (Ev.bind (eqQ_ev q hs) ?_)
 simp only [Bool.not_true,cond_false]
 obtain ⟨m,m1,m2⟩:=dmQ_ev q hs
 refine Ev.bind m2 ?_
 simp (disch:=omega) only [cneg]
 refine Ev.bind eqv ?_
 simp only [beq_self_eq_true,Bool.not_true,cond_false]
 refine Ev.bind (mark_ev v (by omega)) (Ev.bind (held_ev v.length (by omega)) ?_)
 simp (disch:=omega) only [cneg,cbeq]
 refine Ev.bind tl (Ev.bind v2 (Ev.bind eqv ?_))
 simp only [beq_self_eq_true,Bool.not_true,cond_false]
 refine Ev.bind (held_ev v.length (by omega)) ?_
 simp (disch:=omega) only [cneg,cbeq]
 exact Ev.pure _
end Go.Proofs.YtkbichbahpnmmaaDoor
end
section
/- The law FnExactQueryWords returns true for every input,the listed package variables being as the program's text lays it: the card. -/
namespace Go.Proofs.YtkbichbahpnmmaaDoor
open Go.Gx Go.RowKit Go.ChangeShapes Go.WideShapes Go.ChangeAt
def fnExactQueryWords_ss0:List (List UInt8):=[[97,117,116,104,111,114,115],[101,100,105,116,111,114,115],[116,105,116,108,101],[99,111,110,116,97,105,110,101,114],[112,117,98,108,105,115,104,101,114],[100,97,116,101],[118,111,108,117,109,101],[112,97,103,101,115]]
theorem fnExactQueryWords_own:ownKnob Tryd.prog.godebug=none:=by kernel_rfl
set_option maxRecDepth 100000 in
theorem fnExactQueryWords_contract (H:Type) (enc:TypeId × Value->H) (W:World) (base:Nat) (args:Array Value) (ds gs:List (DataW H)) (before:List MemPlace)
  (hval:∀ (j:Nat) t v,Tryd.f5.params[j]? = some t->args[j]? = some v->Value.okWide Tryd.prog W .any base t v)
  (hW:DataW.Whole enc Tryd.prog Tryd.f5.params.toList Rows.fnExactQueryWordsSpec.vars false W args.toList ds gs before) (hL:laidMetH Tryd.prog Rows.fnExactQueryWordsRow.laid W) (hsh:W.ShapedOpen Tryd.prog) :
  Calls Tryd.prog 5 args W fun e W'=>∃ v,e = .returned v/\Rows.fnExactQueryWordsSpec.post enc Tryd.prog Tryd.f5 false true false false W args v W':=by
 have hgs:∃ g1,gs=[g1]:=by
  obtain ⟨p,q,_,hV,_⟩:=hW
  match gs,hV with
  | [g1],_=>exact ⟨g1,rfl⟩
  | [],hV=>exact hV.elim
  | _ :: _ :: _,⟨_,_,_,_,_,_,_,_,_,_,hV,_⟩=>exact hV.elim
 obtain ⟨g1,rfl⟩:=hgs
 have hds:∃ d1,ds=[d1]:=by
  obtain ⟨p,q,hA,_⟩:=hW
  obtain ⟨_,_,d1,e0,_,_,_,rfl,_,_,h0⟩:=trodAll_cons hA
  obtain ⟨_,rfl,_⟩:=trodAll_nil h0
  exact ⟨d1,rfl⟩
 obtain ⟨d1,rfl⟩:=hds
 have hgl:GlOk envX (fun _=>undef) (Lt W) W:=by
  refine GlOk.mk0 (fun g b h=> ?_) (fun g hg=> ?_)
  ·have h':glT g=some b:=h
   unfold glT at h'
   split at h'
   ·cases h'; exact laid_strs (ss:=fnExactQueryWords_ss0) (name := "loop.example/g00896/impl.fieldWords") (g:=0) (t:=93) (e:=9) (n:=8) 0 (by kernel_rfl) (by kernel_rfl) (by kernel_rfl) (by kernel_rfl) (by kernel_rfl) (by kernel_rfl) (by kernel_rfl) hL (by kernel_rfl)
   ·cases h'
  ·have hg':giT g=true:=hg
   unfold giT at hg'
   split at hg'
   ·obtain ⟨m,hm⟩:=cell_of_shapedOpen_int (P:=Tryd.prog) (g:=1) (t:=3) (zero:=#[.int .i64 0]) hsh (of_decide_eq_true (by kernel_rfl)) (by kernel_rfl) rfl (by kernel_rfl) (by kernel_rfl) (by kernel_rfl)
    exact ⟨World.block_lt_of_cell? _ _ hm,m,hm⟩
   ·cases hg'
 refine law_contract (τs:=[.query]) (r:=.t .bool true) envOk (by kernel_rfl) rfl (by kernel_rfl) (by kernel_rfl) rfl (by kernel_rfl) (by kernel_rfl) (fun t ht=> ?_) rfl (fun x hx=>by
   obtain ⟨k,hk⟩:=queryWords_law x.1 hx.1
   exact laws_FnExactQueryWords.good envOk _ k _ hk) rfl hval hW hgl (fun q hq W' hb=>vars_stay (by kernel_rfl) hb (fun nm hn g t h1 h2=> ?_) hq)
 ·have:t ∈ [24]:=ht
  simp only [List.mem_cons,List.not_mem_nil,or_false] at this
  rcases this with rfl <;> exact ⟨by kernel_rfl,Nat.le_of_ble_eq_true (by kernel_rfl)⟩
 ·have hnm:nm = "loop.example/g00896/impl.fieldWords":= by
   have:nm ∈ ["loop.example/g00896/impl.fieldWords"]:=hn
   simpa using this
  subst hnm
  obtain rfl:g=0:=Option.some.inj (h1.symm.trans (by kernel_rfl:Tryd.prog.globalNamed "loop.example/g00896/impl.fieldWords" = some 0))
  obtain rfl:t=93:=Option.some.inj (h2.symm.trans (by kernel_rfl:(Tryd.prog.globals[0]?).map (·.type)=some 93))
  exact ⟨by kernel_rfl,Nat.le_of_ble_eq_true (by kernel_rfl)⟩
set_option maxRecDepth 100000 in
noncomputable def fnExactQueryWords_world (os:Os):World :=
 { World.holding Tryd.prog os ⟨#[],#[],[]⟩ with heap:=((World.holding Tryd.prog os ⟨#[],#[],[]⟩).heap.modify 0 fun
   | .cells _ t frozen=> .cells #[.string ⟨#[97,117,116,104,111,114,115]⟩,.string ⟨#[101,100,105,116,111,114,115]⟩,.string ⟨#[116,105,116,108,101]⟩,.string ⟨#[99,111,110,116,97,105,110,101,114]⟩,.string ⟨#[112,117,98,108,105,115,104,101,114]⟩,.string ⟨#[100,97,116,101]⟩,.string ⟨#[118,111,108,117,109,101]⟩,.string ⟨#[112,97,103,101,115]⟩] t frozen
   | o=>o) }
theorem fnExactQueryWords_met (os:Os):laidMet Tryd.prog Rows.fnExactQueryWordsRow.laid ((fnExactQueryWords_world os).forCall (fun _ _=>0) ⟨#[],#[.agg #[.int .i64 0,.string ⟨#[]⟩,.string ⟨#[]⟩,.slice none 0 0]],[]⟩).memory :=
 laidMet_of_run' 8 (by kernel_rfl) (by kernel_rfl)
theorem fnExactQueryWords_reads (os:Os) {H:Type} (enc:TypeId × Value->H):∃ places,DataW.whole enc Tryd.prog ((fnExactQueryWords_world os).forCall (fun _ _=>0) ⟨#[],#[.agg #[.int .i64 0,.string ⟨#[]⟩,.string ⟨#[]⟩,.slice none 0 0]],[]⟩).memory Tryd.f5.params.toList Rows.fnExactQueryWordsSpec.vars false #[.agg #[.int .i64 0,.string ⟨#[]⟩,.string ⟨#[]⟩,.slice none 0 0]].toList 8=some ([.agg [.lit (.int .i64 0),.lit (.string []),.lit (.string []),.nil]],[strData fnExactQueryWords_ss0],places) :=
 ⟨[.cell 0 0,.cell 0 1,.cell 0 2,.cell 0 3,.cell 0 4,.cell 0 5,.cell 0 6,.cell 0 7],by kernel_rfl⟩
set_option maxRecDepth 100000 in
theorem fnExactQueryWords_lifted (os:Os) (started:os.Started) (H:Type) (enc:TypeId × Value->H) (F:Stop.Interp) :
  ReturnsInHanded {} Tryd.checked os 5 .any ((OpenSpec.ofChange Rows.fnExactQueryWordsSpec).preRow enc Tryd.prog Tryd.f5 Rows.fnExactQueryWordsRow.domain false Rows.fnExactQueryWordsRow.laid) (((OpenSpec.ofChange Rows.fnExactQueryWordsSpec).at F).post enc Tryd.prog Tryd.f5 false true false false):=by
 obtain ⟨places,hx⟩:=fnExactQueryWords_reads os enc
 refine returnsInHanded_of_row (C:=Tryd.checked) (s:=OpenSpec.ofChange Rows.fnExactQueryWordsSpec) fnExactQueryWords_own started (by kernel_rfl) (by kernel_rfl)
  (witness_row_at (enc:=enc) (C:=Tryd.checked) false (fnExactQueryWords_world os) #[.agg #[.int .i64 0,.string ⟨#[]⟩,.string ⟨#[]⟩,.slice none 0 0]] rfl (by kernel_rfl) (by kernel_rfl) (by kernel_rfl)
   (OpenSpec.preRow_of_cond 8 hx (by kernel_rfl) (fun k hk=>by cases hk) (by kernel_rfl) (fnExactQueryWords_met os))) ?_
 intro W base args ds gs before hval hW _ _ _ hL hsh _
 exact fnExactQueryWords_contract H enc W base args ds gs before hval hW hL hsh
theorem fnExactQueryWords_said:Rows.FnExactQueryWordsSaid :=
 OpenClaim.holds_of_cond 5 Tryd.f5 rfl rfl rfl rfl rfl rfl rfl ⟨rfl,rfl,rfl,rfl,rfl⟩ rfl rfl rfl rfl rfl (by kernel_rfl) (by kernel_rfl) (by kernel_rfl)
  (of_decide_eq_true (by kernel_rfl)) (by unfold Func.isWrapper; first | (rw [if_pos (by decide +kernel)]; kernel_rfl) | (rw [if_neg (by decide +kernel)]; exact ⟨rfl,rfl⟩))
  (fun os started H enc _ F=>by rw [OpenClaim.pre_eq_preRow]; exact fnExactQueryWords_lifted os started H enc F)
theorem fnExactQueryWords_plain (f:FuncId) (fn:Func) (hf:Tryd.pinned.checked.prog.funcNamed "loop.example/g00896/laws.FnExactQueryWords" = some f) (hfn:Tryd.pinned.checked.prog.funcs[f]? = some fn) :
  false=Tryd.pinned.checked.prog.looks []/\∀ (j:Nat) t,fn.params[j]? = some t->Tryd.pinned.checked.prog.wantsStandIn t=false:=by
 obtain rfl:f=5:=(Option.some.inj ((show Tryd.prog.funcNamed "loop.example/g00896/laws.FnExactQueryWords" = some 5 by kernel_rfl).symm.trans hf)).symm
 obtain rfl:fn=Tryd.f5:=(Option.some.inj ((show Tryd.prog.funcs[5]? = some Tryd.f5 by kernel_rfl).symm.trans hfn)).symm
 refine ⟨by kernel_rfl,fun j t ht=> ?_⟩
 have ht':t ∈ [24]:=by simpa using Array.mem_of_getElem? (show (#[24]:Array Nat)[j]? = some t from ht)
 simp only [List.mem_cons,List.not_mem_nil,or_false] at ht'
 rcases ht' with rfl
 ·exact (show Tryd.prog.wantsStandIn 24=false by kernel_rfl)
theorem FnExactQueryWords_holds:Rows.FnExactQueryWordsCardSaid :=
 Claim7.holds_tied_plain_at .later [] _ _ _ _ fnExactQueryWords_said (fun _ h=>by cases h) (by kernel_rfl) (fun _ h=>by cases h) fnExactQueryWords_row_tie rfl ⟨rfl,rfl⟩ (by kernel_rfl) rfl fnExactQueryWords_plain (by kernel_rfl)
#print axioms FnExactQueryWords_holds
end Go.Proofs.YtkbichbahpnmmaaDoor
end
