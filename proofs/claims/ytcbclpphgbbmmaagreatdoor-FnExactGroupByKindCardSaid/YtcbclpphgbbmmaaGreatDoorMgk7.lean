/- Plain laws: bytes,pieces,edges of a text;no function of the program. -/
import Derived.Test.YtcbclpphgbbmmaaGreatDoorMgk6
import Derived.Test.YtcbclpphgbbmmaaGreatDoorMgk4
import Derived.Lib.IndexBytes
import Derived.Lib.IndexLaws
import Derived.Lib.CountLaws
import Derived.Lib.Split
import Derived.Lib.SplitLaws
import Derived.Lib.TrimByte
import Derived.Lib.Join
import Derived.Lib.ItoaNum
set_option linter.unusedVariables false
set_option linter.unusedSimpArgs false
set_option maxRecDepth 100000
section
namespace Go.Proofs.YtcbclpphgbbmmaaGreatDoor
open Go.Gx
def Z81.F (k:Nat)(a0:ByteArray):Option (Bool):=bif (decide ((a0.size:Int)<=40))then((Z45.F k a0).bind λr1=>some r1)else(some false)
def Z81.C (k:Nat):Cal->Option CArm:=λc=>match c with
 |.f 122=>some (.p [.str] _ (λx=>Z45.F k x.1) (λr=>(.t .bool r)))
 |_=>none
theorem Z81.run (k:Nat)(a0:ByteArray):Ql Q0 (Q6 (Z81.C k)) (Q4 10 0 (λ_=>none)) Tryz.f89 [.t .str a0] (Q2 (.t .bool))=Z81.F k a0:=by kernel_rfl
theorem Z81.G (hE:EnvOk Tryz.prog Q0)(pv:Nat->Value)(k:Nat):∀cal A,Z81.C k cal=some A->Q9 Tryz.prog Q0 pv cal A:=by
 intro cal A h
 unfold Z81.C at h
 split at h
 ·cases h;exact λx y hy=>Z45.good hE pv k x.1 hy
 ·cases h
theorem Z81.good (hE:EnvOk Tryz.prog Q0)(pv:Nat->Value)(k:Nat)(a0:ByteArray){y:_}(h:Z81.F k a0=some y):Q8 Tryz.prog Q0 pv (.f 89) (Qa [.str] (a0,())) (.t .bool y):=
 Q7 hE (Z81.G hE pv k) (f:=89) (fn:=Tryz.f89) (by kernel_rfl) rfl (by kernel_rfl) (by kernel_rfl) ((Z81.run k a0).trans h) (λr hr=>Q1 hr)
def Z95.F (k:Nat)(a0:Entry):Option (Bool):=(Z19.F k a0.key).bind λr1=>bif (!r1)then(some false)else((Z127.F a0.kind).bind λr2=>bif (!r2)then(some false)else((Z94.F k a0.authors).bind λr3=>bif (!r3)then(some false)else((Z94.F k a0.editors).bind λr4=>bif (!r4)then(some false)else((Z85.F a0.date).bind λr5=>bif (!r5)then(some false)else((Z62.F a0.volume 0 9999).bind λr6=>bif (!r6)then(some false)else((Z81.F k a0.title).bind λr7=>bif r7 then((Z81.F k a0.container).bind λr8=>bif r8 then((Z81.F k a0.publisher).bind λr9=>bif r9 then((Z81.F k a0.pages).bind λr10=>bif r10 then(bif (Qu a0.cross (⟨#[]⟩:ByteArray))then(some true)else((Z19.F k a0.cross).bind λr11=>bif r11 then(some (!Qu a0.cross a0.key))else(some false)))else(some false))else(some false))else(some false))else(some false)))))))
def Z95.C (k:Nat):Cal->Option CArm:=λc=>match c with
 |.f 84=>some (.p [.str] _ (λx=>Z19.F k x.1) (λr=>(.t .bool r)))
 |.f 85=>some (.p [(.int .i64)] _ (λx=>Z127.F x.1) (λr=>(.t .bool r)))
 |.f 86=>some (.p [(.sl .name)] _ (λx=>Z94.F k x.1) (λr=>(.t .bool r)))
 |.f 87=>some (.p [.date] _ (λx=>Z85.F x.1) (λr=>(.t .bool r)))
 |.f 88=>some (.p [(.int .i64),(.int .i64),(.int .i64)] _ (λx=>Z62.F x.1 x.2.1 x.2.2.1) (λr=>(.t .bool r)))
 |.f 89=>some (.p [.str] _ (λx=>Z81.F k x.1) (λr=>(.t .bool r)))
 |_=>none
theorem Z95.run (k:Nat)(a0:Entry):Ql Q0 (Q6 (Z95.C k)) (Q4 72 0 (λ_=>none)) Tryz.f60 [.t .entry a0] (Q2 (.t .bool))=Z95.F k a0:=by kernel_rfl
theorem Z95.G (hE:EnvOk Tryz.prog Q0)(pv:Nat->Value)(k:Nat):∀cal A,Z95.C k cal=some A->Q9 Tryz.prog Q0 pv cal A:=by
 intro cal A h
 unfold Z95.C at h
 split at h
 ·cases h;exact λx y hy=>Z19.good hE pv k x.1 hy
 ·cases h;exact λx y hy=>Z127.good hE pv x.1 hy
 ·cases h;exact λx y hy=>Z94.good hE pv k x.1 hy
 ·cases h;exact λx y hy=>Z85.good hE pv x.1 hy
 ·cases h;exact λx y hy=>Z62.good hE pv x.1 x.2.1 x.2.2.1 hy
 ·cases h;exact λx y hy=>Z81.good hE pv k x.1 hy
 ·cases h
theorem Z95.good (hE:EnvOk Tryz.prog Q0)(pv:Nat->Value)(k:Nat)(a0:Entry){y:_}(h:Z95.F k a0=some y):Q8 Tryz.prog Q0 pv (.f 60) (Qa [.entry] (a0,())) (.t .bool y):=
 Q7 hE (Z95.G hE pv k) (f:=60) (fn:=Tryz.f60) (by kernel_rfl) rfl (by kernel_rfl) (by kernel_rfl) ((Z95.run k a0).trans h) (λr hr=>Q1 hr)
def Z24.l0:Nat->Library->(List Entry)->Int->Int->Option (Sum Bool Library)
 |0,_,_,_,_=>none
 |k+1,x1,x6,x7,x8=>bif (decide (x8<x7))then(bif decide (0<=x8)then(bif decide (x8<(x6.length:Int))then((Z95.F k (x6.getD (x8:Int).toNat (Qh .entry))).bind λr1=>bif (!r1)then(some (.inl false))else(bif (decide (x8 > 0))then(bif decide (0<=(IntKind.wrap .i64 (x8-1)))then(bif decide ((IntKind.wrap .i64 (x8-1))<(x1.entries.length:Int))then(bif (!ltS ((x1.entries.getD ((IntKind.wrap .i64 (x8-1)):Int).toNat (Qh .entry)).key) ((x6.getD (x8:Int).toNat (Qh .entry)).key))then(some (.inl false))else(Z24.l0 k x1 x6 x7 (IntKind.wrap .i64 (x8+1))))else none)else none)else(Z24.l0 k x1 x6 x7 (IntKind.wrap .i64 (x8+1)))))else none)else none)else(some (.inr x1))
def Z24.F (k:Nat)(a0:Library):Option (Bool):=(Z24.l0 k a0 a0.entries (a0.entries.length:Int) 0).bind λy2=>match y2 with|.inl z3=>some z3|.inr z3=>some (decide ((z3.entries.length:Int)<=8))
def Z24.C (k:Nat):Cal->Option CArm:=λc=>match c with
 |.f 60=>some (.p [.entry] _ (λx=>Z95.F k x.1) (λr=>(.t .bool r)))
 |_=>none
def Z24.sp0:List Sp:=[.boxT 1 0 .lib,.t 6 (.sl .entry),.t 7 (.int .i64),.t 8 (.int .i64)]
def Z24.sp0_0:List Sp:=[.t 2 .bool]
def Z24.sp0_1:List Sp:=[.boxT 1 0 .lib]
def Z24.A0:LArm:=.two Z24.sp0 Z24.sp0_0 Z24.sp0_1 (Bool) (Library) (λk x=>Z24.l0 k x.1 x.2.1 x.2.2.1 x.2.2.2.1) .ret (.exit 0) (λy=>(y,())) (λx=>x.1) (λy=>(y,())) (λx=>x.1)
def Z24.L:Nat->Option LArm:=λb=>match b with
 |0=>some Z24.A0
 |_=>none
theorem Z24.run (k:Nat)(a0:Library):Ql Q0 (Q6 (Z24.C k)) (Q4 37 k Z24.L) Tryz.f40 [.t .lib a0] (Q2 (.t .bool))=Z24.F k a0:=by kernel_rfl
theorem Z24.step0 (k:Nat)(x1:Library)(x6:List Entry)(x7:Int)(x8:Int):Qp Q0 (Q6 (Z24.C k)) (Q4 37 k Z24.L) 0 (Qi Tryz.f40 0) (Qz 37 Z24.sp0 (x1,x6,x7,x8,())) (Z24.A0.cont 37 k)=Z24.l0 (k+1) x1 x6 x7 x8:=by kernel_rfl
theorem Z24.G (hE:EnvOk Tryz.prog Q0)(pv:Nat->Value)(k:Nat):∀cal A,Z24.C k cal=some A->Q9 Tryz.prog Q0 pv cal A:=by
 intro cal A h
 unfold Z24.C at h
 split at h
 ·cases h;exact λx y hy=>Z95.good hE pv k x.1 hy
 ·cases h
theorem Z24.good (hE:EnvOk Tryz.prog Q0)(pv:Nat->Value)(k:Nat)(a0:Library){y:_}(h:Z24.F k a0=some y):Q8 Tryz.prog Q0 pv (.f 40) (Qa [.lib] (a0,())) (.t .bool y):=
 Qg hE (t:=Z24.C) k (λk _=>Z24.G hE pv k) (f:=40) (fn:=Tryz.f40) (by kernel_rfl) rfl (by kernel_rfl) (by kernel_rfl) (lt:=Z24.L) (by kernel_rfl) (λb A h=>by
  unfold Z24.L at h;split at h
  ·cases h;exact⟨by kernel_rfl,by kernel_rfl,by kernel_rfl,λ_=>rfl,λ_=>rfl,λ_=>rfl⟩
  ·cases h) (λb A h=>by
  unfold Z24.L at h;split at h
  ·cases h;exact λk x=>Z24.step0 k x.1 x.2.1 x.2.2.1 x.2.2.2.1
  ·cases h) ((Z24.run k a0).trans h) (λr hr=>Q1 hr)
def Z29.l0:Nat->(List ByteArray)->Library->(List ByteArray)->Int->Int->Option (Sum Bool Library)
 |0,_,_,_,_,_=>none
 |k+1,x1,x2,x7,x8,x9=>bif (decide (x9<x8))then(bif decide (0<=x9)then(bif decide (x9<(x7.length:Int))then((Z63.F k x2 (x7.getD (x9:Int).toNat (⟨#[]⟩:ByteArray))).bind λr1=>bif (decide (r1<0))then(some (.inl false))else(bif decide (0<=x9)then(bif decide (x9<=(x1.length:Int))then((Z111.F k (x1.take (x9:Int).toNat) (x7.getD (x9:Int).toNat (⟨#[]⟩:ByteArray))).bind λr2=>bif r2 then(some (.inl false))else(Z29.l0 k x1 x2 x7 x8 (IntKind.wrap .i64 (x9+1))))else none)else none))else none)else none)else(some (.inr x2))
def Z29.F (k:Nat)(a0:Library)(a1:List ByteArray):Option (Bool):=(Z29.l0 k a1 a0 a1 (a1.length:Int) 0).bind λy3=>match y3 with|.inl z4=>some z4|.inr z4=>(Z24.F k z4).bind λr5=>some r5
def Z29.C (k:Nat):Cal->Option CArm:=λc=>match c with
 |.f 38=>some (.p [.lib,.str] _ (λx=>Z63.F k x.1 x.2.1) (λr=>(.t (.int .i64) r)))
 |.f 39=>some (.p [(.sl .str),.str] _ (λx=>Z111.F k x.1 x.2.1) (λr=>(.t .bool r)))
 |.f 40=>some (.p [.lib] _ (λx=>Z24.F k x.1) (λr=>(.t .bool r)))
 |_=>none
def Z29.sp0:List Sp:=[.t 1 (.sl .str),.boxT 2 0 .lib,.t 7 (.sl .str),.t 8 (.int .i64),.t 9 (.int .i64)]
def Z29.sp0_0:List Sp:=[.t 4 .bool]
def Z29.sp0_1:List Sp:=[.boxT 2 0 .lib]
def Z29.A0:LArm:=.two Z29.sp0 Z29.sp0_0 Z29.sp0_1 (Bool) (Library) (λk x=>Z29.l0 k x.1 x.2.1 x.2.2.1 x.2.2.2.1 x.2.2.2.2.1) .ret (.exit 0) (λy=>(y,())) (λx=>x.1) (λy=>(y,())) (λx=>x.1)
def Z29.L:Nat->Option LArm:=λb=>match b with
 |0=>some Z29.A0
 |_=>none
theorem Z29.run (k:Nat)(a0:Library)(a1:List ByteArray):Ql Q0 (Q6 (Z29.C k)) (Q4 28 k Z29.L) Tryz.f25 [.t .lib a0,.t (.sl .str) a1] (Q2 (.t .bool))=Z29.F k a0 a1:=by kernel_rfl
theorem Z29.step0 (k:Nat)(x1:List ByteArray)(x2:Library)(x7:List ByteArray)(x8:Int)(x9:Int):Qp Q0 (Q6 (Z29.C k)) (Q4 28 k Z29.L) 0 (Qi Tryz.f25 0) (Qz 28 Z29.sp0 (x1,x2,x7,x8,x9,())) (Z29.A0.cont 28 k)=Z29.l0 (k+1) x1 x2 x7 x8 x9:=by kernel_rfl
theorem Z29.G (hE:EnvOk Tryz.prog Q0)(pv:Nat->Value)(k:Nat):∀cal A,Z29.C k cal=some A->Q9 Tryz.prog Q0 pv cal A:=by
 intro cal A h
 unfold Z29.C at h
 split at h
 ·cases h;exact λx y hy=>Z63.good hE pv k x.1 x.2.1 hy
 ·cases h;exact λx y hy=>Z111.good hE pv k x.1 x.2.1 hy
 ·cases h;exact λx y hy=>Z24.good hE pv k x.1 hy
 ·cases h
theorem Z29.good (hE:EnvOk Tryz.prog Q0)(pv:Nat->Value)(k:Nat)(a0:Library)(a1:List ByteArray){y:_}(h:Z29.F k a0 a1=some y):Q8 Tryz.prog Q0 pv (.f 25) (Qa [.lib,(.sl .str)] (a0,a1,())) (.t .bool y):=
 Qg hE (t:=Z29.C) k (λk _=>Z29.G hE pv k) (f:=25) (fn:=Tryz.f25) (by kernel_rfl) rfl (by kernel_rfl) (by kernel_rfl) (lt:=Z29.L) (by kernel_rfl) (λb A h=>by
  unfold Z29.L at h;split at h
  ·cases h;exact⟨by kernel_rfl,by kernel_rfl,by kernel_rfl,λ_=>rfl,λ_=>rfl,λ_=>rfl⟩
  ·cases h) (λb A h=>by
  unfold Z29.L at h;split at h
  ·cases h;exact λk x=>Z29.step0 k x.1 x.2.1 x.2.2.1 x.2.2.2.1 x.2.2.2.2.1
  ·cases h) ((Z29.run k a0 a1).trans h) (λr hr=>Q1 hr)
-- NO 26 slices.DeleteFunc[[]string,string]: a parameter's type
-- NO 90 slices.insertionSortCmpFunc[string]: a parameter's type
-- NO 61 slices.pdqsortCmpFunc[string]: a parameter's type
def bits_Len32.C:Cal->Option CArm:=λc=>match c with
 |_=>none
def Z133.F (a0:Int):Option (Int):=bif (decide (a0 ≥ 4294967296))then(bif decide (0<=32)then(bif (decide ((Int.fdiv a0 (2 ^ min (32:Int).toNat (IntKind.bits .u64))) ≥ 65536))then(bif decide (0<=16)then(bif (decide ((Int.fdiv (Int.fdiv a0 (2 ^ min (32:Int).toNat (IntKind.bits .u64))) (2 ^ min (16:Int).toNat (IntKind.bits .u64))) ≥ 256))then(bif decide (0<=8)then(bif decide (0<=(IntKind.wrap .u8 (Int.fdiv (Int.fdiv (Int.fdiv a0 (2 ^ min (32:Int).toNat (IntKind.bits .u64))) (2 ^ min (16:Int).toNat (IntKind.bits .u64))) (2 ^ min (8:Int).toNat (IntKind.bits .u64)))))then(bif decide ((IntKind.wrap .u8 (Int.fdiv (Int.fdiv (Int.fdiv a0 (2 ^ min (32:Int).toNat (IntKind.bits .u64))) (2 ^ min (16:Int).toNat (IntKind.bits .u64))) (2 ^ min (8:Int).toNat (IntKind.bits .u64))))<(YS.size:Int))then(some (IntKind.wrap .i64 ((IntKind.wrap .i64 ((IntKind.wrap .i64 (32+16))+8))+(IntKind.wrap .i64 (bt YS ((IntKind.wrap .u8 (Int.fdiv (Int.fdiv (Int.fdiv a0 (2 ^ min (32:Int).toNat (IntKind.bits .u64))) (2 ^ min (16:Int).toNat (IntKind.bits .u64))) (2 ^ min (8:Int).toNat (IntKind.bits .u64)))):Int).toNat)))))else none)else none)else none)else(bif decide (0<=(IntKind.wrap .u8 (Int.fdiv (Int.fdiv a0 (2 ^ min (32:Int).toNat (IntKind.bits .u64))) (2 ^ min (16:Int).toNat (IntKind.bits .u64)))))then(bif decide ((IntKind.wrap .u8 (Int.fdiv (Int.fdiv a0 (2 ^ min (32:Int).toNat (IntKind.bits .u64))) (2 ^ min (16:Int).toNat (IntKind.bits .u64))))<(YS.size:Int))then(some (IntKind.wrap .i64 ((IntKind.wrap .i64 (32+16))+(IntKind.wrap .i64 (bt YS ((IntKind.wrap .u8 (Int.fdiv (Int.fdiv a0 (2 ^ min (32:Int).toNat (IntKind.bits .u64))) (2 ^ min (16:Int).toNat (IntKind.bits .u64)))):Int).toNat)))))else none)else none))else none)else(bif (decide ((Int.fdiv a0 (2 ^ min (32:Int).toNat (IntKind.bits .u64))) ≥ 256))then(bif decide (0<=8)then(bif decide (0<=(IntKind.wrap .u8 (Int.fdiv (Int.fdiv a0 (2 ^ min (32:Int).toNat (IntKind.bits .u64))) (2 ^ min (8:Int).toNat (IntKind.bits .u64)))))then(bif decide ((IntKind.wrap .u8 (Int.fdiv (Int.fdiv a0 (2 ^ min (32:Int).toNat (IntKind.bits .u64))) (2 ^ min (8:Int).toNat (IntKind.bits .u64))))<(YS.size:Int))then(some (IntKind.wrap .i64 ((IntKind.wrap .i64 (32+8))+(IntKind.wrap .i64 (bt YS ((IntKind.wrap .u8 (Int.fdiv (Int.fdiv a0 (2 ^ min (32:Int).toNat (IntKind.bits .u64))) (2 ^ min (8:Int).toNat (IntKind.bits .u64)))):Int).toNat)))))else none)else none)else none)else(bif decide (0<=(IntKind.wrap .u8 (Int.fdiv a0 (2 ^ min (32:Int).toNat (IntKind.bits .u64)))))then(bif decide ((IntKind.wrap .u8 (Int.fdiv a0 (2 ^ min (32:Int).toNat (IntKind.bits .u64))))<(YS.size:Int))then(some (IntKind.wrap .i64 (32+(IntKind.wrap .i64 (bt YS ((IntKind.wrap .u8 (Int.fdiv a0 (2 ^ min (32:Int).toNat (IntKind.bits .u64)))):Int).toNat)))))else none)else none)))else none)else(bif (decide (a0 ≥ 65536))then(bif decide (0<=16)then(bif (decide ((Int.fdiv a0 (2 ^ min (16:Int).toNat (IntKind.bits .u64))) ≥ 256))then(bif decide (0<=8)then(bif decide (0<=(IntKind.wrap .u8 (Int.fdiv (Int.fdiv a0 (2 ^ min (16:Int).toNat (IntKind.bits .u64))) (2 ^ min (8:Int).toNat (IntKind.bits .u64)))))then(bif decide ((IntKind.wrap .u8 (Int.fdiv (Int.fdiv a0 (2 ^ min (16:Int).toNat (IntKind.bits .u64))) (2 ^ min (8:Int).toNat (IntKind.bits .u64))))<(YS.size:Int))then(some (IntKind.wrap .i64 ((IntKind.wrap .i64 ((IntKind.wrap .i64 (0+16))+8))+(IntKind.wrap .i64 (bt YS ((IntKind.wrap .u8 (Int.fdiv (Int.fdiv a0 (2 ^ min (16:Int).toNat (IntKind.bits .u64))) (2 ^ min (8:Int).toNat (IntKind.bits .u64)))):Int).toNat)))))else none)else none)else none)else(bif decide (0<=(IntKind.wrap .u8 (Int.fdiv a0 (2 ^ min (16:Int).toNat (IntKind.bits .u64)))))then(bif decide ((IntKind.wrap .u8 (Int.fdiv a0 (2 ^ min (16:Int).toNat (IntKind.bits .u64))))<(YS.size:Int))then(some (IntKind.wrap .i64 ((IntKind.wrap .i64 (0+16))+(IntKind.wrap .i64 (bt YS ((IntKind.wrap .u8 (Int.fdiv a0 (2 ^ min (16:Int).toNat (IntKind.bits .u64)))):Int).toNat)))))else none)else none))else none)else(bif (decide (a0 ≥ 256))then(bif decide (0<=8)then(bif decide (0<=(IntKind.wrap .u8 (Int.fdiv a0 (2 ^ min (8:Int).toNat (IntKind.bits .u64)))))then(bif decide ((IntKind.wrap .u8 (Int.fdiv a0 (2 ^ min (8:Int).toNat (IntKind.bits .u64))))<(YS.size:Int))then(some (IntKind.wrap .i64 ((IntKind.wrap .i64 (0+8))+(IntKind.wrap .i64 (bt YS ((IntKind.wrap .u8 (Int.fdiv a0 (2 ^ min (8:Int).toNat (IntKind.bits .u64)))):Int).toNat)))))else none)else none)else none)else(bif decide (0<=(IntKind.wrap .u8 a0))then(bif decide ((IntKind.wrap .u8 a0)<(YS.size:Int))then(some (IntKind.wrap .i64 (0+(IntKind.wrap .i64 (bt YS ((IntKind.wrap .u8 a0):Int).toNat)))))else none)else none)))
def Z133.C:Cal->Option CArm:=λc=>match c with
 |_=>none
theorem Z133.run (a0:Int):Ql Q0 (Q6 Z133.C) (Q4 25 0 (λ_=>none)) Tryz.f99 [.t (.int .u64) a0] (Q2 (.t (.int .i64)))=Z133.F a0:=by kernel_rfl
theorem Z133.G (hE:EnvOk Tryz.prog Q0)(pv:Nat->Value):∀cal A,Z133.C cal=some A->Q9 Tryz.prog Q0 pv cal A:=by
 intro cal A h
 unfold Z133.C at h
 cases h
theorem Z133.good (hE:EnvOk Tryz.prog Q0)(pv:Nat->Value)(a0:Int){y:_}(h:Z133.F a0=some y):Q8 Tryz.prog Q0 pv (.f 99) (Qa [(.int .u64)] (a0,())) (.t (.int .i64) y):=
 Q7 hE (Z133.G hE pv) (f:=99) (fn:=Tryz.f99) (by kernel_rfl) rfl (by kernel_rfl) (by kernel_rfl) ((Z133.run a0).trans h) (λr hr=>Q1 hr)
def Z113.F (a0:Int):Option (Int):=(Z133.F a0).bind λr1=>some r1
def Z113.C:Cal->Option CArm:=λc=>match c with
 |.f 99=>some (.p [(.int .u64)] _ (λx=>Z133.F x.1) (λr=>(.t (.int .i64) r)))
 |_=>none
theorem Z113.run (a0:Int):Ql Q0 (Q6 Z113.C) (Q4 8 0 (λ_=>none)) Tryz.f62 [.t (.int .u64) a0] (Q2 (.t (.int .i64)))=Z113.F a0:=by kernel_rfl
theorem Z113.G (hE:EnvOk Tryz.prog Q0)(pv:Nat->Value):∀cal A,Z113.C cal=some A->Q9 Tryz.prog Q0 pv cal A:=by
 intro cal A h
 unfold Z113.C at h
 split at h
 ·cases h;exact λx y hy=>Z133.good hE pv x.1 hy
 ·cases h
theorem Z113.good (hE:EnvOk Tryz.prog Q0)(pv:Nat->Value)(a0:Int){y:_}(h:Z113.F a0=some y):Q8 Tryz.prog Q0 pv (.f 62) (Qa [(.int .u64)] (a0,())) (.t (.int .i64) y):=
 Q7 hE (Z113.G hE pv) (f:=62) (fn:=Tryz.f62) (by kernel_rfl) rfl (by kernel_rfl) (by kernel_rfl) ((Z113.run a0).trans h) (λr hr=>Q1 hr)
-- NO 42 slices.SortFunc[[]string,string]: a parameter's type
def Z11.l0:Nat->Int->(List Int)->Int->Int->Option (Sum Int Int)
 |0,_,_,_,_=>none
 |k+1,x3,x6,x7,x8=>bif (decide (x8<x7))then(bif decide (0<=x8)then(bif decide (x8<(x6.length:Int))then(bif ((x6.getD (x8:Int).toNat 0) != x3)then(some (.inl (x6.getD (x8:Int).toNat 0)))else(Z11.l0 k x3 x6 x7 (IntKind.wrap .i64 (x8+1))))else none)else none)else(some (.inr x3))
def Z11.F (k:Nat)(a0:List Int):Option (Int):=(Z11.l0 k 0 a0 (a0.length:Int) 0).bind λy1=>match y1 with|.inl z2=>some z2|.inr z2=>some z2
def Z11.C (k:Nat):Cal->Option CArm:=λc=>match c with
 |_=>none
def Z11.sp0:List Sp:=[.t 3 (.int .i64),.t 6 (.sl (.int .i64)),.t 7 (.int .i64),.t 8 (.int .i64)]
def Z11.sp0_0:List Sp:=[.t 2 (.int .i64)]
def Z11.sp0_1:List Sp:=[.t 3 (.int .i64)]
def Z11.A0:LArm:=.two Z11.sp0 Z11.sp0_0 Z11.sp0_1 (Int) (Int) (λk x=>Z11.l0 k x.1 x.2.1 x.2.2.1 x.2.2.2.1) .ret (.exit 0) (λy=>(y,())) (λx=>x.1) (λy=>(y,())) (λx=>x.1)
def Z11.L:Nat->Option LArm:=λb=>match b with
 |0=>some Z11.A0
 |_=>none
theorem Z11.run (k:Nat)(a0:List Int):Ql Q0 (Q6 (Z11.C k)) (Q4 18 k Z11.L) Tryz.f63 [.t (.sl (.int .i64)) a0] (Q2 (.t (.int .i64)))=Z11.F k a0:=by kernel_rfl
theorem Z11.step0 (k:Nat)(x3:Int)(x6:List Int)(x7:Int)(x8:Int):Qp Q0 (Q6 (Z11.C k)) (Q4 18 k Z11.L) 0 (Qi Tryz.f63 0) (Qz 18 Z11.sp0 (x3,x6,x7,x8,())) (Z11.A0.cont 18 k)=Z11.l0 (k+1) x3 x6 x7 x8:=by kernel_rfl
theorem Z11.G (hE:EnvOk Tryz.prog Q0)(pv:Nat->Value)(k:Nat):∀cal A,Z11.C k cal=some A->Q9 Tryz.prog Q0 pv cal A:=by
 intro cal A h
 unfold Z11.C at h
 cases h
theorem Z11.good (hE:EnvOk Tryz.prog Q0)(pv:Nat->Value)(k:Nat)(a0:List Int){y:_}(h:Z11.F k a0=some y):Q8 Tryz.prog Q0 pv (.f 63) (Qa [(.sl (.int .i64))] (a0,())) (.t (.int .i64) y):=
 Qg hE (t:=Z11.C) k (λk _=>Z11.G hE pv k) (f:=63) (fn:=Tryz.f63) (by kernel_rfl) rfl (by kernel_rfl) (by kernel_rfl) (lt:=Z11.L) (by kernel_rfl) (λb A h=>by
  unfold Z11.L at h;split at h
  ·cases h;exact⟨by kernel_rfl,by kernel_rfl,by kernel_rfl,λ_=>rfl,λ_=>rfl,λ_=>rfl⟩
  ·cases h) (λb A h=>by
  unfold Z11.L at h;split at h
  ·cases h;exact λk x=>Z11.step0 k x.1 x.2.1 x.2.2.1 x.2.2.2.1
  ·cases h) ((Z11.run k a0).trans h) (λr hr=>Q1 hr)
-- NO 64 slices.CompareFunc[[]loop.example/g00896/impl.Name,[]loop.example/g00896/impl.Name,loop.example/g00896/impl.Name,loop.example/g00896/impl.Name]: a parameter's type
def Z96.F (a0:Entry):Option (List Name):=bif (decide ((a0.authors.length:Int) > 0))then(some a0.authors)else(some a0.editors)
def Z96.C:Cal->Option CArm:=λc=>match c with
 |_=>none
theorem Z96.run (a0:Entry):Ql Q0 (Q6 Z96.C) (Q4 11 0 (λ_=>none)) Tryz.f65 [.t .entry a0] (Q2 (.t (.sl .name)))=Z96.F a0:=by kernel_rfl
theorem Z96.G (hE:EnvOk Tryz.prog Q0)(pv:Nat->Value):∀cal A,Z96.C cal=some A->Q9 Tryz.prog Q0 pv cal A:=by
 intro cal A h
 unfold Z96.C at h
 cases h
theorem Z96.good (hE:EnvOk Tryz.prog Q0)(pv:Nat->Value)(a0:Entry){y:_}(h:Z96.F a0=some y):Q8 Tryz.prog Q0 pv (.f 65) (Qa [.entry] (a0,())) (.t (.sl .name) y):=
 Q7 hE (Z96.G hE pv) (f:=65) (fn:=Tryz.f65) (by kernel_rfl) rfl (by kernel_rfl) (by kernel_rfl) ((Z96.run a0).trans h) (λr hr=>Q1 hr)
def Z114.F (a0:ByteArray)(a1:ByteArray):Option (Int):=Q4y a0 a1
theorem Z114.good (hE:EnvOk Tryz.prog Q0)(pv:Nat->Value)(a0:ByteArray)(a1:ByteArray){y:_}(h:Z114.F a0 a1=some y):Q8 Tryz.prog Q0 pv (.f 71) (Qa [.str,.str] (a0,a1,())) (.t (.int .i64) y):=
 Q4z (fn:=Tryz.f71) (by kernel_rfl) rfl (by kernel_rfl) Tryz.strings_Compare h
def Z8.l0:Nat->(List Int)->Int->Int->Option ((List Int))
 |0,_,_,_=>none
 |k+1,x3,x9,x10=>bif (decide (x10<x9))then(bif decide (0<=x10)then(bif decide (x10<(x3.length:Int))then((Z68.F (x3.getD ((x10:Int).toNat) 0)).bind λr1=>bif r1 then(bif decide (0<=x10)then(bif decide (x10<(x3.length:Int))then(Z8.l0 k (x3.set ((x10:Int).toNat) (IntKind.wrap .u8 ((IntKind.wrap .u8 ((x3.getD ((x10:Int).toNat) 0)+97))-65))) x9 (IntKind.wrap .i64 (x10+1)))else none)else none)else(Z8.l0 k x3 x9 (IntKind.wrap .i64 (x10+1))))else none)else none)else(some x3)
def Z8.F (k:Nat)(a0:ByteArray):Option (ByteArray):=bif Nat.ble a0.size 9223372036854775807 then((Z8.l0 k (Qf a0) ((Qf a0).length:Int) 0).bind λy2=>some (XC y2))else none
def Z8.C (k:Nat):Cal->Option CArm:=λc=>match c with
 |.f 128=>some (.p [(.int .u8)] _ (λx=>Z68.F x.1) (λr=>(.t .bool r)))
 |_=>none
def Z8.sp0:List Sp:=[.own 3 1028 5 (.int .u8) false false,.con 8 (.own 1028),.t 9 (.int .i64),.t 10 (.int .i64)]
def Z8.sp0_0:List Sp:=[.own 3 1028 5 (.int .u8) false false]
def Z8.A0:LArm:=.one Z8.sp0 Z8.sp0_0 ((List Int)) (λk x=>Z8.l0 k x.1 x.2.2.1 x.2.2.2.1) (.exit 0) (λy=>(y,())) (λx=>x.1)
def Z8.L:Nat->Option LArm:=λb=>match b with
 |0=>some Z8.A0
 |_=>none
theorem Z8.run (k:Nat)(a0:ByteArray):Ql Q0 (Q6 (Z8.C k)) (Q4 26 k Z8.L) Tryz.f100 [.t .str a0] (Q2 (.t .str))=Z8.F k a0:=by kernel_rfl
theorem Z8.step0 (k:Nat)(x3:List Int)(x9:Int)(x10:Int):Qp Q0 (Q6 (Z8.C k)) (Q4 26 k Z8.L) 0 (Qi Tryz.f100 0) (Qz 26 Z8.sp0 (x3,(),x9,x10,())) (Z8.A0.cont 26 k)=Z8.l0 (k+1) x3 x9 x10:=by kernel_rfl
theorem Z8.G (hE:EnvOk Tryz.prog Q0)(pv:Nat->Value)(k:Nat):∀cal A,Z8.C k cal=some A->Q9 Tryz.prog Q0 pv cal A:=by
 intro cal A h
 unfold Z8.C at h
 split at h
 ·cases h;exact λx y hy=>Z68.good hE pv x.1 hy
 ·cases h
theorem Z8.good (hE:EnvOk Tryz.prog Q0)(pv:Nat->Value)(k:Nat)(a0:ByteArray){y:_}(h:Z8.F k a0=some y):Q8 Tryz.prog Q0 pv (.f 100) (Qa [.str] (a0,())) (.t .str y):=
 Qg hE (t:=Z8.C) k (λk _=>Z8.G hE pv k) (f:=100) (fn:=Tryz.f100) (by kernel_rfl) rfl (by kernel_rfl) (by kernel_rfl) (lt:=Z8.L) (by kernel_rfl) (λb A h=>by
  unfold Z8.L at h;split at h
  ·cases h;exact⟨by kernel_rfl,by kernel_rfl,λ_=>rfl,λ_=>rfl⟩
  ·cases h) (λb A h=>by
  unfold Z8.L at h;split at h
  ·cases h;exact λk x=>Z8.step0 k x.1 x.2.2.1 x.2.2.2.1
  ·cases h) ((Z8.run k a0).trans h) (λr hr=>Q1 hr)
def Z134.F (a0:List ByteArray)(a1:ByteArray):Option (ByteArray):=Q4x a0 a1
theorem Z134.good (hE:EnvOk Tryz.prog Q0)(pv:Nat->Value)(a0:List ByteArray)(a1:ByteArray){y:_}(h:Z134.F a0 a1=some y):Q8 Tryz.prog Q0 pv (.f 130) (Qa [(.sl .str),.str] (a0,a1,())) (.t .str y):=
 Q9I (fn:=Tryz.f130) (by kernel_rfl) rfl (by kernel_rfl) Tryz.strings_Join_none Tryz.strings_Join h
def Z77.F (a0:ByteArray):Option (Bool):=some (Qu a0 (⟨#[]⟩:ByteArray))
def Z77.C:Cal->Option CArm:=λc=>match c with
 |_=>none
theorem Z77.run (a0:ByteArray):Ql Q0 (Q6 Z77.C) (Q4 5 0 (λ_=>none)) Tryz.f145 [.t .str a0] (Q2 (.t .bool))=Z77.F a0:=by kernel_rfl
theorem Z77.G (hE:EnvOk Tryz.prog Q0)(pv:Nat->Value):∀cal A,Z77.C cal=some A->Q9 Tryz.prog Q0 pv cal A:=by
 intro cal A h
 unfold Z77.C at h
 cases h
theorem Z77.good (hE:EnvOk Tryz.prog Q0)(pv:Nat->Value)(a0:ByteArray){y:_}(h:Z77.F a0=some y):Q8 Tryz.prog Q0 pv (.f 145) (Qa [.str] (a0,())) (.t .bool y):=
 Q7 hE (Z77.G hE pv) (f:=145) (fn:=Tryz.f145) (by kernel_rfl) rfl (by kernel_rfl) (by kernel_rfl) ((Z77.run a0).trans h) (λr hr=>Q1 hr)
def Z52.l0:Nat->(List ByteArray)->Int->Int->Option (Sum Int Unit)
 |0,_,_,_=>none
 |k+1,x0,x7,x8=>bif (decide (x8<x7))then(bif decide (0<=x8)then(bif decide (x8<(x0.length:Int))then((Z77.F (x0.getD (x8:Int).toNat (⟨#[]⟩:ByteArray))).bind λr1=>bif r1 then(some (.inl x8))else(Z52.l0 k x0 x7 (IntKind.wrap .i64 (x8+1))))else none)else none)else(some (.inr ()))
def Z52.F (k:Nat)(a0:List ByteArray):Option (Int):=(Z52.l0 k a0 (a0.length:Int) 0).bind λy2=>match y2 with|.inl z3=>some z3|.inr z3=>some (-1)
def Z52.C (k:Nat):Cal->Option CArm:=λc=>match c with
 |.f 145=>some (.p [.str] _ (λx=>Z77.F x.1) (λr=>(.t .bool r)))
 |_=>none
def Z52.sp0:List Sp:=[.t 0 (.sl .str),.con 1 (.clo 145),.t 7 (.int .i64),.t 8 (.int .i64)]
def Z52.sp0_0:List Sp:=[.t 4 (.int .i64)]
def Z52.sp0_1:List Sp:=[]
def Z52.A0:LArm:=.two Z52.sp0 Z52.sp0_0 Z52.sp0_1 (Int) (Unit) (λk x=>Z52.l0 k x.1 x.2.2.1 x.2.2.2.1) .ret (.exit 0) (λy=>(y,())) (λx=>x.1) (λy=>()) (λx=>())
def Z52.L:Nat->Option LArm:=λb=>match b with
 |0=>some Z52.A0
 |_=>none
theorem Z52.run (k:Nat)(a0:List ByteArray):Ql Q0 (Q6 (Z52.C k)) (Q4 19 k Z52.L) Tryz.f41 [.t (.sl .str) a0,.clo 145 []] (Q2 (.t (.int .i64)))=Z52.F k a0:=by kernel_rfl
theorem Z52.step0 (k:Nat)(x0:List ByteArray)(x7:Int)(x8:Int):Qp Q0 (Q6 (Z52.C k)) (Q4 19 k Z52.L) 0 (Qi Tryz.f41 0) (Qz 19 Z52.sp0 (x0,(),x7,x8,())) (Z52.A0.cont 19 k)=Z52.l0 (k+1) x0 x7 x8:=by kernel_rfl
theorem Z52.G (hE:EnvOk Tryz.prog Q0)(pv:Nat->Value)(k:Nat):∀cal A,Z52.C k cal=some A->Q9 Tryz.prog Q0 pv cal A:=by
 intro cal A h
 unfold Z52.C at h
 split at h
 ·cases h;exact λx y hy=>Z77.good hE pv x.1 hy
 ·cases h
theorem Z52.good (hE:EnvOk Tryz.prog Q0)(pv:Nat->Value)(k:Nat)(a0:List ByteArray){y:_}(h:Z52.F k a0=some y):Q8 Tryz.prog Q0 pv (.f 41) (JM [.t (.sl .str),.clo 145 []] (a0,(()),())) (.t (.int .i64) y):=
 Qg hE (t:=Z52.C) k (λk _=>Z52.G hE pv k) (f:=41) (fn:=Tryz.f41) (by kernel_rfl) rfl (by kernel_rfl) (by kernel_rfl) (lt:=Z52.L) (by kernel_rfl) (λb A h=>by
  unfold Z52.L at h;split at h
  ·cases h;exact⟨by kernel_rfl,by kernel_rfl,by kernel_rfl,λ_=>rfl,λ_=>rfl,λ_=>rfl⟩
  ·cases h) (λb A h=>by
  unfold Z52.L at h;split at h
  ·cases h;exact λk x=>Z52.step0 k x.1 x.2.2.1 x.2.2.2.1
  ·cases h) ((Z52.run k a0).trans h) (λr hr=>Q1 hr)
def Z59.l0:Nat->(List ByteArray)->Int->Int->Option ((List ByteArray)×Int)
 |0,_,_,_=>none
 |k+1,x0,x5,x6=>bif (decide (x6<(x0.length:Int)))then(bif decide (0<=x6)then(bif decide (x6<(x0.length:Int))then((Z77.F (x0.getD ((x6:Int).toNat) (⟨#[]⟩:ByteArray))).bind λr2=>bif (!r2)then(bif decide (0<=x5)then(bif decide (x5<(x0.length:Int))then(Z59.l0 k (x0.set ((x5:Int).toNat) (x0.getD ((x6:Int).toNat) (⟨#[]⟩:ByteArray))) (IntKind.wrap .i64 (x5+1)) (IntKind.wrap .i64 (x6+1)))else none)else none)else(Z59.l0 k x0 x5 (IntKind.wrap .i64 (x6+1))))else none)else none)else(some (x0,x5))
def Z59.F (k:Nat)(a0:List ByteArray):Option (List ByteArray):=(Z52.F k a0).bind λr1=>bif (r1==(-1))then(some a0)else((Z59.l0 k a0 r1 (IntKind.wrap .i64 (r1+1))).bind λy3=>bif decide (0<=y3.2)then(bif decide (y3.2<=(y3.1.length:Int))then(bif decide (0<=y3.2)then(bif decide (y3.2<=((y3.1.take ((y3.2:Int).toNat)++List.replicate (y3.1.length-((y3.2:Int).toNat)) (⟨#[]⟩:ByteArray)).length:Int))then(some ((y3.1.take ((y3.2:Int).toNat)++List.replicate (y3.1.length-((y3.2:Int).toNat)) (⟨#[]⟩:ByteArray)).take (y3.2:Int).toNat))else none)else none)else none)else none)
def Z59.C (k:Nat):Cal->Option CArm:=λc=>match c with
 |.f 41=>some (.q [.t (.sl .str),.clo 145 []] _ (λx=>Z52.F k x.1) (λr=>(.t (.int .i64) r)))
 |.f 145=>some (.p [.str] _ (λx=>Z77.F x.1) (λr=>(.t .bool r)))
 |_=>none
def Z59.sp0:List Sp:=[.own 0 1099511627777 9 .str false true,.con 1 (.clo 145),.t 5 (.int .i64),.t 6 (.int .i64)]
def Z59.sp0_0:List Sp:=[.own 0 1099511627777 9 .str false true,.t 5 (.int .i64)]
def Z59.A0:LArm:=.one Z59.sp0 Z59.sp0_0 ((List ByteArray)×Int) (λk x=>Z59.l0 k x.1 x.2.2.1 x.2.2.2.1) (.exit 0) (λy=>(y.1,y.2,())) (λx=>(x.1,x.2.1))
def Z59.L:Nat->Option LArm:=λb=>match b with
 |0=>some Z59.A0
 |_=>none
theorem Z59.run (k:Nat)(a0:List ByteArray):G2 Q0 (Q6 (Z59.C k)) (Q4 42 k Z59.L) Tryz.f26 KW (.fr 9 .str a0) [.clo 145 []] (Q0f 9 .str)=Z59.F k a0:=by kernel_rfl
theorem Z59.step0 (k:Nat)(x0:List ByteArray)(x5:Int)(x6:Int):Qp Q0 (Q6 (Z59.C k)) (Q4 42 k Z59.L) 0 (Qi Tryz.f26 0) (Qz 42 Z59.sp0 (x0,(),x5,x6,())) (Z59.A0.cont 42 k)=Z59.l0 (k+1) x0 x5 x6:=by kernel_rfl
theorem Z59.G (hE:EnvOk Tryz.prog Q0)(pv:Nat->Value)(k:Nat):∀cal A,Z59.C k cal=some A->Q9 Tryz.prog Q0 pv cal A:=by
 intro cal A h
 unfold Z59.C at h
 split at h
 ·cases h;exact λx y hy=>Z52.good hE pv k x.1 hy
 ·cases h;exact λx y hy=>Z77.good hE pv x.1 hy
 ·cases h
theorem Z59.good (hE:EnvOk Tryz.prog Q0)(pv:Nat->Value)(k:Nat)(a0:List ByteArray){y:_}(h:Z59.F k a0=some y):Jb Tryz.prog Q0 pv 26 (.fr 9 .str a0) (JM [.clo 145 []] ((()),())) (.mov 9 .str y):=
 YF hE (t:=Z59.C) k (λk _=>Z59.G hE pv k) (f:=26) (fn:=Tryz.f26) (by kernel_rfl) rfl (by kernel_rfl) (.inr rfl) (by kernel_rfl) (lt:=Z59.L) (by kernel_rfl) (λb A h=>by
  unfold Z59.L at h;split at h
  ·cases h;exact⟨by kernel_rfl,by kernel_rfl,λ_=>rfl,λ_=>rfl⟩
  ·cases h) (λb A h=>by
  unfold Z59.L at h;split at h
  ·cases h;exact λk x=>Z59.step0 k x.1 x.2.2.1 x.2.2.2.1
  ·cases h) ((Z59.run k a0).trans h) (λr hr=>Q19 hr)
def Z82.F (k:Nat)(a0:List ByteArray):Option (ByteArray):=(Z59.F k a0).bind λr1=>(Z134.F r1 (⟨#[32]⟩:ByteArray)).bind λr2=>some r2
def Z82.C (k:Nat):Cal->Option CArm:=λc=>match c with
 |.f 26=>some (.mq (.fr 9 .str) [.clo 145 []] _ (λx0 x=>Z59.F k x0) (λr=>.mov 9 .str r))
 |.f 130=>some (.p [(.sl .str),.str] _ (λx=>Z134.F x.1 x.2.1) (λr=>(.t .str r)))
 |_=>none
theorem Z82.run (k:Nat)(a0:List ByteArray):G2 Q0 (Q6 (Z82.C k)) (Q4 6 0 (λ_=>none)) Tryz.f129 KW (.fr 9 .str a0) [] (Q3f .str)=Z82.F k a0:=by kernel_rfl
theorem Z82.G (hE:EnvOk Tryz.prog Q0)(pv:Nat->Value)(k:Nat):∀cal A,Z82.C k cal=some A->Q9 Tryz.prog Q0 pv cal A:=by
 intro cal A h
 unfold Z82.C at h
 split at h
 ·cases h;exact⟨_,rfl,λx0 x y hy=>Z59.good hE pv k x0 hy⟩
 ·cases h;exact λx y hy=>Z134.good hE pv x.1 x.2.1 hy
 ·cases h
theorem Z82.good (hE:EnvOk Tryz.prog Q0)(pv:Nat->Value)(k:Nat)(a0:List ByteArray){y:_}(h:Z82.F k a0=some y):Jb Tryz.prog Q0 pv 129 (.fr 9 .str a0) (Qa [] (())) (.pc false .str y):=
 Q1b hE (Z82.G hE pv k) (f:=129) (fn:=Tryz.f129) (by kernel_rfl) rfl (by kernel_rfl) (.inr rfl) (by kernel_rfl) ((Z82.run k a0).trans h) (λr hr=>Q5J hr)
def Z97.F (k:Nat)(a0:Name):Option (ByteArray):=(Z134.F a0.given (⟨#[32]⟩:ByteArray)).bind λr1=>(Z82.F k ([r1,a0.particle,a0.family,a0.suffix]:List ByteArray)).bind λr2=>some r2
def Z97.C (k:Nat):Cal->Option CArm:=λc=>match c with
 |.f 130=>some (.p [(.sl .str),.str] _ (λx=>Z134.F x.1 x.2.1) (λr=>(.t .str r)))
 |.f 129=>some (.m (.fr 9 .str) [] _ (λx0 x=>Z82.F k x0) (λr=>.pc false .str r))
 |_=>none
theorem Z97.run (k:Nat)(a0:Name):Ql Q0 (Q6 (Z97.C k)) (Q4 14 0 (λ_=>none)) Tryz.f101 [.t .name a0] (Q2 (.t .str))=Z97.F k a0:=by kernel_rfl
theorem Z97.G (hE:EnvOk Tryz.prog Q0)(pv:Nat->Value)(k:Nat):∀cal A,Z97.C k cal=some A->Q9 Tryz.prog Q0 pv cal A:=by
 intro cal A h
 unfold Z97.C at h
 split at h
 ·cases h;exact λx y hy=>Z134.good hE pv x.1 x.2.1 hy
 ·cases h;exact⟨_,rfl,λx0 x y hy=>Z82.good hE pv k x0 hy⟩
 ·cases h
theorem Z97.good (hE:EnvOk Tryz.prog Q0)(pv:Nat->Value)(k:Nat)(a0:Name){y:_}(h:Z97.F k a0=some y):Q8 Tryz.prog Q0 pv (.f 101) (Qa [.name] (a0,())) (.t .str y):=
 Q7 hE (Z97.G hE pv k) (f:=101) (fn:=Tryz.f101) (by kernel_rfl) rfl (by kernel_rfl) (by kernel_rfl) ((Z97.run k a0).trans h) (λr hr=>Q1 hr)
def Z98.F (k:Nat)(a0:Name):Option (ByteArray):=(Z82.F k ([a0.particle,a0.family]:List ByteArray)).bind λr1=>bif (decide ((a0.given.length:Int) > 0))then((Z134.F a0.given (⟨#[32]⟩:ByteArray)).bind λr2=>bif Nat.ble ((⟨#[44,32]⟩:ByteArray).size+r2.size) 9223372036854775807 then(bif Nat.ble (r1.size+((⟨#[44,32]⟩:ByteArray)++r2).size) 9223372036854775807 then(bif (!Qu a0.suffix (⟨#[]⟩:ByteArray))then(bif Nat.ble ((⟨#[44,32]⟩:ByteArray).size+a0.suffix.size) 9223372036854775807 then(bif Nat.ble ((r1++((⟨#[44,32]⟩:ByteArray)++r2)).size+((⟨#[44,32]⟩:ByteArray)++a0.suffix).size) 9223372036854775807 then(some ((r1++((⟨#[44,32]⟩:ByteArray)++r2))++((⟨#[44,32]⟩:ByteArray)++a0.suffix)))else none)else none)else(some (r1++((⟨#[44,32]⟩:ByteArray)++r2))))else none)else none)else(bif (!Qu a0.suffix (⟨#[]⟩:ByteArray))then((Z134.F a0.given (⟨#[32]⟩:ByteArray)).bind λr3=>bif Nat.ble ((⟨#[44,32]⟩:ByteArray).size+r3.size) 9223372036854775807 then(bif Nat.ble (r1.size+((⟨#[44,32]⟩:ByteArray)++r3).size) 9223372036854775807 then(bif (!Qu a0.suffix (⟨#[]⟩:ByteArray))then(bif Nat.ble ((⟨#[44,32]⟩:ByteArray).size+a0.suffix.size) 9223372036854775807 then(bif Nat.ble ((r1++((⟨#[44,32]⟩:ByteArray)++r3)).size+((⟨#[44,32]⟩:ByteArray)++a0.suffix).size) 9223372036854775807 then(some ((r1++((⟨#[44,32]⟩:ByteArray)++r3))++((⟨#[44,32]⟩:ByteArray)++a0.suffix)))else none)else none)else(some (r1++((⟨#[44,32]⟩:ByteArray)++r3))))else none)else none)else(bif (!Qu a0.suffix (⟨#[]⟩:ByteArray))then(bif Nat.ble ((⟨#[44,32]⟩:ByteArray).size+a0.suffix.size) 9223372036854775807 then(bif Nat.ble (r1.size+((⟨#[44,32]⟩:ByteArray)++a0.suffix).size) 9223372036854775807 then(some (r1++((⟨#[44,32]⟩:ByteArray)++a0.suffix)))else none)else none)else(some r1)))
def Z98.C (k:Nat):Cal->Option CArm:=λc=>match c with
 |.f 129=>some (.m (.fr 9 .str) [] _ (λx0 x=>Z82.F k x0) (λr=>.pc false .str r))
 |.f 130=>some (.p [(.sl .str),.str] _ (λx=>Z134.F x.1 x.2.1) (λr=>(.t .str r)))
 |_=>none
theorem Z98.run (k:Nat)(a0:Name):Ql Q0 (Q6 (Z98.C k)) (Q4 34 0 (λ_=>none)) Tryz.f102 [.t .name a0] (Q2 (.t .str))=Z98.F k a0:=by kernel_rfl
theorem Z98.G (hE:EnvOk Tryz.prog Q0)(pv:Nat->Value)(k:Nat):∀cal A,Z98.C k cal=some A->Q9 Tryz.prog Q0 pv cal A:=by
 intro cal A h
 unfold Z98.C at h
 split at h
 ·cases h;exact⟨_,rfl,λx0 x y hy=>Z82.good hE pv k x0 hy⟩
 ·cases h;exact λx y hy=>Z134.good hE pv x.1 x.2.1 hy
 ·cases h
theorem Z98.good (hE:EnvOk Tryz.prog Q0)(pv:Nat->Value)(k:Nat)(a0:Name){y:_}(h:Z98.F k a0=some y):Q8 Tryz.prog Q0 pv (.f 102) (Qa [.name] (a0,())) (.t .str y):=
 Q7 hE (Z98.G hE pv k) (f:=102) (fn:=Tryz.f102) (by kernel_rfl) rfl (by kernel_rfl) (by kernel_rfl) ((Z98.run k a0).trans h) (λr hr=>Q1 hr)
def Z115.F (k:Nat)(a0:Name)(a1:Name):Option (Int):=(Z8.F k a0.family).bind λr1=>(Z8.F k a1.family).bind λr2=>(Z114.F r1 r2).bind λr3=>(Z8.F k a0.particle).bind λr4=>(Z8.F k a1.particle).bind λr5=>(Z114.F r4 r5).bind λr6=>(Z97.F k a0).bind λr7=>(Z8.F k r7).bind λr8=>(Z97.F k a1).bind λr9=>(Z8.F k r9).bind λr10=>(Z114.F r8 r10).bind λr11=>(Z98.F k a0).bind λr12=>(Z98.F k a1).bind λr13=>(Z114.F r12 r13).bind λr14=>(Z11.F k ([r3,r6,r11,r14]:List Int)).bind λr15=>some r15
def Z115.C (k:Nat):Cal->Option CArm:=λc=>match c with
 |.f 100=>some (.p [.str] _ (λx=>Z8.F k x.1) (λr=>(.t .str r)))
 |.f 71=>some (.p [.str,.str] _ (λx=>Z114.F x.1 x.2.1) (λr=>(.t (.int .i64) r)))
 |.f 101=>some (.p [.name] _ (λx=>Z97.F k x.1) (λr=>(.t .str r)))
 |.f 102=>some (.p [.name] _ (λx=>Z98.F k x.1) (λr=>(.t .str r)))
 |.f 63=>some (.p [(.sl (.int .i64))] _ (λx=>Z11.F k x.1) (λr=>(.t (.int .i64) r)))
 |_=>none
theorem Z115.run (k:Nat)(a0:Name)(a1:Name):Ql Q0 (Q6 (Z115.C k)) (Q4 33 0 (λ_=>none)) Tryz.f66 [.t .name a0,.t .name a1] (Q2 (.t (.int .i64)))=Z115.F k a0 a1:=by kernel_rfl
theorem Z115.G (hE:EnvOk Tryz.prog Q0)(pv:Nat->Value)(k:Nat):∀cal A,Z115.C k cal=some A->Q9 Tryz.prog Q0 pv cal A:=by
 intro cal A h
 unfold Z115.C at h
 split at h
 ·cases h;exact λx y hy=>Z8.good hE pv k x.1 hy
 ·cases h;exact λx y hy=>Z114.good hE pv x.1 x.2.1 hy
 ·cases h;exact λx y hy=>Z97.good hE pv k x.1 hy
 ·cases h;exact λx y hy=>Z98.good hE pv k x.1 hy
 ·cases h;exact λx y hy=>Z11.good hE pv k x.1 hy
 ·cases h
theorem Z115.good (hE:EnvOk Tryz.prog Q0)(pv:Nat->Value)(k:Nat)(a0:Name)(a1:Name){y:_}(h:Z115.F k a0 a1=some y):Q8 Tryz.prog Q0 pv (.f 66) (Qa [.name,.name] (a0,a1,())) (.t (.int .i64) y):=
 Q7 hE (Z115.G hE pv k) (f:=66) (fn:=Tryz.f66) (by kernel_rfl) rfl (by kernel_rfl) (by kernel_rfl) ((Z115.run k a0 a1).trans h) (λr hr=>Q1 hr)
def Z116.F (a0:Int):Option (Bool):=some (a0 != a0)
def Z116.C:Cal->Option CArm:=λc=>match c with
 |_=>none
theorem Z116.run (a0:Int):Ql Q0 (Q6 Z116.C) (Q4 6 0 (λ_=>none)) Tryz.f106 [.t (.int .i64) a0] (Q2 (.t .bool))=Z116.F a0:=by kernel_rfl
theorem Z116.G (hE:EnvOk Tryz.prog Q0)(pv:Nat->Value):∀cal A,Z116.C cal=some A->Q9 Tryz.prog Q0 pv cal A:=by
 intro cal A h
 unfold Z116.C at h
 cases h
theorem Z116.good (hE:EnvOk Tryz.prog Q0)(pv:Nat->Value)(a0:Int){y:_}(h:Z116.F a0=some y):Q8 Tryz.prog Q0 pv (.f 106) (Qa [(.int .i64)] (a0,())) (.t .bool y):=
 Q7 hE (Z116.G hE pv) (f:=106) (fn:=Tryz.f106) (by kernel_rfl) rfl (by kernel_rfl) (by kernel_rfl) ((Z116.run a0).trans h) (λr hr=>Q1 hr)
def Z70.F (a0:Int)(a1:Int):Option (Int):=(Z116.F a0).bind λr1=>(Z116.F a1).bind λr2=>bif r1 then(bif r2 then(some 0)else(some (-1)))else(bif r2 then(some 1)else(bif (decide (a0<a1))then(some (-1))else(bif (decide (a0 > a1))then(some 1)else(some 0))))
def Z70.C:Cal->Option CArm:=λc=>match c with
 |.f 106=>some (.p [(.int .i64)] _ (λx=>Z116.F x.1) (λr=>(.t .bool r)))
 |_=>none
theorem Z70.run (a0:Int)(a1:Int):Ql Q0 (Q6 Z70.C) (Q4 20 0 (λ_=>none)) Tryz.f70 [.t (.int .i64) a0,.t (.int .i64) a1] (Q2 (.t (.int .i64)))=Z70.F a0 a1:=by kernel_rfl
theorem Z70.G (hE:EnvOk Tryz.prog Q0)(pv:Nat->Value):∀cal A,Z70.C cal=some A->Q9 Tryz.prog Q0 pv cal A:=by
 intro cal A h
 unfold Z70.C at h
 split at h
 ·cases h;exact λx y hy=>Z116.good hE pv x.1 hy
 ·cases h
theorem Z70.good (hE:EnvOk Tryz.prog Q0)(pv:Nat->Value)(a0:Int)(a1:Int){y:_}(h:Z70.F a0 a1=some y):Q8 Tryz.prog Q0 pv (.f 70) (Qa [(.int .i64),(.int .i64)] (a0,a1,())) (.t (.int .i64) y):=
 Q7 hE (Z70.G hE pv) (f:=70) (fn:=Tryz.f70) (by kernel_rfl) rfl (by kernel_rfl) (by kernel_rfl) ((Z70.run a0 a1).trans h) (λr hr=>Q1 hr)
def Z99.F (a0:Date):Option (Int):=bif a0.c then(some 1)else(some 0)
def Z99.C:Cal->Option CArm:=λc=>match c with
 |_=>none
theorem Z99.run (a0:Date):Ql Q0 (Q6 Z99.C) (Q4 5 0 (λ_=>none)) Tryz.f103 [.t .date a0] (Q2 (.t (.int .i64)))=Z99.F a0:=by kernel_rfl
theorem Z99.G (hE:EnvOk Tryz.prog Q0)(pv:Nat->Value):∀cal A,Z99.C cal=some A->Q9 Tryz.prog Q0 pv cal A:=by
 intro cal A h
 unfold Z99.C at h
 cases h
theorem Z99.good (hE:EnvOk Tryz.prog Q0)(pv:Nat->Value)(a0:Date){y:_}(h:Z99.F a0=some y):Q8 Tryz.prog Q0 pv (.f 103) (Qa [.date] (a0,())) (.t (.int .i64) y):=
 Q7 hE (Z99.G hE pv) (f:=103) (fn:=Tryz.f103) (by kernel_rfl) rfl (by kernel_rfl) (by kernel_rfl) ((Z99.run a0).trans h) (λr hr=>Q1 hr)
def Z117.F (k:Nat)(a0:Date)(a1:Date):Option (Int):=(Z70.F a0.y a1.y).bind λr1=>(Z70.F a0.m a1.m).bind λr2=>(Z70.F a0.d a1.d).bind λr3=>(Z99.F a0).bind λr4=>(Z99.F a1).bind λr5=>(Z70.F r4 r5).bind λr6=>(Z11.F k ([r1,r2,r3,r6]:List Int)).bind λr7=>some r7
def Z117.C (k:Nat):Cal->Option CArm:=λc=>match c with
 |.f 70=>some (.p [(.int .i64),(.int .i64)] _ (λx=>Z70.F x.1 x.2.1) (λr=>(.t (.int .i64) r)))
 |.f 103=>some (.p [.date] _ (λx=>Z99.F x.1) (λr=>(.t (.int .i64) r)))
 |.f 63=>some (.p [(.sl (.int .i64))] _ (λx=>Z11.F k x.1) (λr=>(.t (.int .i64) r)))
 |_=>none
theorem Z117.run (k:Nat)(a0:Date)(a1:Date):Ql Q0 (Q6 (Z117.C k)) (Q4 27 0 (λ_=>none)) Tryz.f67 [.t .date a0,.t .date a1] (Q2 (.t (.int .i64)))=Z117.F k a0 a1:=by kernel_rfl
theorem Z117.G (hE:EnvOk Tryz.prog Q0)(pv:Nat->Value)(k:Nat):∀cal A,Z117.C k cal=some A->Q9 Tryz.prog Q0 pv cal A:=by
 intro cal A h
 unfold Z117.C at h
 split at h
 ·cases h;exact λx y hy=>Z70.good hE pv x.1 x.2.1 hy
 ·cases h;exact λx y hy=>Z99.good hE pv x.1 hy
 ·cases h;exact λx y hy=>Z11.good hE pv k x.1 hy
 ·cases h
theorem Z117.good (hE:EnvOk Tryz.prog Q0)(pv:Nat->Value)(k:Nat)(a0:Date)(a1:Date){y:_}(h:Z117.F k a0 a1=some y):Q8 Tryz.prog Q0 pv (.f 67) (Qa [.date,.date] (a0,a1,())) (.t (.int .i64) y):=
 Q7 hE (Z117.G hE pv k) (f:=67) (fn:=Tryz.f67) (by kernel_rfl) rfl (by kernel_rfl) (by kernel_rfl) ((Z117.run k a0 a1).trans h) (λr hr=>Q1 hr)
def Z10.l0:Nat->(List Int)->Bool->(List Int)->Int->Int->Option ((List Int))
 |0,_,_,_,_,_=>none
 |k+1,x3,x4,x10,x11,x12=>bif (decide (x12<x11))then(bif decide (0<=x12)then(bif decide (x12<(x10.length:Int))then((Z67.F (x10.getD ((x12:Int).toNat) 0)).bind λr2=>bif (!r2)then((Z79.F (x10.getD ((x12:Int).toNat) 0)).bind λr3=>bif (!r3)then(bif x4 then(Z10.l0 k x3 true x10 x11 (IntKind.wrap .i64 (x12+1)))else(Z10.l0 k x3 ((x10.getD ((x12:Int).toNat) 0)==32) x10 x11 (IntKind.wrap .i64 (x12+1))))else(bif x4 then(bif (decide ((x3.length:Int) > 0))then(bif room (x3.length+([32]:List Int).length) (.int .u8)then(bif room ((x3++([32]:List Int)).length+([(x10.getD ((x12:Int).toNat) 0)]:List Int).length) (.int .u8)then(Z10.l0 k ((x3++([32]:List Int))++([(x10.getD ((x12:Int).toNat) 0)]:List Int)) false x10 x11 (IntKind.wrap .i64 (x12+1)))else none)else none)else(bif room (x3.length+([(x10.getD ((x12:Int).toNat) 0)]:List Int).length) (.int .u8)then(Z10.l0 k (x3++([(x10.getD ((x12:Int).toNat) 0)]:List Int)) false x10 x11 (IntKind.wrap .i64 (x12+1)))else none))else(bif room (x3.length+([(x10.getD ((x12:Int).toNat) 0)]:List Int).length) (.int .u8)then(Z10.l0 k (x3++([(x10.getD ((x12:Int).toNat) 0)]:List Int)) false x10 x11 (IntKind.wrap .i64 (x12+1)))else none)))else(bif x4 then(bif (decide ((x3.length:Int) > 0))then(bif room (x3.length+([32]:List Int).length) (.int .u8)then(bif room ((x3++([32]:List Int)).length+([(x10.getD ((x12:Int).toNat) 0)]:List Int).length) (.int .u8)then(Z10.l0 k ((x3++([32]:List Int))++([(x10.getD ((x12:Int).toNat) 0)]:List Int)) false x10 x11 (IntKind.wrap .i64 (x12+1)))else none)else none)else(bif room (x3.length+([(x10.getD ((x12:Int).toNat) 0)]:List Int).length) (.int .u8)then(Z10.l0 k (x3++([(x10.getD ((x12:Int).toNat) 0)]:List Int)) false x10 x11 (IntKind.wrap .i64 (x12+1)))else none))else(bif room (x3.length+([(x10.getD ((x12:Int).toNat) 0)]:List Int).length) (.int .u8)then(Z10.l0 k (x3++([(x10.getD ((x12:Int).toNat) 0)]:List Int)) false x10 x11 (IntKind.wrap .i64 (x12+1)))else none)))else none)else none)else(some x3)
def Z10.F (k:Nat)(a0:ByteArray):Option (ByteArray):=(Z8.F k a0).bind λr1=>bif Nat.ble r1.size 9223372036854775807 then((Z10.l0 k ([]:List Int) false (Qf r1) ((Qf r1).length:Int) 0).bind λy4=>some (XC y4))else none
def Z10.C (k:Nat):Cal->Option CArm:=λc=>match c with
 |.f 100=>some (.p [.str] _ (λx=>Z8.F k x.1) (λr=>(.t .str r)))
 |.f 116=>some (.p [(.int .u8)] _ (λx=>Z67.F x.1) (λr=>(.t .bool r)))
 |.f 117=>some (.p [(.int .u8)] _ (λx=>Z79.F x.1) (λr=>(.t .bool r)))
 |_=>none
def Z10.sp0:List Sp:=[.own 3 1024 5 (.int .u8) false true,.t 4 .bool,.own 10 2056 5 (.int .u8) false false,.t 11 (.int .i64),.t 12 (.int .i64)]
def Z10.sp0_0:List Sp:=[.own 3 1024 5 (.int .u8) false true]
def Z10.A0:LArm:=.one Z10.sp0 Z10.sp0_0 ((List Int)) (λk x=>Z10.l0 k x.1 x.2.1 x.2.2.1 x.2.2.2.1 x.2.2.2.2.1) (.exit 0) (λy=>(y,())) (λx=>x.1)
def Z10.L:Nat->Option LArm:=λb=>match b with
 |0=>some Z10.A0
 |_=>none
theorem Z10.run (k:Nat)(a0:ByteArray):Ql Q0 (Q6 (Z10.C k)) (Q4 45 k Z10.L) Tryz.f104 [.t .str a0] (Q2 (.t .str))=Z10.F k a0:=by kernel_rfl
theorem Z10.step0 (k:Nat)(x3:List Int)(x4:Bool)(x10:List Int)(x11:Int)(x12:Int):Qp Q0 (Q6 (Z10.C k)) (Q4 45 k Z10.L) 0 (Qi Tryz.f104 0) (Qz 45 Z10.sp0 (x3,x4,x10,x11,x12,())) (Z10.A0.cont 45 k)=Z10.l0 (k+1) x3 x4 x10 x11 x12:=by kernel_rfl
theorem Z10.G (hE:EnvOk Tryz.prog Q0)(pv:Nat->Value)(k:Nat):∀cal A,Z10.C k cal=some A->Q9 Tryz.prog Q0 pv cal A:=by
 intro cal A h
 unfold Z10.C at h
 split at h
 ·cases h;exact λx y hy=>Z8.good hE pv k x.1 hy
 ·cases h;exact λx y hy=>Z67.good hE pv x.1 hy
 ·cases h;exact λx y hy=>Z79.good hE pv x.1 hy
 ·cases h
theorem Z10.good (hE:EnvOk Tryz.prog Q0)(pv:Nat->Value)(k:Nat)(a0:ByteArray){y:_}(h:Z10.F k a0=some y):Q8 Tryz.prog Q0 pv (.f 104) (Qa [.str] (a0,())) (.t .str y):=
 Qg hE (t:=Z10.C) k (λk _=>Z10.G hE pv k) (f:=104) (fn:=Tryz.f104) (by kernel_rfl) rfl (by kernel_rfl) (by kernel_rfl) (lt:=Z10.L) (by kernel_rfl) (λb A h=>by
  unfold Z10.L at h;split at h
  ·cases h;exact⟨by kernel_rfl,by kernel_rfl,λ_=>rfl,λ_=>rfl⟩
  ·cases h) (λb A h=>by
  unfold Z10.L at h;split at h
  ·cases h;exact λk x=>Z10.step0 k x.1 x.2.1 x.2.2.1 x.2.2.2.1 x.2.2.2.2.1
  ·cases h) ((Z10.run k a0).trans h) (λr hr=>Q1 hr)
def Z118.F (k:Nat)(a0:ByteArray)(a1:ByteArray):Option (Int):=(Z10.F k a0).bind λr1=>(Z10.F k a1).bind λr2=>(Z114.F r1 r2).bind λr3=>(Z114.F a0 a1).bind λr4=>(Z11.F k ([r3,r4]:List Int)).bind λr5=>some r5
def Z118.C (k:Nat):Cal->Option CArm:=λc=>match c with
 |.f 104=>some (.p [.str] _ (λx=>Z10.F k x.1) (λr=>(.t .str r)))
 |.f 71=>some (.p [.str,.str] _ (λx=>Z114.F x.1 x.2.1) (λr=>(.t (.int .i64) r)))
 |.f 63=>some (.p [(.sl (.int .i64))] _ (λx=>Z11.F k x.1) (λr=>(.t (.int .i64) r)))
 |_=>none
theorem Z118.run (k:Nat)(a0:ByteArray)(a1:ByteArray):Ql Q0 (Q6 (Z118.C k)) (Q4 15 0 (λ_=>none)) Tryz.f68 [.t .str a0,.t .str a1] (Q2 (.t (.int .i64)))=Z118.F k a0 a1:=by kernel_rfl
theorem Z118.G (hE:EnvOk Tryz.prog Q0)(pv:Nat->Value)(k:Nat):∀cal A,Z118.C k cal=some A->Q9 Tryz.prog Q0 pv cal A:=by
 intro cal A h
 unfold Z118.C at h
 split at h
 ·cases h;exact λx y hy=>Z10.good hE pv k x.1 hy
 ·cases h;exact λx y hy=>Z114.good hE pv x.1 x.2.1 hy
 ·cases h;exact λx y hy=>Z11.good hE pv k x.1 hy
 ·cases h
theorem Z118.good (hE:EnvOk Tryz.prog Q0)(pv:Nat->Value)(k:Nat)(a0:ByteArray)(a1:ByteArray){y:_}(h:Z118.F k a0 a1=some y):Q8 Tryz.prog Q0 pv (.f 68) (Qa [.str,.str] (a0,a1,())) (.t (.int .i64) y):=
 Q7 hE (Z118.G hE pv k) (f:=68) (fn:=Tryz.f68) (by kernel_rfl) rfl (by kernel_rfl) (by kernel_rfl) ((Z118.run k a0 a1).trans h) (λr hr=>Q1 hr)
def Z119.F (a0:ByteArray)(a1:ByteArray):Option (Bool):=bif (decide ((a0.size:Int) ≥ (a1.size:Int)))then(bif decide (0<=(a1.size:Int))then(bif decide ((a1.size:Int)<=(a0.size:Int))then(some (Qu (a0.extract 0 ((a1.size:Int):Int).toNat) a1))else none)else none)else(some false)
def Z119.C:Cal->Option CArm:=λc=>match c with
 |_=>none
theorem Z119.run (a0:ByteArray)(a1:ByteArray):Ql Q0 (Q6 Z119.C) (Q4 18 0 (λ_=>none)) Tryz.f131 [.t .str a0,.t .str a1] (Q2 (.t .bool))=Z119.F a0 a1:=by kernel_rfl
theorem Z119.G (hE:EnvOk Tryz.prog Q0)(pv:Nat->Value):∀cal A,Z119.C cal=some A->Q9 Tryz.prog Q0 pv cal A:=by
 intro cal A h
 unfold Z119.C at h
 cases h
theorem Z119.good (hE:EnvOk Tryz.prog Q0)(pv:Nat->Value)(a0:ByteArray)(a1:ByteArray){y:_}(h:Z119.F a0 a1=some y):Q8 Tryz.prog Q0 pv (.f 131) (Qa [.str,.str] (a0,a1,())) (.t .bool y):=
 Q7 hE (Z119.G hE pv) (f:=131) (fn:=Tryz.f131) (by kernel_rfl) rfl (by kernel_rfl) (by kernel_rfl) ((Z119.run a0 a1).trans h) (λr hr=>Q1 hr)
def Z86.F (a0:ByteArray)(a1:ByteArray):Option (Bool):=(Z119.F a0 a1).bind λr1=>some r1
def Z86.C:Cal->Option CArm:=λc=>match c with
 |.f 131=>some (.p [.str,.str] _ (λx=>Z119.F x.1 x.2.1) (λr=>(.t .bool r)))
 |_=>none
theorem Z86.run (a0:ByteArray)(a1:ByteArray):Ql Q0 (Q6 Z86.C) (Q4 8 0 (λ_=>none)) Tryz.f105 [.t .str a0,.t .str a1] (Q2 (.t .bool))=Z86.F a0 a1:=by kernel_rfl
theorem Z86.G (hE:EnvOk Tryz.prog Q0)(pv:Nat->Value):∀cal A,Z86.C cal=some A->Q9 Tryz.prog Q0 pv cal A:=by
 intro cal A h
 unfold Z86.C at h
 split at h
 ·cases h;exact λx y hy=>Z119.good hE pv x.1 x.2.1 hy
 ·cases h
theorem Z86.good (hE:EnvOk Tryz.prog Q0)(pv:Nat->Value)(a0:ByteArray)(a1:ByteArray){y:_}(h:Z86.F a0 a1=some y):Q8 Tryz.prog Q0 pv (.f 105) (Qa [.str,.str] (a0,a1,())) (.t .bool y):=
 Q7 hE (Z86.G hE pv) (f:=105) (fn:=Tryz.f105) (by kernel_rfl) rfl (by kernel_rfl) (by kernel_rfl) ((Z86.run a0 a1).trans h) (λr hr=>Q1 hr)
def Z25.l0:Nat->ByteArray->(List ByteArray)->Int->Int->Option (Sum ByteArray ByteArray)
 |0,_,_,_,_=>none
 |k+1,x0,x5,x6,x7=>bif (decide (x7<x6))then(bif decide (0<=x7)then(bif decide (x7<(x5.length:Int))then(bif decide (0<=(if 4<(x0.size:Int)then 4 else(x0.size:Int)))then(bif decide ((if 4<(x0.size:Int)then 4 else(x0.size:Int))<=(x0.size:Int))then((Z8.F k (x0.extract 0 ((if 4<(x0.size:Int)then 4 else(x0.size:Int)):Int).toNat)).bind λr1=>(Z86.F r1 (x5.getD ((x7:Int).toNat) (⟨#[]⟩:ByteArray))).bind λr2=>bif r2 then(bif decide (0<=((x5.getD ((x7:Int).toNat) (⟨#[]⟩:ByteArray)).size:Int))then(bif decide (((x5.getD ((x7:Int).toNat) (⟨#[]⟩:ByteArray)).size:Int)<=(x0.size:Int))then(some (.inl (x0.extract (((x5.getD ((x7:Int).toNat) (⟨#[]⟩:ByteArray)).size:Int):Int).toNat x0.size)))else none)else none)else(Z25.l0 k x0 x5 x6 (IntKind.wrap .i64 (x7+1))))else none)else none)else none)else none)else(some (.inr x0))
def Z25.F (k:Nat)(a0:ByteArray):Option (ByteArray):=(Z25.l0 k a0 ([(⟨#[97,32]⟩:ByteArray),(⟨#[97,110,32]⟩:ByteArray),(⟨#[116,104,101,32]⟩:ByteArray)]:List ByteArray) (([(⟨#[97,32]⟩:ByteArray),(⟨#[97,110,32]⟩:ByteArray),(⟨#[116,104,101,32]⟩:ByteArray)]:List ByteArray).length:Int) 0).bind λy3=>match y3 with|.inl z4=>some z4|.inr z4=>some z4
def Z25.C (k:Nat):Cal->Option CArm:=λc=>match c with
 |.f 100=>some (.p [.str] _ (λx=>Z8.F k x.1) (λr=>(.t .str r)))
 |.f 105=>some (.p [.str,.str] _ (λx=>Z86.F x.1 x.2.1) (λr=>(.t .bool r)))
 |_=>none
def Z25.sp0:List Sp:=[.t 0 .str,.own 5 1024 9 .str false true,.t 6 (.int .i64),.t 7 (.int .i64)]
def Z25.sp0_0:List Sp:=[.t 2 .str]
def Z25.sp0_1:List Sp:=[.t 0 .str]
def Z25.A0:LArm:=.two Z25.sp0 Z25.sp0_0 Z25.sp0_1 (ByteArray) (ByteArray) (λk x=>Z25.l0 k x.1 x.2.1 x.2.2.1 x.2.2.2.1) .ret (.exit 0) (λy=>(y,())) (λx=>x.1) (λy=>(y,())) (λx=>x.1)
def Z25.L:Nat->Option LArm:=λb=>match b with
 |0=>some Z25.A0
 |_=>none
theorem Z25.run (k:Nat)(a0:ByteArray):Ql Q0 (Q6 (Z25.C k)) (Q4 25 k Z25.L) Tryz.f69 [.t .str a0] (Q2 (.t .str))=Z25.F k a0:=by kernel_rfl
theorem Z25.step0 (k:Nat)(x0:ByteArray)(x5:List ByteArray)(x6:Int)(x7:Int):Qp Q0 (Q6 (Z25.C k)) (Q4 25 k Z25.L) 0 (Qi Tryz.f69 0) (Qz 25 Z25.sp0 (x0,x5,x6,x7,())) (Z25.A0.cont 25 k)=Z25.l0 (k+1) x0 x5 x6 x7:=by kernel_rfl
theorem Z25.G (hE:EnvOk Tryz.prog Q0)(pv:Nat->Value)(k:Nat):∀cal A,Z25.C k cal=some A->Q9 Tryz.prog Q0 pv cal A:=by
 intro cal A h
 unfold Z25.C at h
 split at h
 ·cases h;exact λx y hy=>Z8.good hE pv k x.1 hy
 ·cases h;exact λx y hy=>Z86.good hE pv x.1 x.2.1 hy
 ·cases h
theorem Z25.good (hE:EnvOk Tryz.prog Q0)(pv:Nat->Value)(k:Nat)(a0:ByteArray){y:_}(h:Z25.F k a0=some y):Q8 Tryz.prog Q0 pv (.f 69) (Qa [.str] (a0,())) (.t .str y):=
 Qg hE (t:=Z25.C) k (λk _=>Z25.G hE pv k) (f:=69) (fn:=Tryz.f69) (by kernel_rfl) rfl (by kernel_rfl) (by kernel_rfl) (lt:=Z25.L) (by kernel_rfl) (λb A h=>by
  unfold Z25.L at h;split at h
  ·cases h;exact⟨by kernel_rfl,by kernel_rfl,by kernel_rfl,λ_=>rfl,λ_=>rfl,λ_=>rfl⟩
  ·cases h) (λb A h=>by
  unfold Z25.L at h;split at h
  ·cases h;exact λk x=>Z25.step0 k x.1 x.2.1 x.2.2.1 x.2.2.2.1
  ·cases h) ((Z25.run k a0).trans h) (λr hr=>Q1 hr)
def Z30.l0:Nat->(List Name)->(List Name)->(List Name)->Int->Int->Option (Sum Int ((List Name)× (List Name)))
 |0,_,_,_,_,_=>none
 |k+1,x0,x1,x11,x12,x13=>bif (decide (x13<x12))then(bif decide (0<=x13)then(bif decide (x13<(x11.length:Int))then(bif (decide (x13 ≥ (x1.length:Int)))then(some (.inl 1))else(bif decide (0<=x13)then(bif decide (x13<(x1.length:Int))then((Z115.F k (x11.getD (x13:Int).toNat (Qh .name)) (x1.getD (x13:Int).toNat (Qh .name))).bind λr1=>bif (r1 != 0)then(some (.inl r1))else(Z30.l0 k x0 x1 x11 x12 (IntKind.wrap .i64 (x13+1))))else none)else none))else none)else none)else(some (.inr (x0,x1)))
def Z30.F (k:Nat)(a0:List Name)(a1:List Name):Option (Int):=(Z30.l0 k a0 a1 a0 (a0.length:Int) 0).bind λy2=>match y2 with|.inl z3=>some z3|.inr z3=>bif (decide ((z3.1.length:Int)<(z3.2.length:Int)))then(some (-1))else(some 0)
def Z30.C (k:Nat):Cal->Option CArm:=λc=>match c with
 |.f 66=>some (.p [.name,.name] _ (λx=>Z115.F k x.1 x.2.1) (λr=>(.t (.int .i64) r)))
 |_=>none
def Z30.sp0:List Sp:=[.t 0 (.sl .name),.t 1 (.sl .name),.con 2 (.clo 66),.t 11 (.sl .name),.t 12 (.int .i64),.t 13 (.int .i64)]
def Z30.sp0_0:List Sp:=[.t 6 (.int .i64)]
def Z30.sp0_1:List Sp:=[.t 0 (.sl .name),.t 1 (.sl .name)]
def Z30.A0:LArm:=.two Z30.sp0 Z30.sp0_0 Z30.sp0_1 (Int) ((List Name)× (List Name)) (λk x=>Z30.l0 k x.1 x.2.1 x.2.2.2.1 x.2.2.2.2.1 x.2.2.2.2.2.1) .ret (.exit 0) (λy=>(y,())) (λx=>x.1) (λy=>(y.1,y.2,())) (λx=>(x.1,x.2.1))
def Z30.L:Nat->Option LArm:=λb=>match b with
 |0=>some Z30.A0
 |_=>none
theorem Z30.run (k:Nat)(a0:List Name)(a1:List Name):Ql Q0 (Q6 (Z30.C k)) (Q4 39 k Z30.L) Tryz.f64 [.t (.sl .name) a0,.t (.sl .name) a1,.clo 66 []] (Q2 (.t (.int .i64)))=Z30.F k a0 a1:=by kernel_rfl
theorem Z30.step0 (k:Nat)(x0:List Name)(x1:List Name)(x11:List Name)(x12:Int)(x13:Int):Qp Q0 (Q6 (Z30.C k)) (Q4 39 k Z30.L) 0 (Qi Tryz.f64 0) (Qz 39 Z30.sp0 (x0,x1,(),x11,x12,x13,())) (Z30.A0.cont 39 k)=Z30.l0 (k+1) x0 x1 x11 x12 x13:=by kernel_rfl
theorem Z30.G (hE:EnvOk Tryz.prog Q0)(pv:Nat->Value)(k:Nat):∀cal A,Z30.C k cal=some A->Q9 Tryz.prog Q0 pv cal A:=by
 intro cal A h
 unfold Z30.C at h
 split at h
 ·cases h;exact λx y hy=>Z115.good hE pv k x.1 x.2.1 hy
 ·cases h
theorem Z30.good (hE:EnvOk Tryz.prog Q0)(pv:Nat->Value)(k:Nat)(a0:List Name)(a1:List Name){y:_}(h:Z30.F k a0 a1=some y):Q8 Tryz.prog Q0 pv (.f 64) (JM [.t (.sl .name),.t (.sl .name),.clo 66 []] (a0,a1,(()),())) (.t (.int .i64) y):=
 Qg hE (t:=Z30.C) k (λk _=>Z30.G hE pv k) (f:=64) (fn:=Tryz.f64) (by kernel_rfl) rfl (by kernel_rfl) (by kernel_rfl) (lt:=Z30.L) (by kernel_rfl) (λb A h=>by
  unfold Z30.L at h;split at h
  ·cases h;exact⟨by kernel_rfl,by kernel_rfl,by kernel_rfl,λ_=>rfl,λ_=>rfl,λ_=>rfl⟩
  ·cases h) (λb A h=>by
  unfold Z30.L at h;split at h
  ·cases h;exact λk x=>Z30.step0 k x.1 x.2.1 x.2.2.2.1 x.2.2.2.2.1 x.2.2.2.2.2.1
  ·cases h) ((Z30.run k a0 a1).trans h) (λr hr=>Q1 hr)
def Z120.F (k:Nat)(a0:Entry)(a1:Entry):Option (Int):=(Z96.F a0).bind λr1=>(Z96.F a1).bind λr2=>(Z30.F k r1 r2).bind λr3=>(Z117.F k a0.date a1.date).bind λr4=>(Z25.F k a0.title).bind λr5=>(Z25.F k a1.title).bind λr6=>(Z118.F k r5 r6).bind λr7=>(Z70.F a0.volume a1.volume).bind λr8=>(Z114.F a0.key a1.key).bind λr9=>(Z11.F k ([r3,r4,r7,r8,r9]:List Int)).bind λr10=>some r10
def Z120.C (k:Nat):Cal->Option CArm:=λc=>match c with
 |.f 65=>some (.p [.entry] _ (λx=>Z96.F x.1) (λr=>(.t (.sl .name) r)))
 |.f 64=>some (.q [.t (.sl .name),.t (.sl .name),.clo 66 []] _ (λx=>Z30.F k x.1 x.2.1) (λr=>(.t (.int .i64) r)))
 |.f 67=>some (.p [.date,.date] _ (λx=>Z117.F k x.1 x.2.1) (λr=>(.t (.int .i64) r)))
 |.f 69=>some (.p [.str] _ (λx=>Z25.F k x.1) (λr=>(.t .str r)))
 |.f 68=>some (.p [.str,.str] _ (λx=>Z118.F k x.1 x.2.1) (λr=>(.t (.int .i64) r)))
 |.f 70=>some (.p [(.int .i64),(.int .i64)] _ (λx=>Z70.F x.1 x.2.1) (λr=>(.t (.int .i64) r)))
 |.f 71=>some (.p [.str,.str] _ (λx=>Z114.F x.1 x.2.1) (λr=>(.t (.int .i64) r)))
 |.f 63=>some (.p [(.sl (.int .i64))] _ (λx=>Z11.F k x.1) (λr=>(.t (.int .i64) r)))
 |_=>none
theorem Z120.run (k:Nat)(a0:Entry)(a1:Entry):Ql Q0 (Q6 (Z120.C k)) (Q4 34 0 (λ_=>none)) Tryz.f44 [.t .entry a0,.t .entry a1] (Q2 (.t (.int .i64)))=Z120.F k a0 a1:=by kernel_rfl
theorem Z120.G (hE:EnvOk Tryz.prog Q0)(pv:Nat->Value)(k:Nat):∀cal A,Z120.C k cal=some A->Q9 Tryz.prog Q0 pv cal A:=by
 intro cal A h
 unfold Z120.C at h
 split at h
 ·cases h;exact λx y hy=>Z96.good hE pv x.1 hy
 ·cases h;exact λx y hy=>Z30.good hE pv k x.1 x.2.1 hy
 ·cases h;exact λx y hy=>Z117.good hE pv k x.1 x.2.1 hy
 ·cases h;exact λx y hy=>Z25.good hE pv k x.1 hy
 ·cases h;exact λx y hy=>Z118.good hE pv k x.1 x.2.1 hy
 ·cases h;exact λx y hy=>Z70.good hE pv x.1 x.2.1 hy
 ·cases h;exact λx y hy=>Z114.good hE pv x.1 x.2.1 hy
 ·cases h;exact λx y hy=>Z11.good hE pv k x.1 hy
 ·cases h
theorem Z120.good (hE:EnvOk Tryz.prog Q0)(pv:Nat->Value)(k:Nat)(a0:Entry)(a1:Entry){y:_}(h:Z120.F k a0 a1=some y):Q8 Tryz.prog Q0 pv (.f 44) (Qa [.entry,.entry] (a0,a1,())) (.t (.int .i64) y):=
 Q7 hE (Z120.G hE pv k) (f:=44) (fn:=Tryz.f44) (by kernel_rfl) rfl (by kernel_rfl) (by kernel_rfl) ((Z120.run k a0 a1).trans h) (λr hr=>Q1 hr)
-- NO 43 loop.example/g00896/impl.sortKeys$1: fieldAddr of tup
def Z78.F (k:Nat)(a0:ByteArray)(a1:ByteArray)(a2:Library):Option (Int):=(Z63.F k a2 a0).bind λr1=>bif decide (0<=r1)then(bif decide (r1<(a2.entries.length:Int))then((Z63.F k a2 a1).bind λr2=>bif decide (0<=r2)then(bif decide (r2<(a2.entries.length:Int))then((Z120.F k (a2.entries.getD (r1:Int).toNat (Qh .entry)) (a2.entries.getD (r2:Int).toNat (Qh .entry))).bind λr3=>some r3)else none)else none)else none)else none
def Z78.C (k:Nat):Cal->Option CArm:=λc=>match c with
 |.f 38=>some (.p [.lib,.str] _ (λx=>Z63.F k x.1 x.2.1) (λr=>(.t (.int .i64) r)))
 |.f 44=>some (.p [.entry,.entry] _ (λx=>Z120.F k x.1 x.2.1) (λr=>(.t (.int .i64) r)))
 |_=>none
theorem Z78.run (k:Nat)(a0:ByteArray)(a1:ByteArray)(a2:Library):Ql Q0 (Q6 (Z78.C k)) (Q4 21 0 (λ_=>none)) Tryz.f43 [.t .str a0,.t .str a1,.tp (.t .lib a2)] (Q2 (.t (.int .i64)))=Z78.F k a0 a1 a2:=by kernel_rfl
theorem Z78.G (hE:EnvOk Tryz.prog Q0)(pv:Nat->Value)(k:Nat):∀cal A,Z78.C k cal=some A->Q9 Tryz.prog Q0 pv cal A:=by
 intro cal A h
 unfold Z78.C at h
 split at h
 ·cases h;exact λx y hy=>Z63.good hE pv k x.1 x.2.1 hy
 ·cases h;exact λx y hy=>Z120.good hE pv k x.1 x.2.1 hy
 ·cases h
theorem Z78.good (hE:EnvOk Tryz.prog Q0)(pv:Nat->Value)(k:Nat)(a0:ByteArray)(a1:ByteArray)(a2:Library){y:_}(h:Z78.F k a0 a1 a2=some y):Q8 Tryz.prog Q0 pv (.f 43) (JM [.t .str,.t .str,.tp .lib] (a0,a1,a2,())) (.t (.int .i64) y):=
 Q7 hE (Z78.G hE pv k) (f:=43) (fn:=Tryz.f43) (by kernel_rfl) rfl (by kernel_rfl) (by kernel_rfl) ((Z78.run k a0 a1 a2).trans h) (λr hr=>Q1 hr)
def Z6.l2:Nat->(List ByteArray)->Int->Int->Library->Int->Int->Option ((List ByteArray)×Int×Int×Library×Int)
 |0,_,_,_,_,_,_=>none
 |k+1,x0,x1,x2,x3,x8,x9=>bif (decide (x9 > x1))then(bif decide (0<=x9)then(bif decide (x9<(x0.length:Int))then(bif decide (0<=(IntKind.wrap .i64 (x9-1)))then(bif decide ((IntKind.wrap .i64 (x9-1))<(x0.length:Int))then((Z78.F k (x0.getD ((x9:Int).toNat) (⟨#[]⟩:ByteArray)) (x0.getD (((IntKind.wrap .i64 (x9-1)):Int).toNat) (⟨#[]⟩:ByteArray)) x3).bind λr1=>bif (decide (r1<0))then(bif decide (0<=(IntKind.wrap .i64 (x9-1)))then(bif decide ((IntKind.wrap .i64 (x9-1))<(x0.length:Int))then(bif decide (0<=x9)then(bif decide (x9<(x0.length:Int))then(bif decide (0<=x9)then(bif decide (x9<(x0.length:Int))then(bif decide (0<=(IntKind.wrap .i64 (x9-1)))then(bif decide ((IntKind.wrap .i64 (x9-1))<((x0.set ((x9:Int).toNat) (x0.getD (((IntKind.wrap .i64 (x9-1)):Int).toNat) (⟨#[]⟩:ByteArray))).length:Int))then(Z6.l2 k ((x0.set ((x9:Int).toNat) (x0.getD (((IntKind.wrap .i64 (x9-1)):Int).toNat) (⟨#[]⟩:ByteArray))).set (((IntKind.wrap .i64 (x9-1)):Int).toNat) (x0.getD ((x9:Int).toNat) (⟨#[]⟩:ByteArray))) x1 x2 x3 x8 (IntKind.wrap .i64 (x9-1)))else none)else none)else none)else none)else none)else none)else none)else none)else(some (x0,x1,x2,x3,x8)))else none)else none)else none)else none)else(some (x0,x1,x2,x3,x8))
def Z6.l0:Nat->(List ByteArray)->Int->Int->Library->Int->Option ((List ByteArray))
 |0,_,_,_,_,_=>none
 |k+1,x0,x1,x2,x3,x8=>bif (decide (x8<x2))then((Z6.l2 k x0 x1 x2 x3 x8 x8).bind λy2=>Z6.l0 k y2.1 y2.2.1 y2.2.2.1 y2.2.2.2.1 (IntKind.wrap .i64 (y2.2.2.2.2+1)))else(some x0)
def Z6.F (k:Nat)(a0:List ByteArray)(a1:Int)(a2:Int)(a3c0:Library):Option (List ByteArray):=(Z6.l0 k a0 a1 a2 a3c0 (IntKind.wrap .i64 (a1+1))).bind λy3=>bif Nat.beq (y3).length a0.length then(some y3)else none
def Z6.C (k:Nat):Cal->Option CArm:=λc=>match c with
 |.f 43=>some (.q [.t .str,.t .str,.tp .lib] _ (λx=>Z78.F k x.1 x.2.1 x.2.2.1) (λr=>(.t (.int .i64) r)))
 |_=>none
def Z6.sp2:List Sp:=[.own 0 1099511627776 9 .str false true,.t 1 (.int .i64),.t 2 (.int .i64),.cl 3 43 [.tp .lib],.t 8 (.int .i64),.t 9 (.int .i64)]
def Z6.sp2_0:List Sp:=[.own 0 1099511627776 9 .str false true,.t 1 (.int .i64),.t 2 (.int .i64),.cl 3 43 [.tp .lib],.t 8 (.int .i64)]
def Z6.A2:LArm:=.one Z6.sp2 Z6.sp2_0 ((List ByteArray)×Int×Int×Library×Int) (λk x=>Z6.l2 k x.1 x.2.1 x.2.2.1 x.2.2.2.1.1 x.2.2.2.2.1 x.2.2.2.2.2.1) (.exit 2) (λy=>(y.1,y.2.1,y.2.2.1,(y.2.2.2.1,()),y.2.2.2.2,())) (λx=>(x.1,x.2.1,x.2.2.1,x.2.2.2.1.1,x.2.2.2.2.1))
def Z6.sp0:List Sp:=[.own 0 1099511627776 9 .str false true,.t 1 (.int .i64),.t 2 (.int .i64),.cl 3 43 [.tp .lib],.t 8 (.int .i64)]
def Z6.sp0_0:List Sp:=[.own 0 1099511627776 9 .str false true]
def Z6.A0:LArm:=.one Z6.sp0 Z6.sp0_0 ((List ByteArray)) (λk x=>Z6.l0 k x.1 x.2.1 x.2.2.1 x.2.2.2.1.1 x.2.2.2.2.1) (.exit 0) (λy=>(y,())) (λx=>x.1)
def Z6.L:Nat->Option LArm:=λb=>match b with
 |2=>some Z6.A2
 |0=>some Z6.A0
 |_=>none
theorem Z6.run (k:Nat)(a0:List ByteArray)(a1:Int)(a2:Int)(a3c0:Library):G2 Q0 (Q6 (Z6.C k)) (Q4 53 k Z6.L) Tryz.f90 Qd (.fr 9 .str a0) [.t (.int .i64) a1,.t (.int .i64) a2,.clo 43 [.tp (.t .lib a3c0)]] (Q18 (.fr 9 .str))=Z6.F k a0 a1 a2 a3c0:=by kernel_rfl
theorem Z6.step2 (k:Nat)(x0:List ByteArray)(x1:Int)(x2:Int)(x3:Library)(x8:Int)(x9:Int):Qp Q0 (Q6 (Z6.C k)) (Q4 53 k Z6.L) 2 (Qi Tryz.f90 2) (Qz 53 Z6.sp2 (x0,x1,x2,(x3,()),x8,x9,())) (Z6.A2.cont 53 k)=Z6.l2 (k+1) x0 x1 x2 x3 x8 x9:=by kernel_rfl
theorem Z6.step0 (k:Nat)(x0:List ByteArray)(x1:Int)(x2:Int)(x3:Library)(x8:Int):Qp Q0 (Q6 (Z6.C k)) (Q4 53 k Z6.L) 0 (Qi Tryz.f90 0) (Qz 53 Z6.sp0 (x0,x1,x2,(x3,()),x8,())) (Z6.A0.cont 53 k)=Z6.l0 (k+1) x0 x1 x2 x3 x8:=by kernel_rfl
theorem Z6.G (hE:EnvOk Tryz.prog Q0)(pv:Nat->Value)(k:Nat):∀cal A,Z6.C k cal=some A->Q9 Tryz.prog Q0 pv cal A:=by
 intro cal A h
 unfold Z6.C at h
 split at h
 ·cases h;exact λx y hy=>Z78.good hE pv k x.1 x.2.1 x.2.2.1 hy
 ·cases h
theorem Z6.good (hE:EnvOk Tryz.prog Q0)(pv:Nat->Value)(k:Nat)(a0:List ByteArray)(a1:Int)(a2:Int)(a3c0:Library){y:_}(h:Z6.F k a0 a1 a2 a3c0=some y):Jb Tryz.prog Q0 pv 90 (.fr 9 .str a0) (JM [.t (.int .i64),.t (.int .i64),.clo 43 [.tp .lib]] (a1,a2,(a3c0,()),())) (.kep (.fr 9 .str y) (.tup [])):=
 YF hE (t:=Z6.C) k (λk _=>Z6.G hE pv k) (f:=90) (fn:=Tryz.f90) (by kernel_rfl) rfl (by kernel_rfl) (.inl rfl) (by kernel_rfl) (lt:=Z6.L) (by kernel_rfl) (λb A h=>by
  unfold Z6.L at h;split at h
  ·cases h;exact⟨by kernel_rfl,by kernel_rfl,λ_=>rfl,λ_=>rfl⟩
  ·cases h;exact⟨by kernel_rfl,by kernel_rfl,λ_=>rfl,λ_=>rfl⟩
  ·cases h) (λb A h=>by
  unfold Z6.L at h;split at h
  ·cases h;exact λk x=>Z6.step2 k x.1 x.2.1 x.2.2.1 x.2.2.2.1.1 x.2.2.2.2.1 x.2.2.2.2.2.1
  ·cases h;exact λk x=>Z6.step0 k x.1 x.2.1 x.2.2.1 x.2.2.2.1.1 x.2.2.2.2.1
  ·cases h) ((Z6.run k a0 a1 a2 a3c0).trans h) (λr hr=>Gp hr)
def Z61.l0:Nat->(List ByteArray)->Int->Int->Int->Library->Bool->Bool->Option ((List ByteArray))
 |0,_,_,_,_,_,_,_=>none
 |k+1,x0,x1,x2,x3,x4,x10,x11=>bif (decide ((IntKind.wrap .i64 (x2-x1))<=12))then((Z6.F k x0 x1 x2 x4).bind λr1=>some r1)else(bif (x3==0)then(none)else(bif (!x10)then(none)else none))
def Z61.F (k:Nat)(a0:List ByteArray)(a1:Int)(a2:Int)(a3:Int)(a4c0:Library):Option (List ByteArray):=(Z61.l0 k a0 a1 a2 a3 a4c0 true true).bind λy2=>bif Nat.beq (y2).length a0.length then(some y2)else none
def Z61.C (k:Nat):Cal->Option CArm:=λc=>match c with
 |.f 90=>some (.mq (.fr 9 .str) [.t (.int .i64),.t (.int .i64),.clo 43 [.tp .lib]] _ (λx0 x=>Z6.F k x0 x.1 x.2.1 x.2.2.1.1) (λr=>.kep (.fr 9 .str r) (.tup [])))
 |_=>none
def Z61.sp0:List Sp:=[.own 0 1099511627776 9 .str false true,.t 1 (.int .i64),.t 2 (.int .i64),.t 3 (.int .i64),.cl 4 43 [.tp .lib],.t 10 .bool,.t 11 .bool]
def Z61.sp0_0:List Sp:=[.own 0 1099511627776 9 .str false true]
def Z61.A0:LArm:=.one Z61.sp0 Z61.sp0_0 ((List ByteArray)) (λk x=>Z61.l0 k x.1 x.2.1 x.2.2.1 x.2.2.2.1 x.2.2.2.2.1.1 x.2.2.2.2.2.1 x.2.2.2.2.2.2.1) .ret (λy=>(y,())) (λx=>x.1)
def Z61.L:Nat->Option LArm:=λb=>match b with
 |0=>some Z61.A0
 |_=>none
theorem Z61.run (k:Nat)(a0:List ByteArray)(a1:Int)(a2:Int)(a3:Int)(a4c0:Library):G2 Q0 (Q6 (Z61.C k)) (Q4 148 k Z61.L) Tryz.f61 Qd (.fr 9 .str a0) [.t (.int .i64) a1,.t (.int .i64) a2,.t (.int .i64) a3,.clo 43 [.tp (.t .lib a4c0)]] (Q18 (.fr 9 .str))=Z61.F k a0 a1 a2 a3 a4c0:=by kernel_rfl
theorem Z61.step0 (k:Nat)(x0:List ByteArray)(x1:Int)(x2:Int)(x3:Int)(x4:Library)(x10:Bool)(x11:Bool):Qp Q0 (Q6 (Z61.C k)) (Q4 148 k Z61.L) 0 (Qi Tryz.f61 0) (Qz 148 Z61.sp0 (x0,x1,x2,x3,(x4,()),x10,x11,())) (Z61.A0.cont 148 k)=Z61.l0 (k+1) x0 x1 x2 x3 x4 x10 x11:=by kernel_rfl
theorem Z61.G (hE:EnvOk Tryz.prog Q0)(pv:Nat->Value)(k:Nat):∀cal A,Z61.C k cal=some A->Q9 Tryz.prog Q0 pv cal A:=by
 intro cal A h
 unfold Z61.C at h
 split at h
 ·cases h;exact⟨_,rfl,λx0 x y hy=>Z6.good hE pv k x0 x.1 x.2.1 x.2.2.1.1 hy⟩
 ·cases h
theorem Z61.good (hE:EnvOk Tryz.prog Q0)(pv:Nat->Value)(k:Nat)(a0:List ByteArray)(a1:Int)(a2:Int)(a3:Int)(a4c0:Library){y:_}(h:Z61.F k a0 a1 a2 a3 a4c0=some y):Jb Tryz.prog Q0 pv 61 (.fr 9 .str a0) (JM [.t (.int .i64),.t (.int .i64),.t (.int .i64),.clo 43 [.tp .lib]] (a1,a2,a3,(a4c0,()),())) (.kep (.fr 9 .str y) (.tup [])):=
 YF hE (t:=Z61.C) k (λk _=>Z61.G hE pv k) (f:=61) (fn:=Tryz.f61) (by kernel_rfl) rfl (by kernel_rfl) (.inl rfl) (by kernel_rfl) (lt:=Z61.L) (by kernel_rfl) (λb A h=>by
  unfold Z61.L at h;split at h
  ·cases h;exact⟨by kernel_rfl,by kernel_rfl,λ_=>rfl,λ_=>rfl⟩
  ·cases h) (λb A h=>by
  unfold Z61.L at h;split at h
  ·cases h;exact λk x=>Z61.step0 k x.1 x.2.1 x.2.2.1 x.2.2.2.1 x.2.2.2.2.1.1 x.2.2.2.2.2.1 x.2.2.2.2.2.2.1
  ·cases h) ((Z61.run k a0 a1 a2 a3 a4c0).trans h) (λr hr=>Gp hr)
def Z100.F (k:Nat)(a0:List ByteArray)(a1c0:Library):Option (List ByteArray):=(Z113.F (IntKind.wrap .u64 (a0.length:Int))).bind λr1=>(Z61.F k a0 0 (a0.length:Int) r1 a1c0).bind λr2=>bif Nat.beq (r2).length a0.length then(some r2)else none
def Z100.C (k:Nat):Cal->Option CArm:=λc=>match c with
 |.f 62=>some (.p [(.int .u64)] _ (λx=>Z113.F x.1) (λr=>(.t (.int .i64) r)))
 |.f 61=>some (.mq (.fr 9 .str) [.t (.int .i64),.t (.int .i64),.t (.int .i64),.clo 43 [.tp .lib]] _ (λx0 x=>Z61.F k x0 x.1 x.2.1 x.2.2.1 x.2.2.2.1.1) (λr=>.kep (.fr 9 .str r) (.tup [])))
 |_=>none
theorem Z100.run (k:Nat)(a0:List ByteArray)(a1c0:Library):G2 Q0 (Q6 (Z100.C k)) (Q4 14 0 (λ_=>none)) Tryz.f42 Qd (.fr 9 .str a0) [.clo 43 [.tp (.t .lib a1c0)]] (Q18 (.fr 9 .str))=Z100.F k a0 a1c0:=by kernel_rfl
theorem Z100.G (hE:EnvOk Tryz.prog Q0)(pv:Nat->Value)(k:Nat):∀cal A,Z100.C k cal=some A->Q9 Tryz.prog Q0 pv cal A:=by
 intro cal A h
 unfold Z100.C at h
 split at h
 ·cases h;exact λx y hy=>Z113.good hE pv x.1 hy
 ·cases h;exact⟨_,rfl,λx0 x y hy=>Z61.good hE pv k x0 x.1 x.2.1 x.2.2.1 x.2.2.2.1.1 hy⟩
 ·cases h
theorem Z100.good (hE:EnvOk Tryz.prog Q0)(pv:Nat->Value)(k:Nat)(a0:List ByteArray)(a1c0:Library){y:_}(h:Z100.F k a0 a1c0=some y):Jb Tryz.prog Q0 pv 42 (.fr 9 .str a0) (JM [.clo 43 [.tp .lib]] ((a1c0,()),())) (.kep (.fr 9 .str y) (.tup [])):=
 Q1b hE (Z100.G hE pv k) (f:=42) (fn:=Tryz.f42) (by kernel_rfl) rfl (by kernel_rfl) (.inl rfl) (by kernel_rfl) ((Z100.run k a0 a1c0).trans h) (λr hr=>Gp hr)
def Z137.F (k:Nat)(a0:Library)(a1:List ByteArray):Option (List ByteArray):=bif room (([]:List ByteArray).length+a1.length) .str then((Z100.F k (([]:List ByteArray)++a1) a0).bind λr1=>some r1)else none
def Z137.C (k:Nat):Cal->Option CArm:=λc=>match c with
 |.f 42=>some (.mq (.fr 9 .str) [.clo 43 [.tp .lib]] _ (λx0 x=>Z100.F k x0 x.1.1) (λr=>.kep (.fr 9 .str r) (.tup [])))
 |_=>none
def Z130.F (k:Nat)(a0:Library)(a1:ByteArray):Option (Entry):=(Z63.F k a0 a1).bind λr1=>bif decide (0<=r1)then(bif decide (r1<(a0.entries.length:Int))then(some (a0.entries.getD (r1:Int).toNat (Qh .entry)))else none)else none
def Z130.C (k:Nat):Cal->Option CArm:=λc=>match c with
 |.f 38=>some (.p [.lib,.str] _ (λx=>Z63.F k x.1 x.2.1) (λr=>(.t (.int .i64) r)))
 |_=>none
theorem Z130.run (k:Nat)(a0:Library)(a1:ByteArray):Ql Q0 (Q6 (Z130.C k)) (Q4 12 0 (λ_=>none)) Tryz.f29 [.t .lib a0,.t .str a1] (Q2 (.t .entry))=Z130.F k a0 a1:=by kernel_rfl
theorem Z130.G (hE:EnvOk Tryz.prog Q0)(pv:Nat->Value)(k:Nat):∀cal A,Z130.C k cal=some A->Q9 Tryz.prog Q0 pv cal A:=by
 intro cal A h
 unfold Z130.C at h
 split at h
 ·cases h;exact λx y hy=>Z63.good hE pv k x.1 x.2.1 hy
 ·cases h
theorem Z130.good (hE:EnvOk Tryz.prog Q0)(pv:Nat->Value)(k:Nat)(a0:Library)(a1:ByteArray){y:_}(h:Z130.F k a0 a1=some y):Q8 Tryz.prog Q0 pv (.f 29) (Qa [.lib,.str] (a0,a1,())) (.t .entry y):=
 Q7 hE (Z130.G hE pv k) (f:=29) (fn:=Tryz.f29) (by kernel_rfl) rfl (by kernel_rfl) (by kernel_rfl) ((Z130.run k a0 a1).trans h) (λr hr=>Q1 hr)
-- NO 28 loop.example/g00896/impl.GroupByKind$1: load from tup
def Z71.F (k:Nat)(a0:ByteArray)(a1:Library)(a2:Int):Option (Bool):=(Z130.F k a1 a0).bind λr1=>some (r1.kind != a2)
def Z71.C (k:Nat):Cal->Option CArm:=λc=>match c with
 |.f 29=>some (.p [.lib,.str] _ (λx=>Z130.F k x.1 x.2.1) (λr=>(.t .entry r)))
 |_=>none
theorem Z71.run (k:Nat)(a0:ByteArray)(a1:Library)(a2:Int):Ql Q0 (Q6 (Z71.C k)) (Q4 11 0 (λ_=>none)) Tryz.f28 [.t .str a0,.tp (.t .lib a1),.tp (.t (.int .i64) a2)] (Q2 (.t .bool))=Z71.F k a0 a1 a2:=by kernel_rfl
theorem Z71.G (hE:EnvOk Tryz.prog Q0)(pv:Nat->Value)(k:Nat):∀cal A,Z71.C k cal=some A->Q9 Tryz.prog Q0 pv cal A:=by
 intro cal A h
 unfold Z71.C at h
 split at h
 ·cases h;exact λx y hy=>Z130.good hE pv k x.1 x.2.1 hy
 ·cases h
theorem Z71.good (hE:EnvOk Tryz.prog Q0)(pv:Nat->Value)(k:Nat)(a0:ByteArray)(a1:Library)(a2:Int){y:_}(h:Z71.F k a0 a1 a2=some y):Q8 Tryz.prog Q0 pv (.f 28) (JM [.t .str,.tp .lib,.tp (.int .i64)] (a0,a1,a2,())) (.t .bool y):=
 Q7 hE (Z71.G hE pv k) (f:=28) (fn:=Tryz.f28) (by kernel_rfl) rfl (by kernel_rfl) (by kernel_rfl) ((Z71.run k a0 a1 a2).trans h) (λr hr=>Q1 hr)
def Z46.l0:Nat->(List ByteArray)->Library->Int->Int->Int->Option (Sum Int Unit)
 |0,_,_,_,_,_=>none
 |k+1,x0,x1_0,x1_1,x7,x8=>bif (decide (x8<x7))then(bif decide (0<=x8)then(bif decide (x8<(x0.length:Int))then((Z71.F k (x0.getD (x8:Int).toNat (⟨#[]⟩:ByteArray)) x1_0 x1_1).bind λr1=>bif r1 then(some (.inl x8))else(Z46.l0 k x0 x1_0 x1_1 x7 (IntKind.wrap .i64 (x8+1))))else none)else none)else(some (.inr ()))
def Z46.F (k:Nat)(a0:List ByteArray)(a1c0:Library)(a1c1:Int):Option (Int):=(Z46.l0 k a0 a1c0 a1c1 (a0.length:Int) 0).bind λy2=>match y2 with|.inl z3=>some z3|.inr z3=>some (-1)
def Z46.C (k:Nat):Cal->Option CArm:=λc=>match c with
 |.f 28=>some (.q [.t .str,.tp .lib,.tp (.int .i64)] _ (λx=>Z71.F k x.1 x.2.1 x.2.2.1) (λr=>(.t .bool r)))
 |_=>none
def Z46.sp0:List Sp:=[.t 0 (.sl .str),.cl 1 28 [.tp .lib,.tp (.int .i64)],.t 7 (.int .i64),.t 8 (.int .i64)]
def Z46.sp0_0:List Sp:=[.t 4 (.int .i64)]
def Z46.sp0_1:List Sp:=[]
def Z46.A0:LArm:=.two Z46.sp0 Z46.sp0_0 Z46.sp0_1 (Int) (Unit) (λk x=>Z46.l0 k x.1 x.2.1.1 x.2.1.2.1 x.2.2.1 x.2.2.2.1) .ret (.exit 0) (λy=>(y,())) (λx=>x.1) (λy=>()) (λx=>())
def Z46.L:Nat->Option LArm:=λb=>match b with
 |0=>some Z46.A0
 |_=>none
theorem Z46.run (k:Nat)(a0:List ByteArray)(a1c0:Library)(a1c1:Int):Ql Q0 (Q6 (Z46.C k)) (Q4 19 k Z46.L) Tryz.f41 [.t (.sl .str) a0,.clo 28 [.tp (.t .lib a1c0),.tp (.t (.int .i64) a1c1)]] (Q2 (.t (.int .i64)))=Z46.F k a0 a1c0 a1c1:=by kernel_rfl
theorem Z46.step0 (k:Nat)(x0:List ByteArray)(x1_0:Library)(x1_1:Int)(x7:Int)(x8:Int):Qp Q0 (Q6 (Z46.C k)) (Q4 19 k Z46.L) 0 (Qi Tryz.f41 0) (Qz 19 Z46.sp0 (x0,(x1_0,x1_1,()),x7,x8,())) (Z46.A0.cont 19 k)=Z46.l0 (k+1) x0 x1_0 x1_1 x7 x8:=by kernel_rfl
theorem Z46.G (hE:EnvOk Tryz.prog Q0)(pv:Nat->Value)(k:Nat):∀cal A,Z46.C k cal=some A->Q9 Tryz.prog Q0 pv cal A:=by
 intro cal A h
 unfold Z46.C at h
 split at h
 ·cases h;exact λx y hy=>Z71.good hE pv k x.1 x.2.1 x.2.2.1 hy
 ·cases h
theorem Z46.good (hE:EnvOk Tryz.prog Q0)(pv:Nat->Value)(k:Nat)(a0:List ByteArray)(a1c0:Library)(a1c1:Int){y:_}(h:Z46.F k a0 a1c0 a1c1=some y):Q8 Tryz.prog Q0 pv (.f 41) (JM [.t (.sl .str),.clo 28 [.tp .lib,.tp (.int .i64)]] (a0,(a1c0,a1c1,()),())) (.t (.int .i64) y):=
 Qg hE (t:=Z46.C) k (λk _=>Z46.G hE pv k) (f:=41) (fn:=Tryz.f41) (by kernel_rfl) rfl (by kernel_rfl) (by kernel_rfl) (lt:=Z46.L) (by kernel_rfl) (λb A h=>by
  unfold Z46.L at h;split at h
  ·cases h;exact⟨by kernel_rfl,by kernel_rfl,by kernel_rfl,λ_=>rfl,λ_=>rfl,λ_=>rfl⟩
  ·cases h) (λb A h=>by
  unfold Z46.L at h;split at h
  ·cases h;exact λk x=>Z46.step0 k x.1 x.2.1.1 x.2.1.2.1 x.2.2.1 x.2.2.2.1
  ·cases h) ((Z46.run k a0 a1c0 a1c1).trans h) (λr hr=>Q1 hr)
def Z47.l0:Nat->(List ByteArray)->Library->Int->Int->Int->Option ((List ByteArray)×Int)
 |0,_,_,_,_,_=>none
 |k+1,x0,x1_0,x1_1,x5,x6=>bif (decide (x6<(x0.length:Int)))then(bif decide (0<=x6)then(bif decide (x6<(x0.length:Int))then((Z71.F k (x0.getD ((x6:Int).toNat) (⟨#[]⟩:ByteArray)) x1_0 x1_1).bind λr2=>bif (!r2)then(bif decide (0<=x5)then(bif decide (x5<(x0.length:Int))then(Z47.l0 k (x0.set ((x5:Int).toNat) (x0.getD ((x6:Int).toNat) (⟨#[]⟩:ByteArray))) x1_0 x1_1 (IntKind.wrap .i64 (x5+1)) (IntKind.wrap .i64 (x6+1)))else none)else none)else(Z47.l0 k x0 x1_0 x1_1 x5 (IntKind.wrap .i64 (x6+1))))else none)else none)else(some (x0,x5))
def Z47.F (k:Nat)(a0:List ByteArray)(a1c0:Library)(a1c1:Int):Option (List ByteArray):=(Z46.F k a0 a1c0 a1c1).bind λr1=>bif (r1==(-1))then(some a0)else((Z47.l0 k a0 a1c0 a1c1 r1 (IntKind.wrap .i64 (r1+1))).bind λy3=>bif decide (0<=y3.2)then(bif decide (y3.2<=(y3.1.length:Int))then(bif decide (0<=y3.2)then(bif decide (y3.2<=((y3.1.take ((y3.2:Int).toNat)++List.replicate (y3.1.length-((y3.2:Int).toNat)) (⟨#[]⟩:ByteArray)).length:Int))then(some ((y3.1.take ((y3.2:Int).toNat)++List.replicate (y3.1.length-((y3.2:Int).toNat)) (⟨#[]⟩:ByteArray)).take (y3.2:Int).toNat))else none)else none)else none)else none)
def Z47.C (k:Nat):Cal->Option CArm:=λc=>match c with
 |.f 41=>some (.q [.t (.sl .str),.clo 28 [.tp .lib,.tp (.int .i64)]] _ (λx=>Z46.F k x.1 x.2.1.1 x.2.1.2.1) (λr=>(.t (.int .i64) r)))
 |.f 28=>some (.q [.t .str,.tp .lib,.tp (.int .i64)] _ (λx=>Z71.F k x.1 x.2.1 x.2.2.1) (λr=>(.t .bool r)))
 |_=>none
def Z47.sp0:List Sp:=[.own 0 1099511627777 9 .str false true,.cl 1 28 [.tp .lib,.tp (.int .i64)],.t 5 (.int .i64),.t 6 (.int .i64)]
def Z47.sp0_0:List Sp:=[.own 0 1099511627777 9 .str false true,.t 5 (.int .i64)]
def Z47.A0:LArm:=.one Z47.sp0 Z47.sp0_0 ((List ByteArray)×Int) (λk x=>Z47.l0 k x.1 x.2.1.1 x.2.1.2.1 x.2.2.1 x.2.2.2.1) (.exit 0) (λy=>(y.1,y.2,())) (λx=>(x.1,x.2.1))
def Z47.L:Nat->Option LArm:=λb=>match b with
 |0=>some Z47.A0
 |_=>none
theorem Z47.run (k:Nat)(a0:List ByteArray)(a1c0:Library)(a1c1:Int):G2 Q0 (Q6 (Z47.C k)) (Q4 42 k Z47.L) Tryz.f26 KW (.fr 9 .str a0) [.clo 28 [.tp (.t .lib a1c0),.tp (.t (.int .i64) a1c1)]] (Q0f 9 .str)=Z47.F k a0 a1c0 a1c1:=by kernel_rfl
theorem Z47.step0 (k:Nat)(x0:List ByteArray)(x1_0:Library)(x1_1:Int)(x5:Int)(x6:Int):Qp Q0 (Q6 (Z47.C k)) (Q4 42 k Z47.L) 0 (Qi Tryz.f26 0) (Qz 42 Z47.sp0 (x0,(x1_0,x1_1,()),x5,x6,())) (Z47.A0.cont 42 k)=Z47.l0 (k+1) x0 x1_0 x1_1 x5 x6:=by kernel_rfl
theorem Z47.G (hE:EnvOk Tryz.prog Q0)(pv:Nat->Value)(k:Nat):∀cal A,Z47.C k cal=some A->Q9 Tryz.prog Q0 pv cal A:=by
 intro cal A h
 unfold Z47.C at h
 split at h
 ·cases h;exact λx y hy=>Z46.good hE pv k x.1 x.2.1.1 x.2.1.2.1 hy
 ·cases h;exact λx y hy=>Z71.good hE pv k x.1 x.2.1 x.2.2.1 hy
 ·cases h
theorem Z47.good (hE:EnvOk Tryz.prog Q0)(pv:Nat->Value)(k:Nat)(a0:List ByteArray)(a1c0:Library)(a1c1:Int){y:_}(h:Z47.F k a0 a1c0 a1c1=some y):Jb Tryz.prog Q0 pv 26 (.fr 9 .str a0) (JM [.clo 28 [.tp .lib,.tp (.int .i64)]] ((a1c0,a1c1,()),())) (.mov 9 .str y):=
 YF hE (t:=Z47.C) k (λk _=>Z47.G hE pv k) (f:=26) (fn:=Tryz.f26) (by kernel_rfl) rfl (by kernel_rfl) (.inr rfl) (by kernel_rfl) (lt:=Z47.L) (by kernel_rfl) (λb A h=>by
  unfold Z47.L at h;split at h
  ·cases h;exact⟨by kernel_rfl,by kernel_rfl,λ_=>rfl,λ_=>rfl⟩
  ·cases h) (λb A h=>by
  unfold Z47.L at h;split at h
  ·cases h;exact λk x=>Z47.step0 k x.1 x.2.1.1 x.2.1.2.1 x.2.2.1 x.2.2.2.1
  ·cases h) ((Z47.run k a0 a1c0 a1c1).trans h) (λr hr=>Q19 hr)
def impl_GroupByKind.l0:Nat->(List ByteArray)->Library->(List Int)->(List (List ByteArray))->Int->Option ((List Int)× (List (List ByteArray)))
 |0,_,_,_,_,_=>none
 |k+1,x1,x2,x7,x8,x9=>bif (decide (x9<=4))then((Z137.F k x2 x1).bind λr2=>(Z47.F k r2 x2 x9).bind λr3=>bif (decide ((r3.length:Int) > 0))then(bif room (x7.length+([x9]:List Int).length) (.int .i64)then(bif room (x8.length+([r3]:List (List ByteArray)).length) (.sl .str)then(impl_GroupByKind.l0 k x1 x2 (x7++([x9]:List Int)) (x8++([r3]:List (List ByteArray))) (IntKind.wrap .i64 (x9+1)))else none)else none)else(impl_GroupByKind.l0 k x1 x2 x7 x8 (IntKind.wrap .i64 (x9+1))))else(some (x7,x8))
def Z31.l0:Nat->(List Int)->(List Int)->Int->Option (Sum Bool Unit)
 |0,_,_,_=>none
 |k+1,x0,x1,x5=>bif (decide (x5<(x0.length:Int)))then(bif decide (0<=x5)then(bif decide (x5<(x0.length:Int))then(bif decide (0<=x5)then(bif decide (x5<(x1.length:Int))then(bif ((x0.getD (x5:Int).toNat 0) != (x1.getD (x5:Int).toNat 0))then(some (.inl false))else(Z31.l0 k x0 x1 (IntKind.wrap .i64 (x5+1))))else none)else none)else none)else none)else(some (.inr ()))
def Z31.F (k:Nat)(a0:List Int)(a1:List Int):Option (Bool):=bif ((a0.length:Int) != (a1.length:Int))then(some false)else((Z31.l0 k a0 a1 0).bind λy1=>match y1 with|.inl z2=>some z2|.inr z2=>some true)
def Z31.C (k:Nat):Cal->Option CArm:=λc=>match c with
 |_=>none
def Z31.sp0:List Sp:=[.t 0 (.sl (.int .i64)),.t 1 (.sl (.int .i64)),.t 5 (.int .i64)]
def Z31.sp0_0:List Sp:=[.t 4 .bool]
def Z31.sp0_1:List Sp:=[]
def Z31.A0:LArm:=.two Z31.sp0 Z31.sp0_0 Z31.sp0_1 (Bool) (Unit) (λk x=>Z31.l0 k x.1 x.2.1 x.2.2.1) .ret (.exit 0) (λy=>(y,())) (λx=>x.1) (λy=>()) (λx=>())
def Z31.L:Nat->Option LArm:=λb=>match b with
 |0=>some Z31.A0
 |_=>none
theorem Z31.run (k:Nat)(a0:List Int)(a1:List Int):Ql Q0 (Q6 (Z31.C k)) (Q4 26 k Z31.L) Tryz.f10 [.t (.sl (.int .i64)) a0,.t (.sl (.int .i64)) a1] (Q2 (.t .bool))=Z31.F k a0 a1:=by kernel_rfl
theorem Z31.step0 (k:Nat)(x0:List Int)(x1:List Int)(x5:Int):Qp Q0 (Q6 (Z31.C k)) (Q4 26 k Z31.L) 0 (Qi Tryz.f10 0) (Qz 26 Z31.sp0 (x0,x1,x5,())) (Z31.A0.cont 26 k)=Z31.l0 (k+1) x0 x1 x5:=by kernel_rfl
theorem Z31.G (hE:EnvOk Tryz.prog Q0)(pv:Nat->Value)(k:Nat):∀cal A,Z31.C k cal=some A->Q9 Tryz.prog Q0 pv cal A:=by
 intro cal A h
 unfold Z31.C at h
 cases h
theorem Z31.good (hE:EnvOk Tryz.prog Q0)(pv:Nat->Value)(k:Nat)(a0:List Int)(a1:List Int){y:_}(h:Z31.F k a0 a1=some y):Q8 Tryz.prog Q0 pv (.f 10) (Qa [(.sl (.int .i64)),(.sl (.int .i64))] (a0,a1,())) (.t .bool y):=
 Qg hE (t:=Z31.C) k (λk _=>Z31.G hE pv k) (f:=10) (fn:=Tryz.f10) (by kernel_rfl) rfl (by kernel_rfl) (by kernel_rfl) (lt:=Z31.L) (by kernel_rfl) (λb A h=>by
  unfold Z31.L at h;split at h
  ·cases h;exact⟨by kernel_rfl,by kernel_rfl,by kernel_rfl,λ_=>rfl,λ_=>rfl,λ_=>rfl⟩
  ·cases h) (λb A h=>by
  unfold Z31.L at h;split at h
  ·cases h;exact λk x=>Z31.step0 k x.1 x.2.1 x.2.2.1
  ·cases h) ((Z31.run k a0 a1).trans h) (λr hr=>Q1 hr)
def Z16.l0:Nat->(List ByteArray)->(List ByteArray)->Int->Option (Sum Bool Unit)
 |0,_,_,_=>none
 |k+1,x0,x1,x5=>bif (decide (x5<(x0.length:Int)))then(bif decide (0<=x5)then(bif decide (x5<(x0.length:Int))then(bif decide (0<=x5)then(bif decide (x5<(x1.length:Int))then(bif (!Qu (x0.getD (x5:Int).toNat (⟨#[]⟩:ByteArray)) (x1.getD (x5:Int).toNat (⟨#[]⟩:ByteArray)))then(some (.inl false))else(Z16.l0 k x0 x1 (IntKind.wrap .i64 (x5+1))))else none)else none)else none)else none)else(some (.inr ()))
def Z16.F (k:Nat)(a0:List ByteArray)(a1:List ByteArray):Option (Bool):=bif ((a0.length:Int) != (a1.length:Int))then(some false)else((Z16.l0 k a0 a1 0).bind λy1=>match y1 with|.inl z2=>some z2|.inr z2=>some true)
def Z16.C (k:Nat):Cal->Option CArm:=λc=>match c with
 |_=>none
def Z16.sp0:List Sp:=[.t 0 (.sl .str),.t 1 (.sl .str),.t 5 (.int .i64)]
def Z16.sp0_0:List Sp:=[.t 4 .bool]
def Z16.sp0_1:List Sp:=[]
def Z16.A0:LArm:=.two Z16.sp0 Z16.sp0_0 Z16.sp0_1 (Bool) (Unit) (λk x=>Z16.l0 k x.1 x.2.1 x.2.2.1) .ret (.exit 0) (λy=>(y,())) (λx=>x.1) (λy=>()) (λx=>())
def Z16.L:Nat->Option LArm:=λb=>match b with
 |0=>some Z16.A0
 |_=>none
theorem Z16.run (k:Nat)(a0:List ByteArray)(a1:List ByteArray):Ql Q0 (Q6 (Z16.C k)) (Q4 26 k Z16.L) Tryz.f13 [.t (.sl .str) a0,.t (.sl .str) a1] (Q2 (.t .bool))=Z16.F k a0 a1:=by kernel_rfl
theorem Z16.step0 (k:Nat)(x0:List ByteArray)(x1:List ByteArray)(x5:Int):Qp Q0 (Q6 (Z16.C k)) (Q4 26 k Z16.L) 0 (Qi Tryz.f13 0) (Qz 26 Z16.sp0 (x0,x1,x5,())) (Z16.A0.cont 26 k)=Z16.l0 (k+1) x0 x1 x5:=by kernel_rfl
theorem Z16.G (hE:EnvOk Tryz.prog Q0)(pv:Nat->Value)(k:Nat):∀cal A,Z16.C k cal=some A->Q9 Tryz.prog Q0 pv cal A:=by
 intro cal A h
 unfold Z16.C at h
 cases h
theorem Z16.good (hE:EnvOk Tryz.prog Q0)(pv:Nat->Value)(k:Nat)(a0:List ByteArray)(a1:List ByteArray){y:_}(h:Z16.F k a0 a1=some y):Q8 Tryz.prog Q0 pv (.f 13) (Qa [(.sl .str),(.sl .str)] (a0,a1,())) (.t .bool y):=
 Qg hE (t:=Z16.C) k (λk _=>Z16.G hE pv k) (f:=13) (fn:=Tryz.f13) (by kernel_rfl) rfl (by kernel_rfl) (by kernel_rfl) (lt:=Z16.L) (by kernel_rfl) (λb A h=>by
  unfold Z16.L at h;split at h
  ·cases h;exact⟨by kernel_rfl,by kernel_rfl,by kernel_rfl,λ_=>rfl,λ_=>rfl,λ_=>rfl⟩
  ·cases h) (λb A h=>by
  unfold Z16.L at h;split at h
  ·cases h;exact λk x=>Z16.step0 k x.1 x.2.1 x.2.2.1
  ·cases h) ((Z16.run k a0 a1).trans h) (λr hr=>Q1 hr)
def Z32.l0:Nat->(List (List ByteArray))->(List (List ByteArray))->Int->Option (Sum Bool Unit)
 |0,_,_,_=>none
 |k+1,x0,x1,x5=>bif (decide (x5<(x0.length:Int)))then(bif decide (0<=x5)then(bif decide (x5<(x0.length:Int))then(bif decide (0<=x5)then(bif decide (x5<(x1.length:Int))then((Z16.F k (x0.getD (x5:Int).toNat []) (x1.getD (x5:Int).toNat [])).bind λr1=>bif (!r1)then(some (.inl false))else(Z32.l0 k x0 x1 (IntKind.wrap .i64 (x5+1))))else none)else none)else none)else none)else(some (.inr ()))
def Z32.F (k:Nat)(a0:List (List ByteArray))(a1:List (List ByteArray)):Option (Bool):=bif ((a0.length:Int) != (a1.length:Int))then(some false)else((Z32.l0 k a0 a1 0).bind λy2=>match y2 with|.inl z3=>some z3|.inr z3=>some true)
def Z32.C (k:Nat):Cal->Option CArm:=λc=>match c with
 |.f 13=>some (.p [(.sl .str),(.sl .str)] _ (λx=>Z16.F k x.1 x.2.1) (λr=>(.t .bool r)))
 |_=>none
def Z32.sp0:List Sp:=[.t 0 (.sl (.sl .str)),.t 1 (.sl (.sl .str)),.t 5 (.int .i64)]
def Z32.sp0_0:List Sp:=[.t 4 .bool]
def Z32.sp0_1:List Sp:=[]
def Z32.A0:LArm:=.two Z32.sp0 Z32.sp0_0 Z32.sp0_1 (Bool) (Unit) (λk x=>Z32.l0 k x.1 x.2.1 x.2.2.1) .ret (.exit 0) (λy=>(y,())) (λx=>x.1) (λy=>()) (λx=>())
def Z32.L:Nat->Option LArm:=λb=>match b with
 |0=>some Z32.A0
 |_=>none
theorem Z32.run (k:Nat)(a0:List (List ByteArray))(a1:List (List ByteArray)):Ql Q0 (Q6 (Z32.C k)) (Q4 27 k Z32.L) Tryz.f11 [.t (.sl (.sl .str)) a0,.t (.sl (.sl .str)) a1] (Q2 (.t .bool))=Z32.F k a0 a1:=by kernel_rfl
theorem Z32.step0 (k:Nat)(x0:List (List ByteArray))(x1:List (List ByteArray))(x5:Int):Qp Q0 (Q6 (Z32.C k)) (Q4 27 k Z32.L) 0 (Qi Tryz.f11 0) (Qz 27 Z32.sp0 (x0,x1,x5,())) (Z32.A0.cont 27 k)=Z32.l0 (k+1) x0 x1 x5:=by kernel_rfl
theorem Z32.G (hE:EnvOk Tryz.prog Q0)(pv:Nat->Value)(k:Nat):∀cal A,Z32.C k cal=some A->Q9 Tryz.prog Q0 pv cal A:=by
 intro cal A h
 unfold Z32.C at h
 split at h
 ·cases h;exact λx y hy=>Z16.good hE pv k x.1 x.2.1 hy
 ·cases h
theorem Z32.good (hE:EnvOk Tryz.prog Q0)(pv:Nat->Value)(k:Nat)(a0:List (List ByteArray))(a1:List (List ByteArray)){y:_}(h:Z32.F k a0 a1=some y):Q8 Tryz.prog Q0 pv (.f 11) (Qa [(.sl (.sl .str)),(.sl (.sl .str))] (a0,a1,())) (.t .bool y):=
 Qg hE (t:=Z32.C) k (λk _=>Z32.G hE pv k) (f:=11) (fn:=Tryz.f11) (by kernel_rfl) rfl (by kernel_rfl) (by kernel_rfl) (lt:=Z32.L) (by kernel_rfl) (λb A h=>by
  unfold Z32.L at h;split at h
  ·cases h;exact⟨by kernel_rfl,by kernel_rfl,by kernel_rfl,λ_=>rfl,λ_=>rfl,λ_=>rfl⟩
  ·cases h) (λb A h=>by
  unfold Z32.L at h;split at h
  ·cases h;exact λk x=>Z32.step0 k x.1 x.2.1 x.2.2.1
  ·cases h) ((Z32.run k a0 a1).trans h) (λr hr=>Q1 hr)
def Z121.F (k:Nat)(a0:Name)(a1:Name):Option (Bool):=(Z16.F k a0.given a1.given).bind λr1=>bif (!r1)then(some false)else(bif (!Qu a0.particle a1.particle)then(some false)else(bif (!Qu a0.family a1.family)then(some false)else(bif (!Qu a0.suffix a1.suffix)then(some false)else(some true))))
def Z121.C (k:Nat):Cal->Option CArm:=λc=>match c with
 |.f 13=>some (.p [(.sl .str),(.sl .str)] _ (λx=>Z16.F k x.1 x.2.1) (λr=>(.t .bool r)))
 |_=>none
theorem Z121.run (k:Nat)(a0:Name)(a1:Name):Ql Q0 (Q6 (Z121.C k)) (Q4 26 0 (λ_=>none)) Tryz.f108 [.t .name a0,.t .name a1] (Q2 (.t .bool))=Z121.F k a0 a1:=by kernel_rfl
theorem Z121.G (hE:EnvOk Tryz.prog Q0)(pv:Nat->Value)(k:Nat):∀cal A,Z121.C k cal=some A->Q9 Tryz.prog Q0 pv cal A:=by
 intro cal A h
 unfold Z121.C at h
 split at h
 ·cases h;exact λx y hy=>Z16.good hE pv k x.1 x.2.1 hy
 ·cases h
theorem Z121.good (hE:EnvOk Tryz.prog Q0)(pv:Nat->Value)(k:Nat)(a0:Name)(a1:Name){y:_}(h:Z121.F k a0 a1=some y):Q8 Tryz.prog Q0 pv (.f 108) (Qa [.name,.name] (a0,a1,())) (.t .bool y):=
 Q7 hE (Z121.G hE pv k) (f:=108) (fn:=Tryz.f108) (by kernel_rfl) rfl (by kernel_rfl) (by kernel_rfl) ((Z121.run k a0 a1).trans h) (λr hr=>Q1 hr)
def Z35.l0:Nat->(List Name)->(List Name)->Int->Option (Sum Bool Unit)
 |0,_,_,_=>none
 |k+1,x0,x1,x5=>bif (decide (x5<(x0.length:Int)))then(bif decide (0<=x5)then(bif decide (x5<(x0.length:Int))then(bif decide (0<=x5)then(bif decide (x5<(x1.length:Int))then((Z121.F k (x0.getD (x5:Int).toNat (Qh .name)) (x1.getD (x5:Int).toNat (Qh .name))).bind λr1=>bif (!r1)then(some (.inl false))else(Z35.l0 k x0 x1 (IntKind.wrap .i64 (x5+1))))else none)else none)else none)else none)else(some (.inr ()))
def Z35.F (k:Nat)(a0:List Name)(a1:List Name):Option (Bool):=bif ((a0.length:Int) != (a1.length:Int))then(some false)else((Z35.l0 k a0 a1 0).bind λy2=>match y2 with|.inl z3=>some z3|.inr z3=>some true)
def Z35.C (k:Nat):Cal->Option CArm:=λc=>match c with
 |.f 108=>some (.p [.name,.name] _ (λx=>Z121.F k x.1 x.2.1) (λr=>(.t .bool r)))
 |_=>none
def Z35.sp0:List Sp:=[.t 0 (.sl .name),.t 1 (.sl .name),.t 5 (.int .i64)]
def Z35.sp0_0:List Sp:=[.t 4 .bool]
def Z35.sp0_1:List Sp:=[]
def Z35.A0:LArm:=.two Z35.sp0 Z35.sp0_0 Z35.sp0_1 (Bool) (Unit) (λk x=>Z35.l0 k x.1 x.2.1 x.2.2.1) .ret (.exit 0) (λy=>(y,())) (λx=>x.1) (λy=>()) (λx=>())
def Z35.L:Nat->Option LArm:=λb=>match b with
 |0=>some Z35.A0
 |_=>none
theorem Z35.run (k:Nat)(a0:List Name)(a1:List Name):Ql Q0 (Q6 (Z35.C k)) (Q4 27 k Z35.L) Tryz.f72 [.t (.sl .name) a0,.t (.sl .name) a1] (Q2 (.t .bool))=Z35.F k a0 a1:=by kernel_rfl
theorem Z35.step0 (k:Nat)(x0:List Name)(x1:List Name)(x5:Int):Qp Q0 (Q6 (Z35.C k)) (Q4 27 k Z35.L) 0 (Qi Tryz.f72 0) (Qz 27 Z35.sp0 (x0,x1,x5,())) (Z35.A0.cont 27 k)=Z35.l0 (k+1) x0 x1 x5:=by kernel_rfl
theorem Z35.G (hE:EnvOk Tryz.prog Q0)(pv:Nat->Value)(k:Nat):∀cal A,Z35.C k cal=some A->Q9 Tryz.prog Q0 pv cal A:=by
 intro cal A h
 unfold Z35.C at h
 split at h
 ·cases h;exact λx y hy=>Z121.good hE pv k x.1 x.2.1 hy
 ·cases h
theorem Z35.good (hE:EnvOk Tryz.prog Q0)(pv:Nat->Value)(k:Nat)(a0:List Name)(a1:List Name){y:_}(h:Z35.F k a0 a1=some y):Q8 Tryz.prog Q0 pv (.f 72) (Qa [(.sl .name),(.sl .name)] (a0,a1,())) (.t .bool y):=
 Qg hE (t:=Z35.C) k (λk _=>Z35.G hE pv k) (f:=72) (fn:=Tryz.f72) (by kernel_rfl) rfl (by kernel_rfl) (by kernel_rfl) (lt:=Z35.L) (by kernel_rfl) (λb A h=>by
  unfold Z35.L at h;split at h
  ·cases h;exact⟨by kernel_rfl,by kernel_rfl,by kernel_rfl,λ_=>rfl,λ_=>rfl,λ_=>rfl⟩
  ·cases h) (λb A h=>by
  unfold Z35.L at h;split at h
  ·cases h;exact λk x=>Z35.step0 k x.1 x.2.1 x.2.2.1
  ·cases h) ((Z35.run k a0 a1).trans h) (λr hr=>Q1 hr)
def Z122.F (a0:Date)(a1:Date):Option (Bool):=bif (a0.y != a1.y)then(some false)else(bif (a0.m != a1.m)then(some false)else(bif (a0.d != a1.d)then(some false)else(bif (!(a0.c==a1.c))then(some false)else(some true))))
def Z122.C:Cal->Option CArm:=λc=>match c with
 |_=>none
theorem Z122.run (a0:Date)(a1:Date):Ql Q0 (Q6 Z122.C) (Q4 25 0 (λ_=>none)) Tryz.f73 [.t .date a0,.t .date a1] (Q2 (.t .bool))=Z122.F a0 a1:=by kernel_rfl
theorem Z122.G (hE:EnvOk Tryz.prog Q0)(pv:Nat->Value):∀cal A,Z122.C cal=some A->Q9 Tryz.prog Q0 pv cal A:=by
 intro cal A h
 unfold Z122.C at h
 cases h
theorem Z122.good (hE:EnvOk Tryz.prog Q0)(pv:Nat->Value)(a0:Date)(a1:Date){y:_}(h:Z122.F a0 a1=some y):Q8 Tryz.prog Q0 pv (.f 73) (Qa [.date,.date] (a0,a1,())) (.t .bool y):=
 Q7 hE (Z122.G hE pv) (f:=73) (fn:=Tryz.f73) (by kernel_rfl) rfl (by kernel_rfl) (by kernel_rfl) ((Z122.run a0 a1).trans h) (λr hr=>Q1 hr)
def Z123.F (k:Nat)(a0:Entry)(a1:Entry):Option (Bool):=bif (!Qu a0.key a1.key)then(some false)else(bif (a0.kind != a1.kind)then(some false)else((Z35.F k a0.authors a1.authors).bind λr1=>bif (!r1)then(some false)else((Z35.F k a0.editors a1.editors).bind λr2=>bif (!r2)then(some false)else(bif (!Qu a0.title a1.title)then(some false)else(bif (!Qu a0.container a1.container)then(some false)else(bif (!Qu a0.publisher a1.publisher)then(some false)else((Z122.F a0.date a1.date).bind λr3=>bif (!r3)then(some false)else(bif (a0.volume != a1.volume)then(some false)else(bif (!Qu a0.pages a1.pages)then(some false)else(bif (!Qu a0.cross a1.cross)then(some false)else(some true)))))))))))
def Z123.C (k:Nat):Cal->Option CArm:=λc=>match c with
 |.f 72=>some (.p [(.sl .name),(.sl .name)] _ (λx=>Z35.F k x.1 x.2.1) (λr=>(.t .bool r)))
 |.f 73=>some (.p [.date,.date] _ (λx=>Z122.F x.1 x.2.1) (λr=>(.t .bool r)))
 |_=>none
theorem Z123.run (k:Nat)(a0:Entry)(a1:Entry):Ql Q0 (Q6 (Z123.C k)) (Q4 63 0 (λ_=>none)) Tryz.f45 [.t .entry a0,.t .entry a1] (Q2 (.t .bool))=Z123.F k a0 a1:=by kernel_rfl
theorem Z123.G (hE:EnvOk Tryz.prog Q0)(pv:Nat->Value)(k:Nat):∀cal A,Z123.C k cal=some A->Q9 Tryz.prog Q0 pv cal A:=by
 intro cal A h
 unfold Z123.C at h
 split at h
 ·cases h;exact λx y hy=>Z35.good hE pv k x.1 x.2.1 hy
 ·cases h;exact λx y hy=>Z122.good hE pv x.1 x.2.1 hy
 ·cases h
theorem Z123.good (hE:EnvOk Tryz.prog Q0)(pv:Nat->Value)(k:Nat)(a0:Entry)(a1:Entry){y:_}(h:Z123.F k a0 a1=some y):Q8 Tryz.prog Q0 pv (.f 45) (Qa [.entry,.entry] (a0,a1,())) (.t .bool y):=
 Q7 hE (Z123.G hE pv k) (f:=45) (fn:=Tryz.f45) (by kernel_rfl) rfl (by kernel_rfl) (by kernel_rfl) ((Z123.run k a0 a1).trans h) (λr hr=>Q1 hr)
def Z42.l0:Nat->(List Entry)->(List Entry)->Int->Option (Sum Bool Unit)
 |0,_,_,_=>none
 |k+1,x0,x1,x5=>bif (decide (x5<(x0.length:Int)))then(bif decide (0<=x5)then(bif decide (x5<(x0.length:Int))then(bif decide (0<=x5)then(bif decide (x5<(x1.length:Int))then((Z123.F k (x0.getD (x5:Int).toNat (Qh .entry)) (x1.getD (x5:Int).toNat (Qh .entry))).bind λr1=>bif (!r1)then(some (.inl false))else(Z42.l0 k x0 x1 (IntKind.wrap .i64 (x5+1))))else none)else none)else none)else none)else(some (.inr ()))
def Z42.F (k:Nat)(a0:List Entry)(a1:List Entry):Option (Bool):=bif ((a0.length:Int) != (a1.length:Int))then(some false)else((Z42.l0 k a0 a1 0).bind λy2=>match y2 with|.inl z3=>some z3|.inr z3=>some true)
def Z42.C (k:Nat):Cal->Option CArm:=λc=>match c with
 |.f 45=>some (.p [.entry,.entry] _ (λx=>Z123.F k x.1 x.2.1) (λr=>(.t .bool r)))
 |_=>none
def Z42.sp0:List Sp:=[.t 0 (.sl .entry),.t 1 (.sl .entry),.t 5 (.int .i64)]
def Z42.sp0_0:List Sp:=[.t 4 .bool]
def Z42.sp0_1:List Sp:=[]
def Z42.A0:LArm:=.two Z42.sp0 Z42.sp0_0 Z42.sp0_1 (Bool) (Unit) (λk x=>Z42.l0 k x.1 x.2.1 x.2.2.1) .ret (.exit 0) (λy=>(y,())) (λx=>x.1) (λy=>()) (λx=>())
def Z42.L:Nat->Option LArm:=λb=>match b with
 |0=>some Z42.A0
 |_=>none
theorem Z42.run (k:Nat)(a0:List Entry)(a1:List Entry):Ql Q0 (Q6 (Z42.C k)) (Q4 27 k Z42.L) Tryz.f30 [.t (.sl .entry) a0,.t (.sl .entry) a1] (Q2 (.t .bool))=Z42.F k a0 a1:=by kernel_rfl
theorem Z42.step0 (k:Nat)(x0:List Entry)(x1:List Entry)(x5:Int):Qp Q0 (Q6 (Z42.C k)) (Q4 27 k Z42.L) 0 (Qi Tryz.f30 0) (Qz 27 Z42.sp0 (x0,x1,x5,())) (Z42.A0.cont 27 k)=Z42.l0 (k+1) x0 x1 x5:=by kernel_rfl
theorem Z42.G (hE:EnvOk Tryz.prog Q0)(pv:Nat->Value)(k:Nat):∀cal A,Z42.C k cal=some A->Q9 Tryz.prog Q0 pv cal A:=by
 intro cal A h
 unfold Z42.C at h
 split at h
 ·cases h;exact λx y hy=>Z123.good hE pv k x.1 x.2.1 hy
 ·cases h
theorem Z42.good (hE:EnvOk Tryz.prog Q0)(pv:Nat->Value)(k:Nat)(a0:List Entry)(a1:List Entry){y:_}(h:Z42.F k a0 a1=some y):Q8 Tryz.prog Q0 pv (.f 30) (Qa [(.sl .entry),(.sl .entry)] (a0,a1,())) (.t .bool y):=
 Qg hE (t:=Z42.C) k (λk _=>Z42.G hE pv k) (f:=30) (fn:=Tryz.f30) (by kernel_rfl) rfl (by kernel_rfl) (by kernel_rfl) (lt:=Z42.L) (by kernel_rfl) (λb A h=>by
  unfold Z42.L at h;split at h
  ·cases h;exact⟨by kernel_rfl,by kernel_rfl,by kernel_rfl,λ_=>rfl,λ_=>rfl,λ_=>rfl⟩
  ·cases h) (λb A h=>by
  unfold Z42.L at h;split at h
  ·cases h;exact λk x=>Z42.step0 k x.1 x.2.1 x.2.2.1
  ·cases h) ((Z42.run k a0 a1).trans h) (λr hr=>Q1 hr)
def Z124.F (k:Nat)(a0:Library)(a1:Library):Option (Bool):=(Z42.F k a0.entries a1.entries).bind λr1=>bif (!r1)then(some false)else(some true)
def Z124.C (k:Nat):Cal->Option CArm:=λc=>match c with
 |.f 30=>some (.p [(.sl .entry),(.sl .entry)] _ (λx=>Z42.F k x.1 x.2.1) (λr=>(.t .bool r)))
 |_=>none
theorem Z124.run (k:Nat)(a0:Library)(a1:Library):Ql Q0 (Q6 (Z124.C k)) (Q4 11 0 (λ_=>none)) Tryz.f12 [.t .lib a0,.t .lib a1] (Q2 (.t .bool))=Z124.F k a0 a1:=by kernel_rfl
theorem Z124.G (hE:EnvOk Tryz.prog Q0)(pv:Nat->Value)(k:Nat):∀cal A,Z124.C k cal=some A->Q9 Tryz.prog Q0 pv cal A:=by
 intro cal A h
 unfold Z124.C at h
 split at h
 ·cases h;exact λx y hy=>Z42.good hE pv k x.1 x.2.1 hy
 ·cases h
theorem Z124.good (hE:EnvOk Tryz.prog Q0)(pv:Nat->Value)(k:Nat)(a0:Library)(a1:Library){y:_}(h:Z124.F k a0 a1=some y):Q8 Tryz.prog Q0 pv (.f 12) (Qa [.lib,.lib] (a0,a1,())) (.t .bool y):=
 Q7 hE (Z124.G hE pv k) (f:=12) (fn:=Tryz.f12) (by kernel_rfl) rfl (by kernel_rfl) (by kernel_rfl) ((Z124.run k a0 a1).trans h) (λr hr=>Q1 hr)
def Z4.l0:Nat->Int->ByteArray->Option (ByteArray)
 |0,_,_=>none
 |k+1,x0,x3=>bif (decide (x0 > 0))then(bif (10==0)then(none)else(bif Nat.ble ((XC ([(IntKind.wrap .u8 (IntKind.wrap .i64 (48+(Int.tmod x0 10))))]:List Int)).size+x3.size) 9223372036854775807 then(bif (10==0)then(none)else(Z4.l0 k (IntKind.wrap .i64 (Int.tdiv x0 10)) ((XC ([(IntKind.wrap .u8 (IntKind.wrap .i64 (48+(Int.tmod x0 10))))]:List Int))++x3)))else none))else(some x3)
def Z4.F (k:Nat)(a0:Int):Option (ByteArray):=bif (decide (a0<=0))then(some (⟨#[109,48]⟩:ByteArray))else((Z4.l0 k a0 (⟨#[]⟩:ByteArray)).bind λy1=>bif Nat.ble ((⟨#[109]⟩:ByteArray).size+y1.size) 9223372036854775807 then(some ((⟨#[109]⟩:ByteArray)++y1))else none)
def Z4.C (k:Nat):Cal->Option CArm:=λc=>match c with
 |_=>none
def Z4.sp0:List Sp:=[.t 0 (.int .i64),.t 3 .str]
def Z4.sp0_0:List Sp:=[.t 3 .str]
def Z4.A0:LArm:=.one Z4.sp0 Z4.sp0_0 (ByteArray) (λk x=>Z4.l0 k x.1 x.2.1) (.exit 0) (λy=>(y,())) (λx=>x.1)
def Z4.L:Nat->Option LArm:=λb=>match b with
 |0=>some Z4.A0
 |_=>none
theorem Z4.run (k:Nat)(a0:Int):Ql Q0 (Q6 (Z4.C k)) (Q4 20 k Z4.L) Tryz.f32 [.t (.int .i64) a0] (Q2 (.t .str))=Z4.F k a0:=by kernel_rfl
theorem Z4.step0 (k:Nat)(x0:Int)(x3:ByteArray):Qp Q0 (Q6 (Z4.C k)) (Q4 20 k Z4.L) 0 (Qi Tryz.f32 0) (Qz 20 Z4.sp0 (x0,x3,())) (Z4.A0.cont 20 k)=Z4.l0 (k+1) x0 x3:=by kernel_rfl
theorem Z4.G (hE:EnvOk Tryz.prog Q0)(pv:Nat->Value)(k:Nat):∀cal A,Z4.C k cal=some A->Q9 Tryz.prog Q0 pv cal A:=by
 intro cal A h
 unfold Z4.C at h
 cases h
theorem Z4.good (hE:EnvOk Tryz.prog Q0)(pv:Nat->Value)(k:Nat)(a0:Int){y:_}(h:Z4.F k a0=some y):Q8 Tryz.prog Q0 pv (.f 32) (Qa [(.int .i64)] (a0,())) (.t .str y):=
 Qg hE (t:=Z4.C) k (λk _=>Z4.G hE pv k) (f:=32) (fn:=Tryz.f32) (by kernel_rfl) rfl (by kernel_rfl) (by kernel_rfl) (lt:=Z4.L) (by kernel_rfl) (λb A h=>by
  unfold Z4.L at h;split at h
  ·cases h;exact⟨by kernel_rfl,by kernel_rfl,λ_=>rfl,λ_=>rfl⟩
  ·cases h) (λb A h=>by
  unfold Z4.L at h;split at h
  ·cases h;exact λk x=>Z4.step0 k x.1 x.2.1
  ·cases h) ((Z4.run k a0).trans h) (λr hr=>Q1 hr)
def Z53.l0:Nat->(List ByteArray)->Int->Int->Option ((List ByteArray)×Int)
 |0,_,_,_=>none
 |k+1,x0,x1,x5=>bif (decide (x5<(x0.length:Int)))then((Z4.F k x1).bind λr1=>bif decide (0<=x5)then(bif decide (x5<(x0.length:Int))then(Z53.l0 k (x0.set ((x5:Int).toNat) r1) (IntKind.wrap .i64 (x1+1)) (IntKind.wrap .i64 (x5+1)))else none)else none)else(some (x0,x1))
def Z53.F (k:Nat)(a0:List ByteArray)(a1:Int):Option ((List ByteArray)×Int):=(Z53.l0 k a0 a1 0).bind λy2=>bif Nat.beq (y2.1).length a0.length then(some (y2.1,y2.2))else none
def Z53.C (k:Nat):Cal->Option CArm:=λc=>match c with
 |.f 32=>some (.p [(.int .i64)] _ (λx=>Z4.F k x.1) (λr=>(.t .str r)))
 |_=>none
def Z53.sp0:List Sp:=[.own 0 1099511627776 9 .str false true,.t 1 (.int .i64),.t 5 (.int .i64)]
def Z53.sp0_0:List Sp:=[.own 0 1099511627776 9 .str false true,.t 1 (.int .i64)]
def Z53.A0:LArm:=.one Z53.sp0 Z53.sp0_0 ((List ByteArray)×Int) (λk x=>Z53.l0 k x.1 x.2.1 x.2.2.1) (.exit 0) (λy=>(y.1,y.2,())) (λx=>(x.1,x.2.1))
def Z53.L:Nat->Option LArm:=λb=>match b with
 |0=>some Z53.A0
 |_=>none
theorem Z53.run (k:Nat)(a0:List ByteArray)(a1:Int):G2 Q0 (Q6 (Z53.C k)) (Q4 20 k Z53.L) Tryz.f15 Qd (.fr 9 .str a0) [.t (.int .i64) a1] (Q6F (.fr 9 .str) (Q2 (.t (.int .i64))))=Z53.F k a0 a1:=by kernel_rfl
theorem Z53.step0 (k:Nat)(x0:List ByteArray)(x1:Int)(x5:Int):Qp Q0 (Q6 (Z53.C k)) (Q4 20 k Z53.L) 0 (Qi Tryz.f15 0) (Qz 20 Z53.sp0 (x0,x1,x5,())) (Z53.A0.cont 20 k)=Z53.l0 (k+1) x0 x1 x5:=by kernel_rfl
theorem Z53.G (hE:EnvOk Tryz.prog Q0)(pv:Nat->Value)(k:Nat):∀cal A,Z53.C k cal=some A->Q9 Tryz.prog Q0 pv cal A:=by
 intro cal A h
 unfold Z53.C at h
 split at h
 ·cases h;exact λx y hy=>Z4.good hE pv k x.1 hy
 ·cases h
theorem Z53.good (hE:EnvOk Tryz.prog Q0)(pv:Nat->Value)(k:Nat)(a0:List ByteArray)(a1:Int){y:_}(h:Z53.F k a0 a1=some y):Jb Tryz.prog Q0 pv 15 (.fr 9 .str a0) (Qa [(.int .i64)] (a1,())) (.kep (.fr 9 .str y.1) (.t (.int .i64) y.2)):=
 YF hE (t:=Z53.C) k (λk _=>Z53.G hE pv k) (f:=15) (fn:=Tryz.f15) (by kernel_rfl) rfl (by kernel_rfl) (.inl rfl) (by kernel_rfl) (lt:=Z53.L) (by kernel_rfl) (λb A h=>by
  unfold Z53.L at h;split at h
  ·cases h;exact⟨by kernel_rfl,by kernel_rfl,λ_=>rfl,λ_=>rfl⟩
  ·cases h) (λb A h=>by
  unfold Z53.L at h;split at h
  ·cases h;exact λk x=>Z53.step0 k x.1 x.2.1 x.2.2.1
  ·cases h) ((Z53.run k a0 a1).trans h) (λr hr=>Q4u (λr y h=>Q1 h) hr)
-- NO 46 loop.example/g00896/laws.markNameS: handed over: t for ('fr',9,('str',))
-- NO 31 loop.example/g00896/laws.markEntryS: a call of loop.example/g00896/laws.markNameS
-- NO 14 loop.example/g00896/laws.markLibrary: a call of loop.example/g00896/laws.markEntryS
def Z54.l0:Nat->(List Int)->Int->Int->Option ((List Int)×Int)
 |0,_,_,_=>none
 |k+1,x0,x1,x5=>bif (decide (x5<(x0.length:Int)))then(bif decide (0<=x5)then(bif decide (x5<(x0.length:Int))then(Z54.l0 k (x0.set ((x5:Int).toNat) x1) (IntKind.wrap .i64 (x1+1)) (IntKind.wrap .i64 (x5+1)))else none)else none)else(some (x0,x1))
def Z54.F (k:Nat)(a0:List Int)(a1:Int):Option ((List Int)×Int):=(Z54.l0 k a0 a1 0).bind λy1=>bif Nat.beq (y1.1).length a0.length then(some (y1.1,y1.2))else none
def Z54.C (k:Nat):Cal->Option CArm:=λc=>match c with
 |_=>none
def Z54.sp0:List Sp:=[.own 0 1099511627776 3 (.int .i64) false true,.t 1 (.int .i64),.t 5 (.int .i64)]
def Z54.sp0_0:List Sp:=[.own 0 1099511627776 3 (.int .i64) false true,.t 1 (.int .i64)]
def Z54.A0:LArm:=.one Z54.sp0 Z54.sp0_0 ((List Int)×Int) (λk x=>Z54.l0 k x.1 x.2.1 x.2.2.1) (.exit 0) (λy=>(y.1,y.2,())) (λx=>(x.1,x.2.1))
def Z54.L:Nat->Option LArm:=λb=>match b with
 |0=>some Z54.A0
 |_=>none
theorem Z54.run (k:Nat)(a0:List Int)(a1:Int):G2 Q0 (Q6 (Z54.C k)) (Q4 19 k Z54.L) Tryz.f16 Qd (.fr 3 (.int .i64) a0) [.t (.int .i64) a1] (Q6F (.fr 3 (.int .i64)) (Q2 (.t (.int .i64))))=Z54.F k a0 a1:=by kernel_rfl
theorem Z54.step0 (k:Nat)(x0:List Int)(x1:Int)(x5:Int):Qp Q0 (Q6 (Z54.C k)) (Q4 19 k Z54.L) 0 (Qi Tryz.f16 0) (Qz 19 Z54.sp0 (x0,x1,x5,())) (Z54.A0.cont 19 k)=Z54.l0 (k+1) x0 x1 x5:=by kernel_rfl
theorem Z54.G (hE:EnvOk Tryz.prog Q0)(pv:Nat->Value)(k:Nat):∀cal A,Z54.C k cal=some A->Q9 Tryz.prog Q0 pv cal A:=by
 intro cal A h
 unfold Z54.C at h
 cases h
theorem Z54.good (hE:EnvOk Tryz.prog Q0)(pv:Nat->Value)(k:Nat)(a0:List Int)(a1:Int){y:_}(h:Z54.F k a0 a1=some y):Jb Tryz.prog Q0 pv 16 (.fr 3 (.int .i64) a0) (Qa [(.int .i64)] (a1,())) (.kep (.fr 3 (.int .i64) y.1) (.t (.int .i64) y.2)):=
 YF hE (t:=Z54.C) k (λk _=>Z54.G hE pv k) (f:=16) (fn:=Tryz.f16) (by kernel_rfl) rfl (by kernel_rfl) (.inl rfl) (by kernel_rfl) (lt:=Z54.L) (by kernel_rfl) (λb A h=>by
  unfold Z54.L at h;split at h
  ·cases h;exact⟨by kernel_rfl,by kernel_rfl,λ_=>rfl,λ_=>rfl⟩
  ·cases h) (λb A h=>by
  unfold Z54.L at h;split at h
  ·cases h;exact λk x=>Z54.step0 k x.1 x.2.1 x.2.2.1
  ·cases h) ((Z54.run k a0 a1).trans h) (λr hr=>Q4u (λr y h=>Q1 h) hr)
-- NO 17 loop.example/g00896/laws.markStringSS: handed over: t for ('fr',9,('str',))
def Z36.l0:Nat->(List Int)->Int->Int->Option (Sum Int Int)
 |0,_,_,_=>none
 |k+1,x0,x1,x5=>bif (decide (x5<(x0.length:Int)))then(bif decide (0<=x5)then(bif decide (x5<(x0.length:Int))then(bif ((x0.getD (x5:Int).toNat 0) != x1)then(some (.inl (-1)))else(Z36.l0 k x0 (IntKind.wrap .i64 (x1+1)) (IntKind.wrap .i64 (x5+1))))else none)else none)else(some (.inr x1))
def Z36.F (k:Nat)(a0:List Int)(a1:Int):Option (Int):=(Z36.l0 k a0 a1 0).bind λy1=>match y1 with|.inl z2=>some z2|.inr z2=>some z2
def Z36.C (k:Nat):Cal->Option CArm:=λc=>match c with
 |_=>none
def Z36.sp0:List Sp:=[.t 0 (.sl (.int .i64)),.t 1 (.int .i64),.t 5 (.int .i64)]
def Z36.sp0_0:List Sp:=[.t 4 (.int .i64)]
def Z36.sp0_1:List Sp:=[.t 1 (.int .i64)]
def Z36.A0:LArm:=.two Z36.sp0 Z36.sp0_0 Z36.sp0_1 (Int) (Int) (λk x=>Z36.l0 k x.1 x.2.1 x.2.2.1) .ret (.exit 0) (λy=>(y,())) (λx=>x.1) (λy=>(y,())) (λx=>x.1)
def Z36.L:Nat->Option LArm:=λb=>match b with
 |0=>some Z36.A0
 |_=>none
theorem Z36.run (k:Nat)(a0:List Int)(a1:Int):Ql Q0 (Q6 (Z36.C k)) (Q4 21 k Z36.L) Tryz.f18 [.t (.sl (.int .i64)) a0,.t (.int .i64) a1] (Q2 (.t (.int .i64)))=Z36.F k a0 a1:=by kernel_rfl
theorem Z36.step0 (k:Nat)(x0:List Int)(x1:Int)(x5:Int):Qp Q0 (Q6 (Z36.C k)) (Q4 21 k Z36.L) 0 (Qi Tryz.f18 0) (Qz 21 Z36.sp0 (x0,x1,x5,())) (Z36.A0.cont 21 k)=Z36.l0 (k+1) x0 x1 x5:=by kernel_rfl
theorem Z36.G (hE:EnvOk Tryz.prog Q0)(pv:Nat->Value)(k:Nat):∀cal A,Z36.C k cal=some A->Q9 Tryz.prog Q0 pv cal A:=by
 intro cal A h
 unfold Z36.C at h
 cases h
theorem Z36.good (hE:EnvOk Tryz.prog Q0)(pv:Nat->Value)(k:Nat)(a0:List Int)(a1:Int){y:_}(h:Z36.F k a0 a1=some y):Q8 Tryz.prog Q0 pv (.f 18) (Qa [(.sl (.int .i64)),(.int .i64)] (a0,a1,())) (.t (.int .i64) y):=
 Qg hE (t:=Z36.C) k (λk _=>Z36.G hE pv k) (f:=18) (fn:=Tryz.f18) (by kernel_rfl) rfl (by kernel_rfl) (by kernel_rfl) (lt:=Z36.L) (by kernel_rfl) (λb A h=>by
  unfold Z36.L at h;split at h
  ·cases h;exact⟨by kernel_rfl,by kernel_rfl,by kernel_rfl,λ_=>rfl,λ_=>rfl,λ_=>rfl⟩
  ·cases h) (λb A h=>by
  unfold Z36.L at h;split at h
  ·cases h;exact λk x=>Z36.step0 k x.1 x.2.1 x.2.2.1
  ·cases h) ((Z36.run k a0 a1).trans h) (λr hr=>Q1 hr)
def Z43.l0:Nat->(List ByteArray)->Int->Int->Option (Sum Int Int)
 |0,_,_,_=>none
 |k+1,x0,x1,x5=>bif (decide (x5<(x0.length:Int)))then(bif decide (0<=x5)then(bif decide (x5<(x0.length:Int))then((Z4.F k x1).bind λr1=>bif (!Qu (x0.getD (x5:Int).toNat (⟨#[]⟩:ByteArray)) r1)then(some (.inl (-1)))else(Z43.l0 k x0 (IntKind.wrap .i64 (x1+1)) (IntKind.wrap .i64 (x5+1))))else none)else none)else(some (.inr x1))
def Z43.F (k:Nat)(a0:List ByteArray)(a1:Int):Option (Int):=(Z43.l0 k a0 a1 0).bind λy2=>match y2 with|.inl z3=>some z3|.inr z3=>some z3
def Z43.C (k:Nat):Cal->Option CArm:=λc=>match c with
 |.f 32=>some (.p [(.int .i64)] _ (λx=>Z4.F k x.1) (λr=>(.t .str r)))
 |_=>none
def Z43.sp0:List Sp:=[.t 0 (.sl .str),.t 1 (.int .i64),.t 5 (.int .i64)]
def Z43.sp0_0:List Sp:=[.t 4 (.int .i64)]
def Z43.sp0_1:List Sp:=[.t 1 (.int .i64)]
def Z43.A0:LArm:=.two Z43.sp0 Z43.sp0_0 Z43.sp0_1 (Int) (Int) (λk x=>Z43.l0 k x.1 x.2.1 x.2.2.1) .ret (.exit 0) (λy=>(y,())) (λx=>x.1) (λy=>(y,())) (λx=>x.1)
def Z43.L:Nat->Option LArm:=λb=>match b with
 |0=>some Z43.A0
 |_=>none
theorem Z43.run (k:Nat)(a0:List ByteArray)(a1:Int):Ql Q0 (Q6 (Z43.C k)) (Q4 22 k Z43.L) Tryz.f33 [.t (.sl .str) a0,.t (.int .i64) a1] (Q2 (.t (.int .i64)))=Z43.F k a0 a1:=by kernel_rfl
theorem Z43.step0 (k:Nat)(x0:List ByteArray)(x1:Int)(x5:Int):Qp Q0 (Q6 (Z43.C k)) (Q4 22 k Z43.L) 0 (Qi Tryz.f33 0) (Qz 22 Z43.sp0 (x0,x1,x5,())) (Z43.A0.cont 22 k)=Z43.l0 (k+1) x0 x1 x5:=by kernel_rfl
theorem Z43.G (hE:EnvOk Tryz.prog Q0)(pv:Nat->Value)(k:Nat):∀cal A,Z43.C k cal=some A->Q9 Tryz.prog Q0 pv cal A:=by
 intro cal A h
 unfold Z43.C at h
 split at h
 ·cases h;exact λx y hy=>Z4.good hE pv k x.1 hy
 ·cases h
theorem Z43.good (hE:EnvOk Tryz.prog Q0)(pv:Nat->Value)(k:Nat)(a0:List ByteArray)(a1:Int){y:_}(h:Z43.F k a0 a1=some y):Q8 Tryz.prog Q0 pv (.f 33) (Qa [(.sl .str),(.int .i64)] (a0,a1,())) (.t (.int .i64) y):=
 Qg hE (t:=Z43.C) k (λk _=>Z43.G hE pv k) (f:=33) (fn:=Tryz.f33) (by kernel_rfl) rfl (by kernel_rfl) (by kernel_rfl) (lt:=Z43.L) (by kernel_rfl) (λb A h=>by
  unfold Z43.L at h;split at h
  ·cases h;exact⟨by kernel_rfl,by kernel_rfl,by kernel_rfl,λ_=>rfl,λ_=>rfl,λ_=>rfl⟩
  ·cases h) (λb A h=>by
  unfold Z43.L at h;split at h
  ·cases h;exact λk x=>Z43.step0 k x.1 x.2.1 x.2.2.1
  ·cases h) ((Z43.run k a0 a1).trans h) (λr hr=>Q1 hr)
def Z37.l0:Nat->(List (List ByteArray))->Int->Int->Option (Sum Int Int)
 |0,_,_,_=>none
 |k+1,x0,x1,x5=>bif (decide (x5<(x0.length:Int)))then(bif decide (0<=x5)then(bif decide (x5<(x0.length:Int))then((Z43.F k (x0.getD (x5:Int).toNat []) x1).bind λr1=>bif (decide (r1<0))then(some (.inl (-1)))else(Z37.l0 k x0 r1 (IntKind.wrap .i64 (x5+1))))else none)else none)else(some (.inr x1))
def Z37.F (k:Nat)(a0:List (List ByteArray))(a1:Int):Option (Int):=(Z37.l0 k a0 a1 0).bind λy2=>match y2 with|.inl z3=>some z3|.inr z3=>some z3
def Z37.C (k:Nat):Cal->Option CArm:=λc=>match c with
 |.f 33=>some (.p [(.sl .str),(.int .i64)] _ (λx=>Z43.F k x.1 x.2.1) (λr=>(.t (.int .i64) r)))
 |_=>none
def Z37.sp0:List Sp:=[.t 0 (.sl (.sl .str)),.t 1 (.int .i64),.t 5 (.int .i64)]
def Z37.sp0_0:List Sp:=[.t 4 (.int .i64)]
def Z37.sp0_1:List Sp:=[.t 1 (.int .i64)]
def Z37.A0:LArm:=.two Z37.sp0 Z37.sp0_0 Z37.sp0_1 (Int) (Int) (λk x=>Z37.l0 k x.1 x.2.1 x.2.2.1) .ret (.exit 0) (λy=>(y,())) (λx=>x.1) (λy=>(y,())) (λx=>x.1)
def Z37.L:Nat->Option LArm:=λb=>match b with
 |0=>some Z37.A0
 |_=>none
theorem Z37.run (k:Nat)(a0:List (List ByteArray))(a1:Int):Ql Q0 (Q6 (Z37.C k)) (Q4 21 k Z37.L) Tryz.f19 [.t (.sl (.sl .str)) a0,.t (.int .i64) a1] (Q2 (.t (.int .i64)))=Z37.F k a0 a1:=by kernel_rfl
theorem Z37.step0 (k:Nat)(x0:List (List ByteArray))(x1:Int)(x5:Int):Qp Q0 (Q6 (Z37.C k)) (Q4 21 k Z37.L) 0 (Qi Tryz.f19 0) (Qz 21 Z37.sp0 (x0,x1,x5,())) (Z37.A0.cont 21 k)=Z37.l0 (k+1) x0 x1 x5:=by kernel_rfl
theorem Z37.G (hE:EnvOk Tryz.prog Q0)(pv:Nat->Value)(k:Nat):∀cal A,Z37.C k cal=some A->Q9 Tryz.prog Q0 pv cal A:=by
 intro cal A h
 unfold Z37.C at h
 split at h
 ·cases h;exact λx y hy=>Z43.good hE pv k x.1 x.2.1 hy
 ·cases h
theorem Z37.good (hE:EnvOk Tryz.prog Q0)(pv:Nat->Value)(k:Nat)(a0:List (List ByteArray))(a1:Int){y:_}(h:Z37.F k a0 a1=some y):Q8 Tryz.prog Q0 pv (.f 19) (Qa [(.sl (.sl .str)),(.int .i64)] (a0,a1,())) (.t (.int .i64) y):=
 Qg hE (t:=Z37.C) k (λk _=>Z37.G hE pv k) (f:=19) (fn:=Tryz.f19) (by kernel_rfl) rfl (by kernel_rfl) (by kernel_rfl) (lt:=Z37.L) (by kernel_rfl) (λb A h=>by
  unfold Z37.L at h;split at h
  ·cases h;exact⟨by kernel_rfl,by kernel_rfl,by kernel_rfl,λ_=>rfl,λ_=>rfl,λ_=>rfl⟩
  ·cases h) (λb A h=>by
  unfold Z37.L at h;split at h
  ·cases h;exact λk x=>Z37.step0 k x.1 x.2.1 x.2.2.1
  ·cases h) ((Z37.run k a0 a1).trans h) (λr hr=>Q1 hr)
def Z55.l0:Nat->(List Entry)->(List Entry)->Int->Option ((List Entry))
 |0,_,_,_=>none
 |k+1,x0,x3,x4=>bif (decide (x4<(x0.length:Int)))then(bif decide (0<=x4)then(bif decide (x4<(x0.length:Int))then((Z110.F k (x0.getD (x4:Int).toNat (Qh .entry))).bind λr1=>bif decide (0<=x4)then(bif decide (x4<(x3.length:Int))then(Z55.l0 k x0 (x3.set ((x4:Int).toNat) r1) (IntKind.wrap .i64 (x4+1)))else none)else none)else none)else none)else(some x3)
def Z55.F (k:Nat)(a0:List Entry):Option (List Entry):=bif ((a0.length:Int)==(a0.length:Int))then(bif decide (0<=(a0.length:Int))then(bif Nat.ble (((a0.length:Int):Int).toNat*nb .entry) 140737488355328 then((Z55.l0 k a0 (List.replicate ((a0.length:Int):Int).toNat (Qh .entry)) 0).bind λy2=>some y2)else none)else none)else none
def Z55.C (k:Nat):Cal->Option CArm:=λc=>match c with
 |.f 37=>some (.p [.entry] _ (λx=>Z110.F k x.1) (λr=>(.pc true .entry r)))
 |_=>none
def Z55.sp0:List Sp:=[.t 0 (.sl .entry),.own 3 1032 52 .entry false true,.t 4 (.int .i64)]
def Z55.sp0_0:List Sp:=[.own 3 1032 52 .entry false true]
def Z55.A0:LArm:=.one Z55.sp0 Z55.sp0_0 ((List Entry)) (λk x=>Z55.l0 k x.1 x.2.1 x.2.2.1) (.exit 0) (λy=>(y,())) (λx=>x.1)
def Z55.L:Nat->Option LArm:=λb=>match b with
 |0=>some Z55.A0
 |_=>none
theorem Z55.run (k:Nat)(a0:List Entry):Ql Je (Q6 (Z55.C k)) (Q4 23 k Z55.L) Tryz.f24 [.t (.sl .entry) a0] (Q2 (.fr 52 .entry))=Z55.F k a0:=by kernel_rfl
theorem Z55.step0 (k:Nat)(x0:List Entry)(x3:List Entry)(x4:Int):Qp Je (Q6 (Z55.C k)) (Q4 23 k Z55.L) 0 (Qi Tryz.f24 0) (Qz 23 Z55.sp0 (x0,x3,x4,())) (Z55.A0.cont 23 k)=Z55.l0 (k+1) x0 x3 x4:=by kernel_rfl
theorem Z55.G (hE:EnvOk Tryz.prog Je)(pv:Nat->Value)(n:Nat)(k:Nat):∀cal A,Z55.C k cal=some A->Q9 Tryz.prog Je (mpv pv n) cal A:=by
 intro cal A h
 unfold Z55.C at h
 split at h
 ·cases h;exact λx y hy=>Z110.good hE pv n k x.1 hy
 ·cases h
theorem Z55.good (hE:EnvOk Tryz.prog Je)(pv:Nat->Value)(n:Nat)(k:Nat)(a0:List Entry){y:_}(h:Z55.F k a0=some y):Q8 Tryz.prog Je (mpv pv n) (.f 24) (Qa [(.sl .entry)] (a0,())) (.fr 52 .entry y):=
 Qg hE (t:=Z55.C) k (λk _=>Z55.G hE pv n k) (f:=24) (fn:=Tryz.f24) (by kernel_rfl) rfl (by kernel_rfl) (by kernel_rfl) (lt:=Z55.L) (by kernel_rfl) (λb A h=>by
  unfold Z55.L at h;split at h
  ·cases h;exact⟨by kernel_rfl,by kernel_rfl,λ_=>rfl,λ_=>rfl⟩
  ·cases h) (λb A h=>by
  unfold Z55.L at h;split at h
  ·cases h;exact λk x=>Z55.step0 k x.1 x.2.1 x.2.2.1
  ·cases h) ((Z55.run k a0).trans h) (λr hr=>Q1 hr)
def Z83.F (k:Nat)(a0:Library):Option (Library):=(Z55.F k a0.entries).bind λr1=>some (⟨r1⟩:Library)
def Z83.C (k:Nat):Cal->Option CArm:=λc=>match c with
 |.f 24=>some (.p [(.sl .entry)] _ (λx=>Z55.F k x.1) (λr=>(.fr 52 .entry r)))
 |_=>none
theorem Z83.run (k:Nat)(a0:Library):Q0r Je (Q6 (Z83.C k)) (Q4 9 0 (λ_=>none)) Tryz.f7 [.t .lib a0] (Q2 (.pc .lib))=Z83.F k a0:=by kernel_rfl
theorem Z83.G (hE:EnvOk Tryz.prog Je)(pv:Nat->Value)(n:Nat)(k:Nat):∀cal A,Z83.C k cal=some A->Q9 Tryz.prog Je (mpv pv n) cal A:=by
 intro cal A h
 unfold Z83.C at h
 split at h
 ·cases h;exact λx y hy=>Z55.good hE pv n k x.1 hy
 ·cases h
theorem Z83.good (hE:EnvOk Tryz.prog Je)(pv:Nat->Value)(n:Nat)(k:Nat)(a0:Library){y:_}(h:Z83.F k a0=some y):Q8 Tryz.prog Je (mpv pv n) (.f 7) (Qa [.lib] (a0,())) (.pc true .lib y):=
 XW hE (Q9t pv n) (Q9s pv n) (Z83.G hE pv n k) (f:=7) (fn:=Tryz.f7) (by kernel_rfl) rfl (by kernel_rfl) (by kernel_rfl) ((Z83.run k a0).trans h) (λr hr=>Q1 hr)
def Z87.F (k:Nat)(a0:Library)(a1:List ByteArray):Option (List ByteArray):=bif room (([]:List ByteArray).length+a1.length) .str then((Z100.F k (([]:List ByteArray)++a1) a0).bind λr1=>some r1)else none
def Z87.C (k:Nat):Cal->Option CArm:=λc=>match c with
 |.f 42=>some (.mq (.fr 9 .str) [.clo 43 [.tp .lib]] _ (λx0 x=>Z100.F k x0 x.1.1) (λr=>.kep (.fr 9 .str r) (.tup [])))
 |_=>none
theorem Z87.run (k:Nat)(a0:Library)(a1:List ByteArray):Gx.runT XY (Q6 (Z87.C k)) (Q4 13 0 (λ_=>none)) Tryz.f27 [.t .lib a0,.t (.sl .str) a1] (Q9B (.fr 9 .str))=Z87.F k a0 a1:=by kernel_rfl
theorem Z87.G (hE:EnvOk Tryz.prog XY)(pv:Nat->Value)(k:Nat):∀cal A,Z87.C k cal=some A->Q9 Tryz.prog XY pv cal A:=by
 intro cal A h
 unfold Z87.C at h
 split at h
 ·cases h;exact⟨_,rfl,λx0 x y hy=>Z100.good Q4A pv k x0 x.1.1 hy⟩
 ·cases h
theorem Z87.good (hE:EnvOk Tryz.prog XY)(pv:Nat->Value)(k:Nat)(a0:Library)(a1:List ByteArray){y:_}(h:Z87.F k a0 a1=some y):XP Tryz.prog XY pv 27 (Qa [.lib,(.sl .str)] (a0,a1,())) (.fr 9 .str y):=
 Q5R hE (Z87.G hE pv k) (f:=27) (fn:=Tryz.f27) (by kernel_rfl) rfl (by kernel_rfl) (by kernel_rfl) ((Z87.run k a0 a1).trans h) (λr hr=>Q9C (k:=(.fr 9 .str)) hr)
def Z38.l0:Nat->(List ByteArray)->Library->(List Int)->(List (List ByteArray))->Int->Option ((List Int)× (List (List ByteArray)))
 |0,_,_,_,_,_=>none
 |k+1,x1,x2,x7,x8,x9=>bif (decide (x9<=4))then((Z87.F k x2 x1).bind λr2=>(Z47.F k r2 x2 x9).bind λr3=>bif (decide ((r3.length:Int) > 0))then(bif room (x7.length+([x9]:List Int).length) (.int .i64)then(bif room (x8.length+([r3]:List (List ByteArray)).length) (.sl .str)then(Z38.l0 k x1 x2 (x7++([x9]:List Int)) (x8++([r3]:List (List ByteArray))) (IntKind.wrap .i64 (x9+1)))else none)else none)else(Z38.l0 k x1 x2 x7 x8 (IntKind.wrap .i64 (x9+1))))else(some (x7,x8))
def Z38.F (k:Nat)(a0:Library)(a1:List ByteArray):Option ((List Int)× (List (List ByteArray))×Bool):=(Z29.F k a0 a1).bind λr1=>bif (!r1)then(some ([],[],false))else((Z38.l0 k a1 a0 ([]:List Int) ([]:List (List ByteArray)) 1).bind λy4=>some (y4.1,y4.2,true))
def Z38.C (k:Nat):Cal->Option CArm:=λc=>match c with
 |.f 27=>some (.tt [.lib,(.sl .str)] _ (λx=>Z87.F k x.1 x.2.1) (λr=>(.fr 9 .str r)))
 |.f 25=>some (.p [.lib,(.sl .str)] _ (λx=>Z29.F k x.1 x.2.1) (λr=>(.t .bool r)))
 |.f 26=>some (.mq (.fr 9 .str) [.clo 28 [.tp .lib,.tp (.int .i64)]] _ (λx0 x=>Z47.F k x0 x.1.1 x.1.2.1) (λr=>.mov 9 .str r))
 |_=>none
def Z38.sp0:List Sp:=[.t 1 (.sl .str),.boxT 2 0 .lib,.own 7 3072 3 (.int .i64) false true,.tv 8 3076 25 (.sl (.sl .str)) true,.boxT 9 4096 (.int .i64)]
def Z38.sp0_0:List Sp:=[.own 7 3072 3 (.int .i64) false true,.tv 8 3076 25 (.sl (.sl .str)) true]
def Z38.A0:LArm:=.one Z38.sp0 Z38.sp0_0 ((List Int)× (List (List ByteArray))) (λk x=>Z38.l0 k x.1 x.2.1 x.2.2.1 x.2.2.2.1 x.2.2.2.2.1) (.exit 0) (λy=>(y.1,y.2,())) (λx=>(x.1,x.2.1))
def Z38.L:Nat->Option LArm:=λb=>match b with
 |0=>some Z38.A0
 |_=>none
theorem Z38.run (k:Nat)(a0:Library)(a1:List ByteArray):Gx.runT XY (Q6 (Z38.C k)) (Q4 40 k Z38.L) Tryz.f9 [.t .lib a0,.t (.sl .str) a1] (Q5Q (.fr 3 (.int .i64)) (.tr (.sl (.sl .str))) (.t .bool))=Z38.F k a0 a1:=by kernel_rfl
theorem Z38.step0 (k:Nat)(x1:List ByteArray)(x2:Library)(x7:List Int)(x8:List (List ByteArray))(x9:Int):Qp XY (Q6 (Z38.C k)) (Q4 40 k Z38.L) 0 (Qi Tryz.f9 0) (Qz 40 Z38.sp0 (x1,x2,x7,x8,x9,())) (Z38.A0.cont 40 k)=Z38.l0 (k+1) x1 x2 x7 x8 x9:=by kernel_rfl
theorem Z38.G (hE:EnvOk Tryz.prog XY)(pv:Nat->Value)(k:Nat):∀cal A,Z38.C k cal=some A->Q9 Tryz.prog XY pv cal A:=by
 intro cal A h
 unfold Z38.C at h
 split at h
 ·cases h;exact⟨_,rfl,λx y hy=>Z87.good hE pv k x.1 x.2.1 hy⟩
 ·cases h;exact λx y hy=>Z29.good Q4A pv k x.1 x.2.1 hy
 ·cases h;exact⟨_,rfl,λx0 x y hy=>Z47.good Q4A pv k x0 x.1.1 x.1.2.1 hy⟩
 ·cases h
theorem Z38.good (hE:EnvOk Tryz.prog XY)(pv:Nat->Value)(k:Nat)(a0:Library)(a1:List ByteArray){y:_}(h:Z38.F k a0 a1=some y):XP Tryz.prog XY pv 9 (Qa [.lib,(.sl .str)] (a0,a1,())) (.tup [.fr 3 (.int .i64) y.1,.tr (.sl (.sl .str)) y.2.1,.t .bool y.2.2]):=
 Q5S hE (t:=Z38.C) k (λk _=>Z38.G hE pv k) (f:=9) (fn:=Tryz.f9) (by kernel_rfl) rfl (by kernel_rfl) (by kernel_rfl) (lt:=Z38.L) (by kernel_rfl) (λb A h=>by
  unfold Z38.L at h;split at h
  ·cases h;exact⟨by kernel_rfl,by kernel_rfl,λ_=>rfl,λ_=>rfl⟩
  ·cases h) (λb A h=>by
  unfold Z38.L at h;split at h
  ·cases h;exact λk x=>Z38.step0 k x.1 x.2.1 x.2.2.1 x.2.2.2.1 x.2.2.2.2.1
  ·cases h) ((Z38.run k a0 a1).trans h) (λr hr=>Q9D (k:=(.fr 3 (.int .i64))) (l:=(.tr (.sl (.sl .str)))) (m:=(.t .bool)) hr)
def Z56.l0:Nat->(List ByteArray)->Int->Int->Option ((List ByteArray)×Int)
 |0,_,_,_=>none
 |k+1,x0,x1,x5=>bif (decide (x5<(x0.length:Int)))then((Z4.F k x1).bind λr1=>bif decide (0<=x5)then(bif decide (x5<(x0.length:Int))then(Z56.l0 k x0 (IntKind.wrap .i64 (x1+1)) (IntKind.wrap .i64 (x5+1)))else none)else none)else(some (x0,x1))
def Z56.F (k:Nat)(a0:List ByteArray)(a1:Int):Option (Int):=(Z56.l0 k a0 a1 0).bind λy2=>some y2.2
def Z56.C (k:Nat):Cal->Option CArm:=λc=>match c with
 |.f 32=>some (.p [(.int .i64)] _ (λx=>Z4.F k x.1) (λr=>(.t .str r)))
 |_=>none
def Z56.sp0:List Sp:=[.ds 0 1099511627776 (.sl .str) (.sl .str),.t 1 (.int .i64),.t 5 (.int .i64)]
def Z56.sp0_0:List Sp:=[.ds 0 1099511627776 (.sl .str) (.sl .str),.t 1 (.int .i64)]
def Z56.A0:LArm:=.one Z56.sp0 Z56.sp0_0 ((List ByteArray)×Int) (λk x=>Z56.l0 k x.1 x.2.1 x.2.2.1) (.exit 0) (λy=>(y.1,y.2,())) (λx=>(x.1,x.2.1))
def Z56.L:Nat->Option LArm:=λb=>match b with
 |0=>some Z56.A0
 |_=>none
theorem Z56.run (k:Nat)(a0:List ByteArray)(a1:Int):Q2S Q0 (Q6 (Z56.C k)) (Q4 20 k Z56.L) Tryz.f15 (.sl .str) a0 a1 (Q2 (.t (.int .i64)))=Z56.F k a0 a1:=by kernel_rfl
theorem Z56.step0 (k:Nat)(x0:List ByteArray)(x1:Int)(x5:Int):Qp Q0 (Q6 (Z56.C k)) (Q4 20 k Z56.L) 0 (Qi Tryz.f15 0) (Qz 20 Z56.sp0 (x0,x1,x5,())) (Z56.A0.cont 20 k)=Z56.l0 (k+1) x0 x1 x5:=by kernel_rfl
theorem Z56.G (hE:EnvOk Tryz.prog Q0)(pv:Nat->Value)(k:Nat):∀cal A,Z56.C k cal=some A->Q9 Tryz.prog Q0 pv cal A:=by
 intro cal A h
 unfold Z56.C at h
 split at h
 ·cases h;exact λx y hy=>Z4.good hE pv k x.1 hy
 ·cases h
theorem Z56.good (hE:EnvOk Tryz.prog Q0)(pv:Nat->Value)(k:Nat)(a0:List ByteArray)(a1:Int){y:_}(h:Z56.F k a0 a1=some y):Ut Tryz.prog Q0 pv 15 (.sl .str) a0 a1 y:=
 Di hE (t:=Z56.C) k (λk _=>Z56.G hE pv k) (f:=15) (fn:=Tryz.f15) (by kernel_rfl) rfl (by kernel_rfl) (by kernel_rfl) (lt:=Z56.L) (by kernel_rfl) (λb A h=>by
  unfold Z56.L at h;split at h
  ·cases h;exact⟨by kernel_rfl,by kernel_rfl,λ_=>rfl,λ_=>rfl⟩
  ·cases h) (λb A h=>by
  unfold Z56.L at h;split at h
  ·cases h;exact λk x=>Z56.step0 k x.1 x.2.1 x.2.2.1
  ·cases h) rfl ((Z56.run k a0 a1).trans h) (λr hr=>DT hr)
def Z48.l0:Nat->(List Name)->Int->Int->Option ((List Name)×Int)
 |0,_,_,_=>none
 |k+1,x0,x1,x5=>bif (decide (x5<(x0.length:Int)))then(bif decide (0<=x5)then(bif decide (x5<(x0.length:Int))then((Z56.F k ((x0.getD (x5:Int).toNat (Qh .name)).given) x1).bind λr1=>(Z4.F k r1).bind λr2=>bif decide (0<=x5)then(bif decide (x5<(x0.length:Int))then((Z4.F k (IntKind.wrap .i64 (r1+1))).bind λr3=>bif decide (0<=x5)then(bif decide (x5<(x0.length:Int))then((Z4.F k (IntKind.wrap .i64 ((IntKind.wrap .i64 (r1+1))+1))).bind λr4=>bif decide (0<=x5)then(bif decide (x5<(x0.length:Int))then(Z48.l0 k x0 (IntKind.wrap .i64 ((IntKind.wrap .i64 ((IntKind.wrap .i64 (r1+1))+1))+1)) (IntKind.wrap .i64 (x5+1)))else none)else none)else none)else none)else none)else none)else none)else none)else(some (x0,x1))
def Z48.F (k:Nat)(a0:List Name)(a1:Int):Option (Int):=(Z48.l0 k a0 a1 0).bind λy5=>some y5.2
def Z48.C (k:Nat):Cal->Option CArm:=λc=>match c with
 |.f 15=>some (.d (.sl .str) (λx q=>Z56.F k x q))
 |.f 32=>some (.p [(.int .i64)] _ (λx=>Z4.F k x.1) (λr=>(.t .str r)))
 |_=>none
def Z48.sp0:List Sp:=[.ds 0 1099511627776 (.sl .name) (.sl .name),.t 1 (.int .i64),.t 5 (.int .i64)]
def Z48.sp0_0:List Sp:=[.ds 0 1099511627776 (.sl .name) (.sl .name),.t 1 (.int .i64)]
def Z48.A0:LArm:=.one Z48.sp0 Z48.sp0_0 ((List Name)×Int) (λk x=>Z48.l0 k x.1 x.2.1 x.2.2.1) (.exit 0) (λy=>(y.1,y.2,())) (λx=>(x.1,x.2.1))
def Z48.L:Nat->Option LArm:=λb=>match b with
 |0=>some Z48.A0
 |_=>none
theorem Z48.run (k:Nat)(a0:List Name)(a1:Int):Q2S Q0 (Q6 (Z48.C k)) (Q4 44 k Z48.L) Tryz.f46 (.sl .name) a0 a1 (Q2 (.t (.int .i64)))=Z48.F k a0 a1:=by kernel_rfl
theorem Z48.step0 (k:Nat)(x0:List Name)(x1:Int)(x5:Int):Qp Q0 (Q6 (Z48.C k)) (Q4 44 k Z48.L) 0 (Qi Tryz.f46 0) (Qz 44 Z48.sp0 (x0,x1,x5,())) (Z48.A0.cont 44 k)=Z48.l0 (k+1) x0 x1 x5:=by kernel_rfl
theorem Z48.G (hE:EnvOk Tryz.prog Q0)(pv:Nat->Value)(k:Nat):∀cal A,Z48.C k cal=some A->Q9 Tryz.prog Q0 pv cal A:=by
 intro cal A h
 unfold Z48.C at h
 split at h
 ·cases h;exact⟨_,rfl,λx q y hy=>Z56.good hE pv k x q hy⟩
 ·cases h;exact λx y hy=>Z4.good hE pv k x.1 hy
 ·cases h
theorem Z48.good (hE:EnvOk Tryz.prog Q0)(pv:Nat->Value)(k:Nat)(a0:List Name)(a1:Int){y:_}(h:Z48.F k a0 a1=some y):Ut Tryz.prog Q0 pv 46 (.sl .name) a0 a1 y:=
 Di hE (t:=Z48.C) k (λk _=>Z48.G hE pv k) (f:=46) (fn:=Tryz.f46) (by kernel_rfl) rfl (by kernel_rfl) (by kernel_rfl) (lt:=Z48.L) (by kernel_rfl) (λb A h=>by
  unfold Z48.L at h;split at h
  ·cases h;exact⟨by kernel_rfl,by kernel_rfl,λ_=>rfl,λ_=>rfl⟩
  ·cases h) (λb A h=>by
  unfold Z48.L at h;split at h
  ·cases h;exact λk x=>Z48.step0 k x.1 x.2.1 x.2.2.1
  ·cases h) rfl ((Z48.run k a0 a1).trans h) (λr hr=>DT hr)
def Z60.l0:Nat->(List Entry)->Int->Int->Option ((List Entry)×Int)
 |0,_,_,_=>none
 |k+1,x0,x1,x5=>bif (decide (x5<(x0.length:Int)))then((Z4.F k x1).bind λr1=>bif decide (0<=x5)then(bif decide (x5<(x0.length:Int))then(bif decide (0<=x5)then(bif decide (x5<(x0.length:Int))then(bif decide (0<=x5)then(bif decide (x5<(x0.length:Int))then((Z48.F k ((x0.getD (x5:Int).toNat (Qh .entry)).authors) (IntKind.wrap .i64 ((IntKind.wrap .i64 (x1+1))+1))).bind λr2=>bif decide (0<=x5)then(bif decide (x5<(x0.length:Int))then((Z48.F k ((x0.getD (x5:Int).toNat (Qh .entry)).editors) r2).bind λr3=>(Z4.F k r3).bind λr4=>bif decide (0<=x5)then(bif decide (x5<(x0.length:Int))then((Z4.F k (IntKind.wrap .i64 (r3+1))).bind λr5=>bif decide (0<=x5)then(bif decide (x5<(x0.length:Int))then((Z4.F k (IntKind.wrap .i64 ((IntKind.wrap .i64 (r3+1))+1))).bind λr6=>bif decide (0<=x5)then(bif decide (x5<(x0.length:Int))then(bif decide (0<=x5)then(bif decide (x5<(x0.length:Int))then(bif decide (0<=x5)then(bif decide (x5<(x0.length:Int))then(bif decide (0<=x5)then(bif decide (x5<(x0.length:Int))then(bif (3==0)then(none)else(bif decide (0<=x5)then(bif decide (x5<(x0.length:Int))then(bif decide (0<=x5)then(bif decide (x5<(x0.length:Int))then((Z4.F k (IntKind.wrap .i64 ((IntKind.wrap .i64 ((IntKind.wrap .i64 ((IntKind.wrap .i64 ((IntKind.wrap .i64 ((IntKind.wrap .i64 ((IntKind.wrap .i64 ((IntKind.wrap .i64 (r3+1))+1))+1))+1))+1))+1))+1))+1))).bind λr7=>bif decide (0<=x5)then(bif decide (x5<(x0.length:Int))then((Z4.F k (IntKind.wrap .i64 ((IntKind.wrap .i64 ((IntKind.wrap .i64 ((IntKind.wrap .i64 ((IntKind.wrap .i64 ((IntKind.wrap .i64 ((IntKind.wrap .i64 ((IntKind.wrap .i64 ((IntKind.wrap .i64 (r3+1))+1))+1))+1))+1))+1))+1))+1))+1))).bind λr8=>bif decide (0<=x5)then(bif decide (x5<(x0.length:Int))then(Z60.l0 k x0 (IntKind.wrap .i64 ((IntKind.wrap .i64 ((IntKind.wrap .i64 ((IntKind.wrap .i64 ((IntKind.wrap .i64 ((IntKind.wrap .i64 ((IntKind.wrap .i64 ((IntKind.wrap .i64 ((IntKind.wrap .i64 ((IntKind.wrap .i64 (r3+1))+1))+1))+1))+1))+1))+1))+1))+1))+1)) (IntKind.wrap .i64 (x5+1)))else none)else none)else none)else none)else none)else none)else none)else none))else none)else none)else none)else none)else none)else none)else none)else none)else none)else none)else none)else none)else none)else none)else none)else none)else none)else none)else none)else none)else(some (x0,x1))
def Z60.F (k:Nat)(a0:List Entry)(a1:Int):Option (Int):=(Z60.l0 k a0 a1 0).bind λy9=>some y9.2
def Z60.C (k:Nat):Cal->Option CArm:=λc=>match c with
 |.f 46=>some (.d (.sl .name) (λx q=>Z48.F k x q))
 |.f 32=>some (.p [(.int .i64)] _ (λx=>Z4.F k x.1) (λr=>(.t .str r)))
 |_=>none
def Z60.sp0:List Sp:=[.ds 0 1099511627776 (.sl .entry) (.sl .entry),.t 1 (.int .i64),.t 5 (.int .i64)]
def Z60.sp0_0:List Sp:=[.ds 0 1099511627776 (.sl .entry) (.sl .entry),.t 1 (.int .i64)]
def Z60.A0:LArm:=.one Z60.sp0 Z60.sp0_0 ((List Entry)×Int) (λk x=>Z60.l0 k x.1 x.2.1 x.2.2.1) (.exit 0) (λy=>(y.1,y.2,())) (λx=>(x.1,x.2.1))
def Z60.L:Nat->Option LArm:=λb=>match b with
 |0=>some Z60.A0
 |_=>none
theorem Z60.run (k:Nat)(a0:List Entry)(a1:Int):Q2S Q0 (Q6 (Z60.C k)) (Q4 123 k Z60.L) Tryz.f31 (.sl .entry) a0 a1 (Q2 (.t (.int .i64)))=Z60.F k a0 a1:=by kernel_rfl
theorem Z60.step0 (k:Nat)(x0:List Entry)(x1:Int)(x5:Int):Qp Q0 (Q6 (Z60.C k)) (Q4 123 k Z60.L) 0 (Qi Tryz.f31 0) (Qz 123 Z60.sp0 (x0,x1,x5,())) (Z60.A0.cont 123 k)=Z60.l0 (k+1) x0 x1 x5:=by kernel_rfl
theorem Z60.G (hE:EnvOk Tryz.prog Q0)(pv:Nat->Value)(k:Nat):∀cal A,Z60.C k cal=some A->Q9 Tryz.prog Q0 pv cal A:=by
 intro cal A h
 unfold Z60.C at h
 split at h
 ·cases h;exact⟨_,rfl,λx q y hy=>Z48.good hE pv k x q hy⟩
 ·cases h;exact λx y hy=>Z4.good hE pv k x.1 hy
 ·cases h
theorem Z60.good (hE:EnvOk Tryz.prog Q0)(pv:Nat->Value)(k:Nat)(a0:List Entry)(a1:Int){y:_}(h:Z60.F k a0 a1=some y):Ut Tryz.prog Q0 pv 31 (.sl .entry) a0 a1 y:=
 Di hE (t:=Z60.C) k (λk _=>Z60.G hE pv k) (f:=31) (fn:=Tryz.f31) (by kernel_rfl) rfl (by kernel_rfl) (by kernel_rfl) (lt:=Z60.L) (by kernel_rfl) (λb A h=>by
  unfold Z60.L at h;split at h
  ·cases h;exact⟨by kernel_rfl,by kernel_rfl,λ_=>rfl,λ_=>rfl⟩
  ·cases h) (λb A h=>by
  unfold Z60.L at h;split at h
  ·cases h;exact λk x=>Z60.step0 k x.1 x.2.1 x.2.2.1
  ·cases h) rfl ((Z60.run k a0 a1).trans h) (λr hr=>DT hr)
def Z125.F (k:Nat)(a0:Library)(a1:Int):Option (Int):=(Z60.F k a0.entries a1).bind λr1=>some r1
def Z125.C (k:Nat):Cal->Option CArm:=λc=>match c with
 |.f 31=>some (.d (.sl .entry) (λx q=>Z60.F k x q))
 |_=>none
theorem Z125.run (k:Nat)(a0:Library)(a1:Int):Q2S Q0 (Q6 (Z125.C k)) (Q4 10 0 (λ_=>none)) Tryz.f14 .lib a0 a1 (Q2 (.t (.int .i64)))=Z125.F k a0 a1:=by kernel_rfl
theorem Z125.G (hE:EnvOk Tryz.prog Q0)(pv:Nat->Value)(k:Nat):∀cal A,Z125.C k cal=some A->Q9 Tryz.prog Q0 pv cal A:=by
 intro cal A h
 unfold Z125.C at h
 split at h
 ·cases h;exact⟨_,rfl,λx q y hy=>Z60.good hE pv k x q hy⟩
 ·cases h
theorem Z125.good (hE:EnvOk Tryz.prog Q0)(pv:Nat->Value)(k:Nat)(a0:Library)(a1:Int){y:_}(h:Z125.F k a0 a1=some y):Ut Tryz.prog Q0 pv 14 .lib a0 a1 y:=
 Q5N hE (Z125.G hE pv k) (f:=14) (fn:=Tryz.f14) (by kernel_rfl) rfl (by kernel_rfl) (by kernel_rfl) rfl ((Z125.run k a0 a1).trans h) (λr hr=>DT hr)
def Z57.l0:Nat->(List ByteArray)->Int->Int->Option ((List ByteArray)×Int)
 |0,_,_,_=>none
 |k+1,x0,x1,x5=>bif (decide (x5<(x0.length:Int)))then((Z4.F k x1).bind λr1=>bif decide (0<=x5)then(bif decide (x5<(x0.length:Int))then((some (x0.set ((x5:Int).toNat) r1)).bind λw2=>Z57.l0 k w2 (IntKind.wrap .i64 (x1+1)) (IntKind.wrap .i64 (x5+1)))else none)else none)else(some (x0,x1))
def Z57.F (k:Nat)(a0:List ByteArray)(a1:Int):Option ((List ByteArray)×Int):=(Z57.l0 k a0 a1 0).bind λy3=>some (y3.1,y3.2)
def Z57.C (k:Nat):Cal->Option CArm:=λc=>match c with
 |.f 32=>some (.p [(.int .i64)] _ (λx=>Z4.F k x.1) (λr=>(.t .str r)))
 |_=>none
def Z57.sp0:List Sp:=[.tv 0 1099511627776 0 (.sl .str) false,.t 1 (.int .i64),.t 5 (.int .i64)]
def Z57.sp0_0:List Sp:=[.tv 0 1099511627776 0 (.sl .str) false,.t 1 (.int .i64)]
def Z57.A0:LArm:=.one Z57.sp0 Z57.sp0_0 ((List ByteArray)×Int) (λk x=>Z57.l0 k x.1 x.2.1 x.2.2.1) (.exit 0) (λy=>(y.1,y.2,())) (λx=>(x.1,x.2.1))
def Z57.L:Nat->Option LArm:=λb=>match b with
 |0=>some Z57.A0
 |_=>none
theorem Z57.run (k:Nat)(a0:List ByteArray)(a1:Int):Gx.runX Q0 (Q6 (Z57.C k)) (Q4 20 k Z57.L) Tryz.f15 (.sl .str) a0 a1 (KN (.sl .str))=Z57.F k a0 a1:=by kernel_rfl
theorem Z57.step0 (k:Nat)(x0:List ByteArray)(x1:Int)(x5:Int):Qp Q0 (Q6 (Z57.C k)) (Q4 20 k Z57.L) 0 (Qi Tryz.f15 0) (Qz 20 Z57.sp0 (x0,x1,x5,())) (Z57.A0.cont 20 k)=Z57.l0 (k+1) x0 x1 x5:=by kernel_rfl
theorem Z57.G (hE:EnvOk Tryz.prog Q0)(pv:Nat->Value)(k:Nat):∀cal A,Z57.C k cal=some A->Q9 Tryz.prog Q0 pv cal A:=by
 intro cal A h
 unfold Z57.C at h
 split at h
 ·cases h;exact λx y hy=>Z4.good hE pv k x.1 hy
 ·cases h
theorem Z57.good (hE:EnvOk Tryz.prog Q0)(pv:Nat->Value)(k:Nat)(a0:List ByteArray)(a1:Int){y:_}(h:Z57.F k a0 a1=some y):Db Tryz.prog Q0 pv 15 (.sl .str) a0 a1 y.1 y.2:=
 Q1c hE (t:=Z57.C) k (λk _=>Z57.G hE pv k) (f:=15) (fn:=Tryz.f15) (by kernel_rfl) rfl (by kernel_rfl) (by kernel_rfl) (lt:=Z57.L) (by kernel_rfl) (λb A h=>by
  unfold Z57.L at h;split at h
  ·cases h;exact⟨by kernel_rfl,by kernel_rfl,λ_=>rfl,λ_=>rfl⟩
  ·cases h) (λb A h=>by
  unfold Z57.L at h;split at h
  ·cases h;exact λk x=>Z57.step0 k x.1 x.2.1 x.2.2.1
  ·cases h) rfl ((Z57.run k a0 a1).trans h)
def Z58.l0:Nat->(List (List ByteArray))->Int->Int->Option ((List (List ByteArray))×Int)
 |0,_,_,_=>none
 |k+1,x0,x1,x5=>bif (decide (x5<(x0.length:Int)))then(bif decide (0<=x5)then(bif decide (x5<(x0.length:Int))then((Z57.F k (x0.getD ((x5:Int).toNat) []) x1).bind λr1=>(some (x0.set ((x5:Int).toNat) r1.1)).bind λw2=>Z58.l0 k w2 r1.2 (IntKind.wrap .i64 (x5+1)))else none)else none)else(some (x0,x1))
def Z58.F (k:Nat)(a0:List (List ByteArray))(a1:Int):Option ((List (List ByteArray))×Int):=(Z58.l0 k a0 a1 0).bind λy3=>some (y3.1,y3.2)
def Z58.C (k:Nat):Cal->Option CArm:=λc=>match c with
 |.f 15=>some (.x (.sl .str) (λx q=>Z57.F k x q))
 |_=>none
def Z58.sp0:List Sp:=[.tv 0 1099511627776 0 (.sl (.sl .str)) false,.t 1 (.int .i64),.t 5 (.int .i64)]
def Z58.sp0_0:List Sp:=[.tv 0 1099511627776 0 (.sl (.sl .str)) false,.t 1 (.int .i64)]
def Z58.A0:LArm:=.one Z58.sp0 Z58.sp0_0 ((List (List ByteArray))×Int) (λk x=>Z58.l0 k x.1 x.2.1 x.2.2.1) (.exit 0) (λy=>(y.1,y.2,())) (λx=>(x.1,x.2.1))
def Z58.L:Nat->Option LArm:=λb=>match b with
 |0=>some Z58.A0
 |_=>none
theorem Z58.run (k:Nat)(a0:List (List ByteArray))(a1:Int):Gx.runX Q0 (Q6 (Z58.C k)) (Q4 19 k Z58.L) Tryz.f17 (.sl (.sl .str)) a0 a1 (KN (.sl (.sl .str)))=Z58.F k a0 a1:=by kernel_rfl
theorem Z58.step0 (k:Nat)(x0:List (List ByteArray))(x1:Int)(x5:Int):Qp Q0 (Q6 (Z58.C k)) (Q4 19 k Z58.L) 0 (Qi Tryz.f17 0) (Qz 19 Z58.sp0 (x0,x1,x5,())) (Z58.A0.cont 19 k)=Z58.l0 (k+1) x0 x1 x5:=by kernel_rfl
theorem Z58.G (hE:EnvOk Tryz.prog Q0)(pv:Nat->Value)(k:Nat):∀cal A,Z58.C k cal=some A->Q9 Tryz.prog Q0 pv cal A:=by
 intro cal A h
 unfold Z58.C at h
 split at h
 ·cases h;exact⟨rfl,_,rfl,λx q y hy=>Z57.good hE pv k x q hy⟩
 ·cases h
theorem Z58.good (hE:EnvOk Tryz.prog Q0)(pv:Nat->Value)(k:Nat)(a0:List (List ByteArray))(a1:Int){y:_}(h:Z58.F k a0 a1=some y):Db Tryz.prog Q0 pv 17 (.sl (.sl .str)) a0 a1 y.1 y.2:=
 Q1c hE (t:=Z58.C) k (λk _=>Z58.G hE pv k) (f:=17) (fn:=Tryz.f17) (by kernel_rfl) rfl (by kernel_rfl) (by kernel_rfl) (lt:=Z58.L) (by kernel_rfl) (λb A h=>by
  unfold Z58.L at h;split at h
  ·cases h;exact⟨by kernel_rfl,by kernel_rfl,λ_=>rfl,λ_=>rfl⟩
  ·cases h) (λb A h=>by
  unfold Z58.L at h;split at h
  ·cases h;exact λk x=>Z58.step0 k x.1 x.2.1 x.2.2.1
  ·cases h) rfl ((Z58.run k a0 a1).trans h)
def Z131.F (k:Nat)(a0:Library)(a1:List ByteArray):Option (Bool):=(Z103.F k a0 1048576).bind λr1=>bif (decide (r1<0))then(some true)else((Z20.F k a1 r1).bind λr2=>bif (decide (r2<0))then(some true)else((Z83.F k a0).bind λr3=>(Z28.F k a1).bind λr4=>(Z5.F k r3 r4).bind λr5=>(Z83.F k a0).bind λr6=>(Z28.F k a1).bind λr7=>(Z38.F k r6 r7).bind λr8=>(Z31.F k r8.1 r5.1).bind λr9=>bif (!r9)then(some false)else((Z32.F k r8.2.1 r5.2.1).bind λr10=>bif (!r10)then(some false)else(bif (!(r8.2.2==r5.2.2))then(some false)else((Z83.F k a0).bind λr11=>(Z124.F k r6 r11).bind λr12=>bif (!r12)then(some false)else((Z28.F k a1).bind λr13=>(Z16.F k r7 r13).bind λr14=>bif (!r14)then(some false)else((Z125.F k r6 1).bind λr15=>(Z53.F k r7 r15).bind λr16=>bif (decide (r16.2<0))then(some false)else((Z31.F k r8.1 r5.1).bind λr17=>bif (!r17)then(some false)else((Z32.F k r8.2.1 r5.2.1).bind λr18=>bif (!r18)then(some false)else(bif (!(r8.2.2==r5.2.2))then(some false)else((Z54.F k r8.1 1).bind λr19=>(Z58.F k r8.2.1 r19.2).bind λr20=>(Z36.F k r19.1 1).bind λr21=>bif (decide (r21<0))then(some false)else((Z37.F k r20.1 r21).bind λr22=>bif (decide (r22<0))then(some false)else(bif (r22 != r20.2)then(some false)else((Z83.F k a0).bind λr23=>(Z28.F k a1).bind λr24=>(Z38.F k r23 r24).bind λr25=>(Z31.F k r25.1 r5.1).bind λr26=>bif (!r26)then(some false)else((Z32.F k r25.2.1 r5.2.1).bind λr27=>bif (!r27)then(some false)else(bif (!(r25.2.2==r5.2.2))then(some false)else((Z36.F k r19.1 1).bind λr28=>bif (decide (r28<0))then(some false)else((Z37.F k r20.1 r28).bind λr29=>bif (decide (r29<0))then(some false)else(bif (r29 != r20.2)then(some false)else(some true))))))))))))))))))))
def Z131.C (k:Nat):Cal->Option CArm:=λc=>match c with
 |.f 7=>some (.pp [.lib] .lib (λx=>Z83.F k x.1))
 |.f 9=>some (.tt [.lib,(.sl .str)] _ (λx=>Z38.F k x.1 x.2.1) (λr=>(.tup [.fr 3 (.int .i64) r.1,.tr (.sl (.sl .str)) r.2.1,.t .bool r.2.2])))
 |.f 14=>some (.d .lib (λx q=>Z125.F k x q))
 |.f 17=>some (.x (.sl (.sl .str)) (λx q=>Z58.F k x q))
 |.f 4=>some (.p [.lib,(.int .i64)] _ (λx=>Z103.F k x.1 x.2.1) (λr=>(.t (.int .i64) r)))
 |.f 5=>some (.p [(.sl .str),(.int .i64)] _ (λx=>Z20.F k x.1 x.2.1) (λr=>(.t (.int .i64) r)))
 |.f 8=>some (.p [(.sl .str)] _ (λx=>Z28.F k x.1) (λr=>(.fr 9 .str r)))
 |.f 6=>some (.p [.lib,(.sl .str)] _ (λx=>Z5.F k x.1 x.2.1) (λr=>(.tup [.fr 3 (.int .i64) r.1,.fr 25 (.sl .str) r.2.1,.t .bool r.2.2])))
 |.f 10=>some (.p [(.sl (.int .i64)),(.sl (.int .i64))] _ (λx=>Z31.F k x.1 x.2.1) (λr=>(.t .bool r)))
 |.f 11=>some (.p [(.sl (.sl .str)),(.sl (.sl .str))] _ (λx=>Z32.F k x.1 x.2.1) (λr=>(.t .bool r)))
 |.f 12=>some (.p [.lib,.lib] _ (λx=>Z124.F k x.1 x.2.1) (λr=>(.t .bool r)))
 |.f 13=>some (.p [(.sl .str),(.sl .str)] _ (λx=>Z16.F k x.1 x.2.1) (λr=>(.t .bool r)))
 |.f 15=>some (.m (.fr 9 .str) [(.int .i64)] _ (λx0 x=>Z53.F k x0 x.1) (λr=>.kep (.fr 9 .str r.1) (.t (.int .i64) r.2)))
 |.f 16=>some (.m (.fr 3 (.int .i64)) [(.int .i64)] _ (λx0 x=>Z54.F k x0 x.1) (λr=>.kep (.fr 3 (.int .i64) r.1) (.t (.int .i64) r.2)))
 |.f 18=>some (.p [(.sl (.int .i64)),(.int .i64)] _ (λx=>Z36.F k x.1 x.2.1) (λr=>(.t (.int .i64) r)))
 |.f 19=>some (.p [(.sl (.sl .str)),(.int .i64)] _ (λx=>Z37.F k x.1 x.2.1) (λr=>(.t (.int .i64) r)))
 |_=>none
theorem Z131.run (k:Nat)(a0:Library)(a1:List ByteArray):Ql Q0 (Q6 (Z131.C k)) (Q4 156 0 (λ_=>none)) Tryz.f3 [.t .lib a0,.t (.sl .str) a1] (Q2 (.t .bool))=Z131.F k a0 a1:=by kernel_rfl
theorem Z131.G (hE:EnvOk Tryz.prog Q0)(pv:Nat->Value)(k:Nat):∀cal A,Z131.C k cal=some A->Q9 Tryz.prog Q0 pv cal A:=by
 intro cal A h
 unfold Z131.C at h
 split at h
 ·cases h;exact⟨_,rfl,λx y hy=>Q7S (E:=Q0) (E':=Je) rfl rfl rfl λn=>Z83.good QbG pv n k x.1 hy⟩
 ·cases h;exact⟨_,rfl,λx y hy=>Z38.good QbF pv k x.1 x.2.1 hy⟩
 ·cases h;exact⟨_,rfl,λx q y hy=>Z125.good hE pv k x q hy⟩
 ·cases h;exact⟨rfl,_,rfl,λx q y hy=>Z58.good hE pv k x q hy⟩
 ·cases h;exact λx y hy=>Z103.good hE pv k x.1 x.2.1 hy
 ·cases h;exact λx y hy=>Z20.good hE pv k x.1 x.2.1 hy
 ·cases h;exact λx y hy=>Z28.good hE pv k x.1 hy
 ·cases h;exact λx y hy=>Z5.good hE pv k x.1 x.2.1 hy
 ·cases h;exact λx y hy=>Z31.good hE pv k x.1 x.2.1 hy
 ·cases h;exact λx y hy=>Z32.good hE pv k x.1 x.2.1 hy
 ·cases h;exact λx y hy=>Z124.good hE pv k x.1 x.2.1 hy
 ·cases h;exact λx y hy=>Z16.good hE pv k x.1 x.2.1 hy
 ·cases h;exact⟨_,rfl,λx0 x y hy=>Z53.good hE pv k x0 x.1 hy⟩
 ·cases h;exact⟨_,rfl,λx0 x y hy=>Z54.good hE pv k x0 x.1 hy⟩
 ·cases h;exact λx y hy=>Z36.good hE pv k x.1 x.2.1 hy
 ·cases h;exact λx y hy=>Z37.good hE pv k x.1 x.2.1 hy
 ·cases h
theorem Z131.good (hE:EnvOk Tryz.prog Q0)(pv:Nat->Value)(k:Nat)(a0:Library)(a1:List ByteArray){y:_}(h:Z131.F k a0 a1=some y):Q8 Tryz.prog Q0 pv (.f 3) (Qa [.lib,(.sl .str)] (a0,a1,())) (.t .bool y):=
 Q7 hE (Z131.G hE pv k) (f:=3) (fn:=Tryz.f3) (by kernel_rfl) rfl (by kernel_rfl) (by kernel_rfl) ((Z131.run k a0 a1).trans h) (λr hr=>Q1 hr)
end Go.Proofs.YtcbclpphgbbmmaaGreatDoor
end
section
/- Plain laws: bytes,pieces,edges of a text;no function of the program. -/
namespace Go.Proofs.YtcbclpphgbbmmaaGreatDoor
open Go.Gx
theorem getD_at {α:Type}{xs:List α}{i:Nat}(h:i<xs.length)(d:α):xs.getD i d=xs[i]:=by simp[List.getD,List.getElem?_eq_getElem h]
theorem Q5V {e:Ty}{xs:List (den e)}(h:WF (.sl e) xs):xs.length<=9223372036854775807:=by
 cases h with|sl _ _ h _=>exact maxLen_eq▸h
theorem DV {s:ByteArray}:(!Qu s ⟨#[]⟩)=decide (0<s.size):=by
 rw[QaN]
 have:L ⟨#[]⟩=[]:=rfl
 rw[this,<-Yu]
 cases L s<;>rfl
theorem JK (s t:ByteArray):(s++t).size=s.size+t.size:=by
 rw[<-Yu,UT,List.length_append,Yu,Yu]
theorem Qy (s:ByteArray):(Qf s).length=s.size:=by
 simp only[Qf,List.length_map,Array.length_toList];rfl
theorem Uc (s:ByteArray):Qf s=(L s).map λb=>(b.toNat:Int):=rfl
theorem XZ (s:ByteArray)(i:Nat)(h:i<(Qf s).length):bt s i=(Qf s)[i]:=by
 rw[Q9F]
 have h':i<(L s).length:=by simpa[Uc]using h
 simp[Uc,List.getD,h']
theorem Ko (s:ByteArray)(i:Nat)(h:i<(Qf s).length):0<=(Qf s)[i]/\(Qf s)[i]<=255:=by
 rw[<-XZ s i h];exact Q9G s i
theorem Q2t {s:ByteArray}{i:Nat}(h:i<(Qf s).length)(p:Int->Bool):((Qf s).drop i).all p=(p (Qf s)[i]&&((Qf s).drop (i+1)).all p):=by
 rw[List.drop_eq_getElem_cons h];rfl
theorem Q9J (s:ByteArray)(st a:Nat):(s.extract st s.size).extract a (s.extract st s.size).size=s.extract (st+a) s.size:=by
 apply Xz
 have e:(L s).take s.size=L s:=List.take_of_length_le (Nat.le_refl _)
 rw[Jg,Jg s (st+a),<-Yu (s.extract st s.size),Jg,List.take_length,List.drop_drop,e]
theorem Q9K (s:ByteArray)(st i:Nat)(h:st<=i)(hi:i<=s.size):(s.extract st s.size).extract 0 (i-st)=s.extract st i:=by
 apply Xz
 rw[Jg,Jg,Jg,List.drop_zero,List.take_of_length_le (show(L s).length<=s.size from Nat.le_refl _),List.drop_take]
def sp:ByteArray:=⟨#[32]⟩
theorem QbH {l:List UInt8}{c:UInt8}{i:Nat}(h:l[i]? =some c)(hn:∀j,j<i->l[j]? ≠some c):Lib.indexByte l c=i:=by
 have hg:=Lib.indexByte_ge l c
 by_cases e:Lib.indexByte l c= -1
 ·exact absurd h (Lib.indexByte_none e i)
 ·obtain⟨o,ho⟩:∃o:Nat,Lib.indexByte l c=o:=⟨(Lib.indexByte l c).toNat,by omega⟩
  obtain⟨h1,h2⟩:=Lib.indexByte_some ho
  rcases Nat.lt_trichotomy o i with h3|h3|h3
  ·exact absurd h1 (hn o h3)
  ·rw[ho,h3]
  ·exact absurd h (h2 i h3)
theorem QaP {l:List UInt8}{c:UInt8}(hn:∀j:Nat,l[j]? ≠some c):Lib.indexByte l c= -1:=by
 have hg:=Lib.indexByte_ge l c
 by_cases e:Lib.indexByte l c= -1
 ·exact e
 ·obtain⟨o,ho⟩:∃o:Nat,Lib.indexByte l c=o:=⟨(Lib.indexByte l c).toNat,by omega⟩
  exact absurd (Lib.indexByte_some ho).1 (hn o)
theorem Q2u (s:ByteArray):Lib.indexB s sp=Lib.indexByte (L s) 32:=Lib.one s sp rfl
theorem Q5W (s:ByteArray)(st j:Nat):(L (s.extract st s.size))[j]? =(L s)[st+j]?:=by
 rw[Jg,List.take_of_length_le (show(L s).length<=s.size from Nat.le_refl _),List.getElem?_drop]
def Y2 (s:ByteArray)(st:Nat):List ByteArray:=Lib.splitB sp 0 (Lib.countB (s.extract st s.size) sp) (s.extract st s.size)
theorem Q2v (s:ByteArray)(st:Nat)(h:∀j,st<=j->(L s)[j]? ≠some 32):Y2 s st=[s.extract st s.size]:=by
 unfold Y2
 rw[Lib.countB_miss _ _ ((Q2u _).trans (QaP λj=>by rw[Q5W];exact h _ (by omega)))]
 rfl
theorem Q2w (s:ByteArray)(st i:Nat)(h1:st<=i)(hi:i<s.size)(hb:(L s)[i]? =some 32)(h:∀j,st<=j->j<i->(L s)[j]? ≠some 32):Y2 s st=s.extract st i::Y2 s (i+1):=by
 have e:Lib.indexB (s.extract st s.size) sp=((i-st:Nat):Int):=(Q2u _).trans (QbH (by rw[Q5W,show st+(i-st)=i by omega];exact hb) λj hj=>by rw[Q5W];exact h _ (by omega) (by omega))
 have e1:sp.size=1:=rfl
 unfold Y2
 rw[Lib.countB_hit _ _ _ (by rw[e1];exact Nat.le_refl _) e,Nat.add_comm 1,Lib.splitB_hit _ _ _ _ _ e,Nat.add_zero,Q9K s st i h1 (by omega),e1,Q9J,show st+(i-st+1)=i+1 by omega]
theorem sub_self (s:ByteArray):s.extract 0 s.size=s:=by
 apply Xz
 rw[Jg,List.take_of_length_le (show(L s).length<=s.size from Nat.le_refl _),List.drop_zero]
def words (s:ByteArray):List ByteArray:=Lib.splitB sp 0 (Lib.countB s sp) s
theorem Q1e (s:ByteArray):Y2 s 0=words s:=by unfold Y2 words;rw[sub_self]
theorem Kp:∀(k:Nat) (s:ByteArray),∀x∈Lib.splitB sp 0 k s,x.size<=s.size
 |0,s,x,hx=>by
  rw[Lib.splitB_zero]at hx
  simp only[List.mem_singleton]at hx
  rw[hx];exact Nat.le_refl _
 |k+1,s,x,hx=>by
  unfold Lib.splitB at hx
  split at hx
  ·simp only[List.mem_singleton]at hx
   rw[hx];exact Nat.le_refl _
  ·rcases List.mem_cons.1 hx with rfl|hx
   ·rw[ByteArray.size_extract];omega
   ·have:=Kp k _ x hx
    rw[ByteArray.size_extract]at this
    omega
theorem Q2x (s:ByteArray):1<=(words s).length/\(words s).length<=s.size+1:=by
 unfold words
 have h1:1<=sp.size:=Nat.le_refl 1
 rw[Lib.splitB_all sp h1 0 _ s rfl]
 have:=Lib.countB_le sp h1 s.size s (Nat.le_refl _)
 omega
theorem Q1f {α:Type}(p:α->Bool):∀l:List α,l.dropWhile p=l ↔ (∀a,l.head?=some a->p a=false)
 |[]=>by simp
 |a::l=>by
  have hl:(l.dropWhile p).length<=l.length:=(List.dropWhile_sublist p).length_le
  cases h:p a with
  |true=>
   rw[List.dropWhile_cons_of_pos h]
   constructor
   ·intro e
    have:=congrArg List.length e
    simp at this
    omega
   ·intro e
    have:=e a rfl
    rw[h]at this;cases this
  |false=>
   rw[List.dropWhile_cons_of_neg (by rw[h];exact Bool.noConfusion)]
   simp[h]
theorem Q5X (l:List UInt8)(c:UInt8):Lib.trimB l c=l ↔ l.head?≠some c/\l.getLast?≠some c:=by
 unfold Lib.trimB Lib.trimLeftB Lib.trimRightB
 have h1:∀m:List UInt8,m.dropWhile (· ==c)=m ↔ m.head?≠some c:=λm=>by
  rw[Q1f]
  constructor
  ·intro h e;have:=h c e;simp at this
  ·intro h a e
   have:a≠c:=λe'=>h (e'▸e)
   simpa using this
 constructor
 ·intro h
  have h2:((l.reverse.dropWhile (· ==c)).reverse).length<=l.length:=by
   have:=(List.dropWhile_sublist (p:=(· ==c)) (l:=l.reverse)).length_le
   simpa using this
  have h3:=(List.dropWhile_sublist (p:=(· ==c)) (l:=(l.reverse.dropWhile (· ==c)).reverse))
  have h4:(l.reverse.dropWhile (· ==c)).reverse=l:=by
   have h5:(l.reverse.dropWhile (· ==c)).reverse.length=l.length:=by
    have:=h3.length_le
    rw[h]at this
    omega
   have h6:l.reverse.dropWhile (· ==c)=l.reverse:=(List.dropWhile_sublist (p:=(· ==c)) (l:=l.reverse)).eq_of_length (by simpa using h5)
   rw[h6,List.reverse_reverse]
  rw[h4]at h
  refine⟨(h1 l).1 h,?_⟩
  have h6:l.reverse.dropWhile (· ==c)=l.reverse:=by rw[<-List.reverse_inj,h4,List.reverse_reverse]
  have:=(h1 _).1 h6
  simpa using this
 ·rintro⟨ha,hb⟩
  have h6:l.reverse.dropWhile (· ==c)=l.reverse:=(h1 _).2 (by simpa using hb)
  rw[h6,List.reverse_reverse]
  exact(h1 l).2 ha
def vis (lo b:Int):Bool:=decide (lo<=b)&&decide (b<=126)
theorem Q9L {s:ByteArray}{i:Nat}(hi:i<s.size):bt s i=32 ↔ (L s)[i]? =some 32:=by
 have hi':i<(L s).length:=hi
 have hbt:bt s i=((L s)[i].toNat:Int):=by rw[Q9F,getD_at hi']
 rw[List.getElem?_eq_getElem hi',hbt]
 have:(32:UInt8).toNat=32:=rfl
 constructor
 ·intro h
  congr 1
  apply UInt8.toNat_inj.1
  omega
 ·intro h
  rw[Option.some.inj h];rfl
def QaQ (s:ByteArray):Bool:=(decide (s.size=0))||(bt s 0 != 32&&bt s (s.size-1) != 32)
theorem QaR (s:ByteArray):Qu ⟨(Lib.trimB (L s) 32).toArray⟩ s=QaQ s:=by
 rw[Bool.eq_iff_iff,Y7]
 have h1:(⟨(Lib.trimB (L s) 32).toArray⟩:ByteArray)=s ↔ Lib.trimB (L s) 32=L s:=by
  constructor
  ·intro h
   have:=congrArg L h
   rwa [QaO]at this
  ·intro h
   apply Xz
   rw[QaO,h]
 rw[h1,Q5X]
 unfold QaQ
 by_cases hz:s.size=0
 ·have:L s=[]:=List.eq_nil_of_length_eq_zero hz
  rw[this]
  simp[hz]
 ·have h2:(L s).head?=(L s)[0]?:=List.head?_eq_getElem?
  have h3:(L s).getLast?=(L s)[s.size-1]?:=by rw[List.getLast?_eq_getElem?];rfl
  rw[h2,h3,Bool.or_eq_true,decide_eq_true_eq,Bool.and_eq_true,bne_iff_ne,bne_iff_ne,Ne,Ne,Ne,Ne,Q9L (by omega),Q9L (by omega)]
  simp[hz]
def pos (s:ByteArray):Bool:=decide (0<s.size)
theorem ext_size {s:ByteArray}{a b:Nat}(h:a<=b)(hb:b<=s.size):(s.extract a b).size=b-a:=by
 rw[ByteArray.size_extract];omega
theorem Q1g {n:Nat}(h:n<=8192):room n .str=true:=by
 unfold room
 rw[Nat.ble_eq]
 have:nb .str=16:=rfl
 rw[this]
 omega
theorem Q7Z (x:List UInt8)(r:List (List UInt8)):Lib.joinTail [32] (x::r)=32::(x++Lib.joinTail [32] r):=by simp[Lib.joinTail]
theorem L32:L ⟨#[32]⟩=[32]:=rfl
def ms {α:Type}(f:α->α)(W:List α)(i:Nat):List α:=(W.take i).map f++W.drop i
section
variable {α:Type} (f:α->α) (W:List α)
end
end Go.Proofs.YtcbclpphgbbmmaaGreatDoor
end
section
/- Plain laws: texts of an entry. -/
namespace Go.Proofs.YtcbclpphgbbmmaaGreatDoor
open Go.Gx
theorem Q80 (s:ByteArray)(hs:s.size<=1048576):Z136.F s ⟨#[32]⟩=some ⟨(Lib.trimB (L s) 32).toArray⟩:=by
 unfold Z136.F Q3o
 rw[Nat.ble_eq_true_of_le (by omega)]
 rfl
theorem GP (s:ByteArray)(hs:s.size<=1048576):∀n i:Nat,i+n=s.size->Ev (λk=>Z22.l0 k s i) (if((Qf s).drop i).all (vis 32)=true then .inr s else .inl false)
 |0,i,h=>by
  refine Ev.step (λk=>by rw[Z22.l0]) ?_
  simp(disch:=omega) only[Qk]
  rw[List.drop_eq_nil_of_le (by rw[Qy];omega)]
  exact Ev.pure _
 |n+1,i,h=>by
  have hl:=Qy s
  have hi:i<(Qf s).length:=by omega
  refine Ev.step (λk=>by rw[Z22.l0]) ?_
  simp(disch:=omega) only[Qb,Int.toNat_natCast,XZ s i hi]
  rw[Q2t hi]
  unfold vis
  by_cases c1:(Qf s)[i]<32
  ·simp(disch:=omega) only[Qb,Q3m,Bool.false_and];exact Ev.pure _
  ·by_cases c2:(Qf s)[i] > 126
   ·simp(disch:=omega) only[Qb,Qk,Q3m,Bool.and_false,Bool.false_and];exact Ev.pure _
   ·simp(disch:=omega) only[Qb,Qk,Q5T,Bool.and_self,Bool.true_and,wrap_in]
    exact GP s hs n (i+1) (by omega)
theorem Q1h (s:ByteArray)(hs:s.size<=1048576):∀n i:Nat,i+n=s.size->Ev (λk=>Z45.l0 k s i) (if((Qf s).drop i).all (vis 32)=true then .inr s else .inl false)
 |0,i,h=>by
  refine Ev.step (λk=>by rw[Z45.l0]) ?_
  simp(disch:=omega) only[Qk]
  rw[List.drop_eq_nil_of_le (by rw[Qy];omega)]
  exact Ev.pure _
 |n+1,i,h=>by
  have hl:=Qy s
  have hi:i<(Qf s).length:=by omega
  refine Ev.step (λk=>by rw[Z45.l0]) ?_
  simp(disch:=omega) only[Qb,Int.toNat_natCast,XZ s i hi]
  rw[Q2t hi]
  unfold vis
  by_cases c1:(Qf s)[i]<32
  ·simp(disch:=omega) only[Qb,Q3m,Bool.false_and];exact Ev.pure _
  ·by_cases c2:(Qf s)[i] > 126
   ·simp(disch:=omega) only[Qb,Qk,Q3m,Bool.and_false,Bool.false_and];exact Ev.pure _
   ·simp(disch:=omega) only[Qb,Qk,Q5T,Bool.and_self,Bool.true_and,wrap_in]
    exact Q1h s hs n (i+1) (by omega)
def XA (s:ByteArray):Bool:=decide (s.size<=40)&&((Qf s).all (vis 32)&&QaQ s)
theorem Uj (s:ByteArray):Ev (λk=>Z22.F k s) (XA s):=by
 unfold Z22.F XA
 by_cases c:(s.size:Int) > 40
 ·simp(disch:=omega) only[Qb,Q3m,Bool.false_and]
  exact Ev.pure _
 ·simp(disch:=omega) only[Qk,Q5T,Bool.true_and]
  have:=GP s (by omega) s.size 0 (by omega)
  rw[List.drop_zero]at this
  cases h:(Qf s).all (vis 32)with
  |false=>rw[h]at this;exact Ev.bind this (Ev.pure _)
  |true=>
   rw[h]at this
   refine Ev.bind (a:=.inr s) this ?_
   dsimp only
   have he:Qu s ⟨#[]⟩=decide (s.size=0):=by
    rw[<-Bool.not_not (b:=Qu s ⟨#[]⟩),DV]
    by_cases hz:s.size=0
    ·simp[hz]
    ·rw[decide_eq_true (by omega:0<s.size),decide_eq_false hz];rfl
   rw[he]
   unfold QaQ
   by_cases hz:s.size=0
   ·rw[decide_eq_true hz];exact Ev.pure _
   ·rw[decide_eq_false hz]
    simp(disch:=omega) only[cond_false,cond_true,Qb,wrap_in]
    rw[show((s.size:Int)-1).toNat=s.size-1 by omega,show(0:Int).toNat=0 from rfl,Bool.false_or,Bool.true_and]
    cases (bt s 0 != 32)with
    |true=>exact Ev.pure _
    |false=>exact Ev.pure _
theorem KO (s:ByteArray):Ev (λk=>Z81.F k s) (XA s):=by
 unfold Z81.F XA
 by_cases c:(s.size:Int)<=40
 ·simp(disch:=omega) only[Qb,Q5T,Bool.true_and]
  refine Ev.bind ?_ (Ev.pure _)
  unfold Z45.F
  have:=Q1h s (by omega) s.size 0 (by omega)
  rw[List.drop_zero]at this
  cases h:(Qf s).all (vis 32)with
  |false=>rw[h]at this;exact Ev.bind this (Ev.pure _)
  |true=>
   rw[h]at this
   refine Ev.bind (a:=.inr s) this ?_
   dsimp only
   refine Ev.bind0 (Q80 s (by omega)) ?_
   simp only[QaR,Bool.true_and]
   exact Ev.pure _
 ·simp(disch:=omega) only[Qk,Q3m,Bool.false_and]
  exact Ev.pure _
end Go.Proofs.YtcbclpphgbbmmaaGreatDoor
end
section
/- Plain laws: a text split at its spaces. -/
namespace Go.Proofs.YtcbclpphgbbmmaaGreatDoor
open Go.Gx
theorem Q9M (s:ByteArray)(hs:s.size<=1048576):Z135.F s ⟨#[32]⟩=some (words s):=by
 unfold Z135.F Q3n
 rw[Nat.ble_eq_true_of_le (by omega)]
 rfl
end Go.Proofs.YtcbclpphgbbmmaaGreatDoor
end
section
/- Plain laws: a text split at its spaces,the other way. -/
namespace Go.Proofs.YtcbclpphgbbmmaaGreatDoor
open Go.Gx
theorem Q1i (s:ByteArray)(hs:s.size<=1048576):∀n i:Nat,i+n=s.size->∀st:Nat,st<=i->(∀j,st<=j->j<i->(L s)[j]? ≠some 32)->∀acc:List ByteArray,acc.length<=i->
  ∃acc' st',Ev (λk=>Z40.l0 k s 32 acc st i) (s,acc',((st':Nat):Int))/\st'<=s.size/\acc'.length<=s.size/\acc'++[s.extract st' s.size]=acc++Y2 s st
 |0,i,h,st,h1,hn,acc,ha=>by
  refine⟨acc,st,Ev.step (λk=>by rw[Z40.l0]) ?_,by omega,by omega,?_⟩
  ·simp(disch:=omega) only[Qk]
   exact Ev.pure _
  ·rw[Q2v s st λj hj=>?_]
   by_cases hj2:j<i
   ·exact hn j hj hj2
   ·rw[List.getElem?_eq_none (by rw[Yu];omega)];exact λh=>by cases h
 |n+1,i,h,st,h1,hn,acc,ha=>by
  have hi:i<(L s).length:=by rw[Yu];omega
  have hbt:bt s i=((L s)[i].toNat:Int):=by rw[Q9F,getD_at hi]
  by_cases c:bt s i=32
  ·have hb:(L s)[i]? =some 32:=by
    rw[List.getElem?_eq_getElem hi]
    congr 1
    apply UInt8.toNat_inj.1
    have:(32:UInt8).toNat=32:=rfl
    omega
   obtain⟨acc',st',r1,r2,r3,r4⟩:=Q1i s hs n (i+1) (by omega) (i+1) (Nat.le_refl _) (λj h1 h2=>by omega) (acc++[s.extract st i]) (by simp;omega)
   refine⟨acc',st',Ev.step (λk=>by rw[Z40.l0]) ?_,r2,r3,?_⟩
   ·have hr:room (acc.length+([s.extract st i]:List ByteArray).length) .str=true:=by
     unfold room
     rw[Nat.ble_eq]
     have:nb .str=16:=rfl
     rw[this]
     simp;omega
    simp(disch:=omega) only[Qb,Int.toNat_natCast,ceq,hr,cond_true,wrap_in]
    exact r1
   ·rw[r4,Q2w s st i h1 (by omega) hb hn];simp
  ·obtain⟨acc',st',r1,r2,r3,r4⟩:=Q1i s hs n (i+1) (by omega) st (by omega) (λj h1 h2=>by
    rcases Nat.lt_or_ge j i with h3|h3
    ·exact hn j h1 h3
    ·obtain rfl:j=i:=by omega
     rw[List.getElem?_eq_getElem hi]
     intro e
     apply c
     rw[hbt,Option.some.inj e];rfl) acc (by omega)
   refine⟨acc',st',Ev.step (λk=>by rw[Z40.l0]) ?_,r2,r3,r4⟩
   simp(disch:=omega) only[Qb,Int.toNat_natCast,cne,wrap_in]
   exact r1
theorem Q3r (s:ByteArray)(hs:s.size<=1048576):Ev (λk=>Z40.F k s 32) (words s):=by
 unfold Z40.F
 obtain⟨acc',st',r1,r2,r3,r4⟩:=Q1i s hs s.size 0 (by omega) 0 (Nat.le_refl _) (λj h1 h2=>by omega) [] (Nat.le_refl _)
 refine Ev.bind r1 ?_
 have hr:room (acc'.length+([s.extract st' s.size]:List ByteArray).length) .str=true:=by
  unfold room
  rw[Nat.ble_eq]
  have:nb .str=16:=rfl
  rw[this]
  simp;omega
 simp(disch:=omega) only[Qb,Int.toNat_natCast,hr,cond_true,r4,Q1e,List.nil_append]
 exact Ev.pure _
end Go.Proofs.YtcbclpphgbbmmaaGreatDoor
end
section
/- Plain laws: lists of texts: size,copy,equality. -/
namespace Go.Proofs.YtcbclpphgbbmmaaGreatDoor
open Go.Gx
def Y3 (xs:List ByteArray):Nat:=(xs.map ByteArray.size).sum
theorem Q9N (xs:List ByteArray)(hw:WF (.sl .str) xs)(hlen:xs.length<=1048576):∀n i:Nat,i+n=xs.length->∀l:Int,0<=l->l<=1048576->
  Ev (λk=>Z20.l0 k xs l i) (if l-Y3 (xs.drop i)<0 then .inl (-1)else .inr (l-Y3 (xs.drop i)))
 |0,i,h,l,h0,h1=>by
  refine Ev.step (λk=>by rw[Z20.l0]) ?_
  simp(disch:=omega) only[Qk]
  rw[List.drop_eq_nil_of_le (by omega)]
  simp only[Y3,List.map_nil,List.sum_nil]
  rw[if_neg (by omega)]
  exact(Ev.pure _).eq (by congr 1;omega)
 |n+1,i,h,l,h0,h1=>by
  have hi:i<xs.length:=by omega
  have hwi:xs[i].size<=9223372036854775807:=by cases hw with|sl _ _ _ h=>exact Uy (h i hi)
  have hd:Y3 (xs.drop i)=xs[i].size+Y3 (xs.drop (i+1)):=by
   rw[List.drop_eq_getElem_cons hi];unfold Y3;rw[List.map_cons,List.sum_cons]
  refine Ev.step (λk=>by rw[Z20.l0]) ?_
  simp(disch:=omega) only[Qb,Int.toNat_natCast,getD_at hi]
  by_cases c:l-(xs[i].size:Int)<0
  ·simp(disch:=omega) only[wrap_in,Qb]
   rw[if_pos (by omega)]
   exact Ev.pure _
  ·simp(disch:=omega) only[wrap_in,Qk]
   have:=Q9N xs hw hlen n (i+1) (by omega) (l-xs[i].size) (by omega) (by omega)
   refine this.eq ?_
   rw[hd]
   by_cases c2:l-(xs[i].size:Int)-(Y3 (xs.drop (i+1)):Int)<0
   ·rw[if_pos c2,if_pos (by omega)]
   ·rw[if_neg c2,if_neg (by omega)];congr 1;omega
theorem Q9O (xs:List ByteArray)(l:Int)(h0:0<=l)(h1:l<=1048576)(hw:WF (.sl .str) xs):∃r,Ev (λk=>Z20.F k xs l) r/\(0<=r->(xs.length:Int)+Y3 xs+r=l):=by
 have hl:xs.length<=9223372036854775807:=Q5V hw
 unfold Z20.F
 by_cases c:l-(xs.length:Int)<0
 ·simp(disch:=omega) only[wrap_in,Qb]
  exact⟨-1,Ev.pure _,λh=>by omega⟩
 ·simp(disch:=omega) only[wrap_in,Qk]
  have:=Q9N xs hw (by omega) xs.length 0 (by omega) (l-xs.length) (by omega) (by omega)
  simp only[List.drop_zero]at this
  by_cases c2:l-(xs.length:Int)-(Y3 xs:Int)<0
  ·rw[if_pos c2]at this
   exact⟨-1,Ev.bind this (Ev.pure _),λh=>by omega⟩
  ·rw[if_neg c2]at this
   exact⟨l-(xs.length:Int)-(Y3 xs:Int),Ev.bind this (Ev.pure _),λh=>by omega⟩
theorem Q9P (xs:List ByteArray)(hlen:xs.length<=1048576):∀n i:Nat,i+n=xs.length->∀ys:List ByteArray,ys.length=xs.length->ys.take i=xs.take i->Ev (λk=>Z28.l0 k xs ys i) xs
 |0,i,h,ys,hy,ht=>by
  refine Ev.step (λk=>by rw[Z28.l0]) ?_
  simp(disch:=omega) only[Qk]
  have:ys=xs:=by
   rw[List.take_of_length_le (by omega),List.take_of_length_le (by omega)]at ht
   exact ht
  rw[this];exact Ev.pure _
 |n+1,i,h,ys,hy,ht=>by
  have hi:i<xs.length:=by omega
  refine Ev.step (λk=>by rw[Z28.l0]) ?_
  simp(disch:=omega) only[Qb,Int.toNat_natCast,getD_at hi,wrap_in]
  exact Q9P xs hlen n (i+1) (by omega) (ys.set i xs[i]) (by simpa using hy) (by
   rw[List.take_add_one,List.take_add_one,List.take_set_of_le (Nat.le_refl i),ht]
   simp[show i<ys.length by omega,hi])
theorem QbI (xs:List ByteArray)(hlen:xs.length<=1048576):Ev (λk=>Z28.F k xs) xs:=by
 unfold Z28.F
 have hn:nb .str=16:=rfl
 simp(disch:=first|omega|(simp only[hn,Int.toNat_natCast];omega)) only[ceq,Qb,Dj]
 exact Ev.bind (a:=xs) (Q9P xs hlen xs.length 0 (by omega) _ (by simp) (by simp)) (Ev.pure _)
theorem Q9Q (xs:List ByteArray)(hlen:xs.length<=1048576):∀n i:Nat,i+n=xs.length->Ev (λk=>Z16.l0 k xs xs i) (.inr ())
 |0,i,h=>by
  refine Ev.step (λk=>by rw[Z16.l0]) ?_
  simp(disch:=omega) only[Qk]
  exact Ev.pure _
 |n+1,i,h=>by
  refine Ev.step (λk=>by rw[Z16.l0]) ?_
  simp(disch:=omega) only[Qb,Int.toNat_natCast,US,Bool.not_true,cond_false,wrap_in]
  exact Q9Q xs hlen n (i+1) (by omega)
theorem Q5Y (xs:List ByteArray)(hlen:xs.length<=1048576):Ev (λk=>Z16.F k xs xs) true:=by
 unfold Z16.F
 simp(disch:=omega) only[Yx]
 exact Ev.bind (Q9Q xs hlen xs.length 0 (by omega)) (Ev.pure _)
end Go.Proofs.YtcbclpphgbbmmaaGreatDoor
end
section
/- Plain laws: names,entries,libraries: size,copy,equality. -/
namespace Go.Proofs.YtcbclpphgbbmmaaGreatDoor
open Go.Gx
def Dk (n:Name):Nat:=n.given.length+Y3 n.given+n.particle.size+n.family.size+n.suffix.size
def YO (xs:List Name):Nat:=xs.length+(xs.map Dk).sum
def Q1j (e:Entry):Nat:=e.key.size+YO e.authors+YO e.editors+e.title.size+e.container.size+e.publisher.size+e.pages.size+e.cross.size
def D1 (xs:List Entry):Nat:=xs.length+(xs.map Q1j).sum
theorem Q6J {α:Type}(f:α->Nat){xs:List α}{x:α}(h:x∈xs):f x<=(xs.map f).sum:=by
 induction xs with
 |nil=>cases h
 |cons b l ih=>
  simp only[List.map_cons,List.sum_cons]
  rcases List.mem_cons.1 h with rfl|h
  ·omega
  ·have:=ih h;omega
def QO (n:Name):Prop:=Dk n<=1048576
def Jf (e:Entry):Prop:=Q1j e<=1048576
def JY (l:Library):Prop:=D1 l.entries<=1048576
theorem Yl {l:Library}(h:JY l){e:Entry}(he:e∈l.entries):Jf e:=by
 have:=Q6J Q1j he
 unfold JY D1 at h
 unfold Jf
 omega
theorem Jo {xs:List Name}(h:YO xs<=1048576){n:Name}(hn:n∈xs):QO n:=by
 have:=Q6J Dk hn
 unfold YO at h
 unfold QO
 omega
theorem UU {e:Entry}(h:Jf e):YO e.authors<=1048576:=by unfold Jf Q1j at h;omega
theorem UV {e:Entry}(h:Jf e):YO e.editors<=1048576:=by unfold Jf Q1j at h;omega
theorem JB {xs:List Name}(h:YO xs<=1048576):xs.length<=1048576:=by unfold YO at h;omega
theorem YG {l:Library}(h:JY l):l.entries.length<=1048576:=by unfold JY D1 at h;omega
theorem QbJ (a:Name)(l:Int)(h0:0<=l)(h1:l<=1048576)(hw:WF .name a):EvP (λk=>Z101.F k a l) λr=>0<=r->(Dk a:Int)+r=l:=by
 obtain⟨w1,w2,w3,w4⟩:WF (.sl .str) a.given/\a.particle.size<=9223372036854775807/\a.family.size<=9223372036854775807/\a.suffix.size<=9223372036854775807:=by
  cases hw with|name _ h1 h2 h3 h4=>exact⟨h1,Uy h2,Uy h3,Uy h4⟩
 unfold Z101.F Dk
 obtain⟨r,r1,r2⟩:=Q9O a.given l h0 h1 w1
 refine EvP.of r1 ?_
 by_cases c:r<0
 ·simp(disch:=omega) only[Qb]
  exact EvP.pure _ (λh=>by omega)
 simp(disch:=omega) only[Qk]
 have r3:=r2 (by omega)
 by_cases c1:r-(a.particle.size:Int)<0
 ·simp(disch:=omega) only[wrap_in,Qb]
  exact EvP.pure _ (λh=>by omega)
 simp(disch:=omega) only[wrap_in,Qk]
 by_cases c2:r-(a.particle.size:Int)-(a.family.size:Int)<0
 ·simp(disch:=omega) only[wrap_in,Qb]
  exact EvP.pure _ (λh=>by omega)
 simp(disch:=omega) only[wrap_in,Qk]
 by_cases c3:r-(a.particle.size:Int)-(a.family.size:Int)-(a.suffix.size:Int)<0
 ·simp(disch:=omega) only[wrap_in,Qb]
  exact EvP.pure _ (λh=>by omega)
 simp(disch:=omega) only[wrap_in,Qk]
 exact EvP.pure _ (λh=>by omega)
theorem Q6K (xs:List Name)(hw:WF (.sl .name) xs)(hlen:xs.length<=1048576):∀n i:Nat,i+n=xs.length->∀l:Int,0<=l->l<=1048576->
  EvP (λk=>Z33.l0 k xs l i) λr=>r= .inl (-1)\/∃q:Int,r= .inr q/\0<=q/\(((xs.drop i).map Dk).sum:Int)+q=l
 |0,i,h,l,h0,h1=>by
  refine EvP.step (λk=>by rw[Z33.l0]) ?_
  simp(disch:=omega) only[Qk]
  rw[List.drop_eq_nil_of_le (by omega)]
  exact EvP.pure _ (.inr ⟨l,rfl,h0,by simp⟩)
 |n+1,i,h,l,h0,h1=>by
  have hi:i<xs.length:=by omega
  have hwi:WF .name xs[i]:=by cases hw with|sl _ _ _ h=>exact h i hi
  refine EvP.step (λk=>by rw[Z33.l0]) ?_
  simp(disch:=omega) only[Qb,Int.toNat_natCast,getD_at hi]
  refine EvP.bind (QbJ _ l h0 h1 hwi) λr hr=>?_
  by_cases c:r<0
  ·simp(disch:=omega) only[Qb]
   exact EvP.pure _ (.inl rfl)
  ·have hr:=hr (by omega)
   simp(disch:=omega) only[Qk,wrap_in]
   refine EvP.mono (Q6K xs hw hlen n (i+1) (by omega) r (by omega) (by omega)) λq hq=>?_
   rcases hq with rfl|⟨q,rfl,h2,h3⟩
   ·exact .inl rfl
   ·refine .inr ⟨q,rfl,h2,?_⟩
    rw[List.drop_eq_getElem_cons hi,List.map_cons,List.sum_cons]
    omega
theorem Q6L (xs:List Name)(l:Int)(h0:0<=l)(h1:l<=1048576)(hw:WF (.sl .name) xs):EvP (λk=>Z33.F k xs l) λr=>0<=r->(YO xs:Int)+r=l:=by
 have hl:xs.length<=9223372036854775807:=Q5V hw
 unfold Z33.F YO
 by_cases c:l-(xs.length:Int)<0
 ·simp(disch:=omega) only[wrap_in,Qb]
  exact EvP.pure _ λh=>by omega
 ·simp(disch:=omega) only[wrap_in,Qk]
  refine EvP.bind (Q6K xs hw (by omega) xs.length 0 (by omega) (l-xs.length) (by omega) (by omega)) λr hr=>?_
  rcases hr with rfl|⟨q,rfl,h2,h3⟩
  ·exact EvP.pure _ λh=>by omega
  ·rw[List.drop_zero]at h3
   exact EvP.pure _ λh=>by omega
theorem QbK (a:Entry)(l:Int)(h0:0<=l)(h1:l<=1048576)(hw:WF .entry a):EvP (λk=>Z102.F k a l) λr=>0<=r->(Q1j a:Int)+r=l:=by
 obtain⟨w1,w2,w3,w4,w5,w6,w7,w8⟩:a.key.size<=9223372036854775807/\WF (.sl .name) a.authors/\WF (.sl .name) a.editors/\a.title.size<=9223372036854775807/\a.container.size<=9223372036854775807/\a.publisher.size<=9223372036854775807/\a.pages.size<=9223372036854775807/\a.cross.size<=9223372036854775807:=by
  cases hw with|entry _ h1 h2 h3 h4 h5 h6 h7 h8 h9 h10 h11=>exact⟨Uy h1,h3,h4,Uy h5,Uy h6,Uy h7,Uy h10,Uy h11⟩
 unfold Z102.F Q1j
 by_cases c0:l-(a.key.size:Int)<0
 ·simp(disch:=omega) only[wrap_in,Qb]
  exact EvP.pure _ (λh=>by omega)
 simp(disch:=omega) only[wrap_in,Qk]
 refine EvP.bind (Q6L a.authors _ (by omega) (by omega) w2) λr hr=>?_
 by_cases c:r<0
 ·simp(disch:=omega) only[Qb]
  exact EvP.pure _ (λh=>by omega)
 simp(disch:=omega) only[Qk]
 have hr:=hr (by omega)
 refine EvP.bind (Q6L a.editors r (by omega) (by omega) w3) λq hq=>?_
 by_cases c':q<0
 ·simp(disch:=omega) only[Qb]
  exact EvP.pure _ (λh=>by omega)
 simp(disch:=omega) only[Qk]
 have hq:=hq (by omega)
 by_cases c1:q-(a.title.size:Int)<0
 ·simp(disch:=omega) only[wrap_in,Qb]
  exact EvP.pure _ (λh=>by omega)
 simp(disch:=omega) only[wrap_in,Qk]
 by_cases c2:q-(a.title.size:Int)-(a.container.size:Int)<0
 ·simp(disch:=omega) only[wrap_in,Qb]
  exact EvP.pure _ (λh=>by omega)
 simp(disch:=omega) only[wrap_in,Qk]
 by_cases c3:q-(a.title.size:Int)-(a.container.size:Int)-(a.publisher.size:Int)<0
 ·simp(disch:=omega) only[wrap_in,Qb]
  exact EvP.pure _ (λh=>by omega)
 simp(disch:=omega) only[wrap_in,Qk]
 by_cases c4:q-(a.title.size:Int)-(a.container.size:Int)-(a.publisher.size:Int)-(a.pages.size:Int)<0
 ·simp(disch:=omega) only[wrap_in,Qb]
  exact EvP.pure _ (λh=>by omega)
 simp(disch:=omega) only[wrap_in,Qk]
 by_cases c5:q-(a.title.size:Int)-(a.container.size:Int)-(a.publisher.size:Int)-(a.pages.size:Int)-(a.cross.size:Int)<0
 ·simp(disch:=omega) only[wrap_in,Qb]
  exact EvP.pure _ (λh=>by omega)
 simp(disch:=omega) only[wrap_in,Qk]
 exact EvP.pure _ (λh=>by omega)
theorem Q6M (xs:List Entry)(hw:WF (.sl .entry) xs)(hlen:xs.length<=1048576):∀n i:Nat,i+n=xs.length->∀l:Int,0<=l->l<=1048576->
  EvP (λk=>Z39.l0 k xs l i) λr=>r= .inl (-1)\/∃q:Int,r= .inr q/\0<=q/\(((xs.drop i).map Q1j).sum:Int)+q=l
 |0,i,h,l,h0,h1=>by
  refine EvP.step (λk=>by rw[Z39.l0]) ?_
  simp(disch:=omega) only[Qk]
  rw[List.drop_eq_nil_of_le (by omega)]
  exact EvP.pure _ (.inr ⟨l,rfl,h0,by simp⟩)
 |n+1,i,h,l,h0,h1=>by
  have hi:i<xs.length:=by omega
  have hwi:WF .entry xs[i]:=by cases hw with|sl _ _ _ h=>exact h i hi
  refine EvP.step (λk=>by rw[Z39.l0]) ?_
  simp(disch:=omega) only[Qb,Int.toNat_natCast,getD_at hi]
  refine EvP.bind (QbK _ l h0 h1 hwi) λr hr=>?_
  by_cases c:r<0
  ·simp(disch:=omega) only[Qb]
   exact EvP.pure _ (.inl rfl)
  ·have hr:=hr (by omega)
   simp(disch:=omega) only[Qk,wrap_in]
   refine EvP.mono (Q6M xs hw hlen n (i+1) (by omega) r (by omega) (by omega)) λq hq=>?_
   rcases hq with rfl|⟨q,rfl,h2,h3⟩
   ·exact .inl rfl
   ·refine .inr ⟨q,rfl,h2,?_⟩
    rw[List.drop_eq_getElem_cons hi,List.map_cons,List.sum_cons]
    omega
theorem QaS (xs:List Entry)(l:Int)(h0:0<=l)(h1:l<=1048576)(hw:WF (.sl .entry) xs):EvP (λk=>Z39.F k xs l) λr=>0<=r->(D1 xs:Int)+r=l:=by
 have hl:xs.length<=9223372036854775807:=Q5V hw
 unfold Z39.F D1
 by_cases c:l-(xs.length:Int)<0
 ·simp(disch:=omega) only[wrap_in,Qb]
  exact EvP.pure _ λh=>by omega
 ·simp(disch:=omega) only[wrap_in,Qk]
  refine EvP.bind (Q6M xs hw (by omega) xs.length 0 (by omega) (l-xs.length) (by omega) (by omega)) λr hr=>?_
  rcases hr with rfl|⟨q,rfl,h2,h3⟩
  ·exact EvP.pure _ λh=>by omega
  ·rw[List.drop_zero]at h3
   exact EvP.pure _ λh=>by omega
theorem QbL (a:Library)(l:Int)(h0:0<=l)(h1:l<=1048576)(hw:WF .lib a):EvP (λk=>Z103.F k a l) λr=>0<=r->(D1 a.entries:Int)+r=l:=by
 have w1:WF (.sl .entry) a.entries:=by cases hw with|lib _ h=>exact h
 unfold Z103.F
 refine EvP.bind (QaS a.entries l h0 h1 w1) λr hr=>?_
 by_cases c:r<0
 ·simp(disch:=omega) only[Qb]
  exact EvP.pure _ (λh=>by omega)
 simp(disch:=omega) only[Qk]
 exact EvP.pure _ hr
theorem Q6N (xs:List ByteArray)(hlen:xs.length<=1048576):∀n i:Nat,i+n=xs.length->∀ys:List ByteArray,ys.length=xs.length->ys.take i=xs.take i->Ev (λk=>Z49.l0 k xs ys i) xs
 |0,i,h,ys,hy,ht=>by
  refine Ev.step (λk=>by rw[Z49.l0]) ?_
  simp(disch:=omega) only[Qk]
  have:ys=xs:=by
   rw[List.take_of_length_le (by omega),List.take_of_length_le (by omega)]at ht
   exact ht
  rw[this];exact Ev.pure _
 |n+1,i,h,ys,hy,ht=>by
  have hi:i<xs.length:=by omega
  refine Ev.step (λk=>by rw[Z49.l0]) ?_
  simp(disch:=omega) only[Qb,Int.toNat_natCast,getD_at hi,wrap_in]
  exact Q6N xs hlen n (i+1) (by omega) (ys.set i xs[i]) (by simpa using hy) (by
   rw[List.take_add_one,List.take_add_one,List.take_set_of_le (Nat.le_refl i),ht]
   simp[show i<ys.length by omega,hi])
theorem QaT (xs:List ByteArray)(hlen:xs.length<=1048576):Ev (λk=>Z49.F k xs) xs:=by
 unfold Z49.F
 have hn:nb .str=16:=rfl
 simp(disch:=first|omega|(simp only[hn,Int.toNat_natCast];omega)) only[ceq,Qb,Dj]
 exact Ev.bind (a:=xs) (Q6N xs hlen xs.length 0 (by omega) _ (by simp) (by simp)) (Ev.pure _)
theorem QbM (a:Name)(hs:QO a):Ev (λk=>Z84.F k a) a:=by
 unfold Z84.F
 exact Ev.bind (QaT a.given (by unfold QO Dk at hs;omega)) (Ev.pure _)
theorem Q6O (xs:List Name)(hs:∀x∈xs,QO x)(hlen:xs.length<=1048576):∀n i:Nat,i+n=xs.length->∀ys:List Name,ys.length=xs.length->ys.take i=xs.take i->Ev (λk=>Z44.l0 k xs ys i) xs
 |0,i,h,ys,hy,ht=>by
  refine Ev.step (λk=>by rw[Z44.l0]) ?_
  simp(disch:=omega) only[Qk]
  have:ys=xs:=by
   rw[List.take_of_length_le (by omega),List.take_of_length_le (by omega)]at ht
   exact ht
  rw[this];exact Ev.pure _
 |n+1,i,h,ys,hy,ht=>by
  have hi:i<xs.length:=by omega
  refine Ev.step (λk=>by rw[Z44.l0]) ?_
  simp(disch:=omega) only[Qb,Int.toNat_natCast,getD_at hi]
  refine Ev.bind (QbM _ (hs _ (List.getElem_mem hi))) ?_
  simp(disch:=omega) only[Qb,wrap_in]
  exact Q6O xs hs hlen n (i+1) (by omega) (ys.set i xs[i]) (by simpa using hy) (by
   rw[List.take_add_one,List.take_add_one,List.take_set_of_le (Nat.le_refl i),ht]
   simp[show i<ys.length by omega,hi])
theorem Q6P (xs:List Name)(hs:∀x∈xs,QO x)(hlen:xs.length<=1048576):Ev (λk=>Z44.F k xs) xs:=by
 unfold Z44.F
 have hn:nb .name=72:=rfl
 simp(disch:=first|omega|(simp only[hn,Int.toNat_natCast];omega)) only[ceq,Qb,Dj]
 exact Ev.bind (a:=xs) (Q6O xs hs hlen xs.length 0 (by omega) _ (by simp) (by simp)) (Ev.pure _)
theorem QbN (a:Entry)(hs:Jf a):Ev (λk=>Z110.F k a) a:=by
 unfold Z110.F
 have ha:=UU hs
 have he:=UV hs
 exact Ev.bind (Q6P a.authors (λx hx=>Jo ha hx) (JB ha)) (Ev.bind (Q6P a.editors (λx hx=>Jo he hx) (JB he)) (Ev.pure _))
theorem Q6Q (xs:List Entry)(hs:∀x∈xs,Jf x)(hlen:xs.length<=1048576):∀n i:Nat,i+n=xs.length->∀ys:List Entry,ys.length=xs.length->ys.take i=xs.take i->Ev (λk=>Z55.l0 k xs ys i) xs
 |0,i,h,ys,hy,ht=>by
  refine Ev.step (λk=>by rw[Z55.l0]) ?_
  simp(disch:=omega) only[Qk]
  have:ys=xs:=by
   rw[List.take_of_length_le (by omega),List.take_of_length_le (by omega)]at ht
   exact ht
  rw[this];exact Ev.pure _
 |n+1,i,h,ys,hy,ht=>by
  have hi:i<xs.length:=by omega
  refine Ev.step (λk=>by rw[Z55.l0]) ?_
  simp(disch:=omega) only[Qb,Int.toNat_natCast,getD_at hi]
  refine Ev.bind (QbN _ (hs _ (List.getElem_mem hi))) ?_
  simp(disch:=omega) only[Qb,wrap_in]
  exact Q6Q xs hs hlen n (i+1) (by omega) (ys.set i xs[i]) (by simpa using hy) (by
   rw[List.take_add_one,List.take_add_one,List.take_set_of_le (Nat.le_refl i),ht]
   simp[show i<ys.length by omega,hi])
theorem QaU (xs:List Entry)(hs:∀x∈xs,Jf x)(hlen:xs.length<=1048576):Ev (λk=>Z55.F k xs) xs:=by
 unfold Z55.F
 have hn:nb .entry=192:=rfl
 simp(disch:=first|omega|(simp only[hn,Int.toNat_natCast];omega)) only[ceq,Qb,Dj]
 exact Ev.bind (a:=xs) (Q6Q xs hs hlen xs.length 0 (by omega) _ (by simp) (by simp)) (Ev.pure _)
theorem QbO (a:Library)(hs:JY a):Ev (λk=>Z83.F k a) a:=by
 unfold Z83.F
 exact Ev.bind (QaU a.entries (λx hx=>Yl hs hx) (YG hs)) (Ev.pure _)
theorem QbP (a:Name)(hs:QO a):Ev (λk=>Z121.F k a a) true:=by
 unfold Z121.F
 refine Ev.bind (Q5Y a.given (by unfold QO Dk at hs;omega)) ?_
 simp only[US,Bool.not_true,cond_false]
 exact Ev.pure _
theorem QbQ (a:Date):Z122.F a a=some true:=by
 unfold Z122.F
 simp only[bne_self_eq_false,beq_self_eq_true,Bool.not_true,cond_false]
theorem Q6R (xs:List Name)(hs:∀x∈xs,QO x)(hlen:xs.length<=1048576):∀n i:Nat,i+n=xs.length->Ev (λk=>Z35.l0 k xs xs i) (.inr ())
 |0,i,h=>by
  refine Ev.step (λk=>by rw[Z35.l0]) ?_
  simp(disch:=omega) only[Qk]
  exact Ev.pure _
 |n+1,i,h=>by
  have hi:i<xs.length:=by omega
  refine Ev.step (λk=>by rw[Z35.l0]) ?_
  simp(disch:=omega) only[Qb,Int.toNat_natCast,getD_at hi]
  refine Ev.bind (QbP _ (hs _ (List.getElem_mem hi))) ?_
  simp(disch:=omega) only[Bool.not_true,cond_false,wrap_in]
  exact Q6R xs hs hlen n (i+1) (by omega)
theorem Q6S (xs:List Name)(hs:∀x∈xs,QO x)(hlen:xs.length<=1048576):Ev (λk=>Z35.F k xs xs) true:=by
 unfold Z35.F
 simp(disch:=omega) only[Yx]
 exact Ev.bind (Q6R xs hs hlen xs.length 0 (by omega)) (Ev.pure _)
theorem QbR (a:Entry)(hs:Jf a):Ev (λk=>Z123.F k a a) true:=by
 unfold Z123.F
 have ha:=UU hs
 have he:=UV hs
 simp only[US,bne_self_eq_false,Bool.not_true,cond_false]
 refine Ev.bind (Q6S a.authors (λx hx=>Jo ha hx) (JB ha)) ?_
 simp only[Bool.not_true,cond_false]
 refine Ev.bind (Q6S a.editors (λx hx=>Jo he hx) (JB he)) ?_
 simp only[Bool.not_true,cond_false]
 refine Ev.bind0 (QbQ _) ?_
 simp only[Bool.not_true,cond_false]
 exact Ev.pure _
theorem Q6T (xs:List Entry)(hs:∀x∈xs,Jf x)(hlen:xs.length<=1048576):∀n i:Nat,i+n=xs.length->Ev (λk=>Z42.l0 k xs xs i) (.inr ())
 |0,i,h=>by
  refine Ev.step (λk=>by rw[Z42.l0]) ?_
  simp(disch:=omega) only[Qk]
  exact Ev.pure _
 |n+1,i,h=>by
  have hi:i<xs.length:=by omega
  refine Ev.step (λk=>by rw[Z42.l0]) ?_
  simp(disch:=omega) only[Qb,Int.toNat_natCast,getD_at hi]
  refine Ev.bind (QbR _ (hs _ (List.getElem_mem hi))) ?_
  simp(disch:=omega) only[Bool.not_true,cond_false,wrap_in]
  exact Q6T xs hs hlen n (i+1) (by omega)
theorem QaV (xs:List Entry)(hs:∀x∈xs,Jf x)(hlen:xs.length<=1048576):Ev (λk=>Z42.F k xs xs) true:=by
 unfold Z42.F
 simp(disch:=omega) only[Yx]
 exact Ev.bind (Q6T xs hs hlen xs.length 0 (by omega)) (Ev.pure _)
theorem QbS (a:Library)(hs:JY a):Ev (λk=>Z124.F k a a) true:=by
 unfold Z124.F
 refine Ev.bind (QaV a.entries (λx hx=>Yl hs hx) (YG hs)) ?_
 simp only[Bool.not_true,cond_false]
 exact Ev.pure _
end Go.Proofs.YtcbclpphgbbmmaaGreatDoor
end
section
/- Plain laws: slices.IndexFunc,slices.DeleteFunc,as they are printed for a function value. -/
namespace Go.Gx
section
variable {α:Type} {d:α} {p:α->Bool} {q:Nat->α->Option Bool} {xs:List α}
theorem Gs {α:Type}{xs:List α}{i:Nat}(h:i<xs.length)(d:α):xs.getD i d=xs[i]:=by simp[List.getD,List.getElem?_eq_getElem h]
theorem Q9R {l0:Nat->List α->Int->Int->Option (Sum Int Unit)}(H:∀k x0 x7 x8,l0 (k+1) x0 x7 x8=bif (decide (x8<x7))then(bif decide (0<=x8)then(bif decide (x8<(x0.length:Int))then((q k (x0.getD (x8:Int).toNat d)).bind λr1=>bif r1 then(some (.inl x8))else(l0 k x0 x7 (IntKind.wrap .i64 (x8+1))))else none)else none)else(some (.inr ())))
  (hq:∀x,x∈xs->Ev (λk=>q k x) (p x)) (hl:xs.length<=4611686018427387904):∀n i:Nat,i+n=xs.length->(∀x∈xs.take i,p x=false)->
  ∃r,Ev (λk=>l0 k xs xs.length i) r/\((r= .inr ()/\∀x∈xs,p x=false)\/∃j:Nat,r= .inl j/\j<xs.length/\p (xs.getD j d)=true/\∀x∈xs.take j,p x=false)
 |0,i,h,ht=>by
  refine⟨.inr (),Ev.step (λk=>by rw[H]) ?_,.inl ⟨rfl,by rw[List.take_of_length_le (by omega)]at ht;exact ht⟩⟩
  simp(disch:=omega) only[Qk]
  exact Ev.pure _
 |n+1,i,h,ht=>by
  have hi:i<xs.length:=by omega
  cases hp:p xs[i]with
  |true=>
   refine⟨.inl i,Ev.step (λk=>by rw[H]) ?_,.inr ⟨i,rfl,hi,by rw[Gs hi,hp],ht⟩⟩
   simp(disch:=omega) only[Qb,Int.toNat_natCast,Gs hi]
   refine Ev.bind (hq _ (List.getElem_mem hi)) ?_
   rw[hp]
   exact Ev.pure _
  |false=>
   obtain⟨r,h1,h2⟩:=Q9R H hq hl n (i+1) (by omega) (by
    intro x hx
    rw[List.take_add_one,List.getElem?_eq_getElem hi]at hx
    rcases List.mem_append.1 hx with hx|hx
    ·exact ht x hx
    ·simp only[Option.toList_some,List.mem_singleton]at hx
     rw[hx,hp])
   refine⟨r,Ev.step (λk=>by rw[H]) ?_,h2⟩
   simp(disch:=omega) only[Qb,Int.toNat_natCast,Gs hi]
   refine Ev.bind (hq _ (List.getElem_mem hi)) ?_
   rw[hp]
   simp(disch:=omega) only[cond_false,wrap_in]
   exact h1
theorem Q3s {l0:Nat->List α->Int->Int->Option (Sum Int Unit)}(H:∀k x0 x7 x8,l0 (k+1) x0 x7 x8=bif (decide (x8<x7))then(bif decide (0<=x8)then(bif decide (x8<(x0.length:Int))then((q k (x0.getD (x8:Int).toNat d)).bind λr1=>bif r1 then(some (.inl x8))else(l0 k x0 x7 (IntKind.wrap .i64 (x8+1))))else none)else none)else(some (.inr ())))
  (hq:∀x,x∈xs->Ev (λk=>q k x) (p x)) (hl:xs.length<=4611686018427387904) {F:Nat->List α->Option Int} (HF:∀k a0,F k a0=(l0 k a0 (a0.length:Int) 0).bind λy2=>match y2 with|.inl z3=>some z3|.inr z3=>some (-1)) :
  ∃r,Ev (λk=>F k xs) r/\((r= -1/\∀x∈xs,p x=false)\/∃j:Nat,r=j/\j<xs.length/\p (xs.getD j d)=true/\∀x∈xs.take j,p x=false):=by
 obtain⟨r,h1,h2⟩:=Q9R H hq hl xs.length 0 (by omega) (λx hx=>by simp at hx)
 rcases h2 with⟨rfl,h2⟩|⟨j,rfl,h2⟩
 ·exact⟨-1,Ev.congr (Ev.bind h1 (Ev.pure _)) (λk=>HF k xs),.inl ⟨rfl,h2⟩⟩
 ·exact⟨j,Ev.congr (Ev.bind h1 (Ev.pure _)) (λk=>HF k xs),.inr ⟨j,rfl,h2⟩⟩
theorem Q5Z {l0:Nat->List α->Int->Int->Option (List α×Int)}(H:∀k x0 x5 x6,l0 (k+1) x0 x5 x6=bif (decide (x6<(x0.length:Int)))then(bif decide (0<=x6)then(bif decide (x6<(x0.length:Int))then((q k (x0.getD ((x6:Int).toNat) d)).bind λr2=>bif (!r2)then(bif decide (0<=x5)then(bif decide (x5<(x0.length:Int))then(l0 k (x0.set ((x5:Int).toNat) (x0.getD ((x6:Int).toNat) d)) (IntKind.wrap .i64 (x5+1)) (IntKind.wrap .i64 (x6+1)))else none)else none)else(l0 k x0 x5 (IntKind.wrap .i64 (x6+1))))else none)else none)else(some (x0,x5)))
  (hq:∀x,x∈xs->Ev (λk=>q k x) (p x)) (hl:xs.length<=4611686018427387904):∀n j:Nat,j+n=xs.length->∀(ys:List α) (i:Nat),ys.length=xs.length->i<=j->ys.drop j=xs.drop j->
  ∃zs,∃i':Nat,Ev (λk=>l0 k ys i j) (zs,(i':Int))/\i'<=xs.length/\zs.length=xs.length/\zs.take i'=ys.take i++(xs.drop j).filter λx=> !p x
 |0,j,h,ys,i,hy,hij,hd=>by
  refine⟨ys,i,Ev.step (λk=>by rw[H]) ?_,by omega,hy,?_⟩
  ·simp(disch:=omega) only[Qk]
   exact Ev.pure _
  ·rw[List.drop_eq_nil_of_le (by omega),List.filter_nil,List.append_nil]
 |n+1,j,h,ys,i,hy,hij,hd=>by
  have hj:j<xs.length:=by omega
  have hj':j<ys.length:=by omega
  have hx:ys[j]=xs[j]:=by
   have h0:=congrArg (·[0]?) hd
   simpa[hj,hj']using h0
  have hd1:ys.drop (j+1)=xs.drop (j+1):=by
   have:=congrArg (List.drop 1) hd
   simpa[List.drop_drop]using this
  cases hp:p xs[j]with
  |true=>
   obtain⟨zs,i',h1,h2,h3,h4⟩:=Q5Z H hq hl n (j+1) (by omega) ys i hy (by omega) hd1
   refine⟨zs,i',Ev.step (λk=>by rw[H]) ?_,h2,h3,?_⟩
   ·simp(disch:=omega) only[Qb,Int.toNat_natCast,Gs hj',hx]
    refine Ev.bind (hq _ (List.getElem_mem hj)) ?_
    rw[hp]
    simp(disch:=omega) only[Bool.not_true,cond_false,wrap_in]
    exact h1
   ·rw[h4,List.drop_eq_getElem_cons hj,List.filter_cons_of_neg (by rw[hp];decide)]
  |false=>
   obtain⟨zs,i',h1,h2,h3,h4⟩:=Q5Z H hq hl n (j+1) (by omega) (ys.set i xs[j]) (i+1) (by simpa using hy) (by omega) (by rw[List.drop_set_of_lt (by omega)];exact hd1)
   refine⟨zs,i',Ev.step (λk=>by rw[H]) ?_,h2,h3,?_⟩
   ·simp(disch:=omega) only[Qb,Int.toNat_natCast,Gs hj',hx]
    refine Ev.bind (hq _ (List.getElem_mem hj)) ?_
    rw[hp]
    simp(disch:=omega) only[Bool.not_false,cond_true,Qb,Int.toNat_natCast,wrap_in]
    exact h1
   ·rw[h4,List.drop_eq_getElem_cons hj,List.filter_cons_of_pos (by rw[hp];decide),List.take_add_one,List.take_set_of_le (Nat.le_refl i)]
    have:(ys.set i xs[j])[i]? =some xs[j]:=by rw[List.getElem?_set_self (by omega)]
    rw[this]
    simp
theorem Q2y {l0:Nat->List α->Int->Int->Option (List α×Int)}(H:∀k x0 x5 x6,l0 (k+1) x0 x5 x6=bif (decide (x6<(x0.length:Int)))then(bif decide (0<=x6)then(bif decide (x6<(x0.length:Int))then((q k (x0.getD ((x6:Int).toNat) d)).bind λr2=>bif (!r2)then(bif decide (0<=x5)then(bif decide (x5<(x0.length:Int))then(l0 k (x0.set ((x5:Int).toNat) (x0.getD ((x6:Int).toNat) d)) (IntKind.wrap .i64 (x5+1)) (IntKind.wrap .i64 (x6+1)))else none)else none)else(l0 k x0 x5 (IntKind.wrap .i64 (x6+1))))else none)else none)else(some (x0,x5)))
  (hq:∀x,x∈xs->Ev (λk=>q k x) (p x)) (hl:xs.length<=4611686018427387904) {I F:Nat->List α->Option _} {e:α}
  (hI:∃r:Int,Ev (λk=>I k xs) r/\((r= -1/\∀x∈xs,p x=false)\/∃j:Nat,r=j/\j<xs.length/\p (xs.getD j d)=true/\∀x∈xs.take j,p x=false))
  (HF:∀k a0,F k a0=(I k a0).bind λr1=>bif (r1==(-1))then(some a0)else((l0 k a0 r1 (IntKind.wrap .i64 (r1+1))).bind λy3=>bif decide (0<=y3.2)then(bif decide (y3.2<=(y3.1.length:Int))then(bif decide (0<=y3.2)then(bif decide (y3.2<=((y3.1.take ((y3.2:Int).toNat)++List.replicate (y3.1.length-((y3.2:Int).toNat)) e).length:Int))then(some ((y3.1.take ((y3.2:Int).toNat)++List.replicate (y3.1.length-((y3.2:Int).toNat)) e).take (y3.2:Int).toNat))else none)else none)else none)else none)) :
  Ev (λk=>F k xs) (xs.filter λx=> !p x):=by
 obtain⟨r,h1,h2⟩:=hI
 refine Ev.congr (?_:Ev _ _) (λk=>HF k xs)
 refine Ev.bind h1 ?_
 rcases h2 with⟨rfl,h2⟩|⟨j,rfl,hj,hp,h2⟩
 ·have:(xs.filter λx=> !p x)=xs:=List.filter_eq_self.2 λx hx=>by rw[h2 x hx];rfl
  rw[this]
  exact Ev.pure _
 ·obtain⟨zs,i',h3,h4,h5,h6⟩:=Q5Z H hq hl (xs.length-(j+1)) (j+1) (by omega) xs j rfl (by omega) rfl
  rw[Gs hj]at hp
  have hz:zs.take i'=xs.filter λx=> !p x:=by
   rw[h6]
   conv=>rhs;rw[<-List.take_append_drop j xs,List.filter_append,List.drop_eq_getElem_cons hj,List.filter_cons_of_neg (by rw[hp];decide)]
   congr 1
   exact(List.filter_eq_self.2 λx hx=>by rw[h2 x hx];rfl).symm
  simp(disch:=omega) only[cne,wrap_in]
  refine Ev.bind h3 ?_
  have e1:((zs.take i'++List.replicate (zs.length-i') e)).length=zs.length:=by simp;omega
  simp(disch:=(try simp only[Int.toNat_natCast,e1]);omega) only[Qb,Int.toNat_natCast,e1]
  rw[List.take_append_of_le_length (by simp;omega),List.take_take,Nat.min_self,hz]
  exact Ev.pure _
end
end Go.Gx
end
section
/- Plain laws: keys,names,dates,entries,libraries: are they valid? -/
namespace Go.Proofs.YtcbclpphgbbmmaaGreatDoor
open Go.Gx
theorem Q1k (a b c:Int):Z64.F a b c=some (decide (a ≥ b)&&decide (a<=c)):=by
 unfold Z64.F
 cases decide (a ≥ b)<;>rfl
theorem Jy (a b c:Int):Z62.F a b c=some (decide (a ≥ b)&&decide (a<=c)):=by
 unfold Z62.F
 cases decide (a ≥ b)<;>rfl
theorem QG {f:Nat->Option Bool}{b c:Bool}(h:b=true->Ev f c):Ev (λk=>bif (!b)then some false else f k) (b&&c):=by
 cases b with
 |false=>exact Ev.pure _
 |true=>exact h rfl
theorem J2 {f:Nat->Option Bool}{b c:Bool}(h:b=true->Ev f c):Ev (λk=>bif b then f k else some false) (b&&c):=by
 cases b with
 |false=>exact Ev.pure _
 |true=>exact h rfl
def Xs (b:Int):Bool:=decide (97<=b)&&decide (b<=122)
def upc (b:Int):Bool:=decide (65<=b)&&decide (b<=90)
def ltr (b:Int):Bool:=upc b||Xs b
def dig (b:Int):Bool:=decide (48<=b)&&decide (b<=57)
theorem Kq (b:Int):Z65.F b=some (Xs b):=by
 unfold Z65.F Xs
 simp only[ge_iff_le]
 cases decide (97<=b)<;>rfl
theorem Q1l (b:Int):Z69.F b=some (upc b):=by
 unfold Z69.F upc
 simp only[ge_iff_le]
 cases decide (65<=b)<;>rfl
theorem Q0g (b:Int):Z72.F b=some (ltr b):=by
 unfold Z72.F ltr
 rw[Q1l,Kq]
 cases upc b<;>rfl
theorem Kr (b:Int):Z67.F b=some (Xs b):=by
 unfold Z67.F Xs
 simp only[ge_iff_le]
 cases decide (97<=b)<;>rfl
theorem Q9S (b:Int):Z68.F b=some (upc b):=by
 unfold Z68.F upc
 simp only[ge_iff_le]
 cases decide (65<=b)<;>rfl
theorem DW (b:Int):Z74.F b=some (ltr b):=by
 unfold Z74.F ltr
 rw[Q9S,Kr]
 cases upc b<;>rfl
theorem Q3t (b:Int):Z79.F b=some (dig b):=by
 unfold Z79.F dig
 simp only[ge_iff_le]
 cases decide (48<=b)<;>rfl
def ins (n:Nat)(lo hi:Int):Bool:=decide ((n:Int) ≥ lo)&&decide ((n:Int)<=hi)
theorem Gt {n:Nat}{lo hi:Int}(h:ins n lo hi=true):lo<=n/\(n:Int)<=hi:=by
 unfold ins at h
 simp only[Bool.and_eq_true,decide_eq_true_eq]at h
 exact h
def kb (s:ByteArray)(i:Nat):Bool:=Xs (bt s i)||dig (bt s i)
def Q60 (s:ByteArray):Bool:=ins s.size 1 10&&(Xs (bt s 0)&&(List.range' 0 s.size).all (kb s))
theorem Q61 (s:ByteArray)(hs:s.size<=10):Ev (λk=>Z17.l0 k s ((0:Nat):Int)) (if(List.range' 0 s.size).all (kb s)=true then .inr ()else .inl false):=by
 refine Y8 (f:=λk i=>Z17.l0 k s i) (n:=s.size) (λi hi hp=>?_) (λi r hi hp ih=>?_) ?_ s.size 0 (by omega)
 ·refine Ev.step (λk=>by rw[Z17.l0]) ?_
  unfold kb at hp
  rw[Bool.or_eq_false_iff]at hp
  simp(disch:=omega) only[Qb,Int.toNat_natCast]
  refine Ev.bind0 (Kq _) ?_
  rw[hp.1]
  have h2:=hp.2
  unfold dig at h2
  by_cases c:bt s i<48
  ·simp(disch:=omega) only[Qb,Bool.not_false,cond_true]
   exact Ev.pure _
  ·have c2:bt s i > 57:=by
    rw[decide_eq_true (show 48<=bt s i by omega),Bool.true_and,decide_eq_false_iff_not]at h2
    omega
   simp(disch:=omega) only[Qb,Qk,Bool.not_false,cond_true]
   exact Ev.pure _
 ·refine Ev.step (λk=>by rw[Z17.l0]) ?_
  simp(disch:=omega) only[Qb,Int.toNat_natCast]
  refine Ev.bind0 (Kq _) ?_
  cases hl:Xs (bt s i)with
  |true=>
   simp(disch:=omega) only[Bool.not_true,cond_false,wrap_in]
   exact ih
  |false=>
   unfold kb at hp
   rw[hl,Bool.false_or]at hp
   unfold dig at hp
   simp only[Bool.and_eq_true,decide_eq_true_eq]at hp
   simp(disch:=omega) only[Bool.not_false,cond_true,Qb,Qk,wrap_in]
   exact ih
 ·refine Ev.step (λk=>by rw[Z17.l0]) ?_
  simp(disch:=omega) only[Qk]
  exact Ev.pure _
theorem Q9T (s:ByteArray)(hs:s.size<=10):Ev (λk=>Z19.l0 k s ((0:Nat):Int)) (if(List.range' 0 s.size).all (kb s)=true then .inr ()else .inl false):=by
 refine Y8 (f:=λk i=>Z19.l0 k s i) (n:=s.size) (λi hi hp=>?_) (λi r hi hp ih=>?_) ?_ s.size 0 (by omega)
 ·refine Ev.step (λk=>by rw[Z19.l0]) ?_
  unfold kb at hp
  rw[Bool.or_eq_false_iff]at hp
  simp(disch:=omega) only[Qb,Int.toNat_natCast]
  refine Ev.bind0 (Kr _) ?_
  rw[hp.1]
  simp(disch:=omega) only[Bool.not_false,cond_true,Qb]
  refine Ev.bind0 (Q3t _) ?_
  rw[hp.2]
  exact Ev.pure _
 ·refine Ev.step (λk=>by rw[Z19.l0]) ?_
  simp(disch:=omega) only[Qb,Int.toNat_natCast]
  refine Ev.bind0 (Kr _) ?_
  cases hl:Xs (bt s i)with
  |true=>
   simp(disch:=omega) only[Bool.not_true,cond_false,wrap_in]
   exact ih
  |false=>
   unfold kb at hp
   rw[hl,Bool.false_or]at hp
   simp(disch:=omega) only[Bool.not_false,cond_true,Qb]
   refine Ev.bind0 (Q3t _) ?_
   rw[hp]
   simp(disch:=omega) only[Bool.not_true,cond_false,wrap_in]
   exact ih
 ·refine Ev.step (λk=>by rw[Z19.l0]) ?_
  simp(disch:=omega) only[Qk]
  exact Ev.pure _
theorem Q1m (s:ByteArray):Ev (λk=>Z17.F k s) (Q60 s):=by
 unfold Z17.F Q60
 refine Ev.bind0 (Q1k _ _ _) (QG λh=>?_)
 obtain⟨h1,h2⟩:=Gt h
 simp(disch:=omega) only[Qb,show(0:Int).toNat=0 from rfl]
 refine Ev.bind0 (Kq _) (QG λ_=>?_)
 have:=Q61 s (by omega)
 cases ha:(List.range' 0 s.size).all (kb s)with
 |true=>rw[ha]at this;exact Ev.bind this (Ev.pure _)
 |false=>rw[ha]at this;exact Ev.bind this (Ev.pure _)
theorem Q4B (s:ByteArray):Ev (λk=>Z19.F k s) (Q60 s):=by
 unfold Z19.F Q60
 refine Ev.bind0 (Jy _ _ _) (QG λh=>?_)
 obtain⟨h1,h2⟩:=Gt h
 simp(disch:=omega) only[Qb,show(0:Int).toNat=0 from rfl]
 refine Ev.bind0 (Kr _) (QG λ_=>?_)
 have:=Q9T s (by omega)
 cases ha:(List.range' 0 s.size).all (kb s)with
 |true=>rw[ha]at this;exact Ev.bind this (Ev.pure _)
 |false=>rw[ha]at this;exact Ev.bind this (Ev.pure _)
def wp (s:ByteArray)(i:Nat):Bool:=ltr (bt s i)||((bt s i==45||bt s i==39)&&ltr (bt s (i-1)))
def UW (s:ByteArray):Bool:=ins s.size 1 12&&(ltr (bt s 0)&&(ltr (bt s (s.size-1))&&(List.range' 1 (s.size-1)).all (wp s)))
theorem Qbf {s:ByteArray}{i:Nat}(h:ltr (bt s i)=false)(h1:bt s i≠45)(h2:bt s i≠39):wp s i=false:=by
 unfold wp
 rw[h,show(bt s i==45)=false by simpa using h1,show(bt s i==39)=false by simpa using h2];rfl
theorem Q9U {s:ByteArray}{i:Nat}(h:ltr (bt s i)=false)(h1:bt s i=45\/bt s i=39):wp s i=ltr (bt s (i-1)):=by
 unfold wp
 rw[h]
 rcases h1 with h1|h1<;>rw[h1]<;>simp
theorem GQ (s:ByteArray)(hs:s.size<=12):∀m i:Nat,i+m=s.size->1<=i->Ev (λk=>Z12.l0 k s i) (if(List.range' i m).all (wp s)=true then .inr ()else .inl false)
 |0,i,h,h1=>by
  refine Ev.step (λk=>by rw[Z12.l0]) ?_
  simp(disch:=omega) only[Qk]
  exact Ev.pure _
 |m+1,i,h,h1=>by
  have ih:=GQ s hs m (i+1) (by omega) (by omega)
  have et:((i:Int)-1).toNat=i-1:=by omega
  refine Ev.step (λk=>by rw[Z12.l0]) ?_
  rw[List.range'_succ,List.all_cons]
  simp(disch:=omega) only[Qb,Int.toNat_natCast]
  refine Ev.bind0 (Q0g _) ?_
  cases hl:ltr (bt s i)with
  |true=>
   have:wp s i=true:=by unfold wp;rw[hl];rfl
   rw[this]
   simp(disch:=omega) only[Bool.not_true,cond_false,Bool.true_and,wrap_in]
   exact ih
  |false=>
   have fin:(bt s i=45\/bt s i=39)->Ev (λk=>(Z72.F (bt s (i-1))).bind λr5=>bif (!r5)then(some (.inl false))else(Z12.l0 k s ((i:Int)+1))) (if(wp s i&&(List.range' (i+1) m).all (wp s))=true then .inr ()else .inl false):=λhh=>by
    refine Ev.bind0 (Q0g _) ?_
    rw[Q9U hl hh]
    cases ltr (bt s (i-1))with
    |true=>exact ih
    |false=>exact Ev.pure _
   by_cases c1:bt s i=45
   ·simp(disch:=first|exact c1|omega) only[Bool.not_false,cond_true,Qb,Yx,wrap_in,et]
    exact fin (.inl c1)
   ·by_cases c2:bt s i=39
    ·simp(disch:=first|exact c1|exact c2|omega) only[Bool.not_false,cond_true,Qb,XX,Yx,wrap_in,et]
     exact fin (.inr c2)
    ·rw[Qbf hl c1 c2]
     simp(disch:=first|exact c1|exact c2|omega) only[Bool.not_false,cond_true,Qb,XX]
     exact Ev.pure _
theorem Q2z (s:ByteArray)(hs:s.size<=12):∀m i:Nat,i+m=s.size->1<=i->Ev (λk=>Z14.l0 k s i) (if(List.range' i m).all (wp s)=true then .inr ()else .inl false)
 |0,i,h,h1=>by
  refine Ev.step (λk=>by rw[Z14.l0]) ?_
  simp(disch:=omega) only[Qk]
  exact Ev.pure _
 |m+1,i,h,h1=>by
  have ih:=Q2z s hs m (i+1) (by omega) (by omega)
  have et:((i:Int)-1).toNat=i-1:=by omega
  refine Ev.step (λk=>by rw[Z14.l0]) ?_
  rw[List.range'_succ,List.all_cons]
  simp(disch:=omega) only[Qb,Int.toNat_natCast]
  refine Ev.bind0 (DW _) ?_
  cases hl:ltr (bt s i)with
  |true=>
   have:wp s i=true:=by unfold wp;rw[hl];rfl
   rw[this]
   simp(disch:=omega) only[Bool.not_true,cond_false,Bool.true_and,wrap_in]
   exact ih
  |false=>
   have fin:(bt s i=45\/bt s i=39)->Ev (λk=>(Z74.F (bt s (i-1))).bind λr5=>bif (!r5)then(some (.inl false))else(Z14.l0 k s ((i:Int)+1))) (if(wp s i&&(List.range' (i+1) m).all (wp s))=true then .inr ()else .inl false):=λhh=>by
    refine Ev.bind0 (DW _) ?_
    rw[Q9U hl hh]
    cases ltr (bt s (i-1))with
    |true=>exact ih
    |false=>exact Ev.pure _
   by_cases c1:bt s i=45
   ·simp(disch:=first|exact c1|omega) only[Bool.not_false,cond_true,Qb,Yx,wrap_in,et]
    exact fin (.inl c1)
   ·by_cases c2:bt s i=39
    ·simp(disch:=first|exact c1|exact c2|omega) only[Bool.not_false,cond_true,Qb,XX,Yx,wrap_in,et]
     exact fin (.inr c2)
    ·rw[Qbf hl c1 c2]
     simp(disch:=first|exact c1|exact c2|omega) only[Bool.not_false,cond_true,Qb,XX]
     exact Ev.pure _
theorem Ym (s:ByteArray):Ev (λk=>Z12.F k s) (UW s):=by
 unfold Z12.F UW
 refine Ev.bind0 (Q1k _ _ _) (QG λh=>?_)
 obtain⟨h1,h2⟩:=Gt h
 have et:((s.size:Int)-1).toNat=s.size-1:=by omega
 simp(disch:=omega) only[Qb,show(0:Int).toNat=0 from rfl,wrap_in,et]
 refine Ev.bind0 (Q0g _) (QG λ_=>?_)
 refine Ev.bind0 (Q0g _) (QG λ_=>?_)
 have:=GQ s (by omega) (s.size-1) 1 (by omega) (Nat.le_refl _)
 cases ha:(List.range' 1 (s.size-1)).all (wp s)with
 |true=>rw[ha]at this;exact Ev.bind this (Ev.pure _)
 |false=>rw[ha]at this;exact Ev.bind this (Ev.pure _)
theorem Q2A (s:ByteArray):Ev (λk=>Z14.F k s) (UW s):=by
 unfold Z14.F UW
 refine Ev.bind0 (Jy _ _ _) (QG λh=>?_)
 obtain⟨h1,h2⟩:=Gt h
 have et:((s.size:Int)-1).toNat=s.size-1:=by omega
 simp(disch:=omega) only[Qb,show(0:Int).toNat=0 from rfl,wrap_in,et]
 refine(Ev.bind0 (DW _) (QG (c:=ltr (bt s 0)&&(List.range' 1 (s.size-1)).all (wp s)) λ_=>?_)).eq (Bool.and_left_comm _ _ _)
 refine Ev.bind0 (DW _) (QG λh0=>?_)
 have:=Q2z s (by omega) (s.size-1) 1 (by omega) (Nat.le_refl _)
 refine Ev.bind (a:=if(List.range' 1 (s.size-1)).all (wp s)=true then .inr ()else .inl false) ?_ ?_
 ·refine Ev.step (λk=>by rw[Z14.l0]) ?_
  simp(disch:=omega) only[Qb,show(0:Int).toNat=0 from rfl]
  refine Ev.bind0 (DW _) ?_
  rw[h0]
  simp(disch:=omega) only[Bool.not_true,cond_false,wrap_in]
  exact this
 ·cases (List.range' 1 (s.size-1)).all (wp s)<;>exact Ev.pure _
def Q1M (s:ByteArray):Bool:=(List.range' 0 s.size).all λi=>Xs (bt s i)
theorem Q81 {s:ByteArray}(h:Q1M s=true):UW s=ins s.size 1 12:=by
 unfold Q1M at h
 rw[List.all_eq_true]at h
 have hl:∀i,i<s.size->ltr (bt s i)=true:=λi hi=>by
  unfold ltr
  rw[h i (by rw[List.mem_range'_1];omega),Bool.or_true]
 unfold UW
 cases hi:ins s.size 1 12 with
 |false=>rfl
 |true=>
  obtain⟨h1,h2⟩:=Gt hi
  rw[hl 0 (by omega),hl (s.size-1) (by omega)]
  have:(List.range' 1 (s.size-1)).all (wp s)=true:=by
   rw[List.all_eq_true]
   intro i hi
   rw[List.mem_range'_1]at hi
   unfold wp
   rw[hl i (by omega)];rfl
  rw[this];rfl
def pw (s:ByteArray):Bool:=ins s.size 1 12&&Q1M s
theorem Qbg (s:ByteArray):(UW s&&Q1M s)=pw s:=by
 unfold pw
 cases h:Q1M s with
 |false=>rw[Bool.and_false,Bool.and_false]
 |true=>rw[Q81 h]
def Yn (s:ByteArray):Bool:=decide (s.size=0)||((words s).all pw&&decide ((words s).length<=2))
theorem UX (s:ByteArray):Qu s ⟨#[]⟩=decide (s.size=0):=by
 rw[<-Bool.not_not (b:=Qu s ⟨#[]⟩),DV]
 by_cases hz:s.size=0
 ·simp[hz]
 ·rw[decide_eq_true (by omega:0<s.size),decide_eq_false hz];rfl
theorem GR (W:List ByteArray)(i:Nat)(hi:i<W.length)(hs:W[i].size<=1048576):Ev (λk=>Z2.l2 k W i ((0:Nat):Int)) (if Q1M W[i]=true then .inr (W,(i:Int))else .inl false):=by
 refine Y8 (f:=λk j=>Z2.l2 k W i j) (n:=W[i].size) (p:=λj=>Xs (bt W[i] j)) (λj hj hp=>?_) (λj r hj hp ih=>?_) ?_ W[i].size 0 (by omega)
 ·refine Ev.step (λk=>by rw[Z2.l2]) ?_
  simp(disch:=omega) only[Qb,Int.toNat_natCast,getD_at hi]
  refine Ev.bind0 (Kq _) ?_
  rw[hp]
  exact Ev.pure _
 ·refine Ev.step (λk=>by rw[Z2.l2]) ?_
  simp(disch:=omega) only[Qb,Int.toNat_natCast,getD_at hi]
  refine Ev.bind0 (Kq _) ?_
  rw[hp]
  simp(disch:=omega) only[Bool.not_true,cond_false,wrap_in]
  exact ih
 ·refine Ev.step (λk=>by rw[Z2.l2]) ?_
  simp(disch:=omega) only[Qb,Qk,Int.toNat_natCast,getD_at hi]
  exact Ev.pure _
theorem Q2B (W:List ByteArray)(w:ByteArray)(n i:Int)(hs:w.size<=1048576):Ev (λk=>Z3.l2 k W w ((0:Nat):Int) n i) (if Q1M w=true then .inr (W,n,i)else .inl false):=by
 refine Y8 (f:=λk j=>Z3.l2 k W w j n i) (n:=w.size) (p:=λj=>Xs (bt w j)) (λj hj hp=>?_) (λj r hj hp ih=>?_) ?_ w.size 0 (by omega)
 ·refine Ev.step (λk=>by rw[Z3.l2]) ?_
  simp(disch:=omega) only[Qb,Int.toNat_natCast]
  refine Ev.bind0 (Kr _) ?_
  rw[hp]
  exact Ev.pure _
 ·refine Ev.step (λk=>by rw[Z3.l2]) ?_
  simp(disch:=omega) only[Qb,Int.toNat_natCast]
  refine Ev.bind0 (Kr _) ?_
  rw[hp]
  simp(disch:=omega) only[Bool.not_true,cond_false,wrap_in]
  exact ih
 ·refine Ev.step (λk=>by rw[Z3.l2]) ?_
  simp(disch:=omega) only[Qk]
  exact Ev.pure _
theorem Q4C (W:List ByteArray)(hl:W.length<=1048577)(hW:∀x∈W,x.size<=1048576):Ev (λk=>Z2.l0 k W ((0:Nat):Int)) (if(List.range' 0 W.length).all (λi=>pw (W.getD i ⟨#[]⟩))=true then .inr W else .inl false):=by
 refine Y8 (f:=λk j=>Z2.l0 k W j) (n:=W.length) (p:=λi=>pw (W.getD i ⟨#[]⟩)) (λj hj hp=>?_) (λj r hj hp ih=>?_) ?_ W.length 0 (by omega)
 ·rw[getD_at hj,<-Qbg]at hp
  refine Ev.step (λk=>by rw[Z2.l0]) ?_
  simp(disch:=omega) only[Qb,Int.toNat_natCast,getD_at hj]
  refine Ev.bind (Ym _) ?_
  cases hw:UW W[j]with
  |false=>exact Ev.pure _
  |true=>
   rw[hw,Bool.true_and]at hp
   have:=GR W j hj (hW _ (List.getElem_mem hj))
   rw[hp]at this
   exact Ev.bind this (Ev.pure _)
 ·rw[getD_at hj,<-Qbg,Bool.and_eq_true]at hp
  refine Ev.step (λk=>by rw[Z2.l0]) ?_
  simp(disch:=omega) only[Qb,Int.toNat_natCast,getD_at hj]
  refine Ev.bind (Ym _) ?_
  rw[hp.1]
  have:=GR W j hj (hW _ (List.getElem_mem hj))
  rw[hp.2]at this
  refine Ev.bind (a:=.inr (W,(j:Int))) this ?_
  simp(disch:=omega) only[wrap_in]
  exact ih
 ·refine Ev.step (λk=>by rw[Z2.l0]) ?_
  simp(disch:=omega) only[Qk]
  exact Ev.pure _
theorem Q82 (W:List ByteArray)(hl:W.length<=1048577)(hW:∀x∈W,x.size<=1048576):Ev (λk=>Z3.l0 k W W.length ((0:Nat):Int)) (if(List.range' 0 W.length).all (λi=>pw (W.getD i ⟨#[]⟩))=true then .inr W else .inl false):=by
 refine Y8 (f:=λk j=>Z3.l0 k W W.length j) (n:=W.length) (p:=λi=>pw (W.getD i ⟨#[]⟩)) (λj hj hp=>?_) (λj r hj hp ih=>?_) ?_ W.length 0 (by omega)
 ·rw[getD_at hj]at hp
  unfold pw at hp
  refine Ev.step (λk=>by rw[Z3.l0]) ?_
  simp(disch:=omega) only[Qb,Int.toNat_natCast,getD_at hj]
  refine Ev.bind0 (Jy _ _ _) ?_
  cases hw:ins W[j].size 1 12 with
  |false=>
   unfold ins at hw
   rw[hw]
   exact Ev.pure _
  |true=>
   rw[hw,Bool.true_and]at hp
   unfold ins at hw
   rw[hw]
   have:=Q2B W W[j] W.length j (hW _ (List.getElem_mem hj))
   rw[hp]at this
   exact Ev.bind this (Ev.pure _)
 ·rw[getD_at hj]at hp
  unfold pw at hp
  rw[Bool.and_eq_true]at hp
  obtain⟨hp1,hp2⟩:=hp
  unfold ins at hp1
  refine Ev.step (λk=>by rw[Z3.l0]) ?_
  simp(disch:=omega) only[Qb,Int.toNat_natCast,getD_at hj]
  refine Ev.bind0 (Jy _ _ _) ?_
  rw[hp1]
  have:=Q2B W W[j] W.length j (hW _ (List.getElem_mem hj))
  rw[hp2]at this
  refine Ev.bind (a:=.inr (W,(W.length:Int),(j:Int))) this ?_
  simp(disch:=omega) only[wrap_in]
  exact ih
 ·refine Ev.step (λk=>by rw[Z3.l0]) ?_
  simp(disch:=omega) only[Qk]
  exact Ev.pure _
theorem Q4D (s:ByteArray)(hs:s.size<=1048576):Ev (λk=>Z2.F k s) (Yn s):=by
 unfold Z2.F Yn
 rw[UX]
 cases decide (s.size=0)with
 |true=>exact Ev.pure _
 |false=>
  refine Ev.bind (Q3r s hs) ?_
  have:=Q4C (words s) (by have:=(Q2x s).2;omega) (λx hx=>by have:=Kp _ _ x hx;omega)
  rw[Gq (words s) ⟨#[]⟩ pw]at this
  rw[Bool.false_or]
  cases ha:(words s).all pw with
  |true=>
   rw[ha]at this
   refine Ev.bind this ((Ev.pure _).eq ?_)
   rw[Bool.true_and];exact decide_eq_decide.2 (by omega)
  |false=>rw[ha]at this;exact Ev.bind this (Ev.pure _)
theorem Q83 (s:ByteArray)(hs:s.size<=1048576):Ev (λk=>Z3.F k s) (Yn s):=by
 unfold Z3.F Yn
 rw[UX]
 cases decide (s.size=0)with
 |true=>exact Ev.pure _
 |false=>
  refine Ev.bind0 (Q9M s hs) ?_
  have:=Q82 (words s) (by have:=(Q2x s).2;omega) (λx hx=>by have:=Kp _ _ x hx;omega)
  rw[Gq (words s) ⟨#[]⟩ pw]at this
  rw[Bool.false_or]
  cases ha:(words s).all pw with
  |true=>
   rw[ha]at this
   refine Ev.bind this ((Ev.pure _).eq ?_)
   rw[Bool.true_and];exact decide_eq_decide.2 (by omega)
  |false=>rw[ha]at this;exact Ev.bind this (Ev.pure _)
def gw (s:ByteArray):Bool:=UW s&&upc (bt s 0)
theorem UY {s:ByteArray}(h:UW s=true):1<=s.size:=by
 unfold UW at h
 rw[Bool.and_eq_true]at h
 have:=(Gt h.1).1
 omega
theorem Q1n (s:ByteArray):Ev (λk=>Z80.F k s) (gw s):=by
 unfold Z80.F gw
 refine Ev.bind (Q2A s) (J2 λh=>?_)
 have:=UY h
 simp(disch:=omega) only[Qb,show(0:Int).toNat=0 from rfl]
 exact Ev.bind0 (Q9S _) (Ev.pure _)
def Q9V (s:ByteArray):Bool:=decide (s.size=0)||UW s
def nameB (n:Name):Bool:=n.given.all gw&&(decide (n.given.length<=3)&&(Yn n.particle&&(gw n.family&&Q9V n.suffix)))
theorem Q4E (n:Name)(hn:n.given.length<=1048576):Ev (λk=>Z26.l0 k n ((0:Nat):Int)) (if(List.range' 0 n.given.length).all (λi=>gw (n.given.getD i ⟨#[]⟩))=true then .inr n else .inl false):=by
 refine Y8 (f:=λk j=>Z26.l0 k n j) (n:=n.given.length) (p:=λi=>gw (n.given.getD i ⟨#[]⟩)) (λj hj hp=>?_) (λj r hj hp ih=>?_) ?_ n.given.length 0 (by omega)
 ·rw[getD_at hj]at hp
  unfold gw at hp
  refine Ev.step (λk=>by rw[Z26.l0]) ?_
  simp(disch:=omega) only[Qb,Int.toNat_natCast,getD_at hj]
  refine Ev.bind (Ym _) ?_
  cases hw:UW n.given[j]with
  |false=>exact Ev.pure _
  |true=>
   rw[hw,Bool.true_and]at hp
   have:=UY hw
   simp(disch:=omega) only[Qb,show(0:Int).toNat=0 from rfl,Bool.not_true,cond_false]
   refine Ev.bind0 (Q1l _) ?_
   rw[hp]
   exact Ev.pure _
 ·rw[getD_at hj]at hp
  unfold gw at hp
  rw[Bool.and_eq_true]at hp
  have:=UY hp.1
  refine Ev.step (λk=>by rw[Z26.l0]) ?_
  simp(disch:=omega) only[Qb,Int.toNat_natCast,getD_at hj]
  refine Ev.bind (Ym _) ?_
  rw[hp.1]
  simp(disch:=omega) only[Qb,show(0:Int).toNat=0 from rfl,Bool.not_true,cond_false]
  refine Ev.bind0 (Q1l _) ?_
  rw[hp.2]
  simp(disch:=omega) only[Bool.not_true,cond_false,wrap_in]
  exact ih
 ·refine Ev.step (λk=>by rw[Z26.l0]) ?_
  simp(disch:=omega) only[Qk]
  exact Ev.pure _
theorem GT (n:Name)(hs:QO n):Ev (λk=>Z26.F k n) (nameB n):=by
 have hg:n.given.length<=1048576:=by unfold QO Dk at hs;omega
 have hp:n.particle.size<=1048576:=by unfold QO Dk at hs;omega
 unfold Z26.F nameB
 have:=Q4E n hg
 rw[Gq n.given ⟨#[]⟩ gw]at this
 cases ha:n.given.all gw with
 |false=>rw[ha]at this;exact Ev.bind this (Ev.pure _)
 |true=>
  rw[ha]at this
  refine Ev.bind (a:=.inr n) this ?_
  dsimp only
  rw[Bool.true_and,show decide (n.given.length<=3)=decide ((n.given.length:Int)<=3)from decide_eq_decide.2 (by omega)]
  refine J2 λ_=>?_
  refine Ev.bind (Q4D _ hp) (J2 λ_=>?_)
  unfold gw
  rw[Bool.and_assoc]
  refine Ev.bind (Ym _) (J2 λh=>?_)
  have:=UY h
  simp(disch:=omega) only[Qb,show(0:Int).toNat=0 from rfl]
  refine Ev.bind0 (Q1l _) (J2 λ_=>?_)
  unfold Q9V
  rw[UX]
  cases decide (n.suffix.size=0)with
  |true=>exact Ev.pure _
  |false=>exact Ev.bind (Ym _) (Ev.pure _)
theorem Q84 (n:Name)(hs:QO n):Ev (λk=>Z112.F k n) (nameB n):=by
 have hg:n.given.length<=1048576:=by unfold QO Dk at hs;omega
 have hp:n.particle.size<=1048576:=by unfold QO Dk at hs;omega
 unfold Z112.F nameB
 by_cases c:n.given.length<=3
 ·simp(disch:=omega) only[Qk,Q5T,Bool.true_and]
  have hq:∀x,x∈n.given->Ev (λk=>Z92.F k x) (!gw x):=λx _=>by
   unfold Z92.F
   exact Ev.bind (Q1n x) (Ev.pure _)
  obtain⟨r,h1,h2⟩:=Q3s (d:=(⟨#[]⟩:ByteArray)) (p:=λx=> !gw x) (q:=Z92.F) (xs:=n.given) (l0:=Z50.l0) (λk x0 x7 x8=>by rw[Z50.l0]) hq (by omega) (F:=Z50.F) (λk a0=>rfl)
  refine Ev.bind (a:=!n.given.all gw) ?_ ?_
  ·unfold Z128.F
   refine Ev.bind h1 ((Ev.pure _).eq ?_)
   rcases h2 with⟨rfl,h2⟩|⟨j,rfl,hj,hp,_⟩
   ·have:n.given.all gw=true:=List.all_eq_true.2 λx hx=>by have:=h2 x hx;simpa using this
    rw[this];rfl
   ·have:n.given.all gw=false:=by
     rw[List.all_eq_false]
     refine⟨n.given[j],List.getElem_mem hj,?_⟩
     rw[getD_at hj]at hp
     simpa using hp
    rw[this,decide_eq_true (by omega)];rfl
  ·cases n.given.all gw with
   |false=>exact Ev.pure _
   |true=>
    rw[Bool.true_and]
    refine Ev.bind (Q83 _ hp) (J2 λ_=>?_)
    refine Ev.bind (Q1n _) (J2 λ_=>?_)
    unfold Q9V
    rw[UX]
    cases decide (n.suffix.size=0)with
    |true=>exact Ev.pure _
    |false=>exact Ev.bind (Q2A _) (Ev.pure _)
 ·simp(disch:=omega) only[Qb,Q3m,Bool.false_and,Bool.and_false]
  exact Ev.pure _
def Yv (l:List Name):Bool:=l.all nameB&&decide (l.length<=4)
theorem GU (l:List Name)(hl:l.length<=1048576)(hs:∀n∈l,QO n):∀m i:Nat,i+m=l.length->∃r,Ev (λk=>Z21.l0 k l i) r/\(r= .inl false\/r= .inr l)/\(l.length<=4->r=if(l.drop i).all nameB=true then .inr l else .inl false)
 |0,i,h=>by
  refine⟨.inr l,Ev.step (λk=>by rw[Z21.l0]) ?_,.inr rfl,λ_=>by rw[List.drop_eq_nil_of_le (by omega)];rfl⟩
  simp(disch:=omega) only[Qk]
  exact Ev.pure _
 |m+1,i,h=>by
  have hi:i<l.length:=by omega
  by_cases c4:(i:Int)<=4
  ·cases hn:nameB l[i]with
   |false=>
    refine⟨.inl false,Ev.step (λk=>by rw[Z21.l0]) ?_,.inl rfl,λ_=>by rw[List.drop_eq_getElem_cons hi,List.all_cons,hn];rfl⟩
    simp(disch:=omega) only[Qb,Int.toNat_natCast,getD_at hi]
    refine Ev.bind (GT _ (hs _ (List.getElem_mem hi))) ?_
    rw[hn]
    exact Ev.pure _
   |true=>
    obtain⟨r,h1,h2,h3⟩:=GU l hl hs m (i+1) (by omega)
    refine⟨r,Ev.step (λk=>by rw[Z21.l0]) ?_,h2,λh4=>by rw[h3 h4,List.drop_eq_getElem_cons hi,List.all_cons,hn,Bool.true_and]⟩
    simp(disch:=omega) only[Qb,Int.toNat_natCast,getD_at hi]
    refine Ev.bind (GT _ (hs _ (List.getElem_mem hi))) ?_
    rw[hn]
    simp(disch:=omega) only[Bool.not_true,cond_false,wrap_in]
    exact h1
  ·refine⟨.inr l,Ev.step (λk=>by rw[Z21.l0]) ?_,.inr rfl,λh4=>by omega⟩
   simp(disch:=omega) only[Qb,Qk]
   exact Ev.pure _
theorem DX (l:List Name)(hl:YO l<=1048576):Ev (λk=>Z21.F k l) (Yv l):=by
 unfold Z21.F Yv
 obtain⟨r,h1,h2,h3⟩:=GU l (JB hl) (λn hn=>Jo hl hn) l.length 0 (by omega)
 rw[List.drop_zero]at h3
 have e:decide (l.length<=4)=decide ((l.length:Int)<=4):=decide_eq_decide.2 (by omega)
 rw[e]
 by_cases c:l.length<=4
 ·rw[h3 c]at h1
  cases ha:l.all nameB with
  |true=>rw[ha]at h1;exact Ev.bind h1 (Ev.pure _)
  |false=>rw[ha]at h1;exact Ev.bind h1 (Ev.pure _)
 ·rw[decide_eq_false (show¬(l.length:Int)<=4 by omega),Bool.and_false]
  rcases h2 with rfl|rfl
  ·exact Ev.bind h1 (Ev.pure _)
  ·exact Ev.bind h1 ((Ev.pure _).eq (decide_eq_false (by omega)))
theorem GV (l:List Name)(hl:YO l<=1048576):Ev (λk=>Z94.F k l) (Yv l):=by
 have hlen:=JB hl
 unfold Z94.F Yv
 by_cases c:l.length<=4
 ·simp(disch:=omega) only[Qb,Q5T,Bool.and_true]
  have hq:∀x,x∈l->Ev (λk=>Z93.F k x) (!nameB x):=λx hx=>by
   unfold Z93.F
   exact Ev.bind (Q84 x (Jo hl hx)) (Ev.pure _)
  obtain⟨r,h1,h2⟩:=Q3s (d:=(Qh .name:Name)) (p:=λx=> !nameB x) (q:=Z93.F) (xs:=l) (l0:=Z51.l0) (λk x0 x7 x8=>by rw[Z51.l0]) hq (by omega) (F:=Z51.F) (λk a0=>rfl)
  refine Ev.bind (a:=!l.all nameB) ?_ ?_
  ·unfold Z129.F
   refine Ev.bind h1 ((Ev.pure _).eq ?_)
   rcases h2 with⟨rfl,h2⟩|⟨j,rfl,hj,hp,_⟩
   ·have:l.all nameB=true:=List.all_eq_true.2 λx hx=>by have:=h2 x hx;simpa using this
    rw[this];rfl
   ·have:l.all nameB=false:=by
     rw[List.all_eq_false]
     refine⟨l[j],List.getElem_mem hj,?_⟩
     rw[getD_at hj]at hp
     simpa using hp
    rw[this,decide_eq_true (by omega)];rfl
  ·rw[Bool.not_not];exact Ev.pure _
 ·simp(disch:=omega) only[Qk,Q3m,Bool.and_false]
  exact Ev.pure _
theorem Q6U (y m:Int)(hy:0<=y):∃r,Z104.F y m=some r/\Z76.F y m=some r:=by
 have e1:Int.tmod y 4=y % 4:=Int.tmod_eq_emod_of_nonneg hy
 have e2:Int.tmod y 100=y % 100:=Int.tmod_eq_emod_of_nonneg hy
 have e3:Int.tmod y 400=y % 400:=Int.tmod_eq_emod_of_nonneg hy
 have z1:((4:Nat)==0)=false:=rfl
 have z2:((100:Nat)==0)=false:=rfl
 have z3:((400:Nat)==0)=false:=rfl
 unfold Z104.F Z76.F
 rw[e1,e2,e3]
 by_cases c2:m=2
 ·by_cases d1:y % 4=0
  ·by_cases d2:y % 100=0
   ·by_cases d3:y % 400=0
    ·exact⟨29,by simp(disch:=first|assumption|omega) only[ceq,Yx,z1,z2,z3,cond_false],by simp(disch:=first|assumption|omega) only[ceq,Yx,z1,z2,z3,cond_false]⟩
    ·exact⟨28,by simp(disch:=first|assumption|omega) only[ceq,cne,Yx,z1,z2,z3,cond_false],by simp(disch:=first|assumption|omega) only[ceq,cne,Yx,z1,z2,z3,cond_false]⟩
   ·exact⟨29,by simp(disch:=first|assumption|omega) only[ceq,XX,z1,z2,z3,cond_false],by simp(disch:=first|assumption|omega) only[ceq,XX,z1,z2,z3,cond_false]⟩
  ·have d3:y % 400≠0:=by omega
   exact⟨28,by simp(disch:=first|assumption|omega) only[ceq,cne,z1,z2,z3,cond_false],by simp(disch:=first|assumption|omega) only[ceq,cne,z1,z2,z3,cond_false]⟩
 ·by_cases a:m=4
  ·exact⟨30,by simp(disch:=first|assumption|omega) only[ceq,cne],by simp(disch:=first|assumption|omega) only[ceq,cne]⟩
  ·by_cases b:m=6
   ·exact⟨30,by simp(disch:=first|assumption|omega) only[ceq,cne],by simp(disch:=first|assumption|omega) only[ceq,cne]⟩
   ·by_cases c:m=9
    ·exact⟨30,by simp(disch:=first|assumption|omega) only[ceq,cne],by simp(disch:=first|assumption|omega) only[ceq,cne]⟩
    ·by_cases d:m=11
     ·exact⟨30,by simp(disch:=first|assumption|omega) only[ceq,cne],by simp(disch:=first|assumption|omega) only[ceq,cne]⟩
     ·exact⟨31,by simp(disch:=first|assumption|omega) only[cne],by simp(disch:=first|assumption|omega) only[cne]⟩
theorem Q1o (d:Date):∃b,Z88.F d=some b/\Z85.F d=some b:=by
 unfold Z88.F Z85.F
 cases (d.y==0&&(d.m==0&&(d.d==0&&d.c==false)))with
 |true=>exact⟨true,rfl,rfl⟩
 |false=>
  rw[Q1k,Jy]
  simp only[Option.bind_some,cond_false]
  cases h1:(decide (d.y ≥ 1)&&decide (d.y<=2999))with
  |false=>exact⟨false,rfl,rfl⟩
  |true=>
   have hy:0<=d.y:=by
    simp only[Bool.and_eq_true,decide_eq_true_eq]at h1;omega
   rw[Q1k,Jy]
   simp only[Option.bind_some,Bool.not_true,cond_false]
   cases h2:(decide (d.m ≥ 0)&&decide (d.m<=12))with
   |false=>exact⟨false,rfl,rfl⟩
   |true=>
    obtain⟨r,r1,r2⟩:=Q6U d.y d.m hy
    rw[r1,r2]
    simp only[Option.bind_some,Bool.not_true,cond_false,Q1k,Jy]
    cases d.c with
    |true=>
     by_cases c:d.m=0
     ·exact⟨d.d==0,by simp(disch:=first|assumption|omega) only[cond_true,ceq],by simp(disch:=first|assumption|omega) only[cond_true,ceq,Yx]⟩
     ·exact⟨false,by simp(disch:=first|assumption|omega) only[cond_true,cne],by simp(disch:=first|assumption|omega) only[cond_true,XX]⟩
    |false=>exact⟨bif d.m==0 then(d.d==0)else(decide (d.d ≥ 0)&&decide (d.d<=r)),by cases (d.m==0)<;>rfl,by cases (d.m==0)<;>rfl⟩
open Classical in
noncomputable def D2 (d:Date):Bool:=(Q1o d).choose
theorem Q4F (d:Date):Z88.F d=some (D2 d):=(Q1o d).choose_spec.1
theorem Q2C (d:Date):Z85.F d=some (D2 d):=(Q1o d).choose_spec.2
def Q85 (n lo hi:Int):Bool:=decide (n ≥ lo)&&decide (n<=hi)
def Q3u (e:Entry):Bool:=decide (e.cross.size=0)||(Q60 e.cross&& !Qu e.cross e.key)
noncomputable def Ud (e:Entry):Bool:=Q60 e.key&&(Q85 e.kind 1 4&&(Yv e.authors&&(Yv e.editors&&(XA e.title&&(XA e.container&&(XA e.publisher&&(XA e.pages&&(D2 e.date&&(Q85 e.volume 0 9999&&Q3u e)))))))))
theorem DY (e:Entry)(hs:Jf e):Ev (λk=>Z105.F k e) (Ud e):=by
 unfold Z105.F Ud
 refine Ev.bind (Q1m _) (QG λ_=>?_)
 refine Ev.bind0 (Q1k _ _ _) (QG λ_=>?_)
 refine Ev.bind (DX _ (UU hs)) (QG λ_=>?_)
 refine Ev.bind (DX _ (UV hs)) (QG λ_=>?_)
 refine Ev.bind (Uj _) (QG λ_=>?_)
 refine Ev.bind (Uj _) (QG λ_=>?_)
 refine Ev.bind (Uj _) (QG λ_=>?_)
 refine Ev.bind (Uj _) (QG λ_=>?_)
 refine Ev.bind0 (Q4F _) (J2 λ_=>?_)
 refine Ev.bind0 (Q1k _ _ _) (J2 λ_=>?_)
 unfold Q3u
 rw[UX]
 cases decide (e.cross.size=0)with
 |true=>exact Ev.pure _
 |false=>
  refine(Ev.bind (Q1m _) (J2 λ_=>?_)).eq (Bool.false_or _).symm
  exact Ev.pure _
theorem Q1p (e:Entry)(hs:Jf e):Ev (λk=>Z95.F k e) (Ud e):=by
 have key:Ev (λk=>Z95.F k e) (Q60 e.key&&(Q85 e.kind 1 4&&(Yv e.authors&&(Yv e.editors&&(D2 e.date&&(Q85 e.volume 0 9999&&(XA e.title&&(XA e.container&&(XA e.publisher&&(XA e.pages&&Q3u e)))))))))):=by
  unfold Z95.F
  refine Ev.bind (Q4B _) (QG λ_=>?_)
  refine Ev.bind0 (a:=Q85 e.kind 1 4) ?_ (QG λ_=>?_)
  ·unfold Z127.F;rw[Jy];rfl
  refine Ev.bind (GV _ (UU hs)) (QG λ_=>?_)
  refine Ev.bind (GV _ (UV hs)) (QG λ_=>?_)
  refine Ev.bind0 (Q2C _) (QG λ_=>?_)
  refine Ev.bind0 (Jy _ _ _) (QG λ_=>?_)
  refine Ev.bind (KO _) (J2 λ_=>?_)
  refine Ev.bind (KO _) (J2 λ_=>?_)
  refine Ev.bind (KO _) (J2 λ_=>?_)
  refine Ev.bind (KO _) (J2 λ_=>?_)
  unfold Q3u
  rw[UX]
  cases decide (e.cross.size=0)with
  |true=>exact Ev.pure _
  |false=>
   refine(Ev.bind (Q4B _) (J2 λ_=>?_)).eq (Bool.false_or _).symm
   exact Ev.pure _
 refine key.eq ?_
 unfold Ud
 ac_rfl
noncomputable def okL (l:Library)(i:Nat):Bool:=Ud (l.entries.getD i (Qh .entry))&&(decide (i=0)||ltS (l.entries.getD (i-1) (Qh .entry)).key (l.entries.getD i (Qh .entry)).key)
noncomputable def Q05 (l:Library):Bool:=(List.range' 0 l.entries.length).all (okL l)&&decide (l.entries.length<=8)
theorem Q3v (l:Library)(hs:JY l):Ev (λk=>Z23.l0 k l ((0:Nat):Int)) (if(List.range' 0 l.entries.length).all (okL l)=true then .inr ()else .inl false):=by
 have hlen:=YG hs
 refine Y8 (f:=λk i=>Z23.l0 k l i) (n:=l.entries.length) (λi hi hp=>?_) (λi r hi hp ih=>?_) ?_ l.entries.length 0 (by omega)
 ·unfold okL at hp
  refine Ev.step (λk=>by rw[Z23.l0]) ?_
  have hsm:Jf (l.entries.getD i (Qh .entry)):=by rw[getD_at hi];exact Yl hs (List.getElem_mem hi)
  simp(disch:=omega) only[Qb,Int.toNat_natCast]
  refine Ev.bind (DY _ hsm) ?_
  cases he:Ud (l.entries.getD i (Qh .entry))with
  |false=>exact Ev.pure _
  |true=>
   rw[he,Bool.true_and,Bool.or_eq_false_iff,decide_eq_false_iff_not]at hp
   have et:((i:Int)-1).toNat=i-1:=by omega
   simp(disch:=omega) only[Bool.not_true,cond_false,Qb,wrap_in,et,hp.2,Bool.not_false,cond_true]
   exact Ev.pure _
 ·unfold okL at hp
  rw[Bool.and_eq_true]at hp
  refine Ev.step (λk=>by rw[Z23.l0]) ?_
  have hsm:Jf (l.entries.getD i (Qh .entry)):=by rw[getD_at hi];exact Yl hs (List.getElem_mem hi)
  simp(disch:=omega) only[Qb,Int.toNat_natCast]
  refine Ev.bind (DY _ hsm) ?_
  rw[hp.1]
  by_cases c:i=0
  ·simp(disch:=omega) only[Bool.not_true,cond_false,Qk,wrap_in]
   exact ih
  ·have et:((i:Int)-1).toNat=i-1:=by omega
   have h2:=hp.2
   rw[decide_eq_false c,Bool.false_or]at h2
   simp(disch:=omega) only[Bool.not_true,cond_false,Qb,wrap_in,et,h2]
   exact ih
 ·refine Ev.step (λk=>by rw[Z23.l0]) ?_
  simp(disch:=omega) only[Qk]
  exact Ev.pure _
theorem Q9W (l:Library)(hs:JY l):Ev (λk=>Z24.l0 k l l.entries l.entries.length ((0:Nat):Int)) (if(List.range' 0 l.entries.length).all (okL l)=true then .inr l else .inl false):=by
 have hlen:=YG hs
 refine Y8 (f:=λk i=>Z24.l0 k l l.entries l.entries.length i) (n:=l.entries.length) (λi hi hp=>?_) (λi r hi hp ih=>?_) ?_ l.entries.length 0 (by omega)
 ·unfold okL at hp
  refine Ev.step (λk=>by rw[Z24.l0]) ?_
  have hsm:Jf (l.entries.getD i (Qh .entry)):=by rw[getD_at hi];exact Yl hs (List.getElem_mem hi)
  simp(disch:=omega) only[Qb,Int.toNat_natCast]
  refine Ev.bind (Q1p _ hsm) ?_
  cases he:Ud (l.entries.getD i (Qh .entry))with
  |false=>exact Ev.pure _
  |true=>
   rw[he,Bool.true_and,Bool.or_eq_false_iff,decide_eq_false_iff_not]at hp
   have et:((i:Int)-1).toNat=i-1:=by omega
   simp(disch:=omega) only[Bool.not_true,cond_false,Qb,wrap_in,et,hp.2,Bool.not_false,cond_true]
   exact Ev.pure _
 ·unfold okL at hp
  rw[Bool.and_eq_true]at hp
  refine Ev.step (λk=>by rw[Z24.l0]) ?_
  have hsm:Jf (l.entries.getD i (Qh .entry)):=by rw[getD_at hi];exact Yl hs (List.getElem_mem hi)
  simp(disch:=omega) only[Qb,Int.toNat_natCast]
  refine Ev.bind (Q1p _ hsm) ?_
  rw[hp.1]
  by_cases c:i=0
  ·simp(disch:=omega) only[Bool.not_true,cond_false,Qk,wrap_in]
   exact ih
  ·have et:((i:Int)-1).toNat=i-1:=by omega
   have h2:=hp.2
   rw[decide_eq_false c,Bool.false_or]at h2
   simp(disch:=omega) only[Bool.not_true,cond_false,Qb,wrap_in,et,h2]
   exact ih
 ·refine Ev.step (λk=>by rw[Z24.l0]) ?_
  simp(disch:=omega) only[Qk]
  exact Ev.pure _
theorem Q62 (l:Library)(hs:JY l):Ev (λk=>Z23.F k l) (Q05 l):=by
 unfold Z23.F Q05
 by_cases c:l.entries.length<=8
 ·simp(disch:=omega) only[Qk,Q5T,Bool.and_true]
  have:=Q3v l hs
  cases ha:(List.range' 0 l.entries.length).all (okL l)with
  |true=>rw[ha]at this;exact Ev.bind this (Ev.pure _)
  |false=>rw[ha]at this;exact Ev.bind this (Ev.pure _)
 ·simp(disch:=omega) only[Qb,Q3m,Bool.and_false]
  exact Ev.pure _
theorem Q9X (l:Library)(hs:JY l):Ev (λk=>Z24.F k l) (Q05 l):=by
 unfold Z24.F Q05
 have:=Q9W l hs
 cases ha:(List.range' 0 l.entries.length).all (okL l)with
 |true=>
  rw[ha]at this
  refine Ev.bind this ((Ev.pure _).eq ?_)
  rw[Bool.true_and];exact decide_eq_decide.2 (by omega)
 |false=>rw[ha]at this;exact Ev.bind this (Ev.pure _)
theorem Q9Y {l:Library}(h:Q05 l=true):l.entries.length<=8:=by
 unfold Q05 at h
 rw[Bool.and_eq_true,decide_eq_true_eq]at h
 exact h.2
end Go.Proofs.YtcbclpphgbbmmaaGreatDoor
end
section
/- The fields of an entry as texts: both ways to write them answer alike. -/
namespace Go.Proofs.YtcbclpphgbbmmaaGreatDoor
open Go.Gx
def Jp (x:ByteArray):Bool:=!Qu x ⟨#[]⟩
theorem Q3w {x:ByteArray}(h:Jp x=false):x=⟨#[]⟩:=by
 unfold Jp at h
 exact Y7.1 (by simpa using h)
theorem Q9Z {x:ByteArray}(h:1<=x.size):Jp x=true:=by
 unfold Jp;rw[DV];exact decide_eq_true h
def Y9 (sep:List UInt8)(xs:List ByteArray):ByteArray:=⟨(Lib.join (xs.map L) sep).toArray⟩
theorem Q3x (sep:List UInt8)(xs:List ByteArray):L (Y9 sep xs)=Lib.join (xs.map L) sep:=by unfold Y9;exact QaO _
theorem Q4G (sep:List UInt8):∀xs:List ByteArray,(Lib.joinTail sep (xs.map L)).length=Y3 xs+sep.length*xs.length
 |[]=>by simp[Lib.joinTail,Y3]
 |x::r=>by
  have:=Q4G sep r
  simp only[Lib.joinTail,Y3,List.map_cons,List.flatten_cons,List.length_append,List.sum_cons,List.length_cons,Yu]at this ⊢
  rw[this,Nat.mul_succ];omega
theorem Xt (sep:List UInt8)(xs:List ByteArray):(Y9 sep xs).size<=Y3 xs+sep.length*xs.length:=by
 rw[<-Yu,Q3x]
 cases xs with
 |nil=>simp[Lib.join_nil]
 |cons x r=>
  rw[List.map_cons,Lib.join_cons,List.length_append,Q4G,Yu]
  simp only[Y3,List.map_cons,List.sum_cons,List.length_cons,Nat.mul_succ]
  omega
theorem Q1q (sep:ByteArray)(xs:List ByteArray)(h1:xs.length<=4194304)(h2:Y3 xs<=8388608)(h3:sep.size<=2):Q4x xs sep=some (Y9 (L sep) xs):=by
 unfold Q4x
 have hl:(Lib.join (xs.map (·.data.toList)) sep.data.toList).length<=140737488355328:=by
  have:=Xt (L sep) xs
  rw[<-Yu,Q3x,Yu]at this
  have h4:sep.size*xs.length<=2*xs.length:=Nat.mul_le_mul_right _ h3
  exact Nat.le_trans this (by omega)
 rw[Nat.ble_eq_true_of_le (by omega:xs.length<=140737488355328),Nat.ble_eq_true_of_le hl]
 rfl
def jn:ByteArray->List ByteArray->ByteArray
 |s,[]=>s
 |s,x::r=>jn (bif Jp s then(bif Jp x then(s++⟨#[32]⟩)++x else s++x)else s++x) r
theorem Q4H {s t:ByteArray}(h:Jp s=true):Jp (s++t)=true:=by
 unfold Jp at h ⊢
 rw[DV]at h ⊢
 have:=of_decide_eq_true h
 rw[JK]
 exact decide_eq_true (by omega)
theorem Q86 (s:ByteArray):s++(⟨#[]⟩:ByteArray)=s:=by apply Xz;rw[UT];simp[L]
theorem Q87 (s:ByteArray):(⟨#[]⟩:ByteArray)++s=s:=by apply Xz;rw[UT];simp[L]
theorem Qa0:∀(r:List ByteArray) (s:ByteArray),(Jp s=true->L (jn s r)=L s++Lib.joinTail [32] ((r.filter Jp).map L))/\(Jp s=false->L (jn s r)=Lib.join ((r.filter Jp).map L) [32])
 |[],s=>⟨λ_=>by simp[jn,Lib.joinTail],λh=>by rw[Q3w h];rfl⟩
 |x::r,s=>by
  refine⟨λh=>?_,λh=>?_⟩
  ·simp only[jn,h,cond_true]
   cases hx:Jp x with
   |true=>
    simp only[cond_true]
    rw[(Qa0 r _).1 (Q4H (Q4H h)),List.filter_cons_of_pos hx,List.map_cons,Q7Z,UT,UT,L32]
    simp
   |false=>
    rw[List.filter_cons_of_neg (by simp[hx]),Q3w hx]
    simp only[cond_false,Q86]
    exact(Qa0 r _).1 h
  ·simp only[jn,h,cond_false]
   rw[Q3w h,Q87]
   cases hx:Jp x with
   |true=>rw[(Qa0 r x).1 hx,List.filter_cons_of_pos hx,List.map_cons,Lib.join_cons]
   |false=>
    rw[List.filter_cons_of_neg (by simp[hx])]
    exact(Qa0 r x).2 hx
theorem Q88 {xs:List ByteArray}{i:Nat}(hi:i<xs.length):Y3 (xs.drop i)=xs[i].size+Y3 (xs.drop (i+1)):=by
 rw[List.drop_eq_getElem_cons hi];simp only[Y3,List.map_cons,List.sum_cons]
theorem Q2D (xs:List ByteArray)(hlen:xs.length<=4194304):∀n i:Nat,i+n=xs.length->∀s:ByteArray,s.size+n+Y3 (xs.drop i)<=1099511627776->Ev (λk=>Z15.l0 k xs s i) (jn s (xs.drop i))
 |0,i,h,s,hs=>by
  rw[List.drop_eq_nil_of_le (by omega)]
  refine Ev.step (λk=>by rw[Z15.l0]) ?_
  simp(disch:=omega) only[Qk]
  exact Ev.pure _
 |n+1,i,h,s,hs=>by
  have hi:i<xs.length:=by omega
  rw[Q88 hi]at hs
  rw[List.drop_eq_getElem_cons hi]
  simp only[jn]
  refine Ev.step (λk=>by rw[Z15.l0]) ?_
  have ih:=λs hs=>Q2D xs hlen n (i+1) (by omega) s hs
  have e1:(⟨#[32]⟩:ByteArray).size=1:=rfl
  have hb1:(!Qu s ⟨#[]⟩)=Jp s:=rfl
  have hb2:(!Qu xs[i] ⟨#[]⟩)=Jp xs[i]:=rfl
  simp(disch:=omega) only[Qb,Int.toNat_natCast,getD_at hi,hb1,hb2,wrap_in,Dj,JK,e1]
  cases Jp s with
  |false=>exact ih _ (by rw[JK];omega)
  |true=>
   cases Jp xs[i]with
   |false=>exact ih _ (by rw[JK];omega)
   |true=>exact ih _ (by rw[JK,JK,e1];omega)
theorem KP (xs:List ByteArray)(hlen:xs.length<=4194304)(ht:Y3 xs<=8388608):Ev (λk=>Z15.F k xs) (Y9 [32] (xs.filter Jp)):=by
 unfold Z15.F
 have:=Q2D xs hlen xs.length 0 (by omega) ⟨#[]⟩ (by rw[List.drop_zero,show(⟨#[]⟩:ByteArray).size=0 from rfl];omega)
 refine Ev.bind this ((Ev.pure _).eq ?_)
 apply Xz
 rw[List.drop_zero,(Qa0 xs ⟨#[]⟩).2 (by unfold Jp;rw[US];rfl),Q3x]
theorem Uk (p:ByteArray->Bool):∀xs:List ByteArray,Y3 (xs.filter p)<=Y3 xs
 |[]=>Nat.le_refl _
 |x::r=>by
  have:=Uk p r
  cases h:p x with
  |true=>rw[List.filter_cons_of_pos h];simp only[Y3,List.map_cons,List.sum_cons]at this ⊢;omega
  |false=>rw[List.filter_cons_of_neg (by simp[h])];simp only[Y3,List.map_cons,List.sum_cons]at this ⊢;omega
theorem Q2E (xs:List ByteArray)(hlen:xs.length<=4194304)(ht:Y3 xs<=8388608):Ev (λk=>Z82.F k xs) (Y9 [32] (xs.filter Jp)):=by
 unfold Z82.F
 have hq:∀x,x∈xs->Ev (λ_=>Z77.F x) (Qu x ⟨#[]⟩):=λx _=>Ev.pure _
 have hdel:=Q2y (d:=(⟨#[]⟩:ByteArray)) (p:=λx=>Qu x ⟨#[]⟩) (q:=λ_ x=>Z77.F x) (xs:=xs) (l0:=Z59.l0) (λk x0 x5 x6=>by rw[Z59.l0]) hq (by omega) (I:=Z52.F) (F:=Z59.F)
  (Q3s (d:=(⟨#[]⟩:ByteArray)) (p:=λx=>Qu x ⟨#[]⟩) (q:=λ_ x=>Z77.F x) (l0:=Z52.l0) (λk x0 x7 x8=>by rw[Z52.l0]) hq (by omega) (λk a0=>rfl)) (λk a0=>rfl)
 refine Ev.bind hdel (Ev.bind0 ?_ (Ev.pure _))
 have hf:(xs.filter Jp).length<=xs.length:=List.length_filter_le _ _
 exact Q1q ⟨#[32]⟩ (xs.filter Jp) (by omega) (by have:=Uk Jp xs;omega) (by decide)
def cs2:ByteArray:=⟨#[44,32]⟩
def Q89 (n:Name):ByteArray:=
 let r1:=Y9 [32] ([n.particle,n.family].filter Jp)
 let r2:=bif decide ((n.given.length:Int) > 0)||Jp n.suffix then(r1++cs2)++Y9 [32] n.given else r1
 bif Jp n.suffix then(r2++cs2)++n.suffix else r2
theorem Q2F {n:Name}(h:nameB n=true):n.given.filter Jp=n.given:=by
 unfold nameB at h
 simp only[Bool.and_eq_true]at h
 refine List.filter_eq_self.2 λx hx=>?_
 have:=List.all_eq_true.1 h.1 x hx
 unfold gw at this
 simp only[Bool.and_eq_true]at this
 exact Q9Z (UY this.1)
theorem Jk {n:Name}(hs:QO n):n.given.length+Y3 n.given+n.particle.size+n.family.size+n.suffix.size<=1048576:=hs
theorem QbT (a b:ByteArray):Y3 [a,b]=a.size+b.size:=by simp[Y3]
theorem Q6V (n:Name):(Y9 [32] ([n.particle,n.family].filter Jp)).size<=n.particle.size+n.family.size+2:=by
 have h1:=Xt [32] ([n.particle,n.family].filter Jp)
 have h2:=Uk Jp [n.particle,n.family]
 have h3:([n.particle,n.family].filter Jp).length<=2:=List.length_filter_le _ _
 rw[QbT]at h2
 simp only[List.length_singleton,Nat.one_mul]at h1
 omega
theorem Q3y (n:Name):(Y9 [32] n.given).size<=Y3 n.given+n.given.length:=by
 have h1:=Xt [32] n.given
 simpa using h1
theorem Q2G (a b c:ByteArray):(a++b)++c=a++(b++c):=by apply Xz;simp only[UT,List.append_assoc]
theorem Q1r (n:Name)(hs:QO n)(hv:nameB n=true):Ev (λk=>Z90.F k n) (Q89 n):=by
 have h3:=Jk hs
 have h1:=Q6V n
 have h2:=Q3y n
 have hj:=KP [n.particle,n.family] (by simp) (by rw[QbT];omega)
 have hg:=KP n.given (by omega) (by omega)
 rw[Q2F hv]at hg
 have hg':Ev (λk=>Z73.F k n) (Y9 [32] n.given):=by unfold Z73.F;exact Ev.bind hg (Ev.pure _)
 unfold Z90.F Q89
 refine Ev.bind hj ?_
 have e2:(⟨#[44,32]⟩:ByteArray).size=2:=rfl
 have hb:(!Qu n.suffix ⟨#[]⟩)=Jp n.suffix:=rfl
 simp(disch:=omega) only[hb,JK,e2,Dj]
 cases hx:decide ((n.given.length:Int) > 0)with
 |true=>
  simp only[cond_true,Bool.true_or]
  refine Ev.bind hg' ?_
  simp(disch:=omega) only[JK,e2,Dj]
  cases Jp n.suffix<;>exact Ev.pure _
 |false=>
  cases Jp n.suffix with
  |false=>exact Ev.pure _
  |true=>
   simp only[cond_true,cond_false,Bool.or_true]
   refine Ev.bind hg' ?_
   simp(disch:=omega) only[JK,e2,Dj]
   exact Ev.pure _
theorem Q1s (n:Name)(hs:QO n):Ev (λk=>Z98.F k n) (Q89 n):=by
 have h3:=Jk hs
 have h1:=Q6V n
 have h2:=Q3y n
 have hj:=Q2E [n.particle,n.family] (by simp) (by rw[QbT];omega)
 have hg:Z134.F n.given ⟨#[32]⟩=some (Y9 [32] n.given):=Q1q ⟨#[32]⟩ n.given (by omega) (by omega) (by decide)
 unfold Z98.F Q89
 refine Ev.bind hj ?_
 have e2:(⟨#[44,32]⟩:ByteArray).size=2:=rfl
 have hb:(!Qu n.suffix ⟨#[]⟩)=Jp n.suffix:=rfl
 simp(disch:=omega) only[hb,hg,Option.bind_some,JK,e2,Dj,Q2G]
 cases decide ((n.given.length:Int) > 0)<;>cases Jp n.suffix<;>simp only[cond_true,cond_false,Bool.or_true,Bool.or_false,Bool.true_or,Bool.false_or,Q2G]<;>exact Ev.pure _
theorem Qa1 {e:Entry}(h:Ud e=true):Yv e.authors=true/\Yv e.editors=true/\D2 e.date=true/\0<=e.volume/\e.volume<=9999:=by
 unfold Ud Q85 at h
 simp only[Bool.and_eq_true,decide_eq_true_eq]at h
 exact⟨h.2.2.1,h.2.2.2.1,h.2.2.2.2.2.2.2.2.1,h.2.2.2.2.2.2.2.2.2.1.1,h.2.2.2.2.2.2.2.2.2.1.2⟩
theorem Q4I {l:List Name}(h:Yv l=true):l.length<=4/\∀n∈l,nameB n=true:=by
 unfold Yv at h
 simp only[Bool.and_eq_true,decide_eq_true_eq]at h
 exact⟨h.2,λn hn=>List.all_eq_true.1 h.1 n hn⟩
def okF (e:Entry):Prop:=Yv e.authors=true/\Yv e.editors=true/\D2 e.date=true/\0<=e.volume/\e.volume<=9999/\YO e.authors<=1048576/\YO e.editors<=1048576
theorem QbU {e:Entry}(hs:Jf e)(hv:Ud e=true):okF e:=by
 obtain⟨ha,he,hd,v0,v1⟩:=Qa1 hv
 exact⟨ha,he,hd,v0,v1,UU hs,UV hs⟩
end Go.Proofs.YtcbclpphgbbmmaaGreatDoor
end
section
/- Plain laws: an entry found by its key;its parent. -/
namespace Go.Proofs.YtcbclpphgbbmmaaGreatDoor
open Go.Gx
theorem Qa2 (l:Library)(key:ByteArray)(hl:l.entries.length<=1048576):∀n i:Nat,i+n=l.entries.length->
  ∃r:Sum Int Unit,Ev (λk=>Z0.l0 k key l i) r/\Ev (λk=>Z41.l0 k l.entries key l.entries.length i) r/\∀z,r= .inl z->0<=z/\z<l.entries.length
 |0,i,h=>by
  refine⟨.inr (),Ev.step (λk=>by rw[Z0.l0]) ?_,Ev.step (λk=>by rw[Z41.l0]) ?_,λz hz=>by cases hz⟩
  ·simp(disch:=omega) only[Qk];exact Ev.pure _
  ·simp(disch:=omega) only[Qk];exact Ev.pure _
 |n+1,i,h=>by
  have hi:i<l.entries.length:=by omega
  have e1:Z126.F l.entries[i] key=some (Qu l.entries[i].key key):=rfl
  cases hb:Qu l.entries[i].key key with
  |true=>
   refine⟨.inl i,Ev.step (λk=>by rw[Z0.l0]) ?_,Ev.step (λk=>by rw[Z41.l0]) ?_,λz hz=>by cases hz;omega⟩
   ·simp(disch:=omega) only[Qb,Int.toNat_natCast,getD_at hi,hb,cond_true]
    exact Ev.pure _
   ·simp(disch:=omega) only[Qb,Int.toNat_natCast,getD_at hi]
    refine Ev.bind0 e1 ?_
    rw[hb]
    exact Ev.pure _
  |false=>
   obtain⟨r,r1,r2,r3⟩:=Qa2 l key hl n (i+1) (by omega)
   refine⟨r,Ev.step (λk=>by rw[Z0.l0]) ?_,Ev.step (λk=>by rw[Z41.l0]) ?_,r3⟩
   ·simp(disch:=omega) only[Qb,Int.toNat_natCast,getD_at hi,hb,cond_false,wrap_in]
    exact r1
   ·simp(disch:=omega) only[Qb,Int.toNat_natCast,getD_at hi]
    refine Ev.bind0 e1 ?_
    rw[hb]
    simp(disch:=omega) only[cond_false,wrap_in]
    exact r2
theorem QaW (l:Library)(key:ByteArray)(hl:l.entries.length<=1048576):∃r:Int,Ev (λk=>Z0.F k l key) r/\Ev (λk=>Z63.F k l key) r/\ -1<=r/\r<l.entries.length:=by
 obtain⟨r,r1,r2,r3⟩:=Qa2 l key hl l.entries.length 0 (by omega)
 unfold Z0.F Z63.F Z41.F
 cases r with
 |inl z=>exact⟨z,Ev.bind r1 (Ev.pure _),Ev.bind (Ev.bind r2 (Ev.pure _)) (Ev.pure _),by have:=r3 z rfl;omega,(r3 z rfl).2⟩
 |inr u=>exact⟨-1,Ev.bind r1 (Ev.pure _),Ev.bind (Ev.bind r2 (Ev.pure _)) (Ev.pure _),by omega,by omega⟩
end Go.Proofs.YtcbclpphgbbmmaaGreatDoor
end
section
/- Plain laws: the chain of an entry,keys,entries found by their keys. -/
namespace Go.Proofs.YtcbclpphgbbmmaaGreatDoor
open Go.Gx
def kAt (l:Library)(x:Int):ByteArray:=(l.entries.getD x.toNat (Qh .entry)).key
theorem Q6W (l:Library)(key:ByteArray)(hl:l.entries.length<=1048576):∀n i:Nat,i+n=l.entries.length->
  ∃r:Sum Int Unit,Ev (λk=>Z0.l0 k key l i) r/\(∀z,r= .inl z->∃j:Nat,z=j/\i<=j/\j<l.entries.length/\(l.entries.getD j (Qh .entry)).key=key)/\(∀u,r= .inr u->∀j,i<=j->j<l.entries.length->(l.entries.getD j (Qh .entry)).key≠key)
 |0,i,h=>by
  refine⟨.inr (),Ev.step (λk=>by rw[Z0.l0]) ?_,(λz hz=>by cases hz),λu _ j h1 h2=>by omega⟩
  simp(disch:=omega) only[Qk];exact Ev.pure _
 |n+1,i,h=>by
  have hi:i<l.entries.length:=by omega
  cases hb:Qu l.entries[i].key key with
  |true=>
   refine⟨.inl i,Ev.step (λk=>by rw[Z0.l0]) ?_,λz hz=>?_,(λu hu=>by cases hu)⟩
   ·simp(disch:=omega) only[Qb,Int.toNat_natCast,getD_at hi,hb,cond_true]
    exact Ev.pure _
   ·cases hz
    exact⟨i,rfl,Nat.le_refl _,hi,by rw[getD_at hi];exact Y7.1 hb⟩
  |false=>
   obtain⟨r,r1,r2,r3⟩:=Q6W l key hl n (i+1) (by omega)
   refine⟨r,Ev.step (λk=>by rw[Z0.l0]) ?_,λz hz=>?_,λu hu j h1 h2=>?_⟩
   ·simp(disch:=omega) only[Qb,Int.toNat_natCast,getD_at hi,hb,cond_false,wrap_in]
    exact r1
   ·obtain⟨j,e,h1,h2⟩:=r2 z hz
    exact⟨j,e,by omega,h2⟩
   ·by_cases e:j=i
    ·subst e
     rw[getD_at hi]
     intro he
     rw[he,US]at hb
     cases hb
    ·exact r3 u hu j (by omega) h2
theorem Q4J (l:Library)(key:ByteArray)(hl:l.entries.length<=1048576):∃r:Int,Ev (λk=>Z0.F k l key) r/\Ev (λk=>Z63.F k l key) r/\ -1<=r/\r<l.entries.length/\(0<=r->kAt l r=key)/\(r<0->∀j,j<l.entries.length->(l.entries.getD j (Qh .entry)).key≠key):=by
 obtain⟨r,r1,r2,r3,r4⟩:=QaW l key hl
 obtain⟨q,q1,q2,q3⟩:=Q6W l key hl l.entries.length 0 (by omega)
 refine⟨r,r1,r2,r3,r4,?_⟩
 have hF:Ev (λk=>Z0.F k l key) (match q with|.inl z=>z|.inr _=> -1):=by
  unfold Z0.F
  cases q with
  |inl z=>exact Ev.bind q1 (Ev.pure _)
  |inr u=>exact Ev.bind q1 (Ev.pure _)
 have e:=Ev.uniq r1 hF
 cases q with
 |inl z=>
  obtain⟨j,rfl,_,_,h⟩:=q2 z rfl
  have e:r=(j:Int):=e
  exact⟨λ_=>by rw[e];unfold kAt;rw[Int.toNat_natCast];exact h,λh0=>by omega⟩
 |inr u=>
  have e:r= -1:=e
  exact⟨λh0=>by omega,λ_ j hj=>q3 u rfl j (Nat.zero_le _) hj⟩
theorem QaX {n:Nat}(h:n<=8192):room n (.int .i64)=true:=by
 show Nat.ble (n*8) 140737488355328=true
 exact Nat.ble_eq_true_of_le (by omega)
end Go.Proofs.YtcbclpphgbbmmaaGreatDoor
end
section
/- Plain laws: lower case. -/
namespace Go.Proofs.YtcbclpphgbbmmaaGreatDoor
open Go.Gx
theorem Q3z (ys:List Int):L (XC ys)=ys.map λn=>UInt8.ofNat n.toNat:=QaO _
theorem Q63 (s:ByteArray):XC (Qf s)=s:=by
 apply Xz
 rw[Q3z,Uc,List.map_map]
 conv=>rhs;rw[<-List.map_id (L s)]
 refine List.map_congr_left λb _=>?_
 simp
theorem Q8a (ys:List Int):(XC ys).size=ys.length:=by
 rw[<-Yu,Q3z,List.length_map]
theorem Q1t (b:Int):Z68.F b=some (decide (65<=b)&&decide (b<=90)):=by
 unfold Z68.F
 simp only[ge_iff_le]
 cases decide (65<=b)<;>rfl
def Uz (b:Int):Int:=bif decide (65<=b)&&decide (b<=90)then b+32 else b
def mix (s:ByteArray)(i:Nat):List Int:=((Qf s).take i).map Uz++(Qf s).drop i
theorem KQ (s:ByteArray)(i:Nat):(mix s i).length=(Qf s).length:=by
 unfold mix;simp;omega
theorem Q3A (s:ByteArray)(i:Nat)(h:i<(Qf s).length):(mix s i).getD i 0=(Qf s)[i]:=by
 unfold mix
 rw[List.getD_eq_getElem?_getD,List.getElem?_append_right (by simp;omega)]
 simp[Nat.min_eq_left (Nat.le_of_lt h),h]
theorem Q0h (s:ByteArray)(i:Nat)(h:i<(Qf s).length):(mix s i).set i (Uz (Qf s)[i])=mix s (i+1):=by
 unfold mix
 rw[List.set_append_right _ _ (by simp;omega)]
 simp only[List.length_map,List.length_take,Nat.min_eq_left (Nat.le_of_lt h),Nat.sub_self]
 rw[List.drop_eq_getElem_cons h,List.set_cons_zero,List.take_add_one,List.getElem?_eq_getElem h]
 simp only[Option.toList_some,List.map_append,List.map_cons,List.map_nil,List.append_assoc,List.cons_append,List.nil_append]
theorem Q1u (s:ByteArray)(i:Nat)(h:i<(Qf s).length)(e:Uz (Qf s)[i]=(Qf s)[i]):mix s (i+1)=mix s i:=by
 rw[<-Q0h s i h,e]
 apply List.ext_getElem?
 intro j
 by_cases hj:i=j
 ·subst hj
  have:=Q3A s i h
  rw[List.getD_eq_getElem?_getD]at this
  rw[List.getElem?_set_self (by rw[KQ];exact h)]
  rw[List.getElem?_eq_getElem (by rw[KQ];exact h)]at this ⊢
  rw[<-this];rfl
 ·rw[List.getElem?_set_ne hj]
theorem Q4K (s:ByteArray)(hs:s.size<=1048576):∀n i:Nat,i+n=s.size->Ev (λk=>Z8.l0 k (mix s i) s.size i) ((Qf s).map Uz)
 |0,i,h=>by
  refine Ev.step (λk=>by rw[Z8.l0]) ?_
  simp(disch:=omega) only[Qk]
  unfold mix
  rw[List.take_of_length_le (by rw[Qy];omega),List.drop_eq_nil_of_le (by rw[Qy];omega),List.append_nil]
  exact Ev.pure _
 |n+1,i,h=>by
  have hl:=Qy s
  have hi:i<(Qf s).length:=by omega
  have hm:=KQ s i
  have ih:=Q4K s hs n (i+1) (by omega)
  have hb:=Ko s i hi
  refine Ev.step (λk=>by rw[Z8.l0]) ?_
  simp(disch:=omega) only[Qb,Int.toNat_natCast,Q3A s i hi]
  refine Ev.bind0 (Q1t _) ?_
  cases hu:decide (65<=(Qf s)[i])&&decide ((Qf s)[i]<=90)with
  |true=>
   have hu':=hu
   simp only[Bool.and_eq_true,decide_eq_true_eq]at hu'
   have e:IntKind.wrap .u8 (IntKind.wrap .u8 ((Qf s)[i]+97)-65)=Uz (Qf s)[i]:=by
    unfold Uz
    rw[hu,cond_true,IntKind.wrap_u8,IntKind.wrap_u8];omega
   simp(disch:=omega) only[cond_true,Qb,e,Q0h s i hi,wrap_in]
   exact ih
  |false=>
   have e:Uz (Qf s)[i]=(Qf s)[i]:=by unfold Uz;rw[hu,cond_false]
   rw[Q1u s i hi e]at ih
   simp(disch:=omega) only[cond_false,wrap_in]
   exact ih
def YR (s:ByteArray):ByteArray:=XC ((Qf s).map Uz)
theorem Q2H (s:ByteArray):(YR s).size=s.size:=by unfold YR;rw[Q8a,List.length_map,Qy]
theorem Q4L (s:ByteArray)(hs:s.size<=1048576):Ev (λk=>Z8.F k s) (YR s):=by
 unfold Z8.F
 rw[Qy]
 simp(disch:=omega) only[Dj]
 have:=Q4K s hs s.size 0 (by omega)
 unfold mix at this
 rw[List.take_zero,List.map_nil,List.nil_append,List.drop_zero]at this
 exact Ev.bind this (Ev.pure _)
end Go.Proofs.YtcbclpphgbbmmaaGreatDoor
end
section
/- Comparing texts,names and dates. -/
namespace Go.Proofs.YtcbclpphgbbmmaaGreatDoor
open Go.Gx
def tc (a b:ByteArray):Int:=Lib.compareBytes (L a) (L b)
theorem Xu (a b:ByteArray):Z114.F a b=some (tc a b):=rfl
theorem Q4M:∀a b:List UInt8,Op.bytesLess a b=decide (Lib.compareBytes a b<0)
 |[],[]=>rfl
 |[],_::_=>rfl
 |_::_,[]=>rfl
 |a::ar,b::bs=>by
  have ih:=Q4M ar bs
  unfold Op.bytesLess Lib.compareBytes
  by_cases h1:a<b
  ·simp[h1]
  ·by_cases h2:b<a
   ·have:a≠b:=by rintro rfl;exact h1 h2
    simp[h1,h2,this]
   ·have:a=b:=UInt8.le_antisymm (UInt8.not_lt.1 h2) (UInt8.not_lt.1 h1)
    subst this
    simp[h1,ih]
theorem Q1v:∀a b:List UInt8,Lib.compareBytes a b=0 ↔ a=b
 |[],[]=>by simp[Lib.compareBytes]
 |[],_::_=>by simp[Lib.compareBytes]
 |_::_,[]=>by simp[Lib.compareBytes]
 |a::ar,b::bs=>by
  have ih:=Q1v ar bs
  unfold Lib.compareBytes
  by_cases h1:a<b
  ·simp only[h1,if_true]
   constructor
   ·intro h;cases h
   ·intro h;cases h;exact absurd h1 (UInt8.lt_irrefl _)
  ·by_cases h2:b<a
   ·simp only[h1,h2,if_true,if_false]
    constructor
    ·intro h;cases h
    ·intro h;cases h;exact absurd h2 (UInt8.lt_irrefl _)
   ·simp only[h1,h2,if_false,ih]
    have:a=b:=by
     have h3:=UInt8.not_lt.1 h1
     have h4:=UInt8.not_lt.1 h2
     exact UInt8.le_antisymm h4 h3
    subst this
    simp
theorem Q2I:∀a b:List UInt8,Lib.compareBytes a b= -1\/Lib.compareBytes a b=0\/Lib.compareBytes a b=1
 |[],[]=>by simp[Lib.compareBytes]
 |[],_::_=>by simp[Lib.compareBytes]
 |_::_,[]=>by simp[Lib.compareBytes]
 |a::ar,b::bs=>by
  have ih:=Q2I ar bs
  unfold Lib.compareBytes
  split
  ·exact .inl rfl
  ·split
   ·exact .inr (.inr rfl)
   ·exact ih
theorem Xv (a b:ByteArray):Z66.F a b=some (tc a b):=by
 unfold Z66.F tc
 have h1:ltS a b=decide (Lib.compareBytes (L a) (L b)<0):=by unfold ltS;rw[toList_eq,toList_eq];exact Q4M _ _
 have h2:Qu a b=decide (Lib.compareBytes (L a) (L b)=0):=by
  cases h:Qu a b with
  |true=>rw[Y7.1 h];exact(decide_eq_true ((Q1v _ _).2 rfl)).symm
  |false=>
   refine(decide_eq_false λe=>?_).symm
   rw[Y7.2 (Xz ((Q1v _ _).1 e))]at h
   cases h
 rw[h1,h2]
 rcases Q2I (L a) (L b)with h|h|h<;>rw[h]<;>rfl
def orI:List Int->Int
 |[]=>0
 |x::l=>if x=0 then orI l else x
theorem Qbh (xs:List Int)(hl:xs.length<=100):∀n i:Nat,i+n=xs.length->Ev (λk=>Z11.l0 k 0 xs xs.length i) (if orI (xs.drop i)=0 then .inr 0 else .inl (orI (xs.drop i)))
 |0,i,h=>by
  refine Ev.step (λk=>by rw[Z11.l0]) ?_
  simp(disch:=omega) only[Qk]
  rw[List.drop_eq_nil_of_le (by omega)]
  exact Ev.pure _
 |n+1,i,h=>by
  have hi:i<xs.length:=by omega
  refine Ev.step (λk=>by rw[Z11.l0]) ?_
  simp(disch:=omega) only[Qb,Int.toNat_natCast,getD_at hi]
  rw[List.drop_eq_getElem_cons hi]
  by_cases h0:xs[i]=0
  ·simp(disch:=omega) only[Yx,h0,orI,if_true,wrap_in]
   exact Qbh xs hl n (i+1) (by omega)
  ·simp(disch:=omega) only[XX,orI,if_neg h0]
   exact Ev.pure _
theorem Q6X (xs:List Int)(hl:xs.length<=100):Ev (λk=>Z11.F k xs) (orI xs):=by
 unfold Z11.F
 have h:=Qbh xs hl xs.length 0 (by omega)
 rw[List.drop_zero]at h
 by_cases h0:orI xs=0
 ·rw[if_pos h0]at h
  exact Ev.bind h ((Ev.pure _).eq h0.symm)
 ·rw[if_neg h0]at h
  exact Ev.bind h (Ev.pure _)
def ic (a b:Int):Int:=if a<b then -1 else if a > b then 1 else 0
theorem DZ (a b:Int):Z70.F a b=some (ic a b):=by
 unfold Z70.F Z116.F ic
 have e:∀x:Int,(x != x)=false:=λx=>by simp
 simp only[e,Option.bind_some,cond_false]
 by_cases h1:a<b
 ·rw[Qb h1,if_pos h1]
 ·rw[Qk h1,if_neg h1]
  by_cases h2:a > b
  ·rw[Qb h2,if_pos h2]
  ·rw[Qk h2,if_neg h2]
theorem Q1w (s:ByteArray)(hs:s.size<=2097152):∀n i:Nat,i+n=s.size->Ev (λk=>Z13.l0 k (mix s i) i) ((Qf s).map Uz)
 |0,i,h=>by
  refine Ev.step (λk=>by rw[Z13.l0]) ?_
  have hm:=KQ s i
  have hl:=Qy s
  simp(disch:=omega) only[Qk]
  unfold mix
  rw[List.take_of_length_le (by rw[Qy];omega),List.drop_eq_nil_of_le (by rw[Qy];omega),List.append_nil]
  exact Ev.pure _
 |n+1,i,h=>by
  have hl:=Qy s
  have hi:i<(Qf s).length:=by omega
  have hm:=KQ s i
  have ih:=Q1w s hs n (i+1) (by omega)
  have hb:=Ko s i hi
  refine Ev.step (λk=>by rw[Z13.l0]) ?_
  simp(disch:=omega) only[Qb,Int.toNat_natCast,Q3A s i hi]
  refine Ev.bind0 (Q1l _) ?_
  cases hu:upc (Qf s)[i]with
  |true=>
   have hu':=hu
   simp only[upc,Bool.and_eq_true,decide_eq_true_eq]at hu'
   have e:IntKind.wrap .u8 ((Qf s)[i]+32)=Uz (Qf s)[i]:=by
    unfold Uz
    unfold upc at hu
    rw[hu,cond_true,IntKind.wrap_u8];omega
   simp(disch:=omega) only[cond_true,Qb,e,Q0h s i hi,wrap_in]
   exact ih
  |false=>
   have e:Uz (Qf s)[i]=(Qf s)[i]:=by unfold Uz;unfold upc at hu;rw[hu,cond_false]
   rw[Q1u s i hi e]at ih
   simp(disch:=omega) only[cond_false,wrap_in]
   exact ih
theorem YH (s:ByteArray)(hs:s.size<=2097152):Ev (λk=>Z13.F k s) (YR s):=by
 unfold Z13.F
 simp(disch:=omega) only[Dj]
 have:=Q1w s hs s.size 0 (by omega)
 unfold mix at this
 rw[List.take_zero,List.map_nil,List.nil_append,List.drop_zero]at this
 exact Ev.bind this (Ev.pure _)
theorem Qbi {n:Nat}(h:n<=4194304):room n (.int .u8)=true:=by
 unfold room
 rw[Nat.ble_eq]
 have:nb (.int .u8)=1:=rfl
 rw[this]
 omega
theorem Q1x (b:Int):Z108.F b=some (dig b):=by
 unfold Z108.F dig
 by_cases h:b ≥ 48
 ·rw[Qb h,decide_eq_true (show 48<=b from h)];rfl
 ·rw[Qk h,decide_eq_false (show¬48<=b from h)];rfl
theorem Q6Y (s:ByteArray)(hs:s.size<=1048576):∀n i:Nat,i+n=s.size->∀(out:List Int) (g:Bool),out.length<=2*i->
  ∃r,Ev (λk=>Z9.l0 k out g s i) r/\Ev (λk=>Z10.l0 k out g (Qf s) (Qf s).length i) r/\r.length<=2*s.size
 |0,i,h,out,g,ho=>by
  have hl:=Qy s
  refine⟨out,Ev.step (λk=>by rw[Z9.l0]) ?_,Ev.step (λk=>by rw[Z10.l0]) ?_,by omega⟩
  ·simp(disch:=omega) only[Qk];exact Ev.pure _
  ·simp(disch:=omega) only[Qk];exact Ev.pure _
 |n+1,i,h,out,g,ho=>by
  have hl:=Qy s
  have hi:i<(Qf s).length:=by omega
  have hbt:=XZ s i hi
  have go:∀(out':List Int) (g':Bool),out'.length<=2* (i+1)->∃r,Ev (λk=>Z9.l0 k out' g' s (i+1:Nat)) r/\Ev (λk=>Z10.l0 k out' g' (Qf s) (Qf s).length (i+1:Nat)) r/\r.length<=2*s.size:=λout' g' ho'=>Q6Y s hs n (i+1) (by omega) out' g' ho'
  have r1:∀x:Int,room (out.length+([x]:List Int).length) (.int .u8)=true:=λx=>Qbi (by simp only[List.length_singleton];omega)
  have r2:∀x y:Int,room ((out++[x]).length+([y]:List Int).length) (.int .u8)=true:=λx y=>Qbi (by simp only[List.length_append,List.length_singleton];omega)
  have one:∀x:Int,(out++[x]).length<=2* (i+1):=λx=>by simp;omega
  have two:∀x y:Int,((out++[x])++[y]).length<=2* (i+1):=λx y=>by simp;omega
  have key:∃out' g',out'.length<=2* (i+1)/\(∀r,Ev (λk=>Z9.l0 k out' g' s (i+1:Nat)) r->Ev (λk=>Z9.l0 k out g s i) r)/\(∀r,Ev (λk=>Z10.l0 k out' g' (Qf s) (Qf s).length (i+1:Nat)) r->Ev (λk=>Z10.l0 k out g (Qf s) (Qf s).length i) r):=by
   cases hlo:Xs (bt s i)||dig (bt s i)with
   |false=>
    simp only[Bool.or_eq_false_iff]at hlo
    refine⟨out,(bif g then true else bt s i==32),by omega,λr hr=>Ev.step (λk=>by rw[Z9.l0]) ?_,λr hr=>Ev.step (λk=>by rw[Z10.l0]) ?_⟩
    ·simp(disch:=omega) only[Qb,Int.toNat_natCast]
     refine Ev.bind0 (Kq _) ?_
     rw[hlo.1]
     refine Ev.bind0 (Q1x _) ?_
     rw[hlo.2]
     simp(disch:=omega) only[Bool.not_false,cond_true,wrap_in]
     cases g<;>exact hr
    ·simp(disch:=omega) only[Qb,Int.toNat_natCast,getD_at hi,<-hbt]
     refine Ev.bind0 (Kr _) ?_
     rw[hlo.1]
     refine Ev.bind0 (Q3t _) ?_
     rw[hlo.2]
     simp(disch:=omega) only[Bool.not_false,cond_true,wrap_in]
     cases g<;>exact hr
   |true=>
    refine⟨(bif g&&decide ((out.length:Int) > 0)then(out++[32])++[bt s i]else out++[bt s i]),false,?_,λr hr=>Ev.step (λk=>by rw[Z9.l0]) ?_,λr hr=>Ev.step (λk=>by rw[Z10.l0]) ?_⟩
    ·cases g&&decide ((out.length:Int) > 0)
     ·exact one _
     ·exact two _ _
    ·simp(disch:=omega) only[Qb,Int.toNat_natCast]
     refine Ev.bind0 (Kq _) ?_
     have fin:Ev (λk=>bif g then(bif decide ((out.length:Int) > 0)then Z9.l0 k ((out++[32])++[bt s i]) false s (i+1:Nat)else Z9.l0 k (out++[bt s i]) false s (i+1:Nat))else Z9.l0 k (out++[bt s i]) false s (i+1:Nat)) r:=by
      revert hr
      cases g<;>cases decide ((out.length:Int) > 0)<;>exact λhr=>hr
     cases hl1:Xs (bt s i)with
     |true=>
      simp(disch:=omega) only[Bool.not_true,cond_false,r1,r2,cond_true,wrap_in]
      exact fin
     |false=>
      rw[hl1,Bool.false_or]at hlo
      refine Ev.bind0 (Q1x _) ?_
      rw[hlo]
      simp(disch:=omega) only[Bool.not_true,Bool.not_false,cond_false,r1,r2,cond_true,wrap_in]
      exact fin
    ·simp(disch:=omega) only[Qb,Int.toNat_natCast,getD_at hi,<-hbt]
     refine Ev.bind0 (Kr _) ?_
     have fin:Ev (λk=>bif g then(bif decide ((out.length:Int) > 0)then Z10.l0 k ((out++[32])++[bt s i]) false (Qf s) (Qf s).length (i+1:Nat)else Z10.l0 k (out++[bt s i]) false (Qf s) (Qf s).length (i+1:Nat))else Z10.l0 k (out++[bt s i]) false (Qf s) (Qf s).length (i+1:Nat)) r:=by
      revert hr
      cases g<;>cases decide ((out.length:Int) > 0)<;>exact λhr=>hr
     cases hl1:Xs (bt s i)with
     |true=>
      simp(disch:=omega) only[Bool.not_true,cond_false,r1,r2,cond_true,wrap_in]
      exact fin
     |false=>
      rw[hl1,Bool.false_or]at hlo
      refine Ev.bind0 (Q3t _) ?_
      rw[hlo]
      simp(disch:=omega) only[Bool.not_true,Bool.not_false,cond_false,r1,r2,cond_true,wrap_in]
      exact fin
  obtain⟨out',g',k1,k2,k3⟩:=key
  obtain⟨r,h1,h2,h3⟩:=go out' g' k1
  exact⟨r,k2 r h1,k3 r h2,h3⟩
theorem Q6Z (s:ByteArray)(hs:s.size<=1048576):∃r,Ev (λk=>Z9.F k s) r/\Ev (λk=>Z10.F k s) r:=by
 have hz:=Q2H s
 obtain⟨r,h1,h2,h3⟩:=Q6Y (YR s) (by omega) (YR s).size 0 (by omega) [] false (by simp)
 refine⟨XC r,?_,?_⟩
 ·unfold Z9.F
  exact Ev.bind (YH s (by omega)) (Ev.bind h1 (Ev.pure _))
 ·unfold Z10.F
  refine Ev.bind (Q4L s hs) ?_
  simp(disch:=omega) only[Dj]
  exact Ev.bind h2 (Ev.pure _)
theorem Q64 (a b:ByteArray)(ha:a.size<=1048576)(hb:b.size<=1048576):∃r,Ev (λk=>Z109.F k a b) r/\Ev (λk=>Z118.F k a b) r:=by
 obtain⟨x,x1,x2⟩:=Q6Z a ha
 obtain⟨y,y1,y2⟩:=Q6Z b hb
 refine⟨orI [tc x y,tc a b],?_,?_⟩
 ·unfold Z109.F
  refine Ev.bind x1 (Ev.bind y1 (Ev.bind0 (Xv x y) ?_))
  by_cases h:tc x y=0
  ·simp only[Yx h,Xv,Option.bind_some]
   exact(Ev.pure _).eq (by simp only[orI,if_pos h];split<;>simp_all)
  ·simp only[XX h]
   exact(Ev.pure _).eq (by simp only[orI,if_neg h])
 ·unfold Z118.F
  refine Ev.bind x2 (Ev.bind y2 (Ev.bind0 (Xu x y) (Ev.bind0 (Xu a b) (Ev.bind (Q6X _ (by simp)) (Ev.pure _)))))
end Go.Proofs.YtcbclpphgbbmmaaGreatDoor
end
section
/- Comparing entries: articles,names,dates. -/
namespace Go.Proofs.YtcbclpphgbbmmaaGreatDoor
open Go.Gx
theorem Qa3 (s:ByteArray){n m:Nat}(h:n<=m):(YR (s.extract 0 m)).extract 0 n=YR (s.extract 0 n):=by
 apply Xz
 unfold YR
 rw[Jg,Q3z,Q3z,Uc,Uc,Jg,Jg,List.drop_zero,List.drop_zero,List.drop_zero,<-List.map_take,<-List.map_take,<-List.map_take,List.take_take,Nat.min_eq_left h]
theorem Q70 (s:ByteArray)(hs:s.size<=1048576)(W:List ByteArray)(hl:W.length<=100)(hW:∀w∈W,w.size<=4):∀n i:Nat,i+n=W.length->∃r,Ev (λk=>Z18.l0 k s W i) r/\Ev (λk=>Z25.l0 k s W W.length i) r/\(∀z,r= .inl z->z.size<=s.size)/\(∀z,r= .inr z->z=s)
 |0,i,h=>by
  refine⟨.inr s,Ev.step (λk=>by rw[Z18.l0]) ?_,Ev.step (λk=>by rw[Z25.l0]) ?_,λz e=>(by cases e),λz e=>(by cases e;rfl)⟩
  ·simp(disch:=omega) only[Qk];exact Ev.pure _
  ·simp(disch:=omega) only[Qk];exact Ev.pure _
 |n+1,i,h=>by
  have hi:i<W.length:=by omega
  obtain⟨r,h1,h2,h3,h4⟩:=Q70 s hs W hl hW n (i+1) (by omega)
  have hw:=hW _ (List.getElem_mem hi)
  have hm:∃m:Nat,(if(4:Int)<(s.size:Int)then(4:Int)else(s.size:Int))=(m:Int)/\m<=s.size/\m<=4/\(m=4\/m=s.size):=by
   by_cases h5:(4:Int)<(s.size:Int)
   ·exact⟨4,by rw[if_pos h5];rfl,by omega,by omega,.inl rfl⟩
   ·exact⟨s.size,by rw[if_neg h5],by omega,by omega,.inr rfl⟩
  obtain⟨m,m1,m2,m3,m4⟩:=hm
  have hsz:(s.extract 0 m).size=m:=by rw[ext_size (Nat.zero_le _) m2];omega
  have hlow:=Q4L (s.extract 0 m) (by omega)
  have hlz:=Q2H (s.extract 0 m)
  by_cases hn:W[i].size<=s.size
  ·have hnm:W[i].size<=m:=by omega
   have hsz2:(s.extract 0 W[i].size).size=W[i].size:=by rw[ext_size (Nat.zero_le _) hn];omega
   have hlow2:=YH (s.extract 0 W[i].size) (by omega)
   have hpre:Z86.F (YR (s.extract 0 m)) W[i]=some (Qu (YR (s.extract 0 W[i].size)) W[i]):=by
    unfold Z86.F Z119.F
    simp(disch:=omega) only[Qb,Int.toNat_natCast,Qa3 s hnm,Option.bind_some]
   cases hb:Qu (YR (s.extract 0 W[i].size)) W[i]with
   |true=>
    refine⟨.inl (s.extract W[i].size s.size),Ev.step (λk=>by rw[Z18.l0]) ?_,Ev.step (λk=>by rw[Z25.l0]) ?_,λz e=>?_,λz e=>(by cases e)⟩
    ·simp(disch:=omega) only[Qb,Int.toNat_natCast,getD_at hi]
     refine Ev.bind hlow2 ?_
     simp(disch:=omega) only[hb,cond_true,Qb,getD_at hi]
     exact Ev.pure _
    ·simp(disch:=omega) only[Qb,Int.toNat_natCast,getD_at hi,m1]
     refine Ev.bind hlow ?_
     rw[hpre,hb]
     simp(disch:=omega) only[Option.bind_some,cond_true,Qb]
     exact Ev.pure _
    ·cases e
     rw[ext_size hn (Nat.le_refl _)]
     omega
   |false=>
    refine⟨r,Ev.step (λk=>by rw[Z18.l0]) ?_,Ev.step (λk=>by rw[Z25.l0]) ?_,h3,h4⟩
    ·simp(disch:=omega) only[Qb,Int.toNat_natCast,getD_at hi]
     refine Ev.bind hlow2 ?_
     simp(disch:=omega) only[hb,cond_false,Qb,getD_at hi,wrap_in]
     exact h1
    ·simp(disch:=omega) only[Qb,Int.toNat_natCast,getD_at hi,m1]
     refine Ev.bind hlow ?_
     rw[hpre,hb]
     simp(disch:=omega) only[Option.bind_some,cond_false,wrap_in]
     exact h2
  ·have hpre:Z86.F (YR (s.extract 0 m)) W[i]=some false:=by
    unfold Z86.F Z119.F
    simp(disch:=omega) only[Qk,Option.bind_some]
   refine⟨r,Ev.step (λk=>by rw[Z18.l0]) ?_,Ev.step (λk=>by rw[Z25.l0]) ?_,h3,h4⟩
   ·simp(disch:=omega) only[Qb,Qk,Int.toNat_natCast,getD_at hi,wrap_in]
    exact h1
   ·simp(disch:=omega) only[Qb,Int.toNat_natCast,getD_at hi,m1]
    refine Ev.bind hlow ?_
    rw[hpre]
    simp(disch:=omega) only[Option.bind_some,cond_false,wrap_in]
    exact h2
theorem Q71 (s:ByteArray)(hs:s.size<=1048576):∃r,Ev (λk=>Z18.F k s) r/\Ev (λk=>Z25.F k s) r/\r.size<=s.size:=by
 obtain⟨r,h1,h2,h3,h4⟩:=Q70 s hs [⟨#[97,32]⟩,⟨#[97,110,32]⟩,⟨#[116,104,101,32]⟩] (by simp) (by decide) 3 0 rfl
 unfold Z18.F Z25.F
 cases r with
 |inl z=>exact⟨z,Ev.bind h1 (Ev.pure _),Ev.bind h2 (Ev.pure _),h3 z rfl⟩
 |inr z=>exact⟨z,Ev.bind h1 (Ev.pure _),Ev.bind h2 (Ev.pure _),by rw[h4 z rfl];exact Nat.le_refl _⟩
theorem Qa4 {s:ByteArray}{st i j:Nat}(hi:i<=s.size)(h:Q1M (s.extract st i)=true)(h1:st<=j)(h2:j<i):Xs (bt s j)=true:=by
 unfold Q1M at h
 have hsz:(s.extract st i).size=i-st:=ext_size (by omega) hi
 have:=List.all_eq_true.1 h (j-st) (List.mem_range'_1.2 ⟨by omega,by omega⟩)
 rwa [show bt (s.extract st i) (j-st)=bt s j by
  rw[Q9F,Q9F,Jg]
  congr 1
  congr 1
  rw[List.getD_eq_getElem?_getD,List.getD_eq_getElem?_getD,List.getElem?_drop,List.getElem?_take,if_pos (by omega),show st+(j-st)=j by omega]]at this
theorem Q65 (s:ByteArray):∀n i:Nat,i+n=s.size->∀st:Nat,st<=i->(∀j,st<=j->j<i->(L s)[j]? ≠some 32)->(Y2 s st).all Q1M=true->∀j,st<=j->j<s.size->bt s j=32\/Xs (bt s j)=true
 |0,i,h,st,h1,h2,h3,j,h4,h5=>by
  rw[Q2v s st (λj a=>by
   by_cases hj:j<i
   ·exact h2 j a hj
   ·rw[List.getElem?_eq_none (by rw[Yu];omega)];simp)]at h3
  simp only[List.all_cons,List.all_nil,Bool.and_true]at h3
  exact .inr (Qa4 (Nat.le_refl _) h3 h4 h5)
 |n+1,i,h,st,h1,h2,h3,j,h4,h5=>by
  by_cases hb:(L s)[i]? =some 32
  ·rw[Q2w s st i h1 (by omega) hb h2]at h3
   simp only[List.all_cons,Bool.and_eq_true]at h3
   by_cases hj:j<i
   ·exact .inr (Qa4 (by omega) h3.1 h4 hj)
   ·by_cases hj2:j=i
    ·subst hj2;exact .inl ((Q9L (by omega)).2 hb)
    ·exact Q65 s n (i+1) (by omega) (i+1) (Nat.le_refl _) (λk a b=>by omega) h3.2 j (by omega) h5
  ·exact Q65 s n (i+1) (by omega) st (by omega) (λk a b=>by
    by_cases e:k=i
    ·subst e;exact hb
    ·exact h2 k a (by omega)) h3 j h4 h5
theorem Qa5 (s:ByteArray)(h:∀j,j<s.size->bt s j=32\/Xs (bt s j)=true):YR s=s:=by
 have hl:=Qy s
 have e:(Qf s).map Uz=Qf s:=by
  apply List.ext_getElem (by simp)
  intro j h1 h2
  rw[List.getElem_map]
  have:=h j (by omega)
  rw[XZ s j h2]at this
  unfold Uz
  have hn:(decide (65<=(Qf s)[j])&&decide ((Qf s)[j]<=90))=false:=by
   rcases this with h3|h3
   ·rw[h3];rfl
   ·simp only[Xs,Bool.and_eq_true,decide_eq_true_eq]at h3
    rw[Bool.and_eq_false_iff]
    exact .inr (decide_eq_false (by omega))
  rw[hn];rfl
 unfold YR
 rw[e,Q63]
theorem Q4N {p:ByteArray}(h:Yn p=true):YR p=p:=by
 refine Qa5 p λj hj=>?_
 unfold Yn at h
 simp only[Bool.or_eq_true,decide_eq_true_eq,Bool.and_eq_true]at h
 rcases h with h|⟨h,_⟩
 ·omega
 ·refine Q65 p p.size 0 (by omega) 0 (Nat.le_refl _) (λk a b=>by omega) ?_ j (Nat.zero_le _) hj
  rw[Q1e]
  refine List.all_eq_true.2 λx hx=>?_
  have:=List.all_eq_true.1 h x hx
  unfold pw at this
  simp only[Bool.and_eq_true]at this
  exact this.2
end Go.Proofs.YtcbclpphgbbmmaaGreatDoor
end
section
/- Comparing entries. -/
namespace Go.Proofs.YtcbclpphgbbmmaaGreatDoor
open Go.Gx
theorem Q2J (s:ByteArray)(hs:s.size<=2097152):∀n i:Nat,i+n=s.size->Ev (λk=>Z8.l0 k (mix s i) s.size i) ((Qf s).map Uz)
 |0,i,h=>by
  refine Ev.step (λk=>by rw[Z8.l0]) ?_
  simp(disch:=omega) only[Qk]
  unfold mix
  rw[List.take_of_length_le (by rw[Qy];omega),List.drop_eq_nil_of_le (by rw[Qy];omega),List.append_nil]
  exact Ev.pure _
 |n+1,i,h=>by
  have hl:=Qy s
  have hi:i<(Qf s).length:=by omega
  have hm:=KQ s i
  have ih:=Q2J s hs n (i+1) (by omega)
  have hb:=Ko s i hi
  refine Ev.step (λk=>by rw[Z8.l0]) ?_
  simp(disch:=omega) only[Qb,Int.toNat_natCast,Q3A s i hi]
  refine Ev.bind0 (Q1t _) ?_
  cases hu:decide (65<=(Qf s)[i])&&decide ((Qf s)[i]<=90)with
  |true=>
   have hu':=hu
   simp only[Bool.and_eq_true,decide_eq_true_eq]at hu'
   have e:IntKind.wrap .u8 (IntKind.wrap .u8 ((Qf s)[i]+97)-65)=Uz (Qf s)[i]:=by
    unfold Uz
    rw[hu,cond_true,IntKind.wrap_u8,IntKind.wrap_u8];omega
   simp(disch:=omega) only[cond_true,Qb,e,Q0h s i hi,wrap_in]
   exact ih
  |false=>
   have e:Uz (Qf s)[i]=(Qf s)[i]:=by unfold Uz;rw[hu,cond_false]
   rw[Q1u s i hi e]at ih
   simp(disch:=omega) only[cond_false,wrap_in]
   exact ih
theorem U1 (s:ByteArray)(hs:s.size<=2097152):Ev (λk=>Z8.F k s) (YR s):=by
 unfold Z8.F
 rw[Qy]
 simp(disch:=omega) only[Dj]
 have:=Q2J s hs s.size 0 (by omega)
 unfold mix at this
 rw[List.take_zero,List.map_nil,List.nil_append,List.drop_zero]at this
 exact Ev.bind this (Ev.pure _)
def GW (n:Name):ByteArray:=Y9 [32] ([Y9 [32] n.given,n.particle,n.family,n.suffix].filter Jp)
theorem U2 (n:Name)(hs:QO n):Y3 [Y9 [32] n.given,n.particle,n.family,n.suffix]<=1048580/\(GW n).size<=1048590:=by
 have h3:=Jk hs
 have h2:=Q3y n
 have e:Y3 [Y9 [32] n.given,n.particle,n.family,n.suffix]=(Y9 [32] n.given).size+(n.particle.size+(n.family.size+n.suffix.size)):=by simp[Y3]
 have h1:=Xt [32] ([Y9 [32] n.given,n.particle,n.family,n.suffix].filter Jp)
 have h4:=Uk Jp [Y9 [32] n.given,n.particle,n.family,n.suffix]
 have h5:([Y9 [32] n.given,n.particle,n.family,n.suffix].filter Jp).length<=4:=List.length_filter_le _ _
 simp only[List.length_singleton,Nat.one_mul]at h1
 unfold GW
 omega
theorem GX (n:Name)(hs:QO n)(hv:nameB n=true):Ev (λk=>Z89.F k n) (GW n):=by
 have h3:=Jk hs
 have hg:=KP n.given (by omega) (by omega)
 rw[Q2F hv]at hg
 unfold Z89.F Z73.F
 exact Ev.bind (Ev.bind hg (Ev.pure _)) (Ev.bind (KP _ (by simp) (by have:=(U2 n hs).1;omega)) (Ev.pure _))
theorem GY (n:Name)(hs:QO n):Ev (λk=>Z97.F k n) (GW n):=by
 have h3:=Jk hs
 have hg:Z134.F n.given ⟨#[32]⟩=some (Y9 [32] n.given):=Q1q ⟨#[32]⟩ n.given (by omega) (by omega) (by decide)
 unfold Z97.F
 exact Ev.bind0 hg (Ev.bind (Q2E _ (by simp) (by have:=(U2 n hs).1;omega)) (Ev.pure _))
def nmC (a b:Name):Int:=orI [tc (YR a.family) (YR b.family),tc a.particle b.particle,tc (YR (GW a)) (YR (GW b)),tc (Q89 a) (Q89 b)]
theorem Q2K {n:Name}(hv:nameB n=true):Yn n.particle=true:=by
 unfold nameB at hv
 simp only[Bool.and_eq_true]at hv
 exact hv.2.2.1
theorem Q8b (a b:Name)(ha:QO a)(hb:QO b)(va:nameB a=true)(vb:nameB b=true):Ev (λk=>Z106.F k a b) (nmC a b):=by
 have sa:=Jk ha
 have sb:=Jk hb
 have fa:=(U2 a ha).2
 have fb:=(U2 b hb).2
 unfold Z106.F nmC
 refine Ev.bind (YH _ (by omega)) (Ev.bind (YH _ (by omega)) (Ev.bind0 (Xv _ _) ?_))
 by_cases h1:tc (YR a.family) (YR b.family)=0
 ·simp only[Yx h1,orI,if_pos h1]
  refine Ev.bind0 (Xv _ _) ?_
  by_cases h2:tc a.particle b.particle=0
  ·simp only[Yx h2,if_pos h2]
   refine Ev.bind (GX a ha va) (Ev.bind (YH _ (by omega)) (Ev.bind (GX b hb vb) (Ev.bind (YH _ (by omega)) (Ev.bind0 (Xv _ _) ?_))))
   by_cases h3:tc (YR (GW a)) (YR (GW b))=0
   ·simp only[Yx h3,if_pos h3]
    refine Ev.bind (Q1r a ha va) (Ev.bind (Q1r b hb vb) (Ev.bind0 (Xv _ _) ((Ev.pure _).eq ?_)))
    split
    ·assumption
    ·rfl
   ·simp only[XX h3,if_neg h3]
    exact Ev.pure _
  ·simp only[XX h2,if_neg h2]
   exact Ev.pure _
 ·simp only[XX h1,orI,if_neg h1]
  exact Ev.pure _
theorem Q8c (a b:Name)(ha:QO a)(hb:QO b)(va:nameB a=true)(vb:nameB b=true):Ev (λk=>Z115.F k a b) (nmC a b):=by
 have sa:=Jk ha
 have sb:=Jk hb
 have fa:=(U2 a ha).2
 have fb:=(U2 b hb).2
 have pa:=U1 a.particle (by omega)
 have pb:=U1 b.particle (by omega)
 rw[Q4N (Q2K va)]at pa
 rw[Q4N (Q2K vb)]at pb
 unfold Z115.F nmC
 refine Ev.bind (U1 _ (by omega)) (Ev.bind (U1 _ (by omega)) (Ev.bind0 (Xu _ _) (Ev.bind pa (Ev.bind pb (Ev.bind0 (Xu _ _) ?_)))))
 refine Ev.bind (GY a ha) (Ev.bind (U1 _ (by omega)) (Ev.bind (GY b hb) (Ev.bind (U1 _ (by omega)) (Ev.bind0 (Xu _ _) ?_))))
 exact Ev.bind (Q1s a ha) (Ev.bind (Q1s b hb) (Ev.bind0 (Xu _ _) (Ev.bind (Q6X _ (by simp)) (Ev.pure _))))
def Q1y (l:List Name):Prop:=l.length<=4/\∀n∈l,QO n/\nameB n=true
def Gu:List Name->List Name->Int
 |[],[]=>0
 |[],_::_=> -1
 |_::_,[]=>1
 |a::ar,b::bs=>if nmC a b=0 then Gu ar bs else nmC a b
theorem Qa6 (xs ys:List Name)(hx:Q1y xs)(hy:Q1y ys):∀n i:Nat,i+n=xs.length->i<=ys.length->∃r r',Ev (λk=>Z27.l0 k xs ys i) r/\Ev (λk=>Z30.l0 k xs ys xs xs.length i) r'/\
  (∀z,r= .inl z->z=Gu (xs.drop i) (ys.drop i))/\(∀z,r= .inr z->z=(xs,ys)/\(if xs.length<ys.length then -1 else if xs.length > ys.length then 1 else 0)=Gu (xs.drop i) (ys.drop i))/\(∀z,r'= .inl z->z=Gu (xs.drop i) (ys.drop i))/\(∀z,r'= .inr z->z=(xs,ys)/\(if xs.length<ys.length then -1 else 0)=Gu (xs.drop i) (ys.drop i))
 |0,i,h,hi2=>by
  have hlx:=hx.1
  have hly:=hy.1
  have hd:xs.drop i=[]:=List.drop_eq_nil_of_le (by omega)
  have hc:Gu (xs.drop i) (ys.drop i)=if xs.length<ys.length then -1 else 0:=by
   rw[hd]
   by_cases hlt:xs.length<ys.length
   ·rw[if_pos hlt,List.drop_eq_getElem_cons (show i<ys.length by omega)];rfl
   ·rw[if_neg hlt,List.drop_eq_nil_of_le (by omega)];rfl
  refine⟨.inr (xs,ys),.inr (xs,ys),Ev.step (λk=>by rw[Z27.l0]) ?_,Ev.step (λk=>by rw[Z30.l0]) ?_,λz e=>(by cases e),λz e=>?_,λz e=>(by cases e),λz e=>?_⟩
  ·simp(disch:=omega) only[Qk];exact Ev.pure _
  ·simp(disch:=omega) only[Qk];exact Ev.pure _
  ·cases e
   refine⟨rfl,?_⟩
   rw[hc]
   by_cases hlt:xs.length<ys.length
   ·rw[if_pos hlt,if_pos hlt]
   ·rw[if_neg hlt,if_neg hlt,if_neg (by omega)]
  ·cases e;exact⟨rfl,hc.symm⟩
 |n+1,i,h,hi2=>by
  have hlx:=hx.1
  have hly:=hy.1
  have hi:i<xs.length:=by omega
  have hdx:xs.drop i=xs[i]::xs.drop (i+1):=List.drop_eq_getElem_cons hi
  by_cases hj:i<ys.length
  ·have hdy:ys.drop i=ys[i]::ys.drop (i+1):=List.drop_eq_getElem_cons hj
   have hc:Gu (xs.drop i) (ys.drop i)=if nmC xs[i] ys[i]=0 then Gu (xs.drop (i+1)) (ys.drop (i+1))else nmC xs[i] ys[i]:=by rw[hdx,hdy];rfl
   obtain⟨s1,v1⟩:=hx.2 _ (List.getElem_mem hi)
   obtain⟨s2,v2⟩:=hy.2 _ (List.getElem_mem hj)
   have e1:=Q8b _ _ s1 s2 v1 v2
   have e2:=Q8c _ _ s1 s2 v1 v2
   by_cases h0:nmC xs[i] ys[i]=0
   ·obtain⟨r,r',k1,k2,k3,k4,k5,k6⟩:=Qa6 xs ys hx hy n (i+1) (by omega) (by omega)
    rw[hc,if_pos h0]
    refine⟨r,r',Ev.step (λk=>by rw[Z27.l0]) ?_,Ev.step (λk=>by rw[Z30.l0]) ?_,k3,k4,k5,k6⟩
    ·simp(disch:=omega) only[Qb,Int.toNat_natCast,getD_at hi,getD_at hj]
     refine Ev.bind e1 ?_
     simp(disch:=omega) only[Yx,wrap_in]
     exact k1
    ·simp(disch:=omega) only[Qb,Qk,Int.toNat_natCast,getD_at hi,getD_at hj]
     refine Ev.bind e2 ?_
     simp(disch:=omega) only[Yx,wrap_in]
     exact k2
   ·rw[hc,if_neg h0]
    refine⟨.inl (nmC xs[i] ys[i]),.inl (nmC xs[i] ys[i]),Ev.step (λk=>by rw[Z27.l0]) ?_,Ev.step (λk=>by rw[Z30.l0]) ?_,λz e=>(by cases e;rfl),λz e=>(by cases e),λz e=>(by cases e;rfl),λz e=>(by cases e)⟩
    ·simp(disch:=omega) only[Qb,Int.toNat_natCast,getD_at hi,getD_at hj]
     refine Ev.bind e1 ?_
     simp(disch:=omega) only[XX]
     exact Ev.pure _
    ·simp(disch:=omega) only[Qb,Qk,Int.toNat_natCast,getD_at hi,getD_at hj]
     refine Ev.bind e2 ?_
     simp(disch:=omega) only[XX]
     exact Ev.pure _
  ·have hc:Gu (xs.drop i) (ys.drop i)=1:=by rw[hdx,List.drop_eq_nil_of_le (show ys.length<=i by omega)];rfl
   refine⟨.inr (xs,ys),.inl 1,Ev.step (λk=>by rw[Z27.l0]) ?_,Ev.step (λk=>by rw[Z30.l0]) ?_,λz e=>(by cases e),λz e=>?_,λz e=>(by cases e;exact hc.symm),λz e=>(by cases e)⟩
   ·simp(disch:=omega) only[Qb,Qk];exact Ev.pure _
   ·simp(disch:=omega) only[Qb];exact Ev.pure _
   ·cases e
    refine⟨rfl,?_⟩
    rw[hc,if_neg (by omega),if_pos (by omega)]
theorem QbV (xs ys:List Name)(hx:Q1y xs)(hy:Q1y ys):Ev (λk=>Z27.F k xs ys) (Gu xs ys)/\Ev (λk=>Z30.F k xs ys) (Gu xs ys):=by
 obtain⟨r,r',k1,k2,k3,k4,k5,k6⟩:=Qa6 xs ys hx hy xs.length 0 (by omega) (Nat.zero_le _)
 rw[List.drop_zero,List.drop_zero]at k3 k4 k5 k6
 have hlx:=hx.1
 have hly:=hy.1
 unfold Z27.F Z30.F
 constructor
 ·cases r with
  |inl z=>exact Ev.bind k1 ((Ev.pure _).eq (k3 z rfl))
  |inr z=>
   obtain⟨rfl,h2⟩:=k4 z rfl
   refine Ev.bind k1 ?_
   rw[<-h2]
   show Ev (λ_=>bif decide ((xs.length:Int)<(ys.length:Int))then some (-1)else(bif decide ((xs.length:Int) > (ys.length:Int))then some 1 else some 0)) _
   by_cases h5:xs.length<ys.length
   ·simp(disch:=omega) only[Qb,if_pos h5];exact Ev.pure _
   ·by_cases h6:xs.length > ys.length
    ·simp(disch:=omega) only[Qb,Qk,if_neg h5,if_pos h6];exact Ev.pure _
    ·simp(disch:=omega) only[Qk,if_neg h5,if_neg h6];exact Ev.pure _
 ·cases r' with
  |inl z=>exact Ev.bind k2 ((Ev.pure _).eq (k5 z rfl))
  |inr z=>
   obtain⟨rfl,h2⟩:=k6 z rfl
   refine Ev.bind k2 ?_
   rw[<-h2]
   show Ev (λ_=>bif decide ((xs.length:Int)<(ys.length:Int))then some (-1)else some 0) _
   by_cases h5:xs.length<ys.length
   ·simp(disch:=omega) only[Qb,if_pos h5];exact Ev.pure _
   ·simp(disch:=omega) only[Qk,if_neg h5];exact Ev.pure _
end Go.Proofs.YtcbclpphgbbmmaaGreatDoor
end
section
/- Comparing dates and entries. -/
namespace Go.Proofs.YtcbclpphgbbmmaaGreatDoor
open Go.Gx
def Q2L (f:Option Int):Prop:=∀r,f=some r->r<=31
theorem Q66 {b:Bool}{x y:Option Int}(hx:Q2L x)(hy:Q2L y):Q2L (cond b x y):=by cases b<;>assumption
theorem Q67:Q2L none:=λr h=>by cases h
theorem Q68 {n:Int}(h:n<=31):Q2L (some n):=λr e=>by cases e;exact h
theorem QbW {y m r:Int}(h:Z76.F y m=some r):r<=31:=by
 refine(?_:Q2L (Z76.F y m)) r h
 unfold Z76.F
 repeat first|exact Q67|exact Q68 (by decide)|apply Q66
theorem Q1z {d:Date}(h:D2 d=true):0<=d.y/\d.y<=2999/\0<=d.m/\d.m<=12/\0<=d.d/\d.d<=31:=by
 have h1:=Q2C d
 rw[h]at h1
 unfold Z85.F at h1
 cases hz:(d.y==0&&(d.m==0&&(d.d==0&&d.c==false)))with
 |true=>
  simp only[Bool.and_eq_true,beq_iff_eq]at hz
  omega
 |false=>
  rw[hz]at h1
  simp only[cond_false,Jy,Option.bind_some]at h1
  cases hy:(decide (d.y ≥ 1)&&decide (d.y<=2999))with
  |false=>rw[hy]at h1;cases h1
  |true=>
   rw[hy]at h1
   cases hm:(decide (d.m ≥ 0)&&decide (d.m<=12))with
   |false=>rw[hm]at h1;cases h1
   |true=>
    rw[hm]at h1
    simp only[Bool.and_eq_true,decide_eq_true_eq]at hy hm
    obtain⟨r,r1,r2⟩:=Q6U d.y d.m (by omega)
    have hr:r<=31:=QbW r2
    rw[r2]at h1
    simp only[Bool.not_true,cond_false,Option.bind_some,Jy]at h1
    refine⟨by omega,by omega,by omega,by omega,?_⟩
    cases hc:d.c<;>rw[hc]at h1<;>simp only[cond_true,cond_false]at h1<;>cases h2:(d.m==0)<;>(have h3:(d.m != 0)= !(d.m==0):=rfl)<;>simp only[h3,h2,Bool.not_true,Bool.not_false,cond_true,cond_false,Option.some.injEq,beq_iff_eq,Bool.and_eq_true,decide_eq_true_eq]at h1<;>first|omega|(cases h1;done)
def Qa7 (d:Date):Int:=bif d.c then 1 else 0
def dtC (a b:Date):Int:=orI [ic a.y b.y,ic a.m b.m,ic a.d b.d,ic (Qa7 a) (Qa7 b)]
theorem Q8d (a b:Date):Ev (λk=>Z117.F k a b) (dtC a b):=by
 unfold Z117.F dtC
 have hc:∀d:Date,Z99.F d=some (Qa7 d):=λd=>by unfold Z99.F Qa7;cases d.c<;>rfl
 exact Ev.bind0 (DZ _ _) (Ev.bind0 (DZ _ _) (Ev.bind0 (DZ _ _) (Ev.bind0 (hc a) (Ev.bind0 (hc b) (Ev.bind0 (DZ _ _) (Ev.bind (Q6X _ (by simp)) (Ev.pure _)))))))
theorem Q72 {a b:Int}(h:a<b):ic a b= -1:=by unfold ic;rw[if_pos h]
theorem Q73 {a b:Int}(h:b<a):ic a b=1:=by unfold ic;rw[if_neg (by omega),if_pos h]
theorem Q74 {a b:Int}(h:a=b):ic a b=0:=by unfold ic;rw[if_neg (by omega),if_neg (by omega)]
theorem Ue {x:Int}{l:List Int}(h:x≠0):orI (x::l)=x:=by simp only[orI,if_neg h]
theorem Xw {x:Int}{l:List Int}(h:x=0):orI (x::l)=orI l:=by simp only[orI,if_pos h]
theorem Q8e (a b:Date)(ha:D2 a=true)(hb:D2 b=true):Z107.F a b=some (dtC a b):=by
 obtain⟨a1,a2,a3,a4,a5,a6⟩:=Q1z ha
 obtain⟨b1,b2,b3,b4,b5,b6⟩:=Q1z hb
 have e:IntKind.wrap .i64 ((IntKind.wrap .i64 ((IntKind.wrap .i64 ((IntKind.wrap .i64 ((IntKind.wrap .i64 ((IntKind.wrap .i64 (a.y*13))+a.m))*32))+a.d))-(IntKind.wrap .i64 ((IntKind.wrap .i64 ((IntKind.wrap .i64 (b.y*13))+b.m))*32))))-b.d)=((a.y*13+a.m)*32+a.d)-((b.y*13+b.m)*32+b.d):=by
  simp(disch:=omega) only[wrap_in]
  omega
 unfold Z107.F
 rw[e]
 unfold dtC
 by_cases h1:a.y<b.y
 ·rw[Q72 h1,Ue (by decide),Qb (by omega)]
 by_cases h1':b.y<a.y
 ·rw[Q73 h1',Ue (by decide)]
  simp(disch:=omega) only[Qk,cne,Qb]
 have h1:a.y=b.y:=by omega
 rw[Q74 h1,Xw rfl]
 by_cases h2:a.m<b.m
 ·rw[Q72 h2,Ue (by decide),Qb (by omega)]
 by_cases h2':b.m<a.m
 ·rw[Q73 h2',Ue (by decide)]
  simp(disch:=omega) only[Qk,cne,Qb]
 have h2:a.m=b.m:=by omega
 rw[Q74 h2,Xw rfl]
 by_cases h3:a.d<b.d
 ·rw[Q72 h3,Ue (by decide),Qb (by omega)]
 by_cases h3':b.d<a.d
 ·rw[Q73 h3',Ue (by decide)]
  simp(disch:=omega) only[Qk,cne,Qb]
 have h3:a.d=b.d:=by omega
 rw[Q74 h3,Xw rfl]
 simp(disch:=omega) only[Qk,ceq]
 unfold Qa7
 cases a.c<;>cases b.c<;>rfl
structure EOk (e:Entry):Prop where
 au:Q1y e.authors
 ed:Q1y e.editors
 da:D2 e.date=true
 ti:e.title.size<=1048576
theorem QbX {e:Entry}(hs:Jf e)(hv:Ud e=true):EOk e:=by
 obtain⟨h1,h2,h3,_,_,h6,h7⟩:=QbU hs hv
 obtain⟨a1,a2⟩:=Q4I h1
 obtain⟨b1,b2⟩:=Q4I h2
 refine⟨⟨a1,λn hn=>⟨Jo h6 hn,a2 n hn⟩⟩,⟨b1,λn hn=>⟨Jo h7 hn,b2 n hn⟩⟩,h3,?_⟩
 unfold Jf Q1j at hs
 omega
def D3 (e:Entry):List Name:=bif decide ((e.authors.length:Int) > 0)then e.authors else e.editors
theorem Q75 {e:Entry}(h:EOk e):Q1y (D3 e):=by
 unfold D3
 cases decide ((e.authors.length:Int) > 0)
 ·exact h.ed
 ·exact h.au
theorem GZ (e:Entry):Z91.F e=some (D3 e):=by unfold Z91.F D3;cases decide ((e.authors.length:Int) > 0)<;>rfl
theorem Q00 (e:Entry):Z96.F e=some (D3 e):=by unfold Z96.F D3;cases decide ((e.authors.length:Int) > 0)<;>rfl
theorem QaY (a b:Entry)(ha:EOk a)(hb:EOk b):∃r,Ev (λk=>Z75.F k a b) r/\Ev (λk=>Z120.F k a b) r:=by
 obtain⟨n1,n2⟩:=QbV _ _ (Q75 ha) (Q75 hb)
 have d1:=Q8e _ _ ha.da hb.da
 have d2:=Q8d a.date b.date
 obtain⟨x,x1,x2,x3⟩:=Q71 a.title ha.ti
 obtain⟨y,y1,y2,y3⟩:=Q71 b.title hb.ti
 obtain⟨c,c1,c2⟩:=Q64 x y (by have:=ha.ti;omega) (by have:=hb.ti;omega)
 refine⟨orI [Gu (D3 a) (D3 b),dtC a.date b.date,c,ic a.volume b.volume,tc a.key b.key],?_,?_⟩
 ·unfold Z75.F
  refine Ev.bind0 (GZ a) (Ev.bind0 (GZ b) (Ev.bind n1 ?_))
  by_cases h1:Gu (D3 a) (D3 b)=0
  ·rw[Xw h1]
   simp only[Yx h1]
   refine Ev.bind0 d1 ?_
   by_cases h2:dtC a.date b.date=0
   ·rw[Xw h2]
    simp only[Yx h2]
    refine Ev.bind x1 (Ev.bind y1 (Ev.bind c1 ?_))
    by_cases h3:c=0
    ·rw[Xw h3]
     simp only[Yx h3]
     by_cases h4:a.volume<b.volume
     ·rw[Q72 h4,Ue (by decide)]
      simp(disch:=omega) only[Qb]
      exact Ev.pure _
     ·by_cases h5:b.volume<a.volume
      ·rw[Q73 h5,Ue (by decide)]
       simp(disch:=omega) only[Qb,Qk]
       exact Ev.pure _
      ·rw[Q74 (by omega),Xw rfl]
       simp(disch:=omega) only[Qk]
       refine Ev.bind0 (Xv _ _) ((Ev.pure _).eq ?_)
       simp only[orI]
       split
       ·assumption
       ·rfl
    ·rw[Ue h3]
     simp only[XX h3]
     exact Ev.pure _
   ·rw[Ue h2]
    simp only[XX h2]
    exact Ev.pure _
  ·rw[Ue h1]
   simp only[XX h1]
   exact Ev.pure _
 ·unfold Z120.F
  exact Ev.bind0 (Q00 a) (Ev.bind0 (Q00 b) (Ev.bind n2 (Ev.bind d2 (Ev.bind x2 (Ev.bind y2 (Ev.bind c2 (Ev.bind0 (DZ _ _) (Ev.bind0 (Xu _ _) (Ev.bind (Q6X _ (by simp)) (Ev.pure _))))))))))
end Go.Proofs.YtcbclpphgbbmmaaGreatDoor
end
section
/- Sorting of short lists by insertion. -/
namespace Go.Proofs.YtcbclpphgbbmmaaGreatDoor
open Go.Gx
def KU (lt:ByteArray->ByteArray->Bool)(x:ByteArray)(out:List ByteArray):Nat->Nat
 |0=>0
 |k+1=>bif lt x (out.getD k ⟨#[]⟩)then KU lt x out k else k+1
theorem Q3B (lt:ByteArray->ByteArray->Bool)(x:ByteArray)(out:List ByteArray):∀k,KU lt x out k<=k
 |0=>Nat.le_refl _
 |k+1=>by
  have:=Q3B lt x out k
  unfold KU
  cases lt x (out.getD k ⟨#[]⟩)<;>simp only[cond_true,cond_false]<;>omega
def at_ (x:ByteArray)(out rest:List ByteArray)(j:Nat):List ByteArray:=out.take j++x::(out.drop j++rest)
def UA (lt:ByteArray->ByteArray->Bool)(out:List ByteArray)(x:ByteArray):List ByteArray:=out.take (KU lt x out out.length)++x::out.drop (KU lt x out out.length)
def G0 (lt:ByteArray->ByteArray->Bool)(xs:List ByteArray):List ByteArray:=xs.foldl (UA lt) []
theorem Q1A (lt:ByteArray->ByteArray->Bool)(out:List ByteArray)(x:ByteArray):(UA lt out x).length=out.length+1:=by
 have:=Q3B lt x out out.length
 unfold UA
 simp only[List.length_append,List.length_take,List.length_cons,List.length_drop]
 omega
theorem Q1B {lt:ByteArray->ByteArray->Bool}{out:List ByteArray}{x y:ByteArray}(h:y∈UA lt out x):y=x\/y∈out:=by
 unfold UA at h
 simp only[List.mem_append,List.mem_cons]at h
 rcases h with h|h|h
 ·exact .inr (List.mem_of_mem_take h)
 ·exact .inl h
 ·exact .inr (List.mem_of_mem_drop h)
theorem Q4O (lt:ByteArray->ByteArray->Bool):∀(xs out:List ByteArray),(xs.foldl (UA lt) out).length=out.length+xs.length
 |[],out=>rfl
 |x::xs,out=>by rw[List.foldl_cons,Q4O lt xs,Q1A,List.length_cons];omega
theorem Q4P {lt:ByteArray->ByteArray->Bool}:∀{xs out:List ByteArray} {y:ByteArray},y∈xs.foldl (UA lt) out->y∈xs\/y∈out
 |[],out,y,h=>.inr h
 |x::xs,out,y,h=>by
  rcases Q4P (xs:=xs) h with h|h
  ·exact .inl (List.mem_cons_of_mem _ h)
  ·rcases Q1B h with h|h
   ·exact .inl (h▸List.mem_cons_self)
   ·exact .inr h
theorem KR (lt:ByteArray->ByteArray->Bool)(xs:List ByteArray):(G0 lt xs).length=xs.length:=by unfold G0;rw[Q4O];simp
theorem Q8f {lt:ByteArray->ByteArray->Bool}{xs:List ByteArray}{y:ByteArray}(h:y∈G0 lt xs):y∈xs:=by
 rcases Q4P h with h|h
 ·exact h
 ·cases h
theorem Q1C (x:ByteArray)(out rest:List ByteArray)(j:Nat)(h:j<out.length) :
  at_ x out rest (j+1)=out.take j++out[j]::x::(out.drop (j+1)++rest)/\at_ x out rest j=out.take j++x::out[j]::(out.drop (j+1)++rest):=by
 unfold at_
 constructor
 ·rw[<-List.take_append_getElem h,List.append_assoc];rfl
 ·rw[List.drop_eq_getElem_cons h];rfl
theorem QbY (x:ByteArray)(out rest:List ByteArray)(j:Nat)(h:j<=out.length):(at_ x out rest j).length=out.length+1+rest.length:=by
 unfold at_
 simp only[List.length_append,List.length_take,List.length_cons,List.length_drop]
 omega
theorem QbZ (x:ByteArray)(out rest:List ByteArray)(j:Nat)(h:j<out.length):(at_ x out rest (j+1)).getD (j+1) ⟨#[]⟩=x/\(at_ x out rest (j+1)).getD j ⟨#[]⟩=out[j]:=by
 have hl:(out.take j).length=j:=by rw[List.length_take];omega
 rw[(Q1C x out rest j h).1]
 constructor
 ·rw[List.getD_eq_getElem?_getD,List.getElem?_append_right (by omega),hl,show j+1-j=1 by omega];rfl
 ·rw[List.getD_eq_getElem?_getD,List.getElem?_append_right (by omega),hl,Nat.sub_self];rfl
theorem QaZ (x:ByteArray)(out rest:List ByteArray)(j:Nat)(h:j<out.length):((at_ x out rest (j+1)).set (j+1) out[j]).set j x=at_ x out rest j:=by
 have hl:(out.take j).length=j:=by rw[List.length_take];omega
 rw[(Q1C x out rest j h).1,(Q1C x out rest j h).2,List.set_append_right _ _ (by omega),hl,show j+1-j=1 by omega,List.set_append_right _ _ (by omega),hl,Nat.sub_self]
 rfl
theorem Q4Q (l:Library)(lt:ByteArray->ByteArray->Bool)(x:ByteArray)(out rest:List ByteArray)(b i:Int)(hl:out.length+rest.length<=100)(hC:∀y∈out,∃c:Int,Ev (λk=>Z78.F k x y l) c/\decide (c<0)=lt x y) :
  ∀j:Nat,j<=out.length->Ev (λk=>Z6.l2 k (at_ x out rest j) 0 b l i j) (at_ x out rest (KU lt x out j),0,b,l,i)
 |0,hj=>by
  refine Ev.step (λk=>by rw[Z6.l2]) ?_
  simp(disch:=omega) only[Qk]
  exact Ev.pure _
 |j+1,hj=>by
  have ih:=Q4Q l lt x out rest b i hl hC j (by omega)
  have hlen:=QbY x out rest (j+1) (by omega)
  obtain⟨g1,g2⟩:=QbZ x out rest j (by omega)
  obtain⟨c,c1,c2⟩:=hC out[j] (List.getElem_mem (by omega))
  have hj1:IntKind.wrap .i64 (((j+1:Nat):Int)-1)=(j:Int):=by rw[wrap_in (by omega) (by omega)];omega
  refine Ev.step (λk=>by rw[Z6.l2]) ?_
  rw[hj1]
  simp(disch:=omega) only[Qb,Int.toNat_natCast,g1,g2]
  refine Ev.bind c1 ?_
  unfold KU
  rw[getD_at (show j<out.length by omega),c2]
  cases lt x out[j]with
  |false=>exact Ev.pure _
  |true=>
   simp(disch:=omega) only[cond_true,Qb,List.length_set,QaZ x out rest j (by omega)]
   exact ih
theorem Q4R (l:Library)(lt:ByteArray->ByteArray->Bool)(keys:List ByteArray)(hk:keys.length<=100)(hC:∀x∈keys,∀y∈keys,∃c:Int,Ev (λk=>Z78.F k x y l) c/\decide (c<0)=lt x y) :
  ∀n i:Nat,i+n=keys.length->∀out:List ByteArray,out.length=i->(∀y∈out,y∈keys)->Ev (λk=>Z6.l0 k (out++keys.drop i) 0 keys.length l i) ((keys.drop i).foldl (UA lt) out)
 |0,i,h,out,ho,hm=>by
  refine Ev.step (λk=>by rw[Z6.l0]) ?_
  simp(disch:=omega) only[Qk]
  rw[List.drop_eq_nil_of_le (by omega),List.append_nil]
  exact Ev.pure _
 |n+1,i,h,out,ho,hm=>by
  have hi:i<keys.length:=by omega
  have hd:keys.drop i=keys[i]::keys.drop (i+1):=List.drop_eq_getElem_cons hi
  have hx:keys[i]∈keys:=List.getElem_mem hi
  have h2:=Q4Q l lt keys[i] out (keys.drop (i+1)) keys.length i (by rw[List.length_drop];omega) (λy hy=>hC _ hx _ (hm y hy)) out.length (Nat.le_refl _)
  have e1:at_ keys[i] out (keys.drop (i+1)) out.length=out++keys.drop i:=by unfold at_;rw[List.take_length,List.drop_length,hd];rfl
  have e2:at_ keys[i] out (keys.drop (i+1)) (KU lt keys[i] out out.length)=UA lt out keys[i]++keys.drop (i+1):=by unfold at_ UA;rw[List.append_assoc];rfl
  rw[e1,e2,ho]at h2
  have ih:=Q4R l lt keys hk hC n (i+1) (by omega) (UA lt out keys[i]) (by rw[Q1A,ho]) (λy hy=>by
   rcases Q1B hy with h|h
   ·exact h▸hx
   ·exact hm y h)
  refine Ev.step (λk=>by rw[Z6.l0]) ?_
  simp(disch:=omega) only[Qb]
  refine Ev.bind h2 ?_
  simp(disch:=omega) only[wrap_in,ho]
  have e3:(keys.drop i).foldl (UA lt) out=(keys.drop (i+1)).foldl (UA lt) (UA lt out keys[i]):=by rw[hd,List.foldl_cons]
  rw[e3]
  exact ih
theorem Qa8 (l:Library)(lt:ByteArray->ByteArray->Bool)(keys:List ByteArray)(hk:keys.length<=100)(hC:∀x∈keys,∀y∈keys,∃c:Int,Ev (λk=>Z78.F k x y l) c/\decide (c<0)=lt x y):Ev (λk=>Z6.F k keys 0 keys.length l) (G0 lt keys):=by
 unfold Z6.F
 have h:Ev (λk=>Z6.l0 k keys 0 keys.length l (1:Nat)) (G0 lt keys):=by
  cases keys with
  |nil=>
   refine Ev.step (λk=>by rw[Z6.l0]) ?_
   simp(disch:=simp) only[Qk]
   exact Ev.pure _
  |cons x r=>
   have:=Q4R l lt (x::r) hk hC r.length 1 (by simp;omega) [x] rfl (λy hy=>by simp at hy;exact hy▸List.mem_cons_self)
   exact this
 refine Ev.bind h ?_
 rw[KR,Nat.beq_refl]
 exact Ev.pure _
theorem Q76 (l:Library)(lt:ByteArray->ByteArray->Bool)(keys out:List ByteArray)(i:Nat)(hi:i<keys.length)(ho:out.length<=100)(hk:keys.length<=100)(hl:l.entries.length<=8)
  (hC:∀y∈out,∃(p q c:Int),0<=p/\p<l.entries.length/\0<=q/\q<l.entries.length/\Ev (λk=>Z0.F k l keys[i]) p/\Ev (λk=>Z0.F k l y) q/\Ev (λk=>Z75.F k (l.entries.getD p.toNat (Qh .entry)) (l.entries.getD q.toNat (Qh .entry))) c/\decide (c<0)=lt keys[i] y) :
  ∀j:Nat,j<=out.length->Ev (λk=>Z7.l2 k keys l out i j) (keys,l,out,(i:Int),((KU lt keys[i] out j:Nat):Int))
 |0,hj=>by
  refine Ev.step (λk=>by rw[Z7.l2]) ?_
  simp(disch:=omega) only[Qk]
  exact Ev.pure _
 |j+1,hj=>by
  have ih:=Q76 l lt keys out i hi ho hk hl hC j (by omega)
  obtain⟨p,q,c,p0,p1,q0,q1,e1,e2,e3,e4⟩:=hC out[j] (List.getElem_mem (by omega))
  have hj1:IntKind.wrap .i64 (((j+1:Nat):Int)-1)=(j:Int):=by rw[wrap_in (by omega) (by omega)];omega
  refine Ev.step (λk=>by rw[Z7.l2]) ?_
  rw[hj1]
  simp(disch:=omega) only[Qb,Int.toNat_natCast,getD_at hi]
  refine Ev.bind e1 ?_
  simp(disch:=omega) only[Qb,getD_at (show j<out.length by omega)]
  refine Ev.bind e2 ?_
  simp(disch:=omega) only[Qb]
  refine Ev.bind e3 ?_
  unfold KU
  rw[getD_at (show j<out.length by omega),e4]
  cases lt keys[i] out[j]with
  |false=>exact Ev.pure _
  |true=>exact ih
theorem Q77 (l:Library)(lt:ByteArray->ByteArray->Bool)(keys:List ByteArray)(hk:keys.length<=100)(hl:l.entries.length<=8)
  (hC:∀x∈keys,∀y∈keys,∃(p q c:Int),0<=p/\p<l.entries.length/\0<=q/\q<l.entries.length/\Ev (λk=>Z0.F k l x) p/\Ev (λk=>Z0.F k l y) q/\Ev (λk=>Z75.F k (l.entries.getD p.toNat (Qh .entry)) (l.entries.getD q.toNat (Qh .entry))) c/\decide (c<0)=lt x y) :
  ∀n i:Nat,i+n=keys.length->∀out:List ByteArray,out.length=i->(∀y∈out,y∈keys)->Ev (λk=>Z7.l0 k keys l out i) ((keys.drop i).foldl (UA lt) out)
 |0,i,h,out,ho,hm=>by
  refine Ev.step (λk=>by rw[Z7.l0]) ?_
  simp(disch:=omega) only[Qk]
  rw[List.drop_eq_nil_of_le (by omega)]
  exact Ev.pure _
 |n+1,i,h,out,ho,hm=>by
  have hi:i<keys.length:=by omega
  have hd:keys.drop i=keys[i]::keys.drop (i+1):=List.drop_eq_getElem_cons hi
  have hx:keys[i]∈keys:=List.getElem_mem hi
  have h2:=Q76 l lt keys out i hi (by omega) hk hl (λy hy=>hC _ hx _ (hm y hy)) out.length (Nat.le_refl _)
  have hp:=Q3B lt keys[i] out out.length
  have ih:=Q77 l lt keys hk hl hC n (i+1) (by omega) (UA lt out keys[i]) (by rw[Q1A,ho]) (λy hy=>by
   rcases Q1B hy with h|h
   ·exact h▸hx
   ·exact hm y h)
  refine Ev.step (λk=>by rw[Z7.l0]) ?_
  simp(disch:=omega) only[Qb]
  refine Ev.bind h2 ?_
  have r1:room (([]:List ByteArray).length+(out.take (KU lt keys[i] out out.length)).length) .str=true:=Q1g (by simp only[List.length_nil,List.length_take];omega)
  have r2:room ((([]:List ByteArray)++out.take (KU lt keys[i] out out.length)).length+([keys[i]]:List ByteArray).length) .str=true:=Q1g (by simp only[List.length_append,List.length_nil,List.length_take,List.length_singleton];omega)
  have r3:room (((([]:List ByteArray)++out.take (KU lt keys[i] out out.length))++([keys[i]]:List ByteArray)).length+(out.drop (KU lt keys[i] out out.length)).length) .str=true:=Q1g (by simp only[List.length_append,List.length_nil,List.length_take,List.length_singleton,List.length_drop];omega)
  have e:((([]:List ByteArray)++out.take (KU lt keys[i] out out.length))++([keys[i]]:List ByteArray))++out.drop (KU lt keys[i] out out.length)=UA lt out keys[i]:=by unfold UA;simp
  simp(disch:=omega) only[Qb,Int.toNat_natCast,getD_at hi,r1,r2,r3,cond_true,e,wrap_in]
  have e3:(keys.drop i).foldl (UA lt) out=(keys.drop (i+1)).foldl (UA lt) (UA lt out keys[i]):=by rw[hd,List.foldl_cons]
  rw[e3]
  exact ih
end Go.Proofs.YtcbclpphgbbmmaaGreatDoor
end
section
/- Keys of a library: found,different,sorted. -/
namespace Go.Proofs.YtcbclpphgbbmmaaGreatDoor
open Go.Gx
theorem Qbj (xs:List ByteArray)(hl:xs.length<=1048576)(x:ByteArray):∀n i:Nat,i+n=xs.length->∃r:Int,-1<=r/\r<xs.length/\Ev (λk=>Z34.l0 k xs x xs.length i) (if r<0 then .inr ()else .inl r)/\
  (r<0->∀j,i<=j->(h:j<xs.length)->xs[j]≠x)/\(0<=r->x∈xs)
 |0,i,h=>by
  refine⟨-1,by omega,by omega,Ev.step (λk=>by rw[Z34.l0]) ?_,λ_ j h1 h2=>by omega,λh=>by omega⟩
  simp(disch:=omega) only[Qk];exact Ev.pure _
 |n+1,i,h=>by
  have hi:i<xs.length:=by omega
  cases hb:Qu x xs[i]with
  |true=>
   have e:=Y7.1 hb
   refine⟨(i:Int),by omega,by omega,Ev.step (λk=>by rw[Z34.l0]) ?_,λh=>by omega,λ_=>e▸List.getElem_mem hi⟩
   simp(disch:=omega) only[Qb,Int.toNat_natCast,getD_at hi,hb,cond_true]
   rw[if_neg (by omega)]
   exact Ev.pure _
  |false=>
   have hne:xs[i]≠x:=λe=>by rw[Y7.2 e.symm]at hb;cases hb
   obtain⟨r,r0,r1,k1,k3,k4⟩:=Qbj xs hl x n (i+1) (by omega)
   refine⟨r,r0,r1,Ev.step (λk=>by rw[Z34.l0]) ?_,λh j h1 h2=>?_,k4⟩
   ·simp(disch:=omega) only[Qb,Int.toNat_natCast,getD_at hi,hb,cond_false,wrap_in]
    exact k1
   ·by_cases e:j=i
    ·subst e;exact hne
    ·exact k3 h j (by omega) h2
theorem Qb0 (xs:List ByteArray)(hl:xs.length<=1048576)(x:ByteArray):∃r:Int,-1<=r/\r<xs.length/\Ev (λk=>Z34.F k xs x) r/\(r<0->x ∉ xs)/\(0<=r->x∈xs):=by
 obtain⟨r,r0,r1,k1,k3,k4⟩:=Qbj xs hl x xs.length 0 (by omega)
 refine⟨r,r0,r1,?_,λh hx=>?_,k4⟩
 ·unfold Z34.F
  by_cases h:r<0
  ·rw[if_pos h]at k1
   exact Ev.bind k1 ((Ev.pure _).eq (by omega))
  ·rw[if_neg h]at k1
   exact Ev.bind k1 (Ev.pure _)
 ·obtain⟨j,hj,e⟩:=List.getElem_of_mem hx
  exact k3 h j (Nat.zero_le _) hj e
theorem Qa9 (l:Library)(keys:List ByteArray)(i:Nat)(hi:i<keys.length)(hl:keys.length<=1048576):∀n m:Nat,m+n=i->∃d:Bool,Ev (λk=>Z1.l2 k keys l i m) (if d=true then .inl false else .inr (keys,l,(i:Int)))/\(d=true ↔ keys[i]∈(keys.take i).drop m)
 |0,m,h=>by
  refine⟨false,Ev.step (λk=>by rw[Z1.l2]) ?_,?_⟩
  ·simp(disch:=omega) only[Qk];exact Ev.pure _
  ·rw[List.drop_eq_nil_of_le (by rw[List.length_take];omega)];simp
 |n+1,m,h=>by
  have hm:m<keys.length:=by omega
  have hd:(keys.take i).drop m=keys[m]::(keys.take i).drop (m+1):=by
   rw[List.drop_eq_getElem_cons (show m<(keys.take i).length by rw[List.length_take];omega),List.getElem_take]
  cases hb:Qu keys[m] keys[i]with
  |true=>
   refine⟨true,Ev.step (λk=>by rw[Z1.l2]) ?_,?_⟩
   ·simp(disch:=omega) only[Qb,Int.toNat_natCast,getD_at hm,getD_at hi,hb,cond_true]
    exact Ev.pure _
   ·rw[hd,<-Y7.1 hb];simp
  |false=>
   have hne:keys[i]≠keys[m]:=λe=>by rw[Y7.2 e.symm]at hb;cases hb
   obtain⟨d,d1,d2⟩:=Qa9 l keys i hi hl n (m+1) (by omega)
   refine⟨d,Ev.step (λk=>by rw[Z1.l2]) ?_,?_⟩
   ·simp(disch:=omega) only[Qb,Int.toNat_natCast,getD_at hm,getD_at hi,hb,cond_false,wrap_in]
    exact d1
   ·rw[d2,hd];simp[hne]
theorem Q78 (l:Library)(hl:l.entries.length<=1048576)(keys:List ByteArray)(hk:keys.length<=1048576):∀n i:Nat,i+n=keys.length->
  ∃b:Bool,Ev (λk=>Z1.l0 k keys l i) (if b=true then .inr ()else .inl false)/\Ev (λk=>Z29.l0 k keys l keys keys.length i) (if b=true then .inr l else .inl false)/\
   (b=true->∀j,i<=j->(h:j<keys.length)->(∃p:Int,0<=p/\p<l.entries.length/\kAt l p=keys[j])/\keys[j] ∉ keys.take j)
 |0,i,h=>by
  refine⟨true,Ev.step (λk=>by rw[Z1.l0]) ?_,Ev.step (λk=>by rw[Z29.l0]) ?_,λ_ j h1 h2=>by omega⟩
  ·simp(disch:=omega) only[Qk];exact Ev.pure _
  ·simp(disch:=omega) only[Qk];exact Ev.pure _
 |n+1,i,h=>by
  have hi:i<keys.length:=by omega
  obtain⟨p,p1,p2,p3,p4,p5,_⟩:=Q4J l keys[i] hl
  by_cases hp:p<0
  ·refine⟨false,Ev.step (λk=>by rw[Z1.l0]) ?_,Ev.step (λk=>by rw[Z29.l0]) ?_,λh=>by cases h⟩
   ·simp(disch:=omega) only[Qb,Int.toNat_natCast,getD_at hi]
    refine Ev.bind p1 ?_
    simp(disch:=omega) only[Qb]
    exact Ev.pure _
   ·simp(disch:=omega) only[Qb,Int.toNat_natCast,getD_at hi]
    refine Ev.bind p2 ?_
    simp(disch:=omega) only[Qb]
    exact Ev.pure _
  ·obtain⟨d,d1,d2⟩:=Qa9 l keys i hi hk i 0 (by omega)
   rw[List.drop_zero]at d2
   obtain⟨r,r0,r1,x1,x3,x4⟩:=Qb0 (keys.take i) (by rw[List.length_take];omega) keys[i]
   have hct:Ev (λk=>Z111.F k (keys.take i) keys[i]) d:=by
    unfold Z111.F
    refine Ev.bind x1 ((Ev.pure _).eq ?_)
    cases d with
    |true=>
     have:=d2.1 rfl
     exact decide_eq_true (by
      apply Classical.byContradiction
      intro hn
      exact x3 (by omega) this)
    |false=>exact decide_eq_false λhn=>by have:=d2.2 (x4 hn);cases this
   cases d with
   |true=>
    refine⟨false,Ev.step (λk=>by rw[Z1.l0]) ?_,Ev.step (λk=>by rw[Z29.l0]) ?_,λh=>by cases h⟩
    ·simp(disch:=omega) only[Qb,Int.toNat_natCast,getD_at hi]
     refine Ev.bind p1 ?_
     simp(disch:=omega) only[Qk]
     exact Ev.bind d1 (Ev.pure _)
    ·simp(disch:=omega) only[Qb,Int.toNat_natCast,getD_at hi]
     refine Ev.bind p2 ?_
     simp(disch:=omega) only[Qk,Qb]
     refine Ev.bind hct ?_
     exact Ev.pure _
   |false=>
    obtain⟨b,b1,b2,b3⟩:=Q78 l hl keys hk n (i+1) (by omega)
    refine⟨b,Ev.step (λk=>by rw[Z1.l0]) ?_,Ev.step (λk=>by rw[Z29.l0]) ?_,λhb j h1 h2=>?_⟩
    ·simp(disch:=omega) only[Qb,Int.toNat_natCast,getD_at hi]
     refine Ev.bind p1 ?_
     simp(disch:=omega) only[Qk]
     have d3:Ev (λk=>Z1.l2 k keys l i 0) (.inr (keys,l,(i:Int))):=d1
     refine Ev.bind d3 ?_
     show Ev (λk=>Z1.l0 k keys l (IntKind.wrap .i64 ((i:Int)+1))) _
     rw[wrap_in (by omega) (by omega)]
     exact b1
    ·simp(disch:=omega) only[Qb,Int.toNat_natCast,getD_at hi]
     refine Ev.bind p2 ?_
     simp(disch:=omega) only[Qk,Qb]
     refine Ev.bind hct ?_
     simp(disch:=omega) only[cond_false,wrap_in]
     exact b2
    ·by_cases e:j=i
     ·subst e
      exact⟨⟨p,by omega,p4,p5 (by omega)⟩,λhm=>by have:=d2.2 hm;cases this⟩
     ·exact b3 hb j (by omega) h2
theorem Q4S {α:Type}[DecidableEq α]:∀(xs ys:List α),xs.Nodup->(∀x∈xs,x∈ys)->xs.length<=ys.length
 |[],ys,_,_=>Nat.zero_le _
 |x::xs,ys,h,hm=>by
  rw[List.nodup_cons]at h
  have hx:=hm x List.mem_cons_self
  have:=Q4S xs (ys.erase x) h.2 λy hy=>(List.mem_erase_of_ne (λe=>h.1 (by rw[<-e];exact hy))).2 (hm y (List.mem_cons_of_mem _ hy))
  rw[List.length_erase_of_mem hx]at this
  have:=List.length_pos_of_mem hx
  rw[List.length_cons]
  omega
theorem Q69:∀(xs:List ByteArray),(∀j,(h:j<xs.length)->xs[j] ∉ xs.take j)->xs.Nodup:=λxs h=>by
 rw[List.nodup_iff_pairwise_ne,List.pairwise_iff_getElem]
 intro i j hi hj hlt e
 refine h j hj ?_
 rw[<-e]
 exact List.mem_take_iff_getElem.2 ⟨i,by omega,rfl⟩
theorem Q6a (l:Library)(hs:JY l)(keys:List ByteArray)(hk:keys.length<=1048576):∃v:Bool,Ev (λk=>Z1.F k l keys) v/\Ev (λk=>Z29.F k l keys) v/\
  (v=true->Q05 l=true/\l.entries.length<=8/\keys.length<=8/\∀x∈keys,∃p:Int,0<=p/\p<l.entries.length/\Ev (λk=>Z0.F k l x) p/\Ev (λk=>Z63.F k l x) p):=by
 have hl:=YG hs
 have v1:=Q62 l hs
 have v2:=Q9X l hs
 obtain⟨b,b1,b2,b3⟩:=Q78 l hl keys hk keys.length 0 (by omega)
 refine⟨Q05 l&&b,?_,?_,λh=>?_⟩
 ·unfold Z1.F
  refine Ev.bind v1 ?_
  cases Q05 l with
  |false=>exact Ev.pure _
  |true=>cases b<;>exact Ev.bind b1 (Ev.pure _)
 ·unfold Z29.F
  cases b with
  |false=>exact Ev.bind b2 ((Ev.pure _).eq (by simp))
  |true=>exact Ev.bind b2 (Ev.bind v2 ((Ev.pure _).eq (by simp)))
 ·simp only[Bool.and_eq_true]at h
  obtain⟨h1,h2⟩:=h
  have b4:=b3 h2
  have hlen:=Q9Y h1
  refine⟨h1,hlen,?_,λx hx=>?_⟩
  ·have:=@Q4S _ (λa b=>Classical.propDecidable (a=b)) keys (l.entries.map (·.key)) (Q69 keys λj h=>(b4 j (Nat.zero_le _) h).2) λx hx=>by
    obtain⟨j,hj,e⟩:=List.getElem_of_mem hx
    obtain⟨⟨p,p0,p1,p2⟩,_⟩:=b4 j (Nat.zero_le _) hj
    rw[<-e,<-p2]
    unfold kAt
    rw[getD_at (show p.toNat<l.entries.length by omega)]
    exact List.mem_map.2 ⟨_,List.getElem_mem _,rfl⟩
   rw[List.length_map]at this
   omega
  ·obtain⟨j,hj,e⟩:=List.getElem_of_mem hx
   obtain⟨⟨p,p0,p1,p2⟩,_⟩:=b4 j (Nat.zero_le _) hj
   obtain⟨q,q1,q2,q3,q4,q5,q6⟩:=Q4J l x hl
   refine⟨q,?_,q4,q1,q2⟩
   apply Classical.byContradiction
   intro hn
   refine q6 (by omega) p.toNat (by omega) ?_
   rw[<-e,<-p2]
   rfl
theorem Qaa:∀n:Fin 13,(Z113.F (IntKind.wrap .u64 (n.val:Int))).isSome=true:=by decide+kernel
theorem Qb1 {n:Nat}(h:n<=12):∃r,Z113.F (IntKind.wrap .u64 (n:Int))=some r:=by
 exact Option.isSome_iff_exists.1 (Qaa ⟨n,by omega⟩)
def Found (l:Library)(keys:List ByteArray):Prop:=∀x∈keys,∃p:Int,0<=p/\p<l.entries.length/\Ev (λk=>Z0.F k l x) p/\Ev (λk=>Z63.F k l x) p
theorem Qb2 (l:Library)(hs:JY l)(hv:Q05 l=true)(hl:l.entries.length<=8)(keys:List ByteArray)(hf:Found l keys):∃lt:ByteArray->ByteArray->Bool,
  (∀x∈keys,∀y∈keys,∃c:Int,Ev (λk=>Z78.F k x y l) c/\decide (c<0)=lt x y)/\
  (∀x∈keys,∀y∈keys,∃(p q c:Int),0<=p/\p<l.entries.length/\0<=q/\q<l.entries.length/\Ev (λk=>Z0.F k l x) p/\Ev (λk=>Z0.F k l y) q/\Ev (λk=>Z75.F k (l.entries.getD p.toNat (Qh .entry)) (l.entries.getD q.toNat (Qh .entry))) c/\decide (c<0)=lt x y):=by
 have hok:∀p:Int,0<=p->p<l.entries.length->EOk (l.entries.getD p.toNat (Qh .entry)):=λp p0 p1=>by
  have hp:p.toNat<l.entries.length:=by omega
  have hb:=hv
  unfold Q05 at hb
  simp only[Bool.and_eq_true,List.all_eq_true]at hb
  have h1:=hb.1 p.toNat (List.mem_range'_1.2 ⟨Nat.zero_le _,by omega⟩)
  unfold okL at h1
  rw[Bool.and_eq_true]at h1
  rw[getD_at hp]at h1 ⊢
  exact QbX (Yl hs (List.getElem_mem hp)) h1.1
 have h:∀x y,∃c:Int,x∈keys->y∈keys->Ev (λk=>Z78.F k x y l) c/\∃(p q:Int),0<=p/\p<l.entries.length/\0<=q/\q<l.entries.length/\Ev (λk=>Z0.F k l x) p/\Ev (λk=>Z0.F k l y) q/\Ev (λk=>Z75.F k (l.entries.getD p.toNat (Qh .entry)) (l.entries.getD q.toNat (Qh .entry))) c:=λx y=>by
  by_cases hx:x∈keys
  ·by_cases hy:y∈keys
   ·obtain⟨p,p0,p1,p2,p3⟩:=hf x hx
    obtain⟨q,q0,q1,q2,q3⟩:=hf y hy
    obtain⟨c,c1,c2⟩:=QaY _ _ (hok p p0 p1) (hok q q0 q1)
    refine⟨c,λ_ _=>⟨?_,p,q,p0,p1,q0,q1,p2,q2,c1⟩⟩
    unfold Z78.F
    refine Ev.bind p3 ?_
    simp(disch:=omega) only[Qb]
    refine Ev.bind q3 ?_
    simp(disch:=omega) only[Qb]
    exact Ev.bind c2 (Ev.pure _)
   ·exact⟨0,λ_ h=>absurd h hy⟩
  ·exact⟨0,λh=>absurd h hx⟩
 refine⟨λx y=>decide (Classical.choose (h x y)<0),λx hx y hy=>?_,λx hx y hy=>?_⟩
 ·exact⟨_,(Classical.choose_spec (h x y) hx hy).1,rfl⟩
 ·obtain⟨p,q,h1,h2,h3,h4,h5,h6,h7⟩:=(Classical.choose_spec (h x y) hx hy).2
  exact⟨p,q,_,h1,h2,h3,h4,h5,h6,h7,rfl⟩
theorem Q4T (l:Library)(hs:JY l)(hv:Q05 l=true)(hl:l.entries.length<=8)(keys:List ByteArray)(hk:keys.length<=8)(hf:Found l keys) :
  ∃r,Ev (λk=>Z7.F k l keys) r/\Ev (λk=>Z137.F k l keys) r/\r.length=keys.length/\Found l r:=by
 obtain⟨lt,h1,h2⟩:=Qb2 l hs hv hl keys hf
 refine⟨G0 lt keys,?_,?_,KR lt keys,λx hx=>hf x (Q8f hx)⟩
 ·unfold Z7.F
  have:=Q77 l lt keys (by omega) hl h2 keys.length 0 (by omega) [] rfl (λy hy=>by cases hy)
  exact Ev.bind this (Ev.pure _)
 ·have hi:=Qa8 l lt keys (by omega) h1
  have hr:room (([]:List ByteArray).length+keys.length) .str=true:=Q1g (by simp;omega)
  obtain⟨b,hb⟩:=Qb1 (n:=keys.length) (by omega)
  unfold Z137.F
  rw[hr,List.nil_append]
  simp only[cond_true]
  unfold Z100.F
  rw[hb]
  refine Ev.bind (a:=G0 lt keys) ?_ (Ev.pure _)
  simp only[Option.bind_some]
  refine Ev.bind (a:=G0 lt keys) ?_ (by rw[KR,Nat.beq_refl];exact Ev.pure _)
  unfold Z61.F
  refine Ev.bind (a:=G0 lt keys) ?_ (by rw[KR,Nat.beq_refl];exact Ev.pure _)
  refine Ev.step (λk=>by rw[Z61.l0]) ?_
  have e:IntKind.wrap .i64 ((keys.length:Int)-0)<=12:=by rw[wrap_in (by omega) (by omega)];omega
  rw[decide_eq_true e]
  exact Ev.bind hi (Ev.pure _)
end Go.Proofs.YtcbclpphgbbmmaaGreatDoor
end
section
/- Plain laws: marks of lists of texts;deep marks of names,entries and libraries. -/
namespace Go.Proofs.YtcbclpphgbbmmaaGreatDoor
open Go.Gx
theorem Q4U:∀n:Nat,n<=1099511627776->∀s:ByteArray,s.size+n<=9223372036854775806->∃r,Ev (λk=>Z4.l0 k (n:Int) s) r/\r.size<=s.size+n:=λn=>by
 induction n using Nat.strongRecOn with
 |ind n ih=>
  intro hn s hs
  by_cases c:n=0
  ·refine⟨s,Ev.step (λk=>by rw[Z4.l0]) ?_,by omega⟩
   simp(disch:=omega) only[Qk]
   exact Ev.pure _
  ·have ed:Int.tdiv (n:Int) 10=((n / 10:Nat):Int):=by
    rw[Int.tdiv_eq_ediv_of_nonneg (by omega)];omega
   have e1:∀v:Int,(XC ([v]:List Int)).size=1:=λv=>rfl
   obtain⟨r,r1,r2⟩:=ih (n / 10) (by omega) (by omega) (XC ([IntKind.wrap .u8 (IntKind.wrap .i64 (48+Int.tmod (n:Int) 10))]:List Int)++s) (by rw[JK,e1];omega)
   rw[JK,e1]at r2
   refine⟨r,Ev.step (λk=>by rw[Z4.l0]) ?_,by omega⟩
   have w1:IntKind.wrap .i64 (Int.tdiv (n:Int) 10)=((n / 10:Nat):Int):=by rw[ed,wrap_in (by omega) (by omega)]
   have hz:((10:Nat)==0)=false:=rfl
   rw[w1,hz]
   simp only[cond_false]
   simp(disch:=(try simp only[e1]);omega) only[Qb,Dj]
   exact r1
theorem Ks (n:Nat)(hn:n<=1099511627776):∃r,Ev (λk=>Z4.F k (n:Int)) r:=by
 unfold Z4.F
 by_cases c:n=0
 ·refine⟨⟨#[109,48]⟩,?_⟩
  simp(disch:=omega) only[Qb]
  exact Ev.pure _
 ·obtain⟨r,r1,r2⟩:=Q4U n hn ⟨#[]⟩ (by rw[show(⟨#[]⟩:ByteArray).size=0 from rfl];omega)
  have e0:(⟨#[]⟩:ByteArray).size=0:=rfl
  have e1:(⟨#[109]⟩:ByteArray).size=1:=rfl
  refine⟨⟨#[109]⟩++r,?_⟩
  simp(disch:=omega) only[Qk]
  refine Ev.bind r1 ?_
  simp(disch:=omega) only[e1,Dj]
  exact Ev.pure _
open Classical in
noncomputable def mt (n:Nat):ByteArray:=if h:∃r,Ev (λk=>Z4.F k (n:Int)) r then h.choose else⟨#[]⟩
theorem Qcj (n:Nat)(hn:n<=1099511627776):Ev (λk=>Z4.F k (n:Int)) (mt n):=by
 have h:=Ks n hn
 unfold mt
 rw[dif_pos h]
 exact h.choose_spec
end Go.Proofs.YtcbclpphgbbmmaaGreatDoor
end
