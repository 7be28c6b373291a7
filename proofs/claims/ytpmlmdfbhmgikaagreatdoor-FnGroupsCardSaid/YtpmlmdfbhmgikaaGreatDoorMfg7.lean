/- Plain laws: bytes,pieces,edges of a text;no function of the program. -/
import Derived.Test.YtpmlmdfbhmgikaaGreatDoorMfg6
import Derived.Test.YtpmlmdfbhmgikaaGreatDoorMfg4
import Derived.Lib.IndexBytes
import Derived.Lib.IndexLaws
import Derived.Lib.CountLaws
import Derived.Lib.Split
import Derived.Lib.SplitLaws
import Derived.Lib.TrimByte
import Derived.Lib.Join
import Derived.Lib.ItoaNum
set_option linter.unusedVariables false
set_option linter.unusedSimpArgs false
set_option maxRecDepth 100000
section
namespace Go.Proofs.YtpmlmdfbhmgikaaGreatDoor
open Go.Gx
def Z113.F (k:Nat)(a0:Entry):Option (Bool):=(Z24.F k a0.key).bind λr1=>bif (!r1)then(some false)else((Z62.F a0.kind 1 4).bind λr2=>bif (!r2)then(some false)else((Z28.F k a0.authors).bind λr3=>bif (!r3)then(some false)else((Z28.F k a0.editors).bind λr4=>bif (!r4)then(some false)else((Z29.F k a0.title).bind λr5=>bif (!r5)then(some false)else((Z29.F k a0.container).bind λr6=>bif (!r6)then(some false)else((Z29.F k a0.publisher).bind λr7=>bif (!r7)then(some false)else((Z29.F k a0.pages).bind λr8=>bif (!r8)then(some false)else((Z95.F a0.date).bind λr9=>bif r9 then((Z62.F a0.volume 0 9999).bind λr10=>bif r10 then(bif (Qo a0.cross (⟨#[]⟩:ByteArray))then(some true)else((Z24.F k a0.cross).bind λr11=>bif r11 then(some (!Qo a0.cross a0.key))else(some false)))else(some false))else(some false)))))))))
def Z113.C (k:Nat):Cal->Option CArm:=λc=>match c with
 |.f 86=>some (.p [.str] _ (λx=>Z24.F k x.1) (λr=>(.t .bool r)))
 |.f 87=>some (.p [(.int .i64),(.int .i64),(.int .i64)] _ (λx=>Z62.F x.1 x.2.1 x.2.2.1) (λr=>(.t .bool r)))
 |.f 88=>some (.p [(.sl .name)] _ (λx=>Z28.F k x.1) (λr=>(.t .bool r)))
 |.f 89=>some (.p [.str] _ (λx=>Z29.F k x.1) (λr=>(.t .bool r)))
 |.f 90=>some (.p [.date] _ (λx=>Z95.F x.1) (λr=>(.t .bool r)))
 |_=>none
theorem Z113.run (k:Nat)(a0:Entry):Qk Q0 (Q7 (Z113.C k)) (Q6 72 0 (λ_=>none)) Tryz.f57 [.t .entry a0] (Q2 (.t .bool))=Z113.F k a0:=by kernel_rfl
theorem Z113.G (hE:EnvOk Tryz.prog Q0)(pv:Nat->Value)(k:Nat):∀cal A,Z113.C k cal=some A->Q9 Tryz.prog Q0 pv cal A:=by
 intro cal A h
 unfold Z113.C at h
 split at h
 ·cases h;exact λx y hy=>Z24.good hE pv k x.1 hy
 ·cases h;exact λx y hy=>Z62.good hE pv x.1 x.2.1 x.2.2.1 hy
 ·cases h;exact λx y hy=>Z28.good hE pv k x.1 hy
 ·cases h;exact λx y hy=>Z29.good hE pv k x.1 hy
 ·cases h;exact λx y hy=>Z95.good hE pv x.1 hy
 ·cases h
theorem Z113.good (hE:EnvOk Tryz.prog Q0)(pv:Nat->Value)(k:Nat)(a0:Entry){y:_}(h:Z113.F k a0=some y):Q8 Tryz.prog Q0 pv (.f 57) (Qa [.entry] (a0,())) (.t .bool y):=
 Q4 hE (Z113.G hE pv k) (f:=57) (fn:=Tryz.f57) (by kernel_rfl) rfl (by kernel_rfl) (by kernel_rfl) ((Z113.run k a0).trans h) (λr hr=>Q1 hr)
def Z30.l0:Nat->Library->Int->Option (Sum Bool Unit)
 |0,_,_=>none
 |k+1,x1,x3=>bif (decide (x3<(x1.entries.length:Int)))then(bif decide (0<=x3)then(bif decide (x3<(x1.entries.length:Int))then((Z113.F k (x1.entries.getD (x3:Int).toNat (Q5 .entry))).bind λr1=>bif (!r1)then(some (.inl false))else(bif (decide (x3 > 0))then(bif decide (0<=(IntKind.wrap .i64 (x3-1)))then(bif decide ((IntKind.wrap .i64 (x3-1))<(x1.entries.length:Int))then(bif decide (0<=x3)then(bif decide (x3<(x1.entries.length:Int))then(bif (!ltS ((x1.entries.getD ((IntKind.wrap .i64 (x3-1)):Int).toNat (Q5 .entry)).key) ((x1.entries.getD (x3:Int).toNat (Q5 .entry)).key))then(some (.inl false))else(Z30.l0 k x1 (IntKind.wrap .i64 (x3+1))))else none)else none)else none)else none)else(Z30.l0 k x1 (IntKind.wrap .i64 (x3+1)))))else none)else none)else(some (.inr ()))
def Z30.F (k:Nat)(a0:Library):Option (Bool):=bif (decide ((a0.entries.length:Int) > 8))then(some false)else((Z30.l0 k a0 0).bind λy2=>match y2 with|.inl z3=>some z3|.inr z3=>some true)
def Z30.C (k:Nat):Cal->Option CArm:=λc=>match c with
 |.f 57=>some (.p [.entry] _ (λx=>Z113.F k x.1) (λr=>(.t .bool r)))
 |_=>none
def Z30.sp0:List Sp:=[.boxT 1 0 .lib,.t 3 (.int .i64)]
def Z30.sp0_0:List Sp:=[.t 2 .bool]
def Z30.sp0_1:List Sp:=[]
def Z30.A0:LArm:=.two Z30.sp0 Z30.sp0_0 Z30.sp0_1 (Bool) (Unit) (λk x=>Z30.l0 k x.1 x.2.1) .ret (.exit 0) (λy=>(y,())) (λx=>x.1) (λy=>()) (λx=>())
def Z30.L:Nat->Option LArm:=λb=>match b with
 |0=>some Z30.A0
 |_=>none
theorem Z30.run (k:Nat)(a0:Library):Qk Q0 (Q7 (Z30.C k)) (Q6 42 k Z30.L) Tryz.f41 [.t .lib a0] (Q2 (.t .bool))=Z30.F k a0:=by kernel_rfl
theorem Z30.step0 (k:Nat)(x1:Library)(x3:Int):Qs Q0 (Q7 (Z30.C k)) (Q6 42 k Z30.L) 0 (Qj Tryz.f41 0) (QA 42 Z30.sp0 (x1,x3,())) (Z30.A0.cont 42 k)=Z30.l0 (k+1) x1 x3:=by kernel_rfl
theorem Z30.G (hE:EnvOk Tryz.prog Q0)(pv:Nat->Value)(k:Nat):∀cal A,Z30.C k cal=some A->Q9 Tryz.prog Q0 pv cal A:=by
 intro cal A h
 unfold Z30.C at h
 split at h
 ·cases h;exact λx y hy=>Z113.good hE pv k x.1 hy
 ·cases h
theorem Z30.good (hE:EnvOk Tryz.prog Q0)(pv:Nat->Value)(k:Nat)(a0:Library){y:_}(h:Z30.F k a0=some y):Q8 Tryz.prog Q0 pv (.f 41) (Qa [.lib] (a0,())) (.t .bool y):=
 Qh hE (t:=Z30.C) k (λk _=>Z30.G hE pv k) (f:=41) (fn:=Tryz.f41) (by kernel_rfl) rfl (by kernel_rfl) (by kernel_rfl) (lt:=Z30.L) (by kernel_rfl) (λb A h=>by
  unfold Z30.L at h;split at h
  ·cases h;exact⟨by kernel_rfl,by kernel_rfl,by kernel_rfl,λ_=>rfl,λ_=>rfl,λ_=>rfl⟩
  ·cases h) (λb A h=>by
  unfold Z30.L at h;split at h
  ·cases h;exact λk x=>Z30.step0 k x.1 x.2.1
  ·cases h) ((Z30.run k a0).trans h) (λr hr=>Q1 hr)
def Z2.l2:Nat->(List ByteArray)->Library->Int->Int->Option (Sum Bool ((List ByteArray)×Library×Int))
 |0,_,_,_,_=>none
 |k+1,x1,x2,x5,x6=>bif (decide (x6<x5))then(bif decide (0<=x6)then(bif decide (x6<(x1.length:Int))then(bif decide (0<=x5)then(bif decide (x5<(x1.length:Int))then(bif (Qo (x1.getD (x6:Int).toNat (⟨#[]⟩:ByteArray)) (x1.getD (x5:Int).toNat (⟨#[]⟩:ByteArray)))then(some (.inl false))else(Z2.l2 k x1 x2 x5 (IntKind.wrap .i64 (x6+1))))else none)else none)else none)else none)else(some (.inr (x1,x2,x5)))
def Z2.l0:Nat->(List ByteArray)->Library->Int->Option (Sum Bool Unit)
 |0,_,_,_=>none
 |k+1,x1,x2,x5=>bif (decide (x5<(x1.length:Int)))then(bif decide (0<=x5)then(bif decide (x5<(x1.length:Int))then((Z1.F k x2 (x1.getD (x5:Int).toNat (⟨#[]⟩:ByteArray))).bind λr2=>bif (decide (r2<0))then(some (.inl false))else((Z2.l2 k x1 x2 x5 0).bind λy3=>match y3 with|.inl z4=>some (.inl z4)|.inr z4=>Z2.l0 k z4.1 z4.2.1 (IntKind.wrap .i64 (z4.2.2+1))))else none)else none)else(some (.inr ()))
def Z2.F (k:Nat)(a0:Library)(a1:List ByteArray):Option (Bool):=(Z30.F k a0).bind λr1=>bif (!r1)then(some false)else((Z2.l0 k a1 a0 0).bind λy5=>match y5 with|.inl z6=>some z6|.inr z6=>some true)
def Z2.C (k:Nat):Cal->Option CArm:=λc=>match c with
 |.f 41=>some (.p [.lib] _ (λx=>Z30.F k x.1) (λr=>(.t .bool r)))
 |.f 23=>some (.p [.lib,.str] _ (λx=>Z1.F k x.1 x.2.1) (λr=>(.t (.int .i64) r)))
 |_=>none
def Z2.sp2:List Sp:=[.t 1 (.sl .str),.boxT 2 0 .lib,.t 5 (.int .i64),.t 6 (.int .i64)]
def Z2.sp2_0:List Sp:=[.t 4 .bool]
def Z2.sp2_1:List Sp:=[.t 1 (.sl .str),.boxT 2 0 .lib,.t 5 (.int .i64)]
def Z2.A2:LArm:=.two Z2.sp2 Z2.sp2_0 Z2.sp2_1 (Bool) ((List ByteArray)×Library×Int) (λk x=>Z2.l2 k x.1 x.2.1 x.2.2.1 x.2.2.2.1) .ret (.exit 2) (λy=>(y,())) (λx=>x.1) (λy=>(y.1,y.2.1,y.2.2,())) (λx=>(x.1,x.2.1,x.2.2.1))
def Z2.sp0:List Sp:=[.t 1 (.sl .str),.boxT 2 0 .lib,.t 5 (.int .i64)]
def Z2.sp0_0:List Sp:=[.t 4 .bool]
def Z2.sp0_1:List Sp:=[]
def Z2.A0:LArm:=.two Z2.sp0 Z2.sp0_0 Z2.sp0_1 (Bool) (Unit) (λk x=>Z2.l0 k x.1 x.2.1 x.2.2.1) .ret (.exit 0) (λy=>(y,())) (λx=>x.1) (λy=>()) (λx=>())
def Z2.L:Nat->Option LArm:=λb=>match b with
 |2=>some Z2.A2
 |0=>some Z2.A0
 |_=>none
theorem Z2.run (k:Nat)(a0:Library)(a1:List ByteArray):Qk Q0 (Q7 (Z2.C k)) (Q6 37 k Z2.L) Tryz.f22 [.t .lib a0,.t (.sl .str) a1] (Q2 (.t .bool))=Z2.F k a0 a1:=by kernel_rfl
theorem Z2.step2 (k:Nat)(x1:List ByteArray)(x2:Library)(x5:Int)(x6:Int):Qs Q0 (Q7 (Z2.C k)) (Q6 37 k Z2.L) 2 (Qj Tryz.f22 2) (QA 37 Z2.sp2 (x1,x2,x5,x6,())) (Z2.A2.cont 37 k)=Z2.l2 (k+1) x1 x2 x5 x6:=by kernel_rfl
theorem Z2.step0 (k:Nat)(x1:List ByteArray)(x2:Library)(x5:Int):Qs Q0 (Q7 (Z2.C k)) (Q6 37 k Z2.L) 0 (Qj Tryz.f22 0) (QA 37 Z2.sp0 (x1,x2,x5,())) (Z2.A0.cont 37 k)=Z2.l0 (k+1) x1 x2 x5:=by kernel_rfl
theorem Z2.G (hE:EnvOk Tryz.prog Q0)(pv:Nat->Value)(k:Nat):∀cal A,Z2.C k cal=some A->Q9 Tryz.prog Q0 pv cal A:=by
 intro cal A h
 unfold Z2.C at h
 split at h
 ·cases h;exact λx y hy=>Z30.good hE pv k x.1 hy
 ·cases h;exact λx y hy=>Z1.good hE pv k x.1 x.2.1 hy
 ·cases h
theorem Z2.good (hE:EnvOk Tryz.prog Q0)(pv:Nat->Value)(k:Nat)(a0:Library)(a1:List ByteArray){y:_}(h:Z2.F k a0 a1=some y):Q8 Tryz.prog Q0 pv (.f 22) (Qa [.lib,(.sl .str)] (a0,a1,())) (.t .bool y):=
 Qh hE (t:=Z2.C) k (λk _=>Z2.G hE pv k) (f:=22) (fn:=Tryz.f22) (by kernel_rfl) rfl (by kernel_rfl) (by kernel_rfl) (lt:=Z2.L) (by kernel_rfl) (λb A h=>by
  unfold Z2.L at h;split at h
  ·cases h;exact⟨by kernel_rfl,by kernel_rfl,by kernel_rfl,λ_=>rfl,λ_=>rfl,λ_=>rfl⟩
  ·cases h;exact⟨by kernel_rfl,by kernel_rfl,by kernel_rfl,λ_=>rfl,λ_=>rfl,λ_=>rfl⟩
  ·cases h) (λb A h=>by
  unfold Z2.L at h;split at h
  ·cases h;exact λk x=>Z2.step2 k x.1 x.2.1 x.2.2.1 x.2.2.2.1
  ·cases h;exact λk x=>Z2.step0 k x.1 x.2.1 x.2.2.1
  ·cases h) ((Z2.run k a0 a1).trans h) (λr hr=>Q1 hr)
def Z33.l0:Nat->(List ByteArray)->(List ByteArray)->Int->Option (Sum Bool ((List ByteArray)× (List ByteArray)))
 |0,_,_,_=>none
 |k+1,x0,x1,x5=>bif (decide (x5<(x0.length:Int)))then(bif (decide (x5<(x1.length:Int)))then(bif decide (0<=x5)then(bif decide (x5<(x0.length:Int))then(bif decide (0<=x5)then(bif decide (x5<(x1.length:Int))then(bif (!Qo (x0.getD (x5:Int).toNat (⟨#[]⟩:ByteArray)) (x1.getD (x5:Int).toNat (⟨#[]⟩:ByteArray)))then(some (.inl false))else(Z33.l0 k x0 x1 (IntKind.wrap .i64 (x5+1))))else none)else none)else none)else none)else(some (.inr (x0,x1))))else(some (.inr (x0,x1)))
def Z33.F (k:Nat)(a0:List ByteArray)(a1:List ByteArray):Option (Bool):=(Z33.l0 k a0 a1 0).bind λy1=>match y1 with|.inl z2=>some z2|.inr z2=>some ((z2.1.length:Int)==(z2.2.length:Int))
def Z33.C (k:Nat):Cal->Option CArm:=λc=>match c with
 |_=>none
def Z33.sp0:List Sp:=[.t 0 (.sl .str),.t 1 (.sl .str),.t 5 (.int .i64)]
def Z33.sp0_0:List Sp:=[.t 4 .bool]
def Z33.sp0_1:List Sp:=[.t 0 (.sl .str),.t 1 (.sl .str)]
def Z33.A0:LArm:=.two Z33.sp0 Z33.sp0_0 Z33.sp0_1 (Bool) ((List ByteArray)× (List ByteArray)) (λk x=>Z33.l0 k x.1 x.2.1 x.2.2.1) .ret (.exit 0) (λy=>(y,())) (λx=>x.1) (λy=>(y.1,y.2,())) (λx=>(x.1,x.2.1))
def Z33.L:Nat->Option LArm:=λb=>match b with
 |0=>some Z33.A0
 |_=>none
theorem Z33.run (k:Nat)(a0:List ByteArray)(a1:List ByteArray):Qk Q0 (Q7 (Z33.C k)) (Q6 32 k Z33.L) Tryz.f42 [.t (.sl .str) a0,.t (.sl .str) a1] (Q2 (.t .bool))=Z33.F k a0 a1:=by kernel_rfl
theorem Z33.step0 (k:Nat)(x0:List ByteArray)(x1:List ByteArray)(x5:Int):Qs Q0 (Q7 (Z33.C k)) (Q6 32 k Z33.L) 0 (Qj Tryz.f42 0) (QA 32 Z33.sp0 (x0,x1,x5,())) (Z33.A0.cont 32 k)=Z33.l0 (k+1) x0 x1 x5:=by kernel_rfl
theorem Z33.G (hE:EnvOk Tryz.prog Q0)(pv:Nat->Value)(k:Nat):∀cal A,Z33.C k cal=some A->Q9 Tryz.prog Q0 pv cal A:=by
 intro cal A h
 unfold Z33.C at h
 cases h
theorem Z33.good (hE:EnvOk Tryz.prog Q0)(pv:Nat->Value)(k:Nat)(a0:List ByteArray)(a1:List ByteArray){y:_}(h:Z33.F k a0 a1=some y):Q8 Tryz.prog Q0 pv (.f 42) (Qa [(.sl .str),(.sl .str)] (a0,a1,())) (.t .bool y):=
 Qh hE (t:=Z33.C) k (λk _=>Z33.G hE pv k) (f:=42) (fn:=Tryz.f42) (by kernel_rfl) rfl (by kernel_rfl) (by kernel_rfl) (lt:=Z33.L) (by kernel_rfl) (λb A h=>by
  unfold Z33.L at h;split at h
  ·cases h;exact⟨by kernel_rfl,by kernel_rfl,by kernel_rfl,λ_=>rfl,λ_=>rfl,λ_=>rfl⟩
  ·cases h) (λb A h=>by
  unfold Z33.L at h;split at h
  ·cases h;exact λk x=>Z33.step0 k x.1 x.2.1 x.2.2.1
  ·cases h) ((Z33.run k a0 a1).trans h) (λr hr=>Q1 hr)
def Z96.F (k:Nat)(a0:Name)(a1:Name):Option (Bool):=(Z33.F k a0.given a1.given).bind λr1=>bif r1 then(bif (Qo a0.particle a1.particle)then(bif (Qo a0.family a1.family)then(some (Qo a0.suffix a1.suffix))else(some false))else(some false))else(some false)
def Z96.C (k:Nat):Cal->Option CArm:=λc=>match c with
 |.f 42=>some (.p [(.sl .str),(.sl .str)] _ (λx=>Z33.F k x.1 x.2.1) (λr=>(.t .bool r)))
 |_=>none
theorem Z96.run (k:Nat)(a0:Name)(a1:Name):Qk Q0 (Q7 (Z96.C k)) (Q6 31 0 (λ_=>none)) Tryz.f24 [.t .name a0,.t .name a1] (Q2 (.t .bool))=Z96.F k a0 a1:=by kernel_rfl
theorem Z96.G (hE:EnvOk Tryz.prog Q0)(pv:Nat->Value)(k:Nat):∀cal A,Z96.C k cal=some A->Q9 Tryz.prog Q0 pv cal A:=by
 intro cal A h
 unfold Z96.C at h
 split at h
 ·cases h;exact λx y hy=>Z33.good hE pv k x.1 x.2.1 hy
 ·cases h
theorem Z96.good (hE:EnvOk Tryz.prog Q0)(pv:Nat->Value)(k:Nat)(a0:Name)(a1:Name){y:_}(h:Z96.F k a0 a1=some y):Q8 Tryz.prog Q0 pv (.f 24) (Qa [.name,.name] (a0,a1,())) (.t .bool y):=
 Q4 hE (Z96.G hE pv k) (f:=24) (fn:=Tryz.f24) (by kernel_rfl) rfl (by kernel_rfl) (by kernel_rfl) ((Z96.run k a0 a1).trans h) (λr hr=>Q1 hr)
def Z0.l2:Nat->(List ByteArray)->Library->(List Name)->(List Name)->Int->Bool->Int->Option ((List ByteArray)×Library× (List Name)× (List Name)×Int×Bool)
 |0,_,_,_,_,_,_,_=>none
 |k+1,x1,x2,x6,x7,x8,x9,x10=>bif (decide (x10<x8))then(bif x9 then(bif decide (0<=x10)then(bif decide (x10<(x7.length:Int))then(bif decide (0<=x8)then(bif decide (x8<(x7.length:Int))then((Z96.F k (x7.getD (x10:Int).toNat (Q5 .name)) (x7.getD (x8:Int).toNat (Q5 .name))).bind λr3=>Z0.l2 k x1 x2 x6 x7 x8 (!r3) (IntKind.wrap .i64 (x10+1)))else none)else none)else none)else none)else(Z0.l2 k x1 x2 x6 x7 x8 false (IntKind.wrap .i64 (x10+1))))else(some (x1,x2,x6,x7,x8,x9))
def Z0.l6:Nat->(List ByteArray)->Library->(List Name)->(List Name)->Int->Bool->Int->Bool->(List Name)->Int->Option ((List ByteArray)×Library× (List Name)× (List Name)×Int×Bool×Int×Bool)
 |0,_,_,_,_,_,_,_,_,_,_=>none
 |k+1,x1,x2,x6,x7,x8,x9,x11,x12,x13,x14=>bif (decide (x14<(x13.length:Int)))then(bif x12 then(Z0.l6 k x1 x2 x6 x7 x8 x9 x11 true x13 (IntKind.wrap .i64 (x14+1)))else(bif decide (0<=x14)then(bif decide (x14<(x13.length:Int))then(bif decide (0<=x8)then(bif decide (x8<(x7.length:Int))then((Z96.F k (x13.getD (x14:Int).toNat (Q5 .name)) (x7.getD (x8:Int).toNat (Q5 .name))).bind λr6=>Z0.l6 k x1 x2 x6 x7 x8 x9 x11 r6 x13 (IntKind.wrap .i64 (x14+1)))else none)else none)else none)else none))else(some (x1,x2,x6,x7,x8,x9,x11,x12))
def Z0.l4:Nat->(List ByteArray)->Library->(List Name)->(List Name)->Int->Bool->Int->Option ((List ByteArray)×Library× (List Name)× (List Name)×Int×Bool)
 |0,_,_,_,_,_,_,_=>none
 |k+1,x1,x2,x6,x7,x8,x9,x11=>bif (decide (x11<(x1.length:Int)))then(bif decide (0<=x11)then(bif decide (x11<(x1.length:Int))then((Z1.F k x2 (x1.getD (x11:Int).toNat (⟨#[]⟩:ByteArray))).bind λr5=>bif decide (0<=r5)then(bif decide (r5<(x2.entries.length:Int))then((Z0.l6 k x1 x2 x6 x7 x8 x9 x11 false ((x2.entries.getD (r5:Int).toNat (Q5 .entry)).authors) 0).bind λy7=>bif y7.2.2.2.2.2.1 then(Z0.l4 k y7.1 y7.2.1 y7.2.2.1 y7.2.2.2.1 y7.2.2.2.2.1 y7.2.2.2.2.2.2.2 (IntKind.wrap .i64 (y7.2.2.2.2.2.2.1+1)))else(Z0.l4 k y7.1 y7.2.1 y7.2.2.1 y7.2.2.2.1 y7.2.2.2.2.1 false (IntKind.wrap .i64 (y7.2.2.2.2.2.2.1+1))))else none)else none)else none)else none)else(some (x1,x2,x6,x7,x8,x9))
def Z0.l0:Nat->(List ByteArray)->Library->(List Name)->(List Name)->Int->Option ((List Name))
 |0,_,_,_,_,_=>none
 |k+1,x1,x2,x6,x7,x8=>bif (decide (x8<(x7.length:Int)))then((Z0.l2 k x1 x2 x6 x7 x8 true 0).bind λy4=>(Z0.l4 k y4.1 y4.2.1 y4.2.2.1 y4.2.2.2.1 y4.2.2.2.2.1 y4.2.2.2.2.2 1).bind λy8=>bif y8.2.2.2.2.2 then(bif decide (0<=y8.2.2.2.2.1)then(bif decide (y8.2.2.2.2.1<(y8.2.2.2.1.length:Int))then((Z13.F k ([(y8.2.2.2.1.getD (y8.2.2.2.2.1:Int).toNat (Q5 .name))]:List Name)).bind λr9=>bif room (y8.2.2.1.length+r9.length) .name then(Z0.l0 k y8.1 y8.2.1 (y8.2.2.1++r9) y8.2.2.2.1 (IntKind.wrap .i64 (y8.2.2.2.2.1+1)))else none)else none)else none)else(Z0.l0 k y8.1 y8.2.1 y8.2.2.1 y8.2.2.2.1 (IntKind.wrap .i64 (y8.2.2.2.2.1+1))))else(some x6)
def Z0.F (k:Nat)(a0:Library)(a1:List ByteArray):Option ((List Name)×Bool):=(Z2.F k a0 a1).bind λr1=>bif (!r1)then(some (([]:List Name),false))else(bif ((a1.length:Int)==0)then(some (([]:List Name),true))else(bif decide (0<=0)then(bif decide (0<(a1.length:Int))then((Z1.F k a0 (a1.getD (0:Int).toNat (⟨#[]⟩:ByteArray))).bind λr2=>bif decide (0<=r2)then(bif decide (r2<(a0.entries.length:Int))then((Z0.l0 k a1 a0 ([]:List Name) ((a0.entries.getD (r2:Int).toNat (Q5 .entry)).authors) 0).bind λy10=>some (y10,true))else none)else none)else none)else none))
def Z0.C (k:Nat):Cal->Option CArm:=λc=>match c with
 |.f 22=>some (.p [.lib,(.sl .str)] _ (λx=>Z2.F k x.1 x.2.1) (λr=>(.t .bool r)))
 |.f 23=>some (.p [.lib,.str] _ (λx=>Z1.F k x.1 x.2.1) (λr=>(.t (.int .i64) r)))
 |.f 24=>some (.p [.name,.name] _ (λx=>Z96.F k x.1 x.2.1) (λr=>(.t .bool r)))
 |.f 25=>some (.p [(.sl .name)] _ (λx=>Z13.F k x.1) (λr=>(.fr 55 .name r)))
 |_=>none
def Z0.sp2:List Sp:=[.t 1 (.sl .str),.boxT 2 0 .lib,.own 6 1024 55 .name false true,.t 7 (.sl .name),.t 8 (.int .i64),.t 9 .bool,.t 10 (.int .i64)]
def Z0.sp2_0:List Sp:=[.t 1 (.sl .str),.boxT 2 0 .lib,.own 6 1024 55 .name false true,.t 7 (.sl .name),.t 8 (.int .i64),.t 9 .bool]
def Z0.A2:LArm:=.one Z0.sp2 Z0.sp2_0 ((List ByteArray)×Library× (List Name)× (List Name)×Int×Bool) (λk x=>Z0.l2 k x.1 x.2.1 x.2.2.1 x.2.2.2.1 x.2.2.2.2.1 x.2.2.2.2.2.1 x.2.2.2.2.2.2.1) (.exit 2) (λy=>(y.1,y.2.1,y.2.2.1,y.2.2.2.1,y.2.2.2.2.1,y.2.2.2.2.2,())) (λx=>(x.1,x.2.1,x.2.2.1,x.2.2.2.1,x.2.2.2.2.1,x.2.2.2.2.2.1))
def Z0.sp6:List Sp:=[.t 1 (.sl .str),.boxT 2 0 .lib,.own 6 1024 55 .name false true,.t 7 (.sl .name),.t 8 (.int .i64),.t 9 .bool,.t 11 (.int .i64),.t 12 .bool,.t 13 (.sl .name),.t 14 (.int .i64)]
def Z0.sp6_0:List Sp:=[.t 1 (.sl .str),.boxT 2 0 .lib,.own 6 1024 55 .name false true,.t 7 (.sl .name),.t 8 (.int .i64),.t 9 .bool,.t 11 (.int .i64),.t 12 .bool]
def Z0.A6:LArm:=.one Z0.sp6 Z0.sp6_0 ((List ByteArray)×Library× (List Name)× (List Name)×Int×Bool×Int×Bool) (λk x=>Z0.l6 k x.1 x.2.1 x.2.2.1 x.2.2.2.1 x.2.2.2.2.1 x.2.2.2.2.2.1 x.2.2.2.2.2.2.1 x.2.2.2.2.2.2.2.1 x.2.2.2.2.2.2.2.2.1 x.2.2.2.2.2.2.2.2.2.1) (.exit 6) (λy=>(y.1,y.2.1,y.2.2.1,y.2.2.2.1,y.2.2.2.2.1,y.2.2.2.2.2.1,y.2.2.2.2.2.2.1,y.2.2.2.2.2.2.2,())) (λx=>(x.1,x.2.1,x.2.2.1,x.2.2.2.1,x.2.2.2.2.1,x.2.2.2.2.2.1,x.2.2.2.2.2.2.1,x.2.2.2.2.2.2.2.1))
def Z0.sp4:List Sp:=[.t 1 (.sl .str),.boxT 2 0 .lib,.own 6 1024 55 .name false true,.t 7 (.sl .name),.t 8 (.int .i64),.t 9 .bool,.t 11 (.int .i64)]
def Z0.sp4_0:List Sp:=[.t 1 (.sl .str),.boxT 2 0 .lib,.own 6 1024 55 .name false true,.t 7 (.sl .name),.t 8 (.int .i64),.t 9 .bool]
def Z0.A4:LArm:=.one Z0.sp4 Z0.sp4_0 ((List ByteArray)×Library× (List Name)× (List Name)×Int×Bool) (λk x=>Z0.l4 k x.1 x.2.1 x.2.2.1 x.2.2.2.1 x.2.2.2.2.1 x.2.2.2.2.2.1 x.2.2.2.2.2.2.1) (.exit 4) (λy=>(y.1,y.2.1,y.2.2.1,y.2.2.2.1,y.2.2.2.2.1,y.2.2.2.2.2,())) (λx=>(x.1,x.2.1,x.2.2.1,x.2.2.2.1,x.2.2.2.2.1,x.2.2.2.2.2.1))
def Z0.sp0:List Sp:=[.t 1 (.sl .str),.boxT 2 0 .lib,.own 6 1024 55 .name false true,.t 7 (.sl .name),.t 8 (.int .i64)]
def Z0.sp0_0:List Sp:=[.own 6 1024 55 .name false true]
def Z0.A0:LArm:=.one Z0.sp0 Z0.sp0_0 ((List Name)) (λk x=>Z0.l0 k x.1 x.2.1 x.2.2.1 x.2.2.2.1 x.2.2.2.2.1) (.exit 0) (λy=>(y,())) (λx=>x.1)
def Z0.L:Nat->Option LArm:=λb=>match b with
 |2=>some Z0.A2
 |6=>some Z0.A6
 |4=>some Z0.A4
 |0=>some Z0.A0
 |_=>none
theorem Z0.run (k:Nat)(a0:Library)(a1:List ByteArray):Qk Q0 (Q7 (Z0.C k)) (Q6 108 k Z0.L) Tryz.f7 [.t .lib a0,.t (.sl .str) a1] (DL (.fr 55 .name) (.t .bool))=Z0.F k a0 a1:=by kernel_rfl
theorem Z0.step2 (k:Nat)(x1:List ByteArray)(x2:Library)(x6:List Name)(x7:List Name)(x8:Int)(x9:Bool)(x10:Int):Qs Q0 (Q7 (Z0.C k)) (Q6 108 k Z0.L) 2 (Qj Tryz.f7 2) (QA 108 Z0.sp2 (x1,x2,x6,x7,x8,x9,x10,())) (Z0.A2.cont 108 k)=Z0.l2 (k+1) x1 x2 x6 x7 x8 x9 x10:=by kernel_rfl
theorem Z0.step6 (k:Nat)(x1:List ByteArray)(x2:Library)(x6:List Name)(x7:List Name)(x8:Int)(x9:Bool)(x11:Int)(x12:Bool)(x13:List Name)(x14:Int):Qs Q0 (Q7 (Z0.C k)) (Q6 108 k Z0.L) 6 (Qj Tryz.f7 6) (QA 108 Z0.sp6 (x1,x2,x6,x7,x8,x9,x11,x12,x13,x14,())) (Z0.A6.cont 108 k)=Z0.l6 (k+1) x1 x2 x6 x7 x8 x9 x11 x12 x13 x14:=by kernel_rfl
theorem Z0.step4 (k:Nat)(x1:List ByteArray)(x2:Library)(x6:List Name)(x7:List Name)(x8:Int)(x9:Bool)(x11:Int):Qs Q0 (Q7 (Z0.C k)) (Q6 108 k Z0.L) 4 (Qj Tryz.f7 4) (QA 108 Z0.sp4 (x1,x2,x6,x7,x8,x9,x11,())) (Z0.A4.cont 108 k)=Z0.l4 (k+1) x1 x2 x6 x7 x8 x9 x11:=by kernel_rfl
theorem Z0.step0 (k:Nat)(x1:List ByteArray)(x2:Library)(x6:List Name)(x7:List Name)(x8:Int):Qs Q0 (Q7 (Z0.C k)) (Q6 108 k Z0.L) 0 (Qj Tryz.f7 0) (QA 108 Z0.sp0 (x1,x2,x6,x7,x8,())) (Z0.A0.cont 108 k)=Z0.l0 (k+1) x1 x2 x6 x7 x8:=by kernel_rfl
theorem Z0.G (hE:EnvOk Tryz.prog Q0)(pv:Nat->Value)(k:Nat):∀cal A,Z0.C k cal=some A->Q9 Tryz.prog Q0 pv cal A:=by
 intro cal A h
 unfold Z0.C at h
 split at h
 ·cases h;exact λx y hy=>Z2.good hE pv k x.1 x.2.1 hy
 ·cases h;exact λx y hy=>Z1.good hE pv k x.1 x.2.1 hy
 ·cases h;exact λx y hy=>Z96.good hE pv k x.1 x.2.1 hy
 ·cases h;exact λx y hy=>Z13.good hE pv k x.1 hy
 ·cases h
theorem Z0.good (hE:EnvOk Tryz.prog Q0)(pv:Nat->Value)(k:Nat)(a0:Library)(a1:List ByteArray){y:_}(h:Z0.F k a0 a1=some y):Q8 Tryz.prog Q0 pv (.f 7) (Qa [.lib,(.sl .str)] (a0,a1,())) (.tup [.fr 55 .name y.1,.t .bool y.2]):=
 Qh hE (t:=Z0.C) k (λk _=>Z0.G hE pv k) (f:=7) (fn:=Tryz.f7) (by kernel_rfl) rfl (by kernel_rfl) (by kernel_rfl) (lt:=Z0.L) (by kernel_rfl) (λb A h=>by
  unfold Z0.L at h;split at h
  ·cases h;exact⟨by kernel_rfl,by kernel_rfl,λ_=>rfl,λ_=>rfl⟩
  ·cases h;exact⟨by kernel_rfl,by kernel_rfl,λ_=>rfl,λ_=>rfl⟩
  ·cases h;exact⟨by kernel_rfl,by kernel_rfl,λ_=>rfl,λ_=>rfl⟩
  ·cases h;exact⟨by kernel_rfl,by kernel_rfl,λ_=>rfl,λ_=>rfl⟩
  ·cases h) (λb A h=>by
  unfold Z0.L at h;split at h
  ·cases h;exact λk x=>Z0.step2 k x.1 x.2.1 x.2.2.1 x.2.2.2.1 x.2.2.2.2.1 x.2.2.2.2.2.1 x.2.2.2.2.2.2.1
  ·cases h;exact λk x=>Z0.step6 k x.1 x.2.1 x.2.2.1 x.2.2.2.1 x.2.2.2.2.1 x.2.2.2.2.2.1 x.2.2.2.2.2.2.1 x.2.2.2.2.2.2.2.1 x.2.2.2.2.2.2.2.2.1 x.2.2.2.2.2.2.2.2.2.1
  ·cases h;exact λk x=>Z0.step4 k x.1 x.2.1 x.2.2.1 x.2.2.2.1 x.2.2.2.2.1 x.2.2.2.2.2.1 x.2.2.2.2.2.2.1
  ·cases h;exact λk x=>Z0.step0 k x.1 x.2.1 x.2.2.1 x.2.2.2.1 x.2.2.2.2.1
  ·cases h) ((Z0.run k a0 a1).trans h) (λr hr=>Dw hr)
def Z41.l0:Nat->(List ByteArray)->(List ByteArray)->Int->Option (Sum Bool Unit)
 |0,_,_,_=>none
 |k+1,x0,x1,x5=>bif (decide (x5<(x0.length:Int)))then(bif decide (0<=x5)then(bif decide (x5<(x0.length:Int))then(bif decide (0<=x5)then(bif decide (x5<(x1.length:Int))then(bif (!Qo (x0.getD (x5:Int).toNat (⟨#[]⟩:ByteArray)) (x1.getD (x5:Int).toNat (⟨#[]⟩:ByteArray)))then(some (.inl false))else(Z41.l0 k x0 x1 (IntKind.wrap .i64 (x5+1))))else none)else none)else none)else none)else(some (.inr ()))
def Z41.F (k:Nat)(a0:List ByteArray)(a1:List ByteArray):Option (Bool):=bif ((a0.length:Int) != (a1.length:Int))then(some false)else((Z41.l0 k a0 a1 0).bind λy1=>match y1 with|.inl z2=>some z2|.inr z2=>some true)
def Z41.C (k:Nat):Cal->Option CArm:=λc=>match c with
 |_=>none
def Z41.sp0:List Sp:=[.t 0 (.sl .str),.t 1 (.sl .str),.t 5 (.int .i64)]
def Z41.sp0_0:List Sp:=[.t 4 .bool]
def Z41.sp0_1:List Sp:=[]
def Z41.A0:LArm:=.two Z41.sp0 Z41.sp0_0 Z41.sp0_1 (Bool) (Unit) (λk x=>Z41.l0 k x.1 x.2.1 x.2.2.1) .ret (.exit 0) (λy=>(y,())) (λx=>x.1) (λy=>()) (λx=>())
def Z41.L:Nat->Option LArm:=λb=>match b with
 |0=>some Z41.A0
 |_=>none
theorem Z41.run (k:Nat)(a0:List ByteArray)(a1:List ByteArray):Qk Q0 (Q7 (Z41.C k)) (Q6 26 k Z41.L) Tryz.f43 [.t (.sl .str) a0,.t (.sl .str) a1] (Q2 (.t .bool))=Z41.F k a0 a1:=by kernel_rfl
theorem Z41.step0 (k:Nat)(x0:List ByteArray)(x1:List ByteArray)(x5:Int):Qs Q0 (Q7 (Z41.C k)) (Q6 26 k Z41.L) 0 (Qj Tryz.f43 0) (QA 26 Z41.sp0 (x0,x1,x5,())) (Z41.A0.cont 26 k)=Z41.l0 (k+1) x0 x1 x5:=by kernel_rfl
theorem Z41.G (hE:EnvOk Tryz.prog Q0)(pv:Nat->Value)(k:Nat):∀cal A,Z41.C k cal=some A->Q9 Tryz.prog Q0 pv cal A:=by
 intro cal A h
 unfold Z41.C at h
 cases h
theorem Z41.good (hE:EnvOk Tryz.prog Q0)(pv:Nat->Value)(k:Nat)(a0:List ByteArray)(a1:List ByteArray){y:_}(h:Z41.F k a0 a1=some y):Q8 Tryz.prog Q0 pv (.f 43) (Qa [(.sl .str),(.sl .str)] (a0,a1,())) (.t .bool y):=
 Qh hE (t:=Z41.C) k (λk _=>Z41.G hE pv k) (f:=43) (fn:=Tryz.f43) (by kernel_rfl) rfl (by kernel_rfl) (by kernel_rfl) (lt:=Z41.L) (by kernel_rfl) (λb A h=>by
  unfold Z41.L at h;split at h
  ·cases h;exact⟨by kernel_rfl,by kernel_rfl,by kernel_rfl,λ_=>rfl,λ_=>rfl,λ_=>rfl⟩
  ·cases h) (λb A h=>by
  unfold Z41.L at h;split at h
  ·cases h;exact λk x=>Z41.step0 k x.1 x.2.1 x.2.2.1
  ·cases h) ((Z41.run k a0 a1).trans h) (λr hr=>Q1 hr)
def Z114.F (k:Nat)(a0:Name)(a1:Name):Option (Bool):=(Z41.F k a0.given a1.given).bind λr1=>bif r1 then(bif (Qo a0.particle a1.particle)then(bif (Qo a0.family a1.family)then(some (Qo a0.suffix a1.suffix))else(some false))else(some false))else(some false)
def Z114.C (k:Nat):Cal->Option CArm:=λc=>match c with
 |.f 43=>some (.p [(.sl .str),(.sl .str)] _ (λx=>Z41.F k x.1 x.2.1) (λr=>(.t .bool r)))
 |_=>none
theorem Z114.run (k:Nat)(a0:Name)(a1:Name):Qk Q0 (Q7 (Z114.C k)) (Q6 31 0 (λ_=>none)) Tryz.f26 [.t .name a0,.t .name a1] (Q2 (.t .bool))=Z114.F k a0 a1:=by kernel_rfl
theorem Z114.G (hE:EnvOk Tryz.prog Q0)(pv:Nat->Value)(k:Nat):∀cal A,Z114.C k cal=some A->Q9 Tryz.prog Q0 pv cal A:=by
 intro cal A h
 unfold Z114.C at h
 split at h
 ·cases h;exact λx y hy=>Z41.good hE pv k x.1 x.2.1 hy
 ·cases h
theorem Z114.good (hE:EnvOk Tryz.prog Q0)(pv:Nat->Value)(k:Nat)(a0:Name)(a1:Name){y:_}(h:Z114.F k a0 a1=some y):Q8 Tryz.prog Q0 pv (.f 26) (Qa [.name,.name] (a0,a1,())) (.t .bool y):=
 Q4 hE (Z114.G hE pv k) (f:=26) (fn:=Tryz.f26) (by kernel_rfl) rfl (by kernel_rfl) (by kernel_rfl) ((Z114.run k a0 a1).trans h) (λr hr=>Q1 hr)
def Z42.l0:Nat->(List Name)->(List Name)->Int->Option (Sum Bool Unit)
 |0,_,_,_=>none
 |k+1,x0,x1,x5=>bif (decide (x5<(x0.length:Int)))then(bif decide (0<=x5)then(bif decide (x5<(x0.length:Int))then(bif decide (0<=x5)then(bif decide (x5<(x1.length:Int))then((Z114.F k (x0.getD (x5:Int).toNat (Q5 .name)) (x1.getD (x5:Int).toNat (Q5 .name))).bind λr1=>bif (!r1)then(some (.inl false))else(Z42.l0 k x0 x1 (IntKind.wrap .i64 (x5+1))))else none)else none)else none)else none)else(some (.inr ()))
def Z42.F (k:Nat)(a0:List Name)(a1:List Name):Option (Bool):=bif ((a0.length:Int) != (a1.length:Int))then(some false)else((Z42.l0 k a0 a1 0).bind λy2=>match y2 with|.inl z3=>some z3|.inr z3=>some true)
def Z42.C (k:Nat):Cal->Option CArm:=λc=>match c with
 |.f 26=>some (.p [.name,.name] _ (λx=>Z114.F k x.1 x.2.1) (λr=>(.t .bool r)))
 |_=>none
def Z42.sp0:List Sp:=[.t 0 (.sl .name),.t 1 (.sl .name),.t 5 (.int .i64)]
def Z42.sp0_0:List Sp:=[.t 4 .bool]
def Z42.sp0_1:List Sp:=[]
def Z42.A0:LArm:=.two Z42.sp0 Z42.sp0_0 Z42.sp0_1 (Bool) (Unit) (λk x=>Z42.l0 k x.1 x.2.1 x.2.2.1) .ret (.exit 0) (λy=>(y,())) (λx=>x.1) (λy=>()) (λx=>())
def Z42.L:Nat->Option LArm:=λb=>match b with
 |0=>some Z42.A0
 |_=>none
theorem Z42.run (k:Nat)(a0:List Name)(a1:List Name):Qk Q0 (Q7 (Z42.C k)) (Q6 27 k Z42.L) Tryz.f8 [.t (.sl .name) a0,.t (.sl .name) a1] (Q2 (.t .bool))=Z42.F k a0 a1:=by kernel_rfl
theorem Z42.step0 (k:Nat)(x0:List Name)(x1:List Name)(x5:Int):Qs Q0 (Q7 (Z42.C k)) (Q6 27 k Z42.L) 0 (Qj Tryz.f8 0) (QA 27 Z42.sp0 (x0,x1,x5,())) (Z42.A0.cont 27 k)=Z42.l0 (k+1) x0 x1 x5:=by kernel_rfl
theorem Z42.G (hE:EnvOk Tryz.prog Q0)(pv:Nat->Value)(k:Nat):∀cal A,Z42.C k cal=some A->Q9 Tryz.prog Q0 pv cal A:=by
 intro cal A h
 unfold Z42.C at h
 split at h
 ·cases h;exact λx y hy=>Z114.good hE pv k x.1 x.2.1 hy
 ·cases h
theorem Z42.good (hE:EnvOk Tryz.prog Q0)(pv:Nat->Value)(k:Nat)(a0:List Name)(a1:List Name){y:_}(h:Z42.F k a0 a1=some y):Q8 Tryz.prog Q0 pv (.f 8) (Qa [(.sl .name),(.sl .name)] (a0,a1,())) (.t .bool y):=
 Qh hE (t:=Z42.C) k (λk _=>Z42.G hE pv k) (f:=8) (fn:=Tryz.f8) (by kernel_rfl) rfl (by kernel_rfl) (by kernel_rfl) (lt:=Z42.L) (by kernel_rfl) (λb A h=>by
  unfold Z42.L at h;split at h
  ·cases h;exact⟨by kernel_rfl,by kernel_rfl,by kernel_rfl,λ_=>rfl,λ_=>rfl,λ_=>rfl⟩
  ·cases h) (λb A h=>by
  unfold Z42.L at h;split at h
  ·cases h;exact λk x=>Z42.step0 k x.1 x.2.1 x.2.2.1
  ·cases h) ((Z42.run k a0 a1).trans h) (λr hr=>Q1 hr)
def Z136.F (a0:Int):Option (Int):=bif (decide (a0 ≥ 4294967296))then(bif decide (0<=32)then(bif (decide ((Int.fdiv a0 (2 ^ min (32:Int).toNat (IntKind.bits .u64))) ≥ 65536))then(bif decide (0<=16)then(bif (decide ((Int.fdiv (Int.fdiv a0 (2 ^ min (32:Int).toNat (IntKind.bits .u64))) (2 ^ min (16:Int).toNat (IntKind.bits .u64))) ≥ 256))then(bif decide (0<=8)then(bif decide (0<=(IntKind.wrap .u8 (Int.fdiv (Int.fdiv (Int.fdiv a0 (2 ^ min (32:Int).toNat (IntKind.bits .u64))) (2 ^ min (16:Int).toNat (IntKind.bits .u64))) (2 ^ min (8:Int).toNat (IntKind.bits .u64)))))then(bif decide ((IntKind.wrap .u8 (Int.fdiv (Int.fdiv (Int.fdiv a0 (2 ^ min (32:Int).toNat (IntKind.bits .u64))) (2 ^ min (16:Int).toNat (IntKind.bits .u64))) (2 ^ min (8:Int).toNat (IntKind.bits .u64))))<(YO.size:Int))then(some (IntKind.wrap .i64 ((IntKind.wrap .i64 ((IntKind.wrap .i64 (32+16))+8))+(IntKind.wrap .i64 (bt YO ((IntKind.wrap .u8 (Int.fdiv (Int.fdiv (Int.fdiv a0 (2 ^ min (32:Int).toNat (IntKind.bits .u64))) (2 ^ min (16:Int).toNat (IntKind.bits .u64))) (2 ^ min (8:Int).toNat (IntKind.bits .u64)))):Int).toNat)))))else none)else none)else none)else(bif decide (0<=(IntKind.wrap .u8 (Int.fdiv (Int.fdiv a0 (2 ^ min (32:Int).toNat (IntKind.bits .u64))) (2 ^ min (16:Int).toNat (IntKind.bits .u64)))))then(bif decide ((IntKind.wrap .u8 (Int.fdiv (Int.fdiv a0 (2 ^ min (32:Int).toNat (IntKind.bits .u64))) (2 ^ min (16:Int).toNat (IntKind.bits .u64))))<(YO.size:Int))then(some (IntKind.wrap .i64 ((IntKind.wrap .i64 (32+16))+(IntKind.wrap .i64 (bt YO ((IntKind.wrap .u8 (Int.fdiv (Int.fdiv a0 (2 ^ min (32:Int).toNat (IntKind.bits .u64))) (2 ^ min (16:Int).toNat (IntKind.bits .u64)))):Int).toNat)))))else none)else none))else none)else(bif (decide ((Int.fdiv a0 (2 ^ min (32:Int).toNat (IntKind.bits .u64))) ≥ 256))then(bif decide (0<=8)then(bif decide (0<=(IntKind.wrap .u8 (Int.fdiv (Int.fdiv a0 (2 ^ min (32:Int).toNat (IntKind.bits .u64))) (2 ^ min (8:Int).toNat (IntKind.bits .u64)))))then(bif decide ((IntKind.wrap .u8 (Int.fdiv (Int.fdiv a0 (2 ^ min (32:Int).toNat (IntKind.bits .u64))) (2 ^ min (8:Int).toNat (IntKind.bits .u64))))<(YO.size:Int))then(some (IntKind.wrap .i64 ((IntKind.wrap .i64 (32+8))+(IntKind.wrap .i64 (bt YO ((IntKind.wrap .u8 (Int.fdiv (Int.fdiv a0 (2 ^ min (32:Int).toNat (IntKind.bits .u64))) (2 ^ min (8:Int).toNat (IntKind.bits .u64)))):Int).toNat)))))else none)else none)else none)else(bif decide (0<=(IntKind.wrap .u8 (Int.fdiv a0 (2 ^ min (32:Int).toNat (IntKind.bits .u64)))))then(bif decide ((IntKind.wrap .u8 (Int.fdiv a0 (2 ^ min (32:Int).toNat (IntKind.bits .u64))))<(YO.size:Int))then(some (IntKind.wrap .i64 (32+(IntKind.wrap .i64 (bt YO ((IntKind.wrap .u8 (Int.fdiv a0 (2 ^ min (32:Int).toNat (IntKind.bits .u64)))):Int).toNat)))))else none)else none)))else none)else(bif (decide (a0 ≥ 65536))then(bif decide (0<=16)then(bif (decide ((Int.fdiv a0 (2 ^ min (16:Int).toNat (IntKind.bits .u64))) ≥ 256))then(bif decide (0<=8)then(bif decide (0<=(IntKind.wrap .u8 (Int.fdiv (Int.fdiv a0 (2 ^ min (16:Int).toNat (IntKind.bits .u64))) (2 ^ min (8:Int).toNat (IntKind.bits .u64)))))then(bif decide ((IntKind.wrap .u8 (Int.fdiv (Int.fdiv a0 (2 ^ min (16:Int).toNat (IntKind.bits .u64))) (2 ^ min (8:Int).toNat (IntKind.bits .u64))))<(YO.size:Int))then(some (IntKind.wrap .i64 ((IntKind.wrap .i64 ((IntKind.wrap .i64 (0+16))+8))+(IntKind.wrap .i64 (bt YO ((IntKind.wrap .u8 (Int.fdiv (Int.fdiv a0 (2 ^ min (16:Int).toNat (IntKind.bits .u64))) (2 ^ min (8:Int).toNat (IntKind.bits .u64)))):Int).toNat)))))else none)else none)else none)else(bif decide (0<=(IntKind.wrap .u8 (Int.fdiv a0 (2 ^ min (16:Int).toNat (IntKind.bits .u64)))))then(bif decide ((IntKind.wrap .u8 (Int.fdiv a0 (2 ^ min (16:Int).toNat (IntKind.bits .u64))))<(YO.size:Int))then(some (IntKind.wrap .i64 ((IntKind.wrap .i64 (0+16))+(IntKind.wrap .i64 (bt YO ((IntKind.wrap .u8 (Int.fdiv a0 (2 ^ min (16:Int).toNat (IntKind.bits .u64)))):Int).toNat)))))else none)else none))else none)else(bif (decide (a0 ≥ 256))then(bif decide (0<=8)then(bif decide (0<=(IntKind.wrap .u8 (Int.fdiv a0 (2 ^ min (8:Int).toNat (IntKind.bits .u64)))))then(bif decide ((IntKind.wrap .u8 (Int.fdiv a0 (2 ^ min (8:Int).toNat (IntKind.bits .u64))))<(YO.size:Int))then(some (IntKind.wrap .i64 ((IntKind.wrap .i64 (0+8))+(IntKind.wrap .i64 (bt YO ((IntKind.wrap .u8 (Int.fdiv a0 (2 ^ min (8:Int).toNat (IntKind.bits .u64)))):Int).toNat)))))else none)else none)else none)else(bif decide (0<=(IntKind.wrap .u8 a0))then(bif decide ((IntKind.wrap .u8 a0)<(YO.size:Int))then(some (IntKind.wrap .i64 (0+(IntKind.wrap .i64 (bt YO ((IntKind.wrap .u8 a0):Int).toNat)))))else none)else none)))
def Z136.C:Cal->Option CArm:=λc=>match c with
 |_=>none
theorem Z136.run (a0:Int):Qk Q0 (Q7 Z136.C) (Q6 25 0 (λ_=>none)) Tryz.f100 [.t (.int .u64) a0] (Q2 (.t (.int .i64)))=Z136.F a0:=by kernel_rfl
theorem Z136.G (hE:EnvOk Tryz.prog Q0)(pv:Nat->Value):∀cal A,Z136.C cal=some A->Q9 Tryz.prog Q0 pv cal A:=by
 intro cal A h
 unfold Z136.C at h
 cases h
theorem Z136.good (hE:EnvOk Tryz.prog Q0)(pv:Nat->Value)(a0:Int){y:_}(h:Z136.F a0=some y):Q8 Tryz.prog Q0 pv (.f 100) (Qa [(.int .u64)] (a0,())) (.t (.int .i64) y):=
 Q4 hE (Z136.G hE pv) (f:=100) (fn:=Tryz.f100) (by kernel_rfl) rfl (by kernel_rfl) (by kernel_rfl) ((Z136.run a0).trans h) (λr hr=>Q1 hr)
def Z115.F (a0:Int):Option (Int):=(Z136.F a0).bind λr1=>some r1
def Z115.C:Cal->Option CArm:=λc=>match c with
 |.f 100=>some (.p [(.int .u64)] _ (λx=>Z136.F x.1) (λr=>(.t (.int .i64) r)))
 |_=>none
theorem Z115.run (a0:Int):Qk Q0 (Q7 Z115.C) (Q6 8 0 (λ_=>none)) Tryz.f59 [.t (.int .u64) a0] (Q2 (.t (.int .i64)))=Z115.F a0:=by kernel_rfl
theorem Z115.G (hE:EnvOk Tryz.prog Q0)(pv:Nat->Value):∀cal A,Z115.C cal=some A->Q9 Tryz.prog Q0 pv cal A:=by
 intro cal A h
 unfold Z115.C at h
 split at h
 ·cases h;exact λx y hy=>Z136.good hE pv x.1 hy
 ·cases h
theorem Z115.good (hE:EnvOk Tryz.prog Q0)(pv:Nat->Value)(a0:Int){y:_}(h:Z115.F a0=some y):Q8 Tryz.prog Q0 pv (.f 59) (Qa [(.int .u64)] (a0,())) (.t (.int .i64) y):=
 Q4 hE (Z115.G hE pv) (f:=59) (fn:=Tryz.f59) (by kernel_rfl) rfl (by kernel_rfl) (by kernel_rfl) ((Z115.run a0).trans h) (λr hr=>Q1 hr)
def Z14.l0:Nat->Int->(List Int)->Int->Int->Option (Sum Int Int)
 |0,_,_,_,_=>none
 |k+1,x3,x6,x7,x8=>bif (decide (x8<x7))then(bif decide (0<=x8)then(bif decide (x8<(x6.length:Int))then(bif ((x6.getD (x8:Int).toNat 0) != x3)then(some (.inl (x6.getD (x8:Int).toNat 0)))else(Z14.l0 k x3 x6 x7 (IntKind.wrap .i64 (x8+1))))else none)else none)else(some (.inr x3))
def Z14.F (k:Nat)(a0:List Int):Option (Int):=(Z14.l0 k 0 a0 (a0.length:Int) 0).bind λy1=>match y1 with|.inl z2=>some z2|.inr z2=>some z2
def Z14.C (k:Nat):Cal->Option CArm:=λc=>match c with
 |_=>none
def Z14.sp0:List Sp:=[.t 3 (.int .i64),.t 6 (.sl (.int .i64)),.t 7 (.int .i64),.t 8 (.int .i64)]
def Z14.sp0_0:List Sp:=[.t 2 (.int .i64)]
def Z14.sp0_1:List Sp:=[.t 3 (.int .i64)]
def Z14.A0:LArm:=.two Z14.sp0 Z14.sp0_0 Z14.sp0_1 (Int) (Int) (λk x=>Z14.l0 k x.1 x.2.1 x.2.2.1 x.2.2.2.1) .ret (.exit 0) (λy=>(y,())) (λx=>x.1) (λy=>(y,())) (λx=>x.1)
def Z14.L:Nat->Option LArm:=λb=>match b with
 |0=>some Z14.A0
 |_=>none
theorem Z14.run (k:Nat)(a0:List Int):Qk Q0 (Q7 (Z14.C k)) (Q6 18 k Z14.L) Tryz.f60 [.t (.sl (.int .i64)) a0] (Q2 (.t (.int .i64)))=Z14.F k a0:=by kernel_rfl
theorem Z14.step0 (k:Nat)(x3:Int)(x6:List Int)(x7:Int)(x8:Int):Qs Q0 (Q7 (Z14.C k)) (Q6 18 k Z14.L) 0 (Qj Tryz.f60 0) (QA 18 Z14.sp0 (x3,x6,x7,x8,())) (Z14.A0.cont 18 k)=Z14.l0 (k+1) x3 x6 x7 x8:=by kernel_rfl
theorem Z14.G (hE:EnvOk Tryz.prog Q0)(pv:Nat->Value)(k:Nat):∀cal A,Z14.C k cal=some A->Q9 Tryz.prog Q0 pv cal A:=by
 intro cal A h
 unfold Z14.C at h
 cases h
theorem Z14.good (hE:EnvOk Tryz.prog Q0)(pv:Nat->Value)(k:Nat)(a0:List Int){y:_}(h:Z14.F k a0=some y):Q8 Tryz.prog Q0 pv (.f 60) (Qa [(.sl (.int .i64))] (a0,())) (.t (.int .i64) y):=
 Qh hE (t:=Z14.C) k (λk _=>Z14.G hE pv k) (f:=60) (fn:=Tryz.f60) (by kernel_rfl) rfl (by kernel_rfl) (by kernel_rfl) (lt:=Z14.L) (by kernel_rfl) (λb A h=>by
  unfold Z14.L at h;split at h
  ·cases h;exact⟨by kernel_rfl,by kernel_rfl,by kernel_rfl,λ_=>rfl,λ_=>rfl,λ_=>rfl⟩
  ·cases h) (λb A h=>by
  unfold Z14.L at h;split at h
  ·cases h;exact λk x=>Z14.step0 k x.1 x.2.1 x.2.2.1 x.2.2.2.1
  ·cases h) ((Z14.run k a0).trans h) (λr hr=>Q1 hr)
def Z97.F (a0:Entry):Option (List Name):=bif (decide ((a0.authors.length:Int) > 0))then(some a0.authors)else(some a0.editors)
def Z97.C:Cal->Option CArm:=λc=>match c with
 |_=>none
theorem Z97.run (a0:Entry):Qk Q0 (Q7 Z97.C) (Q6 11 0 (λ_=>none)) Tryz.f62 [.t .entry a0] (Q2 (.t (.sl .name)))=Z97.F a0:=by kernel_rfl
theorem Z97.G (hE:EnvOk Tryz.prog Q0)(pv:Nat->Value):∀cal A,Z97.C cal=some A->Q9 Tryz.prog Q0 pv cal A:=by
 intro cal A h
 unfold Z97.C at h
 cases h
theorem Z97.good (hE:EnvOk Tryz.prog Q0)(pv:Nat->Value)(a0:Entry){y:_}(h:Z97.F a0=some y):Q8 Tryz.prog Q0 pv (.f 62) (Qa [.entry] (a0,())) (.t (.sl .name) y):=
 Q4 hE (Z97.G hE pv) (f:=62) (fn:=Tryz.f62) (by kernel_rfl) rfl (by kernel_rfl) (by kernel_rfl) ((Z97.run a0).trans h) (λr hr=>Q1 hr)
def Z116.F (a0:ByteArray)(a1:ByteArray):Option (Int):=Q4m a0 a1
theorem Z116.good (hE:EnvOk Tryz.prog Q0)(pv:Nat->Value)(a0:ByteArray)(a1:ByteArray){y:_}(h:Z116.F a0 a1=some y):Q8 Tryz.prog Q0 pv (.f 68) (Qa [.str,.str] (a0,a1,())) (.t (.int .i64) y):=
 Q4n (fn:=Tryz.f68) (by kernel_rfl) rfl (by kernel_rfl) Tryz.strings_Compare h
def Z10.l0:Nat->(List Int)->Int->Int->Option ((List Int))
 |0,_,_,_=>none
 |k+1,x3,x9,x10=>bif (decide (x10<x9))then(bif decide (0<=x10)then(bif decide (x10<(x3.length:Int))then((Z66.F (x3.getD ((x10:Int).toNat) 0)).bind λr1=>bif r1 then(bif decide (0<=x10)then(bif decide (x10<(x3.length:Int))then(Z10.l0 k (x3.set ((x10:Int).toNat) (IntKind.wrap .u8 ((IntKind.wrap .u8 ((x3.getD ((x10:Int).toNat) 0)+97))-65))) x9 (IntKind.wrap .i64 (x10+1)))else none)else none)else(Z10.l0 k x3 x9 (IntKind.wrap .i64 (x10+1))))else none)else none)else(some x3)
def Z10.F (k:Nat)(a0:ByteArray):Option (ByteArray):=bif Nat.ble a0.size 9223372036854775807 then((Z10.l0 k (Qf a0) ((Qf a0).length:Int) 0).bind λy2=>some (DJ y2))else none
def Z10.C (k:Nat):Cal->Option CArm:=λc=>match c with
 |.f 127=>some (.p [(.int .u8)] _ (λx=>Z66.F x.1) (λr=>(.t .bool r)))
 |_=>none
def Z10.sp0:List Sp:=[.own 3 1028 5 (.int .u8) false false,.con 8 (.own 1028),.t 9 (.int .i64),.t 10 (.int .i64)]
def Z10.sp0_0:List Sp:=[.own 3 1028 5 (.int .u8) false false]
def Z10.A0:LArm:=.one Z10.sp0 Z10.sp0_0 ((List Int)) (λk x=>Z10.l0 k x.1 x.2.2.1 x.2.2.2.1) (.exit 0) (λy=>(y,())) (λx=>x.1)
def Z10.L:Nat->Option LArm:=λb=>match b with
 |0=>some Z10.A0
 |_=>none
theorem Z10.run (k:Nat)(a0:ByteArray):Qk Q0 (Q7 (Z10.C k)) (Q6 26 k Z10.L) Tryz.f101 [.t .str a0] (Q2 (.t .str))=Z10.F k a0:=by kernel_rfl
theorem Z10.step0 (k:Nat)(x3:List Int)(x9:Int)(x10:Int):Qs Q0 (Q7 (Z10.C k)) (Q6 26 k Z10.L) 0 (Qj Tryz.f101 0) (QA 26 Z10.sp0 (x3,(),x9,x10,())) (Z10.A0.cont 26 k)=Z10.l0 (k+1) x3 x9 x10:=by kernel_rfl
theorem Z10.G (hE:EnvOk Tryz.prog Q0)(pv:Nat->Value)(k:Nat):∀cal A,Z10.C k cal=some A->Q9 Tryz.prog Q0 pv cal A:=by
 intro cal A h
 unfold Z10.C at h
 split at h
 ·cases h;exact λx y hy=>Z66.good hE pv x.1 hy
 ·cases h
theorem Z10.good (hE:EnvOk Tryz.prog Q0)(pv:Nat->Value)(k:Nat)(a0:ByteArray){y:_}(h:Z10.F k a0=some y):Q8 Tryz.prog Q0 pv (.f 101) (Qa [.str] (a0,())) (.t .str y):=
 Qh hE (t:=Z10.C) k (λk _=>Z10.G hE pv k) (f:=101) (fn:=Tryz.f101) (by kernel_rfl) rfl (by kernel_rfl) (by kernel_rfl) (lt:=Z10.L) (by kernel_rfl) (λb A h=>by
  unfold Z10.L at h;split at h
  ·cases h;exact⟨by kernel_rfl,by kernel_rfl,λ_=>rfl,λ_=>rfl⟩
  ·cases h) (λb A h=>by
  unfold Z10.L at h;split at h
  ·cases h;exact λk x=>Z10.step0 k x.1 x.2.2.1 x.2.2.2.1
  ·cases h) ((Z10.run k a0).trans h) (λr hr=>Q1 hr)
def Z137.F (a0:List ByteArray)(a1:ByteArray):Option (ByteArray):=Q4l a0 a1
theorem Z137.good (hE:EnvOk Tryz.prog Q0)(pv:Nat->Value)(a0:List ByteArray)(a1:ByteArray){y:_}(h:Z137.F a0 a1=some y):Q8 Tryz.prog Q0 pv (.f 129) (Qa [(.sl .str),.str] (a0,a1,())) (.t .str y):=
 Q95 (fn:=Tryz.f129) (by kernel_rfl) rfl (by kernel_rfl) Tryz.strings_Join_none Tryz.strings_Join h
def Z77.F (a0:ByteArray):Option (Bool):=some (Qo a0 (⟨#[]⟩:ByteArray))
def Z77.C:Cal->Option CArm:=λc=>match c with
 |_=>none
theorem Z77.run (a0:ByteArray):Qk Q0 (Q7 Z77.C) (Q6 5 0 (λ_=>none)) Tryz.f145 [.t .str a0] (Q2 (.t .bool))=Z77.F a0:=by kernel_rfl
theorem Z77.G (hE:EnvOk Tryz.prog Q0)(pv:Nat->Value):∀cal A,Z77.C cal=some A->Q9 Tryz.prog Q0 pv cal A:=by
 intro cal A h
 unfold Z77.C at h
 cases h
theorem Z77.good (hE:EnvOk Tryz.prog Q0)(pv:Nat->Value)(a0:ByteArray){y:_}(h:Z77.F a0=some y):Q8 Tryz.prog Q0 pv (.f 145) (Qa [.str] (a0,())) (.t .bool y):=
 Q4 hE (Z77.G hE pv) (f:=145) (fn:=Tryz.f145) (by kernel_rfl) rfl (by kernel_rfl) (by kernel_rfl) ((Z77.run a0).trans h) (λr hr=>Q1 hr)
def Z56.l0:Nat->(List ByteArray)->Int->Int->Option (Sum Int Unit)
 |0,_,_,_=>none
 |k+1,x0,x7,x8=>bif (decide (x8<x7))then(bif decide (0<=x8)then(bif decide (x8<(x0.length:Int))then((Z77.F (x0.getD (x8:Int).toNat (⟨#[]⟩:ByteArray))).bind λr1=>bif r1 then(some (.inl x8))else(Z56.l0 k x0 x7 (IntKind.wrap .i64 (x8+1))))else none)else none)else(some (.inr ()))
def Z56.F (k:Nat)(a0:List ByteArray):Option (Int):=(Z56.l0 k a0 (a0.length:Int) 0).bind λy2=>match y2 with|.inl z3=>some z3|.inr z3=>some (-1)
def Z56.C (k:Nat):Cal->Option CArm:=λc=>match c with
 |.f 145=>some (.p [.str] _ (λx=>Z77.F x.1) (λr=>(.t .bool r)))
 |_=>none
def Z56.sp0:List Sp:=[.t 0 (.sl .str),.con 1 (.clo 145),.t 7 (.int .i64),.t 8 (.int .i64)]
def Z56.sp0_0:List Sp:=[.t 4 (.int .i64)]
def Z56.sp0_1:List Sp:=[]
def Z56.A0:LArm:=.two Z56.sp0 Z56.sp0_0 Z56.sp0_1 (Int) (Unit) (λk x=>Z56.l0 k x.1 x.2.2.1 x.2.2.2.1) .ret (.exit 0) (λy=>(y,())) (λx=>x.1) (λy=>()) (λx=>())
def Z56.L:Nat->Option LArm:=λb=>match b with
 |0=>some Z56.A0
 |_=>none
theorem Z56.run (k:Nat)(a0:List ByteArray):Qk Q0 (Q7 (Z56.C k)) (Q6 19 k Z56.L) Tryz.f44 [.t (.sl .str) a0,.clo 145 []] (Q2 (.t (.int .i64)))=Z56.F k a0:=by kernel_rfl
theorem Z56.step0 (k:Nat)(x0:List ByteArray)(x7:Int)(x8:Int):Qs Q0 (Q7 (Z56.C k)) (Q6 19 k Z56.L) 0 (Qj Tryz.f44 0) (QA 19 Z56.sp0 (x0,(),x7,x8,())) (Z56.A0.cont 19 k)=Z56.l0 (k+1) x0 x7 x8:=by kernel_rfl
theorem Z56.G (hE:EnvOk Tryz.prog Q0)(pv:Nat->Value)(k:Nat):∀cal A,Z56.C k cal=some A->Q9 Tryz.prog Q0 pv cal A:=by
 intro cal A h
 unfold Z56.C at h
 split at h
 ·cases h;exact λx y hy=>Z77.good hE pv x.1 hy
 ·cases h
theorem Z56.good (hE:EnvOk Tryz.prog Q0)(pv:Nat->Value)(k:Nat)(a0:List ByteArray){y:_}(h:Z56.F k a0=some y):Q8 Tryz.prog Q0 pv (.f 44) (Jc [.t (.sl .str),.clo 145 []] (a0,(()),())) (.t (.int .i64) y):=
 Qh hE (t:=Z56.C) k (λk _=>Z56.G hE pv k) (f:=44) (fn:=Tryz.f44) (by kernel_rfl) rfl (by kernel_rfl) (by kernel_rfl) (lt:=Z56.L) (by kernel_rfl) (λb A h=>by
  unfold Z56.L at h;split at h
  ·cases h;exact⟨by kernel_rfl,by kernel_rfl,by kernel_rfl,λ_=>rfl,λ_=>rfl,λ_=>rfl⟩
  ·cases h) (λb A h=>by
  unfold Z56.L at h;split at h
  ·cases h;exact λk x=>Z56.step0 k x.1 x.2.2.1 x.2.2.2.1
  ·cases h) ((Z56.run k a0).trans h) (λr hr=>Q1 hr)
def Z58.l0:Nat->(List ByteArray)->Int->Int->Option ((List ByteArray)×Int)
 |0,_,_,_=>none
 |k+1,x0,x5,x6=>bif (decide (x6<(x0.length:Int)))then(bif decide (0<=x6)then(bif decide (x6<(x0.length:Int))then((Z77.F (x0.getD ((x6:Int).toNat) (⟨#[]⟩:ByteArray))).bind λr2=>bif (!r2)then(bif decide (0<=x5)then(bif decide (x5<(x0.length:Int))then(Z58.l0 k (x0.set ((x5:Int).toNat) (x0.getD ((x6:Int).toNat) (⟨#[]⟩:ByteArray))) (IntKind.wrap .i64 (x5+1)) (IntKind.wrap .i64 (x6+1)))else none)else none)else(Z58.l0 k x0 x5 (IntKind.wrap .i64 (x6+1))))else none)else none)else(some (x0,x5))
def Z58.F (k:Nat)(a0:List ByteArray):Option (List ByteArray):=(Z56.F k a0).bind λr1=>bif (r1==(-1))then(some a0)else((Z58.l0 k a0 r1 (IntKind.wrap .i64 (r1+1))).bind λy3=>bif decide (0<=y3.2)then(bif decide (y3.2<=(y3.1.length:Int))then(bif decide (0<=y3.2)then(bif decide (y3.2<=((y3.1.take ((y3.2:Int).toNat)++List.replicate (y3.1.length-((y3.2:Int).toNat)) (⟨#[]⟩:ByteArray)).length:Int))then(some ((y3.1.take ((y3.2:Int).toNat)++List.replicate (y3.1.length-((y3.2:Int).toNat)) (⟨#[]⟩:ByteArray)).take (y3.2:Int).toNat))else none)else none)else none)else none)
def Z58.C (k:Nat):Cal->Option CArm:=λc=>match c with
 |.f 44=>some (.q [.t (.sl .str),.clo 145 []] _ (λx=>Z56.F k x.1) (λr=>(.t (.int .i64) r)))
 |.f 145=>some (.p [.str] _ (λx=>Z77.F x.1) (λr=>(.t .bool r)))
 |_=>none
def Z58.sp0:List Sp:=[.own 0 1099511627777 9 .str false true,.con 1 (.clo 145),.t 5 (.int .i64),.t 6 (.int .i64)]
def Z58.sp0_0:List Sp:=[.own 0 1099511627777 9 .str false true,.t 5 (.int .i64)]
def Z58.A0:LArm:=.one Z58.sp0 Z58.sp0_0 ((List ByteArray)×Int) (λk x=>Z58.l0 k x.1 x.2.2.1 x.2.2.2.1) (.exit 0) (λy=>(y.1,y.2,())) (λx=>(x.1,x.2.1))
def Z58.L:Nat->Option LArm:=λb=>match b with
 |0=>some Z58.A0
 |_=>none
theorem Z58.run (k:Nat)(a0:List ByteArray):YP Q0 (Q7 (Z58.C k)) (Q6 42 k Z58.L) Tryz.f27 KB (.fr 9 .str a0) [.clo 145 []] (Q04 9 .str)=Z58.F k a0:=by kernel_rfl
theorem Z58.step0 (k:Nat)(x0:List ByteArray)(x5:Int)(x6:Int):Qs Q0 (Q7 (Z58.C k)) (Q6 42 k Z58.L) 0 (Qj Tryz.f27 0) (QA 42 Z58.sp0 (x0,(),x5,x6,())) (Z58.A0.cont 42 k)=Z58.l0 (k+1) x0 x5 x6:=by kernel_rfl
theorem Z58.G (hE:EnvOk Tryz.prog Q0)(pv:Nat->Value)(k:Nat):∀cal A,Z58.C k cal=some A->Q9 Tryz.prog Q0 pv cal A:=by
 intro cal A h
 unfold Z58.C at h
 split at h
 ·cases h;exact λx y hy=>Z56.good hE pv k x.1 hy
 ·cases h;exact λx y hy=>Z77.good hE pv x.1 hy
 ·cases h
theorem Z58.good (hE:EnvOk Tryz.prog Q0)(pv:Nat->Value)(k:Nat)(a0:List ByteArray){y:_}(h:Z58.F k a0=some y):QM Tryz.prog Q0 pv 27 (.fr 9 .str a0) (Jc [.clo 145 []] ((()),())) (.mov 9 .str y):=
 JB hE (t:=Z58.C) k (λk _=>Z58.G hE pv k) (f:=27) (fn:=Tryz.f27) (by kernel_rfl) rfl (by kernel_rfl) (.inr rfl) (by kernel_rfl) (lt:=Z58.L) (by kernel_rfl) (λb A h=>by
  unfold Z58.L at h;split at h
  ·cases h;exact⟨by kernel_rfl,by kernel_rfl,λ_=>rfl,λ_=>rfl⟩
  ·cases h) (λb A h=>by
  unfold Z58.L at h;split at h
  ·cases h;exact λk x=>Z58.step0 k x.1 x.2.2.1 x.2.2.2.1
  ·cases h) ((Z58.run k a0).trans h) (λr hr=>Q0V hr)
def Z84.F (k:Nat)(a0:List ByteArray):Option (ByteArray):=(Z58.F k a0).bind λr1=>(Z137.F r1 (⟨#[32]⟩:ByteArray)).bind λr2=>some r2
def Z84.C (k:Nat):Cal->Option CArm:=λc=>match c with
 |.f 27=>some (.mq (.fr 9 .str) [.clo 145 []] _ (λx0 x=>Z58.F k x0) (λr=>.mov 9 .str r))
 |.f 129=>some (.p [(.sl .str),.str] _ (λx=>Z137.F x.1 x.2.1) (λr=>(.t .str r)))
 |_=>none
theorem Z84.run (k:Nat)(a0:List ByteArray):YP Q0 (Q7 (Z84.C k)) (Q6 6 0 (λ_=>none)) Tryz.f128 KB (.fr 9 .str a0) [] (Q36 .str)=Z84.F k a0:=by kernel_rfl
theorem Z84.G (hE:EnvOk Tryz.prog Q0)(pv:Nat->Value)(k:Nat):∀cal A,Z84.C k cal=some A->Q9 Tryz.prog Q0 pv cal A:=by
 intro cal A h
 unfold Z84.C at h
 split at h
 ·cases h;exact⟨_,rfl,λx0 x y hy=>Z58.good hE pv k x0 hy⟩
 ·cases h;exact λx y hy=>Z137.good hE pv x.1 x.2.1 hy
 ·cases h
theorem Z84.good (hE:EnvOk Tryz.prog Q0)(pv:Nat->Value)(k:Nat)(a0:List ByteArray){y:_}(h:Z84.F k a0=some y):QM Tryz.prog Q0 pv 128 (.fr 9 .str a0) (Qa [] (())) (.pc false .str y):=
 Jm hE (Z84.G hE pv k) (f:=128) (fn:=Tryz.f128) (by kernel_rfl) rfl (by kernel_rfl) (.inr rfl) (by kernel_rfl) ((Z84.run k a0).trans h) (λr hr=>Q5t hr)
def Z98.F (k:Nat)(a0:Name):Option (ByteArray):=(Z137.F a0.given (⟨#[32]⟩:ByteArray)).bind λr1=>(Z84.F k ([r1,a0.particle,a0.family,a0.suffix]:List ByteArray)).bind λr2=>some r2
def Z98.C (k:Nat):Cal->Option CArm:=λc=>match c with
 |.f 129=>some (.p [(.sl .str),.str] _ (λx=>Z137.F x.1 x.2.1) (λr=>(.t .str r)))
 |.f 128=>some (.m (.fr 9 .str) [] _ (λx0 x=>Z84.F k x0) (λr=>.pc false .str r))
 |_=>none
theorem Z98.run (k:Nat)(a0:Name):Qk Q0 (Q7 (Z98.C k)) (Q6 14 0 (λ_=>none)) Tryz.f102 [.t .name a0] (Q2 (.t .str))=Z98.F k a0:=by kernel_rfl
theorem Z98.G (hE:EnvOk Tryz.prog Q0)(pv:Nat->Value)(k:Nat):∀cal A,Z98.C k cal=some A->Q9 Tryz.prog Q0 pv cal A:=by
 intro cal A h
 unfold Z98.C at h
 split at h
 ·cases h;exact λx y hy=>Z137.good hE pv x.1 x.2.1 hy
 ·cases h;exact⟨_,rfl,λx0 x y hy=>Z84.good hE pv k x0 hy⟩
 ·cases h
theorem Z98.good (hE:EnvOk Tryz.prog Q0)(pv:Nat->Value)(k:Nat)(a0:Name){y:_}(h:Z98.F k a0=some y):Q8 Tryz.prog Q0 pv (.f 102) (Qa [.name] (a0,())) (.t .str y):=
 Q4 hE (Z98.G hE pv k) (f:=102) (fn:=Tryz.f102) (by kernel_rfl) rfl (by kernel_rfl) (by kernel_rfl) ((Z98.run k a0).trans h) (λr hr=>Q1 hr)
def Z99.F (k:Nat)(a0:Name):Option (ByteArray):=(Z84.F k ([a0.particle,a0.family]:List ByteArray)).bind λr1=>bif (decide ((a0.given.length:Int) > 0))then((Z137.F a0.given (⟨#[32]⟩:ByteArray)).bind λr2=>bif Nat.ble ((⟨#[44,32]⟩:ByteArray).size+r2.size) 9223372036854775807 then(bif Nat.ble (r1.size+((⟨#[44,32]⟩:ByteArray)++r2).size) 9223372036854775807 then(bif (!Qo a0.suffix (⟨#[]⟩:ByteArray))then(bif Nat.ble ((⟨#[44,32]⟩:ByteArray).size+a0.suffix.size) 9223372036854775807 then(bif Nat.ble ((r1++((⟨#[44,32]⟩:ByteArray)++r2)).size+((⟨#[44,32]⟩:ByteArray)++a0.suffix).size) 9223372036854775807 then(some ((r1++((⟨#[44,32]⟩:ByteArray)++r2))++((⟨#[44,32]⟩:ByteArray)++a0.suffix)))else none)else none)else(some (r1++((⟨#[44,32]⟩:ByteArray)++r2))))else none)else none)else(bif (!Qo a0.suffix (⟨#[]⟩:ByteArray))then((Z137.F a0.given (⟨#[32]⟩:ByteArray)).bind λr3=>bif Nat.ble ((⟨#[44,32]⟩:ByteArray).size+r3.size) 9223372036854775807 then(bif Nat.ble (r1.size+((⟨#[44,32]⟩:ByteArray)++r3).size) 9223372036854775807 then(bif (!Qo a0.suffix (⟨#[]⟩:ByteArray))then(bif Nat.ble ((⟨#[44,32]⟩:ByteArray).size+a0.suffix.size) 9223372036854775807 then(bif Nat.ble ((r1++((⟨#[44,32]⟩:ByteArray)++r3)).size+((⟨#[44,32]⟩:ByteArray)++a0.suffix).size) 9223372036854775807 then(some ((r1++((⟨#[44,32]⟩:ByteArray)++r3))++((⟨#[44,32]⟩:ByteArray)++a0.suffix)))else none)else none)else(some (r1++((⟨#[44,32]⟩:ByteArray)++r3))))else none)else none)else(bif (!Qo a0.suffix (⟨#[]⟩:ByteArray))then(bif Nat.ble ((⟨#[44,32]⟩:ByteArray).size+a0.suffix.size) 9223372036854775807 then(bif Nat.ble (r1.size+((⟨#[44,32]⟩:ByteArray)++a0.suffix).size) 9223372036854775807 then(some (r1++((⟨#[44,32]⟩:ByteArray)++a0.suffix)))else none)else none)else(some r1)))
def Z99.C (k:Nat):Cal->Option CArm:=λc=>match c with
 |.f 128=>some (.m (.fr 9 .str) [] _ (λx0 x=>Z84.F k x0) (λr=>.pc false .str r))
 |.f 129=>some (.p [(.sl .str),.str] _ (λx=>Z137.F x.1 x.2.1) (λr=>(.t .str r)))
 |_=>none
theorem Z99.run (k:Nat)(a0:Name):Qk Q0 (Q7 (Z99.C k)) (Q6 34 0 (λ_=>none)) Tryz.f103 [.t .name a0] (Q2 (.t .str))=Z99.F k a0:=by kernel_rfl
theorem Z99.G (hE:EnvOk Tryz.prog Q0)(pv:Nat->Value)(k:Nat):∀cal A,Z99.C k cal=some A->Q9 Tryz.prog Q0 pv cal A:=by
 intro cal A h
 unfold Z99.C at h
 split at h
 ·cases h;exact⟨_,rfl,λx0 x y hy=>Z84.good hE pv k x0 hy⟩
 ·cases h;exact λx y hy=>Z137.good hE pv x.1 x.2.1 hy
 ·cases h
theorem Z99.good (hE:EnvOk Tryz.prog Q0)(pv:Nat->Value)(k:Nat)(a0:Name){y:_}(h:Z99.F k a0=some y):Q8 Tryz.prog Q0 pv (.f 103) (Qa [.name] (a0,())) (.t .str y):=
 Q4 hE (Z99.G hE pv k) (f:=103) (fn:=Tryz.f103) (by kernel_rfl) rfl (by kernel_rfl) (by kernel_rfl) ((Z99.run k a0).trans h) (λr hr=>Q1 hr)
def Z117.F (k:Nat)(a0:Name)(a1:Name):Option (Int):=(Z10.F k a0.family).bind λr1=>(Z10.F k a1.family).bind λr2=>(Z116.F r1 r2).bind λr3=>(Z10.F k a0.particle).bind λr4=>(Z10.F k a1.particle).bind λr5=>(Z116.F r4 r5).bind λr6=>(Z98.F k a0).bind λr7=>(Z10.F k r7).bind λr8=>(Z98.F k a1).bind λr9=>(Z10.F k r9).bind λr10=>(Z116.F r8 r10).bind λr11=>(Z99.F k a0).bind λr12=>(Z99.F k a1).bind λr13=>(Z116.F r12 r13).bind λr14=>(Z14.F k ([r3,r6,r11,r14]:List Int)).bind λr15=>some r15
def Z117.C (k:Nat):Cal->Option CArm:=λc=>match c with
 |.f 101=>some (.p [.str] _ (λx=>Z10.F k x.1) (λr=>(.t .str r)))
 |.f 68=>some (.p [.str,.str] _ (λx=>Z116.F x.1 x.2.1) (λr=>(.t (.int .i64) r)))
 |.f 102=>some (.p [.name] _ (λx=>Z98.F k x.1) (λr=>(.t .str r)))
 |.f 103=>some (.p [.name] _ (λx=>Z99.F k x.1) (λr=>(.t .str r)))
 |.f 60=>some (.p [(.sl (.int .i64))] _ (λx=>Z14.F k x.1) (λr=>(.t (.int .i64) r)))
 |_=>none
theorem Z117.run (k:Nat)(a0:Name)(a1:Name):Qk Q0 (Q7 (Z117.C k)) (Q6 33 0 (λ_=>none)) Tryz.f63 [.t .name a0,.t .name a1] (Q2 (.t (.int .i64)))=Z117.F k a0 a1:=by kernel_rfl
theorem Z117.G (hE:EnvOk Tryz.prog Q0)(pv:Nat->Value)(k:Nat):∀cal A,Z117.C k cal=some A->Q9 Tryz.prog Q0 pv cal A:=by
 intro cal A h
 unfold Z117.C at h
 split at h
 ·cases h;exact λx y hy=>Z10.good hE pv k x.1 hy
 ·cases h;exact λx y hy=>Z116.good hE pv x.1 x.2.1 hy
 ·cases h;exact λx y hy=>Z98.good hE pv k x.1 hy
 ·cases h;exact λx y hy=>Z99.good hE pv k x.1 hy
 ·cases h;exact λx y hy=>Z14.good hE pv k x.1 hy
 ·cases h
theorem Z117.good (hE:EnvOk Tryz.prog Q0)(pv:Nat->Value)(k:Nat)(a0:Name)(a1:Name){y:_}(h:Z117.F k a0 a1=some y):Q8 Tryz.prog Q0 pv (.f 63) (Qa [.name,.name] (a0,a1,())) (.t (.int .i64) y):=
 Q4 hE (Z117.G hE pv k) (f:=63) (fn:=Tryz.f63) (by kernel_rfl) rfl (by kernel_rfl) (by kernel_rfl) ((Z117.run k a0 a1).trans h) (λr hr=>Q1 hr)
def Z118.F (a0:Int):Option (Bool):=some (a0 != a0)
def Z118.C:Cal->Option CArm:=λc=>match c with
 |_=>none
theorem Z118.run (a0:Int):Qk Q0 (Q7 Z118.C) (Q6 6 0 (λ_=>none)) Tryz.f107 [.t (.int .i64) a0] (Q2 (.t .bool))=Z118.F a0:=by kernel_rfl
theorem Z118.G (hE:EnvOk Tryz.prog Q0)(pv:Nat->Value):∀cal A,Z118.C cal=some A->Q9 Tryz.prog Q0 pv cal A:=by
 intro cal A h
 unfold Z118.C at h
 cases h
theorem Z118.good (hE:EnvOk Tryz.prog Q0)(pv:Nat->Value)(a0:Int){y:_}(h:Z118.F a0=some y):Q8 Tryz.prog Q0 pv (.f 107) (Qa [(.int .i64)] (a0,())) (.t .bool y):=
 Q4 hE (Z118.G hE pv) (f:=107) (fn:=Tryz.f107) (by kernel_rfl) rfl (by kernel_rfl) (by kernel_rfl) ((Z118.run a0).trans h) (λr hr=>Q1 hr)
def Z68.F (a0:Int)(a1:Int):Option (Int):=(Z118.F a0).bind λr1=>(Z118.F a1).bind λr2=>bif r1 then(bif r2 then(some 0)else(some (-1)))else(bif r2 then(some 1)else(bif (decide (a0<a1))then(some (-1))else(bif (decide (a0 > a1))then(some 1)else(some 0))))
def Z68.C:Cal->Option CArm:=λc=>match c with
 |.f 107=>some (.p [(.int .i64)] _ (λx=>Z118.F x.1) (λr=>(.t .bool r)))
 |_=>none
theorem Z68.run (a0:Int)(a1:Int):Qk Q0 (Q7 Z68.C) (Q6 20 0 (λ_=>none)) Tryz.f67 [.t (.int .i64) a0,.t (.int .i64) a1] (Q2 (.t (.int .i64)))=Z68.F a0 a1:=by kernel_rfl
theorem Z68.G (hE:EnvOk Tryz.prog Q0)(pv:Nat->Value):∀cal A,Z68.C cal=some A->Q9 Tryz.prog Q0 pv cal A:=by
 intro cal A h
 unfold Z68.C at h
 split at h
 ·cases h;exact λx y hy=>Z118.good hE pv x.1 hy
 ·cases h
theorem Z68.good (hE:EnvOk Tryz.prog Q0)(pv:Nat->Value)(a0:Int)(a1:Int){y:_}(h:Z68.F a0 a1=some y):Q8 Tryz.prog Q0 pv (.f 67) (Qa [(.int .i64),(.int .i64)] (a0,a1,())) (.t (.int .i64) y):=
 Q4 hE (Z68.G hE pv) (f:=67) (fn:=Tryz.f67) (by kernel_rfl) rfl (by kernel_rfl) (by kernel_rfl) ((Z68.run a0 a1).trans h) (λr hr=>Q1 hr)
def Z100.F (a0:Date):Option (Int):=bif a0.c then(some 1)else(some 0)
def Z100.C:Cal->Option CArm:=λc=>match c with
 |_=>none
theorem Z100.run (a0:Date):Qk Q0 (Q7 Z100.C) (Q6 5 0 (λ_=>none)) Tryz.f104 [.t .date a0] (Q2 (.t (.int .i64)))=Z100.F a0:=by kernel_rfl
theorem Z100.G (hE:EnvOk Tryz.prog Q0)(pv:Nat->Value):∀cal A,Z100.C cal=some A->Q9 Tryz.prog Q0 pv cal A:=by
 intro cal A h
 unfold Z100.C at h
 cases h
theorem Z100.good (hE:EnvOk Tryz.prog Q0)(pv:Nat->Value)(a0:Date){y:_}(h:Z100.F a0=some y):Q8 Tryz.prog Q0 pv (.f 104) (Qa [.date] (a0,())) (.t (.int .i64) y):=
 Q4 hE (Z100.G hE pv) (f:=104) (fn:=Tryz.f104) (by kernel_rfl) rfl (by kernel_rfl) (by kernel_rfl) ((Z100.run a0).trans h) (λr hr=>Q1 hr)
def Z119.F (k:Nat)(a0:Date)(a1:Date):Option (Int):=(Z68.F a0.y a1.y).bind λr1=>(Z68.F a0.m a1.m).bind λr2=>(Z68.F a0.d a1.d).bind λr3=>(Z100.F a0).bind λr4=>(Z100.F a1).bind λr5=>(Z68.F r4 r5).bind λr6=>(Z14.F k ([r1,r2,r3,r6]:List Int)).bind λr7=>some r7
def Z119.C (k:Nat):Cal->Option CArm:=λc=>match c with
 |.f 67=>some (.p [(.int .i64),(.int .i64)] _ (λx=>Z68.F x.1 x.2.1) (λr=>(.t (.int .i64) r)))
 |.f 104=>some (.p [.date] _ (λx=>Z100.F x.1) (λr=>(.t (.int .i64) r)))
 |.f 60=>some (.p [(.sl (.int .i64))] _ (λx=>Z14.F k x.1) (λr=>(.t (.int .i64) r)))
 |_=>none
theorem Z119.run (k:Nat)(a0:Date)(a1:Date):Qk Q0 (Q7 (Z119.C k)) (Q6 27 0 (λ_=>none)) Tryz.f64 [.t .date a0,.t .date a1] (Q2 (.t (.int .i64)))=Z119.F k a0 a1:=by kernel_rfl
theorem Z119.G (hE:EnvOk Tryz.prog Q0)(pv:Nat->Value)(k:Nat):∀cal A,Z119.C k cal=some A->Q9 Tryz.prog Q0 pv cal A:=by
 intro cal A h
 unfold Z119.C at h
 split at h
 ·cases h;exact λx y hy=>Z68.good hE pv x.1 x.2.1 hy
 ·cases h;exact λx y hy=>Z100.good hE pv x.1 hy
 ·cases h;exact λx y hy=>Z14.good hE pv k x.1 hy
 ·cases h
theorem Z119.good (hE:EnvOk Tryz.prog Q0)(pv:Nat->Value)(k:Nat)(a0:Date)(a1:Date){y:_}(h:Z119.F k a0 a1=some y):Q8 Tryz.prog Q0 pv (.f 64) (Qa [.date,.date] (a0,a1,())) (.t (.int .i64) y):=
 Q4 hE (Z119.G hE pv k) (f:=64) (fn:=Tryz.f64) (by kernel_rfl) rfl (by kernel_rfl) (by kernel_rfl) ((Z119.run k a0 a1).trans h) (λr hr=>Q1 hr)
def Z11.l0:Nat->(List Int)->Bool->(List Int)->Int->Int->Option ((List Int))
 |0,_,_,_,_,_=>none
 |k+1,x3,x4,x10,x11,x12=>bif (decide (x12<x11))then(bif decide (0<=x12)then(bif decide (x12<(x10.length:Int))then((Z63.F (x10.getD ((x12:Int).toNat) 0)).bind λr2=>bif (!r2)then((Z80.F (x10.getD ((x12:Int).toNat) 0)).bind λr3=>bif (!r3)then(bif x4 then(Z11.l0 k x3 true x10 x11 (IntKind.wrap .i64 (x12+1)))else(Z11.l0 k x3 ((x10.getD ((x12:Int).toNat) 0)==32) x10 x11 (IntKind.wrap .i64 (x12+1))))else(bif x4 then(bif (decide ((x3.length:Int) > 0))then(bif room (x3.length+([32]:List Int).length) (.int .u8)then(bif room ((x3++([32]:List Int)).length+([(x10.getD ((x12:Int).toNat) 0)]:List Int).length) (.int .u8)then(Z11.l0 k ((x3++([32]:List Int))++([(x10.getD ((x12:Int).toNat) 0)]:List Int)) false x10 x11 (IntKind.wrap .i64 (x12+1)))else none)else none)else(bif room (x3.length+([(x10.getD ((x12:Int).toNat) 0)]:List Int).length) (.int .u8)then(Z11.l0 k (x3++([(x10.getD ((x12:Int).toNat) 0)]:List Int)) false x10 x11 (IntKind.wrap .i64 (x12+1)))else none))else(bif room (x3.length+([(x10.getD ((x12:Int).toNat) 0)]:List Int).length) (.int .u8)then(Z11.l0 k (x3++([(x10.getD ((x12:Int).toNat) 0)]:List Int)) false x10 x11 (IntKind.wrap .i64 (x12+1)))else none)))else(bif x4 then(bif (decide ((x3.length:Int) > 0))then(bif room (x3.length+([32]:List Int).length) (.int .u8)then(bif room ((x3++([32]:List Int)).length+([(x10.getD ((x12:Int).toNat) 0)]:List Int).length) (.int .u8)then(Z11.l0 k ((x3++([32]:List Int))++([(x10.getD ((x12:Int).toNat) 0)]:List Int)) false x10 x11 (IntKind.wrap .i64 (x12+1)))else none)else none)else(bif room (x3.length+([(x10.getD ((x12:Int).toNat) 0)]:List Int).length) (.int .u8)then(Z11.l0 k (x3++([(x10.getD ((x12:Int).toNat) 0)]:List Int)) false x10 x11 (IntKind.wrap .i64 (x12+1)))else none))else(bif room (x3.length+([(x10.getD ((x12:Int).toNat) 0)]:List Int).length) (.int .u8)then(Z11.l0 k (x3++([(x10.getD ((x12:Int).toNat) 0)]:List Int)) false x10 x11 (IntKind.wrap .i64 (x12+1)))else none)))else none)else none)else(some x3)
def Z11.F (k:Nat)(a0:ByteArray):Option (ByteArray):=(Z10.F k a0).bind λr1=>bif Nat.ble r1.size 9223372036854775807 then((Z11.l0 k ([]:List Int) false (Qf r1) ((Qf r1).length:Int) 0).bind λy4=>some (DJ y4))else none
def Z11.C (k:Nat):Cal->Option CArm:=λc=>match c with
 |.f 101=>some (.p [.str] _ (λx=>Z10.F k x.1) (λr=>(.t .str r)))
 |.f 112=>some (.p [(.int .u8)] _ (λx=>Z63.F x.1) (λr=>(.t .bool r)))
 |.f 113=>some (.p [(.int .u8)] _ (λx=>Z80.F x.1) (λr=>(.t .bool r)))
 |_=>none
def Z11.sp0:List Sp:=[.own 3 1024 5 (.int .u8) false true,.t 4 .bool,.own 10 2056 5 (.int .u8) false false,.t 11 (.int .i64),.t 12 (.int .i64)]
def Z11.sp0_0:List Sp:=[.own 3 1024 5 (.int .u8) false true]
def Z11.A0:LArm:=.one Z11.sp0 Z11.sp0_0 ((List Int)) (λk x=>Z11.l0 k x.1 x.2.1 x.2.2.1 x.2.2.2.1 x.2.2.2.2.1) (.exit 0) (λy=>(y,())) (λx=>x.1)
def Z11.L:Nat->Option LArm:=λb=>match b with
 |0=>some Z11.A0
 |_=>none
theorem Z11.run (k:Nat)(a0:ByteArray):Qk Q0 (Q7 (Z11.C k)) (Q6 45 k Z11.L) Tryz.f105 [.t .str a0] (Q2 (.t .str))=Z11.F k a0:=by kernel_rfl
theorem Z11.step0 (k:Nat)(x3:List Int)(x4:Bool)(x10:List Int)(x11:Int)(x12:Int):Qs Q0 (Q7 (Z11.C k)) (Q6 45 k Z11.L) 0 (Qj Tryz.f105 0) (QA 45 Z11.sp0 (x3,x4,x10,x11,x12,())) (Z11.A0.cont 45 k)=Z11.l0 (k+1) x3 x4 x10 x11 x12:=by kernel_rfl
theorem Z11.G (hE:EnvOk Tryz.prog Q0)(pv:Nat->Value)(k:Nat):∀cal A,Z11.C k cal=some A->Q9 Tryz.prog Q0 pv cal A:=by
 intro cal A h
 unfold Z11.C at h
 split at h
 ·cases h;exact λx y hy=>Z10.good hE pv k x.1 hy
 ·cases h;exact λx y hy=>Z63.good hE pv x.1 hy
 ·cases h;exact λx y hy=>Z80.good hE pv x.1 hy
 ·cases h
theorem Z11.good (hE:EnvOk Tryz.prog Q0)(pv:Nat->Value)(k:Nat)(a0:ByteArray){y:_}(h:Z11.F k a0=some y):Q8 Tryz.prog Q0 pv (.f 105) (Qa [.str] (a0,())) (.t .str y):=
 Qh hE (t:=Z11.C) k (λk _=>Z11.G hE pv k) (f:=105) (fn:=Tryz.f105) (by kernel_rfl) rfl (by kernel_rfl) (by kernel_rfl) (lt:=Z11.L) (by kernel_rfl) (λb A h=>by
  unfold Z11.L at h;split at h
  ·cases h;exact⟨by kernel_rfl,by kernel_rfl,λ_=>rfl,λ_=>rfl⟩
  ·cases h) (λb A h=>by
  unfold Z11.L at h;split at h
  ·cases h;exact λk x=>Z11.step0 k x.1 x.2.1 x.2.2.1 x.2.2.2.1 x.2.2.2.2.1
  ·cases h) ((Z11.run k a0).trans h) (λr hr=>Q1 hr)
def Z120.F (k:Nat)(a0:ByteArray)(a1:ByteArray):Option (Int):=(Z11.F k a0).bind λr1=>(Z11.F k a1).bind λr2=>(Z116.F r1 r2).bind λr3=>(Z116.F a0 a1).bind λr4=>(Z14.F k ([r3,r4]:List Int)).bind λr5=>some r5
def Z120.C (k:Nat):Cal->Option CArm:=λc=>match c with
 |.f 105=>some (.p [.str] _ (λx=>Z11.F k x.1) (λr=>(.t .str r)))
 |.f 68=>some (.p [.str,.str] _ (λx=>Z116.F x.1 x.2.1) (λr=>(.t (.int .i64) r)))
 |.f 60=>some (.p [(.sl (.int .i64))] _ (λx=>Z14.F k x.1) (λr=>(.t (.int .i64) r)))
 |_=>none
theorem Z120.run (k:Nat)(a0:ByteArray)(a1:ByteArray):Qk Q0 (Q7 (Z120.C k)) (Q6 15 0 (λ_=>none)) Tryz.f65 [.t .str a0,.t .str a1] (Q2 (.t (.int .i64)))=Z120.F k a0 a1:=by kernel_rfl
theorem Z120.G (hE:EnvOk Tryz.prog Q0)(pv:Nat->Value)(k:Nat):∀cal A,Z120.C k cal=some A->Q9 Tryz.prog Q0 pv cal A:=by
 intro cal A h
 unfold Z120.C at h
 split at h
 ·cases h;exact λx y hy=>Z11.good hE pv k x.1 hy
 ·cases h;exact λx y hy=>Z116.good hE pv x.1 x.2.1 hy
 ·cases h;exact λx y hy=>Z14.good hE pv k x.1 hy
 ·cases h
theorem Z120.good (hE:EnvOk Tryz.prog Q0)(pv:Nat->Value)(k:Nat)(a0:ByteArray)(a1:ByteArray){y:_}(h:Z120.F k a0 a1=some y):Q8 Tryz.prog Q0 pv (.f 65) (Qa [.str,.str] (a0,a1,())) (.t (.int .i64) y):=
 Q4 hE (Z120.G hE pv k) (f:=65) (fn:=Tryz.f65) (by kernel_rfl) rfl (by kernel_rfl) (by kernel_rfl) ((Z120.run k a0 a1).trans h) (λr hr=>Q1 hr)
def Z121.F (a0:ByteArray)(a1:ByteArray):Option (Bool):=bif (decide ((a0.size:Int) ≥ (a1.size:Int)))then(bif decide (0<=(a1.size:Int))then(bif decide ((a1.size:Int)<=(a0.size:Int))then(some (Qo (a0.extract 0 ((a1.size:Int):Int).toNat) a1))else none)else none)else(some false)
def Z121.C:Cal->Option CArm:=λc=>match c with
 |_=>none
theorem Z121.run (a0:ByteArray)(a1:ByteArray):Qk Q0 (Q7 Z121.C) (Q6 18 0 (λ_=>none)) Tryz.f130 [.t .str a0,.t .str a1] (Q2 (.t .bool))=Z121.F a0 a1:=by kernel_rfl
theorem Z121.G (hE:EnvOk Tryz.prog Q0)(pv:Nat->Value):∀cal A,Z121.C cal=some A->Q9 Tryz.prog Q0 pv cal A:=by
 intro cal A h
 unfold Z121.C at h
 cases h
theorem Z121.good (hE:EnvOk Tryz.prog Q0)(pv:Nat->Value)(a0:ByteArray)(a1:ByteArray){y:_}(h:Z121.F a0 a1=some y):Q8 Tryz.prog Q0 pv (.f 130) (Qa [.str,.str] (a0,a1,())) (.t .bool y):=
 Q4 hE (Z121.G hE pv) (f:=130) (fn:=Tryz.f130) (by kernel_rfl) rfl (by kernel_rfl) (by kernel_rfl) ((Z121.run a0 a1).trans h) (λr hr=>Q1 hr)
def Z88.F (a0:ByteArray)(a1:ByteArray):Option (Bool):=(Z121.F a0 a1).bind λr1=>some r1
def Z88.C:Cal->Option CArm:=λc=>match c with
 |.f 130=>some (.p [.str,.str] _ (λx=>Z121.F x.1 x.2.1) (λr=>(.t .bool r)))
 |_=>none
theorem Z88.run (a0:ByteArray)(a1:ByteArray):Qk Q0 (Q7 Z88.C) (Q6 8 0 (λ_=>none)) Tryz.f106 [.t .str a0,.t .str a1] (Q2 (.t .bool))=Z88.F a0 a1:=by kernel_rfl
theorem Z88.G (hE:EnvOk Tryz.prog Q0)(pv:Nat->Value):∀cal A,Z88.C cal=some A->Q9 Tryz.prog Q0 pv cal A:=by
 intro cal A h
 unfold Z88.C at h
 split at h
 ·cases h;exact λx y hy=>Z121.good hE pv x.1 x.2.1 hy
 ·cases h
theorem Z88.good (hE:EnvOk Tryz.prog Q0)(pv:Nat->Value)(a0:ByteArray)(a1:ByteArray){y:_}(h:Z88.F a0 a1=some y):Q8 Tryz.prog Q0 pv (.f 106) (Qa [.str,.str] (a0,a1,())) (.t .bool y):=
 Q4 hE (Z88.G hE pv) (f:=106) (fn:=Tryz.f106) (by kernel_rfl) rfl (by kernel_rfl) (by kernel_rfl) ((Z88.run a0 a1).trans h) (λr hr=>Q1 hr)
def Z31.l0:Nat->ByteArray->(List ByteArray)->Int->Int->Option (Sum ByteArray ByteArray)
 |0,_,_,_,_=>none
 |k+1,x0,x5,x6,x7=>bif (decide (x7<x6))then(bif decide (0<=x7)then(bif decide (x7<(x5.length:Int))then(bif decide (0<=(if 4<(x0.size:Int)then 4 else(x0.size:Int)))then(bif decide ((if 4<(x0.size:Int)then 4 else(x0.size:Int))<=(x0.size:Int))then((Z10.F k (x0.extract 0 ((if 4<(x0.size:Int)then 4 else(x0.size:Int)):Int).toNat)).bind λr1=>(Z88.F r1 (x5.getD ((x7:Int).toNat) (⟨#[]⟩:ByteArray))).bind λr2=>bif r2 then(bif decide (0<=((x5.getD ((x7:Int).toNat) (⟨#[]⟩:ByteArray)).size:Int))then(bif decide (((x5.getD ((x7:Int).toNat) (⟨#[]⟩:ByteArray)).size:Int)<=(x0.size:Int))then(some (.inl (x0.extract (((x5.getD ((x7:Int).toNat) (⟨#[]⟩:ByteArray)).size:Int):Int).toNat x0.size)))else none)else none)else(Z31.l0 k x0 x5 x6 (IntKind.wrap .i64 (x7+1))))else none)else none)else none)else none)else(some (.inr x0))
def Z31.F (k:Nat)(a0:ByteArray):Option (ByteArray):=(Z31.l0 k a0 ([(⟨#[97,32]⟩:ByteArray),(⟨#[97,110,32]⟩:ByteArray),(⟨#[116,104,101,32]⟩:ByteArray)]:List ByteArray) (([(⟨#[97,32]⟩:ByteArray),(⟨#[97,110,32]⟩:ByteArray),(⟨#[116,104,101,32]⟩:ByteArray)]:List ByteArray).length:Int) 0).bind λy3=>match y3 with|.inl z4=>some z4|.inr z4=>some z4
def Z31.C (k:Nat):Cal->Option CArm:=λc=>match c with
 |.f 101=>some (.p [.str] _ (λx=>Z10.F k x.1) (λr=>(.t .str r)))
 |.f 106=>some (.p [.str,.str] _ (λx=>Z88.F x.1 x.2.1) (λr=>(.t .bool r)))
 |_=>none
def Z31.sp0:List Sp:=[.t 0 .str,.own 5 1024 9 .str false true,.t 6 (.int .i64),.t 7 (.int .i64)]
def Z31.sp0_0:List Sp:=[.t 2 .str]
def Z31.sp0_1:List Sp:=[.t 0 .str]
def Z31.A0:LArm:=.two Z31.sp0 Z31.sp0_0 Z31.sp0_1 (ByteArray) (ByteArray) (λk x=>Z31.l0 k x.1 x.2.1 x.2.2.1 x.2.2.2.1) .ret (.exit 0) (λy=>(y,())) (λx=>x.1) (λy=>(y,())) (λx=>x.1)
def Z31.L:Nat->Option LArm:=λb=>match b with
 |0=>some Z31.A0
 |_=>none
theorem Z31.run (k:Nat)(a0:ByteArray):Qk Q0 (Q7 (Z31.C k)) (Q6 25 k Z31.L) Tryz.f66 [.t .str a0] (Q2 (.t .str))=Z31.F k a0:=by kernel_rfl
theorem Z31.step0 (k:Nat)(x0:ByteArray)(x5:List ByteArray)(x6:Int)(x7:Int):Qs Q0 (Q7 (Z31.C k)) (Q6 25 k Z31.L) 0 (Qj Tryz.f66 0) (QA 25 Z31.sp0 (x0,x5,x6,x7,())) (Z31.A0.cont 25 k)=Z31.l0 (k+1) x0 x5 x6 x7:=by kernel_rfl
theorem Z31.G (hE:EnvOk Tryz.prog Q0)(pv:Nat->Value)(k:Nat):∀cal A,Z31.C k cal=some A->Q9 Tryz.prog Q0 pv cal A:=by
 intro cal A h
 unfold Z31.C at h
 split at h
 ·cases h;exact λx y hy=>Z10.good hE pv k x.1 hy
 ·cases h;exact λx y hy=>Z88.good hE pv x.1 x.2.1 hy
 ·cases h
theorem Z31.good (hE:EnvOk Tryz.prog Q0)(pv:Nat->Value)(k:Nat)(a0:ByteArray){y:_}(h:Z31.F k a0=some y):Q8 Tryz.prog Q0 pv (.f 66) (Qa [.str] (a0,())) (.t .str y):=
 Qh hE (t:=Z31.C) k (λk _=>Z31.G hE pv k) (f:=66) (fn:=Tryz.f66) (by kernel_rfl) rfl (by kernel_rfl) (by kernel_rfl) (lt:=Z31.L) (by kernel_rfl) (λb A h=>by
  unfold Z31.L at h;split at h
  ·cases h;exact⟨by kernel_rfl,by kernel_rfl,by kernel_rfl,λ_=>rfl,λ_=>rfl,λ_=>rfl⟩
  ·cases h) (λb A h=>by
  unfold Z31.L at h;split at h
  ·cases h;exact λk x=>Z31.step0 k x.1 x.2.1 x.2.2.1 x.2.2.2.1
  ·cases h) ((Z31.run k a0).trans h) (λr hr=>Q1 hr)
def Z34.l0:Nat->(List Name)->(List Name)->(List Name)->Int->Int->Option (Sum Int ((List Name)× (List Name)))
 |0,_,_,_,_,_=>none
 |k+1,x0,x1,x11,x12,x13=>bif (decide (x13<x12))then(bif decide (0<=x13)then(bif decide (x13<(x11.length:Int))then(bif (decide (x13 ≥ (x1.length:Int)))then(some (.inl 1))else(bif decide (0<=x13)then(bif decide (x13<(x1.length:Int))then((Z117.F k (x11.getD (x13:Int).toNat (Q5 .name)) (x1.getD (x13:Int).toNat (Q5 .name))).bind λr1=>bif (r1 != 0)then(some (.inl r1))else(Z34.l0 k x0 x1 x11 x12 (IntKind.wrap .i64 (x13+1))))else none)else none))else none)else none)else(some (.inr (x0,x1)))
def Z34.F (k:Nat)(a0:List Name)(a1:List Name):Option (Int):=(Z34.l0 k a0 a1 a0 (a0.length:Int) 0).bind λy2=>match y2 with|.inl z3=>some z3|.inr z3=>bif (decide ((z3.1.length:Int)<(z3.2.length:Int)))then(some (-1))else(some 0)
def Z34.C (k:Nat):Cal->Option CArm:=λc=>match c with
 |.f 63=>some (.p [.name,.name] _ (λx=>Z117.F k x.1 x.2.1) (λr=>(.t (.int .i64) r)))
 |_=>none
def Z34.sp0:List Sp:=[.t 0 (.sl .name),.t 1 (.sl .name),.con 2 (.clo 63),.t 11 (.sl .name),.t 12 (.int .i64),.t 13 (.int .i64)]
def Z34.sp0_0:List Sp:=[.t 6 (.int .i64)]
def Z34.sp0_1:List Sp:=[.t 0 (.sl .name),.t 1 (.sl .name)]
def Z34.A0:LArm:=.two Z34.sp0 Z34.sp0_0 Z34.sp0_1 (Int) ((List Name)× (List Name)) (λk x=>Z34.l0 k x.1 x.2.1 x.2.2.2.1 x.2.2.2.2.1 x.2.2.2.2.2.1) .ret (.exit 0) (λy=>(y,())) (λx=>x.1) (λy=>(y.1,y.2,())) (λx=>(x.1,x.2.1))
def Z34.L:Nat->Option LArm:=λb=>match b with
 |0=>some Z34.A0
 |_=>none
theorem Z34.run (k:Nat)(a0:List Name)(a1:List Name):Qk Q0 (Q7 (Z34.C k)) (Q6 39 k Z34.L) Tryz.f61 [.t (.sl .name) a0,.t (.sl .name) a1,.clo 63 []] (Q2 (.t (.int .i64)))=Z34.F k a0 a1:=by kernel_rfl
theorem Z34.step0 (k:Nat)(x0:List Name)(x1:List Name)(x11:List Name)(x12:Int)(x13:Int):Qs Q0 (Q7 (Z34.C k)) (Q6 39 k Z34.L) 0 (Qj Tryz.f61 0) (QA 39 Z34.sp0 (x0,x1,(),x11,x12,x13,())) (Z34.A0.cont 39 k)=Z34.l0 (k+1) x0 x1 x11 x12 x13:=by kernel_rfl
theorem Z34.G (hE:EnvOk Tryz.prog Q0)(pv:Nat->Value)(k:Nat):∀cal A,Z34.C k cal=some A->Q9 Tryz.prog Q0 pv cal A:=by
 intro cal A h
 unfold Z34.C at h
 split at h
 ·cases h;exact λx y hy=>Z117.good hE pv k x.1 x.2.1 hy
 ·cases h
theorem Z34.good (hE:EnvOk Tryz.prog Q0)(pv:Nat->Value)(k:Nat)(a0:List Name)(a1:List Name){y:_}(h:Z34.F k a0 a1=some y):Q8 Tryz.prog Q0 pv (.f 61) (Jc [.t (.sl .name),.t (.sl .name),.clo 63 []] (a0,a1,(()),())) (.t (.int .i64) y):=
 Qh hE (t:=Z34.C) k (λk _=>Z34.G hE pv k) (f:=61) (fn:=Tryz.f61) (by kernel_rfl) rfl (by kernel_rfl) (by kernel_rfl) (lt:=Z34.L) (by kernel_rfl) (λb A h=>by
  unfold Z34.L at h;split at h
  ·cases h;exact⟨by kernel_rfl,by kernel_rfl,by kernel_rfl,λ_=>rfl,λ_=>rfl,λ_=>rfl⟩
  ·cases h) (λb A h=>by
  unfold Z34.L at h;split at h
  ·cases h;exact λk x=>Z34.step0 k x.1 x.2.1 x.2.2.2.1 x.2.2.2.2.1 x.2.2.2.2.2.1
  ·cases h) ((Z34.run k a0 a1).trans h) (λr hr=>Q1 hr)
def Z122.F (k:Nat)(a0:Entry)(a1:Entry):Option (Int):=(Z97.F a0).bind λr1=>(Z97.F a1).bind λr2=>(Z34.F k r1 r2).bind λr3=>(Z119.F k a0.date a1.date).bind λr4=>(Z31.F k a0.title).bind λr5=>(Z31.F k a1.title).bind λr6=>(Z120.F k r5 r6).bind λr7=>(Z68.F a0.volume a1.volume).bind λr8=>(Z116.F a0.key a1.key).bind λr9=>(Z14.F k ([r3,r4,r7,r8,r9]:List Int)).bind λr10=>some r10
def Z122.C (k:Nat):Cal->Option CArm:=λc=>match c with
 |.f 62=>some (.p [.entry] _ (λx=>Z97.F x.1) (λr=>(.t (.sl .name) r)))
 |.f 61=>some (.q [.t (.sl .name),.t (.sl .name),.clo 63 []] _ (λx=>Z34.F k x.1 x.2.1) (λr=>(.t (.int .i64) r)))
 |.f 64=>some (.p [.date,.date] _ (λx=>Z119.F k x.1 x.2.1) (λr=>(.t (.int .i64) r)))
 |.f 66=>some (.p [.str] _ (λx=>Z31.F k x.1) (λr=>(.t .str r)))
 |.f 65=>some (.p [.str,.str] _ (λx=>Z120.F k x.1 x.2.1) (λr=>(.t (.int .i64) r)))
 |.f 67=>some (.p [(.int .i64),(.int .i64)] _ (λx=>Z68.F x.1 x.2.1) (λr=>(.t (.int .i64) r)))
 |.f 68=>some (.p [.str,.str] _ (λx=>Z116.F x.1 x.2.1) (λr=>(.t (.int .i64) r)))
 |.f 60=>some (.p [(.sl (.int .i64))] _ (λx=>Z14.F k x.1) (λr=>(.t (.int .i64) r)))
 |_=>none
theorem Z122.run (k:Nat)(a0:Entry)(a1:Entry):Qk Q0 (Q7 (Z122.C k)) (Q6 34 0 (λ_=>none)) Tryz.f47 [.t .entry a0,.t .entry a1] (Q2 (.t (.int .i64)))=Z122.F k a0 a1:=by kernel_rfl
theorem Z122.G (hE:EnvOk Tryz.prog Q0)(pv:Nat->Value)(k:Nat):∀cal A,Z122.C k cal=some A->Q9 Tryz.prog Q0 pv cal A:=by
 intro cal A h
 unfold Z122.C at h
 split at h
 ·cases h;exact λx y hy=>Z97.good hE pv x.1 hy
 ·cases h;exact λx y hy=>Z34.good hE pv k x.1 x.2.1 hy
 ·cases h;exact λx y hy=>Z119.good hE pv k x.1 x.2.1 hy
 ·cases h;exact λx y hy=>Z31.good hE pv k x.1 hy
 ·cases h;exact λx y hy=>Z120.good hE pv k x.1 x.2.1 hy
 ·cases h;exact λx y hy=>Z68.good hE pv x.1 x.2.1 hy
 ·cases h;exact λx y hy=>Z116.good hE pv x.1 x.2.1 hy
 ·cases h;exact λx y hy=>Z14.good hE pv k x.1 hy
 ·cases h
theorem Z122.good (hE:EnvOk Tryz.prog Q0)(pv:Nat->Value)(k:Nat)(a0:Entry)(a1:Entry){y:_}(h:Z122.F k a0 a1=some y):Q8 Tryz.prog Q0 pv (.f 47) (Qa [.entry,.entry] (a0,a1,())) (.t (.int .i64) y):=
 Q4 hE (Z122.G hE pv k) (f:=47) (fn:=Tryz.f47) (by kernel_rfl) rfl (by kernel_rfl) (by kernel_rfl) ((Z122.run k a0 a1).trans h) (λr hr=>Q1 hr)
def Z78.F (k:Nat)(a0:ByteArray)(a1:ByteArray)(a2:Library):Option (Int):=(Z60.F k a2 a0).bind λr1=>bif decide (0<=r1)then(bif decide (r1<(a2.entries.length:Int))then((Z60.F k a2 a1).bind λr2=>bif decide (0<=r2)then(bif decide (r2<(a2.entries.length:Int))then((Z122.F k (a2.entries.getD (r1:Int).toNat (Q5 .entry)) (a2.entries.getD (r2:Int).toNat (Q5 .entry))).bind λr3=>some r3)else none)else none)else none)else none
def Z78.C (k:Nat):Cal->Option CArm:=λc=>match c with
 |.f 31=>some (.p [.lib,.str] _ (λx=>Z60.F k x.1 x.2.1) (λr=>(.t (.int .i64) r)))
 |.f 47=>some (.p [.entry,.entry] _ (λx=>Z122.F k x.1 x.2.1) (λr=>(.t (.int .i64) r)))
 |_=>none
theorem Z78.run (k:Nat)(a0:ByteArray)(a1:ByteArray)(a2:Library):Qk Q0 (Q7 (Z78.C k)) (Q6 21 0 (λ_=>none)) Tryz.f46 [.t .str a0,.t .str a1,.tp (.t .lib a2)] (Q2 (.t (.int .i64)))=Z78.F k a0 a1 a2:=by kernel_rfl
theorem Z78.G (hE:EnvOk Tryz.prog Q0)(pv:Nat->Value)(k:Nat):∀cal A,Z78.C k cal=some A->Q9 Tryz.prog Q0 pv cal A:=by
 intro cal A h
 unfold Z78.C at h
 split at h
 ·cases h;exact λx y hy=>Z60.good hE pv k x.1 x.2.1 hy
 ·cases h;exact λx y hy=>Z122.good hE pv k x.1 x.2.1 hy
 ·cases h
theorem Z78.good (hE:EnvOk Tryz.prog Q0)(pv:Nat->Value)(k:Nat)(a0:ByteArray)(a1:ByteArray)(a2:Library){y:_}(h:Z78.F k a0 a1 a2=some y):Q8 Tryz.prog Q0 pv (.f 46) (Jc [.t .str,.t .str,.tp .lib] (a0,a1,a2,())) (.t (.int .i64) y):=
 Q4 hE (Z78.G hE pv k) (f:=46) (fn:=Tryz.f46) (by kernel_rfl) rfl (by kernel_rfl) (by kernel_rfl) ((Z78.run k a0 a1 a2).trans h) (λr hr=>Q1 hr)
def Z8.l2:Nat->(List ByteArray)->Int->Int->Library->Int->Int->Option ((List ByteArray)×Int×Int×Library×Int)
 |0,_,_,_,_,_,_=>none
 |k+1,x0,x1,x2,x3,x8,x9=>bif (decide (x9 > x1))then(bif decide (0<=x9)then(bif decide (x9<(x0.length:Int))then(bif decide (0<=(IntKind.wrap .i64 (x9-1)))then(bif decide ((IntKind.wrap .i64 (x9-1))<(x0.length:Int))then((Z78.F k (x0.getD ((x9:Int).toNat) (⟨#[]⟩:ByteArray)) (x0.getD (((IntKind.wrap .i64 (x9-1)):Int).toNat) (⟨#[]⟩:ByteArray)) x3).bind λr1=>bif (decide (r1<0))then(bif decide (0<=(IntKind.wrap .i64 (x9-1)))then(bif decide ((IntKind.wrap .i64 (x9-1))<(x0.length:Int))then(bif decide (0<=x9)then(bif decide (x9<(x0.length:Int))then(bif decide (0<=x9)then(bif decide (x9<(x0.length:Int))then(bif decide (0<=(IntKind.wrap .i64 (x9-1)))then(bif decide ((IntKind.wrap .i64 (x9-1))<((x0.set ((x9:Int).toNat) (x0.getD (((IntKind.wrap .i64 (x9-1)):Int).toNat) (⟨#[]⟩:ByteArray))).length:Int))then(Z8.l2 k ((x0.set ((x9:Int).toNat) (x0.getD (((IntKind.wrap .i64 (x9-1)):Int).toNat) (⟨#[]⟩:ByteArray))).set (((IntKind.wrap .i64 (x9-1)):Int).toNat) (x0.getD ((x9:Int).toNat) (⟨#[]⟩:ByteArray))) x1 x2 x3 x8 (IntKind.wrap .i64 (x9-1)))else none)else none)else none)else none)else none)else none)else none)else none)else(some (x0,x1,x2,x3,x8)))else none)else none)else none)else none)else(some (x0,x1,x2,x3,x8))
def Z8.l0:Nat->(List ByteArray)->Int->Int->Library->Int->Option ((List ByteArray))
 |0,_,_,_,_,_=>none
 |k+1,x0,x1,x2,x3,x8=>bif (decide (x8<x2))then((Z8.l2 k x0 x1 x2 x3 x8 x8).bind λy2=>Z8.l0 k y2.1 y2.2.1 y2.2.2.1 y2.2.2.2.1 (IntKind.wrap .i64 (y2.2.2.2.2+1)))else(some x0)
def Z8.F (k:Nat)(a0:List ByteArray)(a1:Int)(a2:Int)(a3c0:Library):Option (List ByteArray):=(Z8.l0 k a0 a1 a2 a3c0 (IntKind.wrap .i64 (a1+1))).bind λy3=>bif Nat.beq (y3).length a0.length then(some y3)else none
def Z8.C (k:Nat):Cal->Option CArm:=λc=>match c with
 |.f 46=>some (.q [.t .str,.t .str,.tp .lib] _ (λx=>Z78.F k x.1 x.2.1 x.2.2.1) (λr=>(.t (.int .i64) r)))
 |_=>none
def Z8.sp2:List Sp:=[.own 0 1099511627776 9 .str false true,.t 1 (.int .i64),.t 2 (.int .i64),.cl 3 46 [.tp .lib],.t 8 (.int .i64),.t 9 (.int .i64)]
def Z8.sp2_0:List Sp:=[.own 0 1099511627776 9 .str false true,.t 1 (.int .i64),.t 2 (.int .i64),.cl 3 46 [.tp .lib],.t 8 (.int .i64)]
def Z8.A2:LArm:=.one Z8.sp2 Z8.sp2_0 ((List ByteArray)×Int×Int×Library×Int) (λk x=>Z8.l2 k x.1 x.2.1 x.2.2.1 x.2.2.2.1.1 x.2.2.2.2.1 x.2.2.2.2.2.1) (.exit 2) (λy=>(y.1,y.2.1,y.2.2.1,(y.2.2.2.1,()),y.2.2.2.2,())) (λx=>(x.1,x.2.1,x.2.2.1,x.2.2.2.1.1,x.2.2.2.2.1))
def Z8.sp0:List Sp:=[.own 0 1099511627776 9 .str false true,.t 1 (.int .i64),.t 2 (.int .i64),.cl 3 46 [.tp .lib],.t 8 (.int .i64)]
def Z8.sp0_0:List Sp:=[.own 0 1099511627776 9 .str false true]
def Z8.A0:LArm:=.one Z8.sp0 Z8.sp0_0 ((List ByteArray)) (λk x=>Z8.l0 k x.1 x.2.1 x.2.2.1 x.2.2.2.1.1 x.2.2.2.2.1) (.exit 0) (λy=>(y,())) (λx=>x.1)
def Z8.L:Nat->Option LArm:=λb=>match b with
 |2=>some Z8.A2
 |0=>some Z8.A0
 |_=>none
theorem Z8.run (k:Nat)(a0:List ByteArray)(a1:Int)(a2:Int)(a3c0:Library):YP Q0 (Q7 (Z8.C k)) (Q6 53 k Z8.L) Tryz.f91 Qg (.fr 9 .str a0) [.t (.int .i64) a1,.t (.int .i64) a2,.clo 46 [.tp (.t .lib a3c0)]] (Q0U (.fr 9 .str))=Z8.F k a0 a1 a2 a3c0:=by kernel_rfl
theorem Z8.step2 (k:Nat)(x0:List ByteArray)(x1:Int)(x2:Int)(x3:Library)(x8:Int)(x9:Int):Qs Q0 (Q7 (Z8.C k)) (Q6 53 k Z8.L) 2 (Qj Tryz.f91 2) (QA 53 Z8.sp2 (x0,x1,x2,(x3,()),x8,x9,())) (Z8.A2.cont 53 k)=Z8.l2 (k+1) x0 x1 x2 x3 x8 x9:=by kernel_rfl
theorem Z8.step0 (k:Nat)(x0:List ByteArray)(x1:Int)(x2:Int)(x3:Library)(x8:Int):Qs Q0 (Q7 (Z8.C k)) (Q6 53 k Z8.L) 0 (Qj Tryz.f91 0) (QA 53 Z8.sp0 (x0,x1,x2,(x3,()),x8,())) (Z8.A0.cont 53 k)=Z8.l0 (k+1) x0 x1 x2 x3 x8:=by kernel_rfl
theorem Z8.G (hE:EnvOk Tryz.prog Q0)(pv:Nat->Value)(k:Nat):∀cal A,Z8.C k cal=some A->Q9 Tryz.prog Q0 pv cal A:=by
 intro cal A h
 unfold Z8.C at h
 split at h
 ·cases h;exact λx y hy=>Z78.good hE pv k x.1 x.2.1 x.2.2.1 hy
 ·cases h
theorem Z8.good (hE:EnvOk Tryz.prog Q0)(pv:Nat->Value)(k:Nat)(a0:List ByteArray)(a1:Int)(a2:Int)(a3c0:Library){y:_}(h:Z8.F k a0 a1 a2 a3c0=some y):QM Tryz.prog Q0 pv 91 (.fr 9 .str a0) (Jc [.t (.int .i64),.t (.int .i64),.clo 46 [.tp .lib]] (a1,a2,(a3c0,()),())) (.kep (.fr 9 .str y) (.tup [])):=
 JB hE (t:=Z8.C) k (λk _=>Z8.G hE pv k) (f:=91) (fn:=Tryz.f91) (by kernel_rfl) rfl (by kernel_rfl) (.inl rfl) (by kernel_rfl) (lt:=Z8.L) (by kernel_rfl) (λb A h=>by
  unfold Z8.L at h;split at h
  ·cases h;exact⟨by kernel_rfl,by kernel_rfl,λ_=>rfl,λ_=>rfl⟩
  ·cases h;exact⟨by kernel_rfl,by kernel_rfl,λ_=>rfl,λ_=>rfl⟩
  ·cases h) (λb A h=>by
  unfold Z8.L at h;split at h
  ·cases h;exact λk x=>Z8.step2 k x.1 x.2.1 x.2.2.1 x.2.2.2.1.1 x.2.2.2.2.1 x.2.2.2.2.2.1
  ·cases h;exact λk x=>Z8.step0 k x.1 x.2.1 x.2.2.1 x.2.2.2.1.1 x.2.2.2.2.1
  ·cases h) ((Z8.run k a0 a1 a2 a3c0).trans h) (λr hr=>G7 hr)
def Z59.l0:Nat->(List ByteArray)->Int->Int->Int->Library->Bool->Bool->Option ((List ByteArray))
 |0,_,_,_,_,_,_,_=>none
 |k+1,x0,x1,x2,x3,x4,x10,x11=>bif (decide ((IntKind.wrap .i64 (x2-x1))<=12))then((Z8.F k x0 x1 x2 x4).bind λr1=>some r1)else(bif (x3==0)then(none)else(bif (!x10)then(none)else none))
def Z59.F (k:Nat)(a0:List ByteArray)(a1:Int)(a2:Int)(a3:Int)(a4c0:Library):Option (List ByteArray):=(Z59.l0 k a0 a1 a2 a3 a4c0 true true).bind λy2=>bif Nat.beq (y2).length a0.length then(some y2)else none
def Z59.C (k:Nat):Cal->Option CArm:=λc=>match c with
 |.f 91=>some (.mq (.fr 9 .str) [.t (.int .i64),.t (.int .i64),.clo 46 [.tp .lib]] _ (λx0 x=>Z8.F k x0 x.1 x.2.1 x.2.2.1.1) (λr=>.kep (.fr 9 .str r) (.tup [])))
 |_=>none
def Z59.sp0:List Sp:=[.own 0 1099511627776 9 .str false true,.t 1 (.int .i64),.t 2 (.int .i64),.t 3 (.int .i64),.cl 4 46 [.tp .lib],.t 10 .bool,.t 11 .bool]
def Z59.sp0_0:List Sp:=[.own 0 1099511627776 9 .str false true]
def Z59.A0:LArm:=.one Z59.sp0 Z59.sp0_0 ((List ByteArray)) (λk x=>Z59.l0 k x.1 x.2.1 x.2.2.1 x.2.2.2.1 x.2.2.2.2.1.1 x.2.2.2.2.2.1 x.2.2.2.2.2.2.1) .ret (λy=>(y,())) (λx=>x.1)
def Z59.L:Nat->Option LArm:=λb=>match b with
 |0=>some Z59.A0
 |_=>none
theorem Z59.run (k:Nat)(a0:List ByteArray)(a1:Int)(a2:Int)(a3:Int)(a4c0:Library):YP Q0 (Q7 (Z59.C k)) (Q6 148 k Z59.L) Tryz.f58 Qg (.fr 9 .str a0) [.t (.int .i64) a1,.t (.int .i64) a2,.t (.int .i64) a3,.clo 46 [.tp (.t .lib a4c0)]] (Q0U (.fr 9 .str))=Z59.F k a0 a1 a2 a3 a4c0:=by kernel_rfl
theorem Z59.step0 (k:Nat)(x0:List ByteArray)(x1:Int)(x2:Int)(x3:Int)(x4:Library)(x10:Bool)(x11:Bool):Qs Q0 (Q7 (Z59.C k)) (Q6 148 k Z59.L) 0 (Qj Tryz.f58 0) (QA 148 Z59.sp0 (x0,x1,x2,x3,(x4,()),x10,x11,())) (Z59.A0.cont 148 k)=Z59.l0 (k+1) x0 x1 x2 x3 x4 x10 x11:=by kernel_rfl
theorem Z59.G (hE:EnvOk Tryz.prog Q0)(pv:Nat->Value)(k:Nat):∀cal A,Z59.C k cal=some A->Q9 Tryz.prog Q0 pv cal A:=by
 intro cal A h
 unfold Z59.C at h
 split at h
 ·cases h;exact⟨_,rfl,λx0 x y hy=>Z8.good hE pv k x0 x.1 x.2.1 x.2.2.1.1 hy⟩
 ·cases h
theorem Z59.good (hE:EnvOk Tryz.prog Q0)(pv:Nat->Value)(k:Nat)(a0:List ByteArray)(a1:Int)(a2:Int)(a3:Int)(a4c0:Library){y:_}(h:Z59.F k a0 a1 a2 a3 a4c0=some y):QM Tryz.prog Q0 pv 58 (.fr 9 .str a0) (Jc [.t (.int .i64),.t (.int .i64),.t (.int .i64),.clo 46 [.tp .lib]] (a1,a2,a3,(a4c0,()),())) (.kep (.fr 9 .str y) (.tup [])):=
 JB hE (t:=Z59.C) k (λk _=>Z59.G hE pv k) (f:=58) (fn:=Tryz.f58) (by kernel_rfl) rfl (by kernel_rfl) (.inl rfl) (by kernel_rfl) (lt:=Z59.L) (by kernel_rfl) (λb A h=>by
  unfold Z59.L at h;split at h
  ·cases h;exact⟨by kernel_rfl,by kernel_rfl,λ_=>rfl,λ_=>rfl⟩
  ·cases h) (λb A h=>by
  unfold Z59.L at h;split at h
  ·cases h;exact λk x=>Z59.step0 k x.1 x.2.1 x.2.2.1 x.2.2.2.1 x.2.2.2.2.1.1 x.2.2.2.2.2.1 x.2.2.2.2.2.2.1
  ·cases h) ((Z59.run k a0 a1 a2 a3 a4c0).trans h) (λr hr=>G7 hr)
def Z134.F (k:Nat)(a0:List ByteArray)(a1c0:Library):Option (List ByteArray):=(Z115.F (IntKind.wrap .u64 (a0.length:Int))).bind λr1=>(Z59.F k a0 0 (a0.length:Int) r1 a1c0).bind λr2=>bif Nat.beq (r2).length a0.length then(some r2)else none
def Z134.C (k:Nat):Cal->Option CArm:=λc=>match c with
 |.f 59=>some (.p [(.int .u64)] _ (λx=>Z115.F x.1) (λr=>(.t (.int .i64) r)))
 |.f 58=>some (.mq (.fr 9 .str) [.t (.int .i64),.t (.int .i64),.t (.int .i64),.clo 46 [.tp .lib]] _ (λx0 x=>Z59.F k x0 x.1 x.2.1 x.2.2.1 x.2.2.2.1.1) (λr=>.kep (.fr 9 .str r) (.tup [])))
 |_=>none
theorem Z134.run (k:Nat)(a0:List ByteArray)(a1c0:Library):YP Q0 (Q7 (Z134.C k)) (Q6 14 0 (λ_=>none)) Tryz.f45 Qg (.fr 9 .str a0) [.clo 46 [.tp (.t .lib a1c0)]] (Q0U (.fr 9 .str))=Z134.F k a0 a1c0:=by kernel_rfl
theorem Z134.G (hE:EnvOk Tryz.prog Q0)(pv:Nat->Value)(k:Nat):∀cal A,Z134.C k cal=some A->Q9 Tryz.prog Q0 pv cal A:=by
 intro cal A h
 unfold Z134.C at h
 split at h
 ·cases h;exact λx y hy=>Z115.good hE pv x.1 hy
 ·cases h;exact⟨_,rfl,λx0 x y hy=>Z59.good hE pv k x0 x.1 x.2.1 x.2.2.1 x.2.2.2.1.1 hy⟩
 ·cases h
theorem Z134.good (hE:EnvOk Tryz.prog Q0)(pv:Nat->Value)(k:Nat)(a0:List ByteArray)(a1c0:Library){y:_}(h:Z134.F k a0 a1c0=some y):QM Tryz.prog Q0 pv 45 (.fr 9 .str a0) (Jc [.clo 46 [.tp .lib]] ((a1c0,()),())) (.kep (.fr 9 .str y) (.tup [])):=
 Jm hE (Z134.G hE pv k) (f:=45) (fn:=Tryz.f45) (by kernel_rfl) rfl (by kernel_rfl) (.inl rfl) (by kernel_rfl) ((Z134.run k a0 a1c0).trans h) (λr hr=>G7 hr)
def Z101.F (k:Nat)(a0:Library)(a1:List ByteArray):Option (List ByteArray):=bif room (([]:List ByteArray).length+a1.length) .str then((Z134.F k (([]:List ByteArray)++a1) a0).bind λr1=>some r1)else none
def Z101.C (k:Nat):Cal->Option CArm:=λc=>match c with
 |.f 45=>some (.mq (.fr 9 .str) [.clo 46 [.tp .lib]] _ (λx0 x=>Z134.F k x0 x.1.1) (λr=>.kep (.fr 9 .str r) (.tup [])))
 |_=>none
theorem Z101.run (k:Nat)(a0:Library)(a1:List ByteArray):Qk Q0 (Q7 (Z101.C k)) (Q6 13 0 (λ_=>none)) Tryz.f28 [.t .lib a0,.t (.sl .str) a1] (Q2 (.fr 9 .str))=Z101.F k a0 a1:=by kernel_rfl
theorem Z101.G (hE:EnvOk Tryz.prog Q0)(pv:Nat->Value)(k:Nat):∀cal A,Z101.C k cal=some A->Q9 Tryz.prog Q0 pv cal A:=by
 intro cal A h
 unfold Z101.C at h
 split at h
 ·cases h;exact⟨_,rfl,λx0 x y hy=>Z134.good hE pv k x0 x.1.1 hy⟩
 ·cases h
theorem Z101.good (hE:EnvOk Tryz.prog Q0)(pv:Nat->Value)(k:Nat)(a0:Library)(a1:List ByteArray){y:_}(h:Z101.F k a0 a1=some y):Q8 Tryz.prog Q0 pv (.f 28) (Qa [.lib,(.sl .str)] (a0,a1,())) (.fr 9 .str y):=
 Q4 hE (Z101.G hE pv k) (f:=28) (fn:=Tryz.f28) (by kernel_rfl) rfl (by kernel_rfl) (by kernel_rfl) ((Z101.run k a0 a1).trans h) (λr hr=>Q1 hr)
def Z69.F (k:Nat)(a0:ByteArray)(a1:Library)(a2:Int):Option (Bool):=(Z72.F k a1 a0).bind λr1=>some (r1.kind != a2)
def Z69.C (k:Nat):Cal->Option CArm:=λc=>match c with
 |.f 17=>some (.p [.lib,.str] _ (λx=>Z72.F k x.1 x.2.1) (λr=>(.t .entry r)))
 |_=>none
theorem Z69.run (k:Nat)(a0:ByteArray)(a1:Library)(a2:Int):Qk Q0 (Q7 (Z69.C k)) (Q6 11 0 (λ_=>none)) Tryz.f29 [.t .str a0,.tp (.t .lib a1),.tp (.t (.int .i64) a2)] (Q2 (.t .bool))=Z69.F k a0 a1 a2:=by kernel_rfl
theorem Z69.G (hE:EnvOk Tryz.prog Q0)(pv:Nat->Value)(k:Nat):∀cal A,Z69.C k cal=some A->Q9 Tryz.prog Q0 pv cal A:=by
 intro cal A h
 unfold Z69.C at h
 split at h
 ·cases h;exact λx y hy=>Z72.good hE pv k x.1 x.2.1 hy
 ·cases h
theorem Z69.good (hE:EnvOk Tryz.prog Q0)(pv:Nat->Value)(k:Nat)(a0:ByteArray)(a1:Library)(a2:Int){y:_}(h:Z69.F k a0 a1 a2=some y):Q8 Tryz.prog Q0 pv (.f 29) (Jc [.t .str,.tp .lib,.tp (.int .i64)] (a0,a1,a2,())) (.t .bool y):=
 Q4 hE (Z69.G hE pv k) (f:=29) (fn:=Tryz.f29) (by kernel_rfl) rfl (by kernel_rfl) (by kernel_rfl) ((Z69.run k a0 a1 a2).trans h) (λr hr=>Q1 hr)
def Z48.l0:Nat->(List ByteArray)->Library->Int->Int->Int->Option (Sum Int Unit)
 |0,_,_,_,_,_=>none
 |k+1,x0,x1_0,x1_1,x7,x8=>bif (decide (x8<x7))then(bif decide (0<=x8)then(bif decide (x8<(x0.length:Int))then((Z69.F k (x0.getD (x8:Int).toNat (⟨#[]⟩:ByteArray)) x1_0 x1_1).bind λr1=>bif r1 then(some (.inl x8))else(Z48.l0 k x0 x1_0 x1_1 x7 (IntKind.wrap .i64 (x8+1))))else none)else none)else(some (.inr ()))
def Z48.F (k:Nat)(a0:List ByteArray)(a1c0:Library)(a1c1:Int):Option (Int):=(Z48.l0 k a0 a1c0 a1c1 (a0.length:Int) 0).bind λy2=>match y2 with|.inl z3=>some z3|.inr z3=>some (-1)
def Z48.C (k:Nat):Cal->Option CArm:=λc=>match c with
 |.f 29=>some (.q [.t .str,.tp .lib,.tp (.int .i64)] _ (λx=>Z69.F k x.1 x.2.1 x.2.2.1) (λr=>(.t .bool r)))
 |_=>none
def Z48.sp0:List Sp:=[.t 0 (.sl .str),.cl 1 29 [.tp .lib,.tp (.int .i64)],.t 7 (.int .i64),.t 8 (.int .i64)]
def Z48.sp0_0:List Sp:=[.t 4 (.int .i64)]
def Z48.sp0_1:List Sp:=[]
def Z48.A0:LArm:=.two Z48.sp0 Z48.sp0_0 Z48.sp0_1 (Int) (Unit) (λk x=>Z48.l0 k x.1 x.2.1.1 x.2.1.2.1 x.2.2.1 x.2.2.2.1) .ret (.exit 0) (λy=>(y,())) (λx=>x.1) (λy=>()) (λx=>())
def Z48.L:Nat->Option LArm:=λb=>match b with
 |0=>some Z48.A0
 |_=>none
theorem Z48.run (k:Nat)(a0:List ByteArray)(a1c0:Library)(a1c1:Int):Qk Q0 (Q7 (Z48.C k)) (Q6 19 k Z48.L) Tryz.f44 [.t (.sl .str) a0,.clo 29 [.tp (.t .lib a1c0),.tp (.t (.int .i64) a1c1)]] (Q2 (.t (.int .i64)))=Z48.F k a0 a1c0 a1c1:=by kernel_rfl
theorem Z48.step0 (k:Nat)(x0:List ByteArray)(x1_0:Library)(x1_1:Int)(x7:Int)(x8:Int):Qs Q0 (Q7 (Z48.C k)) (Q6 19 k Z48.L) 0 (Qj Tryz.f44 0) (QA 19 Z48.sp0 (x0,(x1_0,x1_1,()),x7,x8,())) (Z48.A0.cont 19 k)=Z48.l0 (k+1) x0 x1_0 x1_1 x7 x8:=by kernel_rfl
theorem Z48.G (hE:EnvOk Tryz.prog Q0)(pv:Nat->Value)(k:Nat):∀cal A,Z48.C k cal=some A->Q9 Tryz.prog Q0 pv cal A:=by
 intro cal A h
 unfold Z48.C at h
 split at h
 ·cases h;exact λx y hy=>Z69.good hE pv k x.1 x.2.1 x.2.2.1 hy
 ·cases h
theorem Z48.good (hE:EnvOk Tryz.prog Q0)(pv:Nat->Value)(k:Nat)(a0:List ByteArray)(a1c0:Library)(a1c1:Int){y:_}(h:Z48.F k a0 a1c0 a1c1=some y):Q8 Tryz.prog Q0 pv (.f 44) (Jc [.t (.sl .str),.clo 29 [.tp .lib,.tp (.int .i64)]] (a0,(a1c0,a1c1,()),())) (.t (.int .i64) y):=
 Qh hE (t:=Z48.C) k (λk _=>Z48.G hE pv k) (f:=44) (fn:=Tryz.f44) (by kernel_rfl) rfl (by kernel_rfl) (by kernel_rfl) (lt:=Z48.L) (by kernel_rfl) (λb A h=>by
  unfold Z48.L at h;split at h
  ·cases h;exact⟨by kernel_rfl,by kernel_rfl,by kernel_rfl,λ_=>rfl,λ_=>rfl,λ_=>rfl⟩
  ·cases h) (λb A h=>by
  unfold Z48.L at h;split at h
  ·cases h;exact λk x=>Z48.step0 k x.1 x.2.1.1 x.2.1.2.1 x.2.2.1 x.2.2.2.1
  ·cases h) ((Z48.run k a0 a1c0 a1c1).trans h) (λr hr=>Q1 hr)
def Z57.l0:Nat->(List ByteArray)->Library->Int->Int->Int->Option ((List ByteArray)×Int)
 |0,_,_,_,_,_=>none
 |k+1,x0,x1_0,x1_1,x5,x6=>bif (decide (x6<(x0.length:Int)))then(bif decide (0<=x6)then(bif decide (x6<(x0.length:Int))then((Z69.F k (x0.getD ((x6:Int).toNat) (⟨#[]⟩:ByteArray)) x1_0 x1_1).bind λr2=>bif (!r2)then(bif decide (0<=x5)then(bif decide (x5<(x0.length:Int))then(Z57.l0 k (x0.set ((x5:Int).toNat) (x0.getD ((x6:Int).toNat) (⟨#[]⟩:ByteArray))) x1_0 x1_1 (IntKind.wrap .i64 (x5+1)) (IntKind.wrap .i64 (x6+1)))else none)else none)else(Z57.l0 k x0 x1_0 x1_1 x5 (IntKind.wrap .i64 (x6+1))))else none)else none)else(some (x0,x5))
def Z57.F (k:Nat)(a0:List ByteArray)(a1c0:Library)(a1c1:Int):Option (List ByteArray):=(Z48.F k a0 a1c0 a1c1).bind λr1=>bif (r1==(-1))then(some a0)else((Z57.l0 k a0 a1c0 a1c1 r1 (IntKind.wrap .i64 (r1+1))).bind λy3=>bif decide (0<=y3.2)then(bif decide (y3.2<=(y3.1.length:Int))then(bif decide (0<=y3.2)then(bif decide (y3.2<=((y3.1.take ((y3.2:Int).toNat)++List.replicate (y3.1.length-((y3.2:Int).toNat)) (⟨#[]⟩:ByteArray)).length:Int))then(some ((y3.1.take ((y3.2:Int).toNat)++List.replicate (y3.1.length-((y3.2:Int).toNat)) (⟨#[]⟩:ByteArray)).take (y3.2:Int).toNat))else none)else none)else none)else none)
def Z57.C (k:Nat):Cal->Option CArm:=λc=>match c with
 |.f 44=>some (.q [.t (.sl .str),.clo 29 [.tp .lib,.tp (.int .i64)]] _ (λx=>Z48.F k x.1 x.2.1.1 x.2.1.2.1) (λr=>(.t (.int .i64) r)))
 |.f 29=>some (.q [.t .str,.tp .lib,.tp (.int .i64)] _ (λx=>Z69.F k x.1 x.2.1 x.2.2.1) (λr=>(.t .bool r)))
 |_=>none
def Z57.sp0:List Sp:=[.own 0 1099511627777 9 .str false true,.cl 1 29 [.tp .lib,.tp (.int .i64)],.t 5 (.int .i64),.t 6 (.int .i64)]
def Z57.sp0_0:List Sp:=[.own 0 1099511627777 9 .str false true,.t 5 (.int .i64)]
def Z57.A0:LArm:=.one Z57.sp0 Z57.sp0_0 ((List ByteArray)×Int) (λk x=>Z57.l0 k x.1 x.2.1.1 x.2.1.2.1 x.2.2.1 x.2.2.2.1) (.exit 0) (λy=>(y.1,y.2,())) (λx=>(x.1,x.2.1))
def Z57.L:Nat->Option LArm:=λb=>match b with
 |0=>some Z57.A0
 |_=>none
theorem Z57.run (k:Nat)(a0:List ByteArray)(a1c0:Library)(a1c1:Int):YP Q0 (Q7 (Z57.C k)) (Q6 42 k Z57.L) Tryz.f27 KB (.fr 9 .str a0) [.clo 29 [.tp (.t .lib a1c0),.tp (.t (.int .i64) a1c1)]] (Q04 9 .str)=Z57.F k a0 a1c0 a1c1:=by kernel_rfl
theorem Z57.step0 (k:Nat)(x0:List ByteArray)(x1_0:Library)(x1_1:Int)(x5:Int)(x6:Int):Qs Q0 (Q7 (Z57.C k)) (Q6 42 k Z57.L) 0 (Qj Tryz.f27 0) (QA 42 Z57.sp0 (x0,(x1_0,x1_1,()),x5,x6,())) (Z57.A0.cont 42 k)=Z57.l0 (k+1) x0 x1_0 x1_1 x5 x6:=by kernel_rfl
theorem Z57.G (hE:EnvOk Tryz.prog Q0)(pv:Nat->Value)(k:Nat):∀cal A,Z57.C k cal=some A->Q9 Tryz.prog Q0 pv cal A:=by
 intro cal A h
 unfold Z57.C at h
 split at h
 ·cases h;exact λx y hy=>Z48.good hE pv k x.1 x.2.1.1 x.2.1.2.1 hy
 ·cases h;exact λx y hy=>Z69.good hE pv k x.1 x.2.1 x.2.2.1 hy
 ·cases h
theorem Z57.good (hE:EnvOk Tryz.prog Q0)(pv:Nat->Value)(k:Nat)(a0:List ByteArray)(a1c0:Library)(a1c1:Int){y:_}(h:Z57.F k a0 a1c0 a1c1=some y):QM Tryz.prog Q0 pv 27 (.fr 9 .str a0) (Jc [.clo 29 [.tp .lib,.tp (.int .i64)]] ((a1c0,a1c1,()),())) (.mov 9 .str y):=
 JB hE (t:=Z57.C) k (λk _=>Z57.G hE pv k) (f:=27) (fn:=Tryz.f27) (by kernel_rfl) rfl (by kernel_rfl) (.inr rfl) (by kernel_rfl) (lt:=Z57.L) (by kernel_rfl) (λb A h=>by
  unfold Z57.L at h;split at h
  ·cases h;exact⟨by kernel_rfl,by kernel_rfl,λ_=>rfl,λ_=>rfl⟩
  ·cases h) (λb A h=>by
  unfold Z57.L at h;split at h
  ·cases h;exact λk x=>Z57.step0 k x.1 x.2.1.1 x.2.1.2.1 x.2.2.1 x.2.2.2.1
  ·cases h) ((Z57.run k a0 a1c0 a1c1).trans h) (λr hr=>Q0V hr)
def Z43.l0:Nat->(List ByteArray)->Library->(List Int)->(List (List ByteArray))->Int->Option ((List Int)× (List (List ByteArray)))
 |0,_,_,_,_,_=>none
 |k+1,x1,x2,x7,x8,x9=>bif (decide (x9<=4))then((Z101.F k x2 x1).bind λr2=>(Z57.F k r2 x2 x9).bind λr3=>bif (decide ((r3.length:Int) > 0))then(bif room (x7.length+([x9]:List Int).length) (.int .i64)then(bif room (x8.length+([r3]:List (List ByteArray)).length) (.sl .str)then(Z43.l0 k x1 x2 (x7++([x9]:List Int)) (x8++([r3]:List (List ByteArray))) (IntKind.wrap .i64 (x9+1)))else none)else none)else(Z43.l0 k x1 x2 x7 x8 (IntKind.wrap .i64 (x9+1))))else(some (x7,x8))
def Z43.F (k:Nat)(a0:Library)(a1:List ByteArray):Option ((List Int)× (List (List ByteArray))×Bool):=(Z21.F k a0 a1).bind λr1=>bif (!r1)then(some ([],[],false))else((Z43.l0 k a1 a0 ([]:List Int) ([]:List (List ByteArray)) 1).bind λy4=>some (y4.1,y4.2,true))
def Z43.C (k:Nat):Cal->Option CArm:=λc=>match c with
 |.f 15=>some (.p [.lib,(.sl .str)] _ (λx=>Z21.F k x.1 x.2.1) (λr=>(.t .bool r)))
 |.f 28=>some (.p [.lib,(.sl .str)] _ (λx=>Z101.F k x.1 x.2.1) (λr=>(.fr 9 .str r)))
 |.f 27=>some (.mq (.fr 9 .str) [.clo 29 [.tp .lib,.tp (.int .i64)]] _ (λx0 x=>Z57.F k x0 x.1.1 x.1.2.1) (λr=>.mov 9 .str r))
 |_=>none
def Z43.sp0:List Sp:=[.t 1 (.sl .str),.boxT 2 0 .lib,.own 7 3072 3 (.int .i64) false true,.own 8 3076 27 (.sl .str) false true,.boxT 9 4096 (.int .i64)]
def Z43.sp0_0:List Sp:=[.own 7 3072 3 (.int .i64) false true,.own 8 3076 27 (.sl .str) false true]
def Z43.A0:LArm:=.one Z43.sp0 Z43.sp0_0 ((List Int)× (List (List ByteArray))) (λk x=>Z43.l0 k x.1 x.2.1 x.2.2.1 x.2.2.2.1 x.2.2.2.2.1) (.exit 0) (λy=>(y.1,y.2,())) (λx=>(x.1,x.2.1))
def Z43.L:Nat->Option LArm:=λb=>match b with
 |0=>some Z43.A0
 |_=>none
theorem Z43.run (k:Nat)(a0:Library)(a1:List ByteArray):Qk Q0 (Q7 (Z43.C k)) (Q6 40 k Z43.L) Tryz.f9 [.t .lib a0,.t (.sl .str) a1] (Q2K (.fr 3 (.int .i64)) (.fr 27 (.sl .str)) (.t .bool))=Z43.F k a0 a1:=by kernel_rfl
theorem Z43.step0 (k:Nat)(x1:List ByteArray)(x2:Library)(x7:List Int)(x8:List (List ByteArray))(x9:Int):Qs Q0 (Q7 (Z43.C k)) (Q6 40 k Z43.L) 0 (Qj Tryz.f9 0) (QA 40 Z43.sp0 (x1,x2,x7,x8,x9,())) (Z43.A0.cont 40 k)=Z43.l0 (k+1) x1 x2 x7 x8 x9:=by kernel_rfl
theorem Z43.G (hE:EnvOk Tryz.prog Q0)(pv:Nat->Value)(k:Nat):∀cal A,Z43.C k cal=some A->Q9 Tryz.prog Q0 pv cal A:=by
 intro cal A h
 unfold Z43.C at h
 split at h
 ·cases h;exact λx y hy=>Z21.good hE pv k x.1 x.2.1 hy
 ·cases h;exact λx y hy=>Z101.good hE pv k x.1 x.2.1 hy
 ·cases h;exact⟨_,rfl,λx0 x y hy=>Z57.good hE pv k x0 x.1.1 x.1.2.1 hy⟩
 ·cases h
theorem Z43.good (hE:EnvOk Tryz.prog Q0)(pv:Nat->Value)(k:Nat)(a0:Library)(a1:List ByteArray){y:_}(h:Z43.F k a0 a1=some y):Q8 Tryz.prog Q0 pv (.f 9) (Qa [.lib,(.sl .str)] (a0,a1,())) (.tup [.fr 3 (.int .i64) y.1,.fr 27 (.sl .str) y.2.1,.t .bool y.2.2]):=
 Qh hE (t:=Z43.C) k (λk _=>Z43.G hE pv k) (f:=9) (fn:=Tryz.f9) (by kernel_rfl) rfl (by kernel_rfl) (by kernel_rfl) (lt:=Z43.L) (by kernel_rfl) (λb A h=>by
  unfold Z43.L at h;split at h
  ·cases h;exact⟨by kernel_rfl,by kernel_rfl,λ_=>rfl,λ_=>rfl⟩
  ·cases h) (λb A h=>by
  unfold Z43.L at h;split at h
  ·cases h;exact λk x=>Z43.step0 k x.1 x.2.1 x.2.2.1 x.2.2.2.1 x.2.2.2.2.1
  ·cases h) ((Z43.run k a0 a1).trans h) (λr hr=>Q4i hr)
def Z65.F (a0:ByteArray)(a1:ByteArray):Option (Int):=bif (ltS a0 a1)then(some (-1))else(bif (!(ltS a0 a1||Qo a0 a1))then(some 1)else(some 0))
def Z65.C:Cal->Option CArm:=λc=>match c with
 |_=>none
theorem Z65.run (a0:ByteArray)(a1:ByteArray):Qk Q0 (Q7 Z65.C) (Q6 13 0 (λ_=>none)) Tryz.f74 [.t .str a0,.t .str a1] (Q2 (.t (.int .i64)))=Z65.F a0 a1:=by kernel_rfl
theorem Z65.G (hE:EnvOk Tryz.prog Q0)(pv:Nat->Value):∀cal A,Z65.C cal=some A->Q9 Tryz.prog Q0 pv cal A:=by
 intro cal A h
 unfold Z65.C at h
 cases h
theorem Z65.good (hE:EnvOk Tryz.prog Q0)(pv:Nat->Value)(a0:ByteArray)(a1:ByteArray){y:_}(h:Z65.F a0 a1=some y):Q8 Tryz.prog Q0 pv (.f 74) (Qa [.str,.str] (a0,a1,())) (.t (.int .i64) y):=
 Q4 hE (Z65.G hE pv) (f:=74) (fn:=Tryz.f74) (by kernel_rfl) rfl (by kernel_rfl) (by kernel_rfl) ((Z65.run a0 a1).trans h) (λr hr=>Q1 hr)
def Z16.l0:Nat->(List Int)->Int->Option ((List Int))
 |0,_,_=>none
 |k+1,x3,x4=>bif (decide (x4<(x3.length:Int)))then(bif decide (0<=x4)then(bif decide (x4<(x3.length:Int))then((Z67.F (x3.getD ((x4:Int).toNat) 0)).bind λr1=>bif r1 then(bif decide (0<=x4)then(bif decide (x4<(x3.length:Int))then(bif decide (0<=x4)then(bif decide (x4<(x3.length:Int))then(Z16.l0 k (x3.set ((x4:Int).toNat) (IntKind.wrap .u8 ((x3.getD ((x4:Int).toNat) 0)+32))) (IntKind.wrap .i64 (x4+1)))else none)else none)else none)else none)else(Z16.l0 k x3 (IntKind.wrap .i64 (x4+1))))else none)else none)else(some x3)
def Z16.F (k:Nat)(a0:ByteArray):Option (ByteArray):=bif Nat.ble a0.size 9223372036854775807 then((Z16.l0 k (Qf a0) 0).bind λy2=>some (DJ y2))else none
def Z16.C (k:Nat):Cal->Option CArm:=λc=>match c with
 |.f 135=>some (.p [(.int .u8)] _ (λx=>Z67.F x.1) (λr=>(.t .bool r)))
 |_=>none
def Z16.sp0:List Sp:=[.own 3 1028 5 (.int .u8) false false,.t 4 (.int .i64)]
def Z16.sp0_0:List Sp:=[.own 3 1028 5 (.int .u8) false false]
def Z16.A0:LArm:=.one Z16.sp0 Z16.sp0_0 ((List Int)) (λk x=>Z16.l0 k x.1 x.2.1) (.exit 0) (λy=>(y,())) (λx=>x.1)
def Z16.L:Nat->Option LArm:=λb=>match b with
 |0=>some Z16.A0
 |_=>none
theorem Z16.run (k:Nat)(a0:ByteArray):Qk Q0 (Q7 (Z16.C k)) (Q6 28 k Z16.L) Tryz.f111 [.t .str a0] (Q2 (.t .str))=Z16.F k a0:=by kernel_rfl
theorem Z16.step0 (k:Nat)(x3:List Int)(x4:Int):Qs Q0 (Q7 (Z16.C k)) (Q6 28 k Z16.L) 0 (Qj Tryz.f111 0) (QA 28 Z16.sp0 (x3,x4,())) (Z16.A0.cont 28 k)=Z16.l0 (k+1) x3 x4:=by kernel_rfl
theorem Z16.G (hE:EnvOk Tryz.prog Q0)(pv:Nat->Value)(k:Nat):∀cal A,Z16.C k cal=some A->Q9 Tryz.prog Q0 pv cal A:=by
 intro cal A h
 unfold Z16.C at h
 split at h
 ·cases h;exact λx y hy=>Z67.good hE pv x.1 hy
 ·cases h
theorem Z16.good (hE:EnvOk Tryz.prog Q0)(pv:Nat->Value)(k:Nat)(a0:ByteArray){y:_}(h:Z16.F k a0=some y):Q8 Tryz.prog Q0 pv (.f 111) (Qa [.str] (a0,())) (.t .str y):=
 Qh hE (t:=Z16.C) k (λk _=>Z16.G hE pv k) (f:=111) (fn:=Tryz.f111) (by kernel_rfl) rfl (by kernel_rfl) (by kernel_rfl) (lt:=Z16.L) (by kernel_rfl) (λb A h=>by
  unfold Z16.L at h;split at h
  ·cases h;exact⟨by kernel_rfl,by kernel_rfl,λ_=>rfl,λ_=>rfl⟩
  ·cases h) (λb A h=>by
  unfold Z16.L at h;split at h
  ·cases h;exact λk x=>Z16.step0 k x.1 x.2.1
  ·cases h) ((Z16.run k a0).trans h) (λr hr=>Q1 hr)
def Z20.l0:Nat->(List ByteArray)->ByteArray->Int->Option (ByteArray)
 |0,_,_,_=>none
 |k+1,x0,x3,x4=>bif (decide (x4<(x0.length:Int)))then(bif (!Qo x3 (⟨#[]⟩:ByteArray))then(bif decide (0<=x4)then(bif decide (x4<(x0.length:Int))then(bif (!Qo (x0.getD (x4:Int).toNat (⟨#[]⟩:ByteArray)) (⟨#[]⟩:ByteArray))then(bif Nat.ble (x3.size+(⟨#[32]⟩:ByteArray).size) 9223372036854775807 then(bif decide (0<=x4)then(bif decide (x4<(x0.length:Int))then(bif Nat.ble ((x3++(⟨#[32]⟩:ByteArray)).size+(x0.getD (x4:Int).toNat (⟨#[]⟩:ByteArray)).size) 9223372036854775807 then(Z20.l0 k x0 ((x3++(⟨#[32]⟩:ByteArray))++(x0.getD (x4:Int).toNat (⟨#[]⟩:ByteArray))) (IntKind.wrap .i64 (x4+1)))else none)else none)else none)else none)else(bif decide (0<=x4)then(bif decide (x4<(x0.length:Int))then(bif Nat.ble (x3.size+(x0.getD (x4:Int).toNat (⟨#[]⟩:ByteArray)).size) 9223372036854775807 then(Z20.l0 k x0 (x3++(x0.getD (x4:Int).toNat (⟨#[]⟩:ByteArray))) (IntKind.wrap .i64 (x4+1)))else none)else none)else none))else none)else none)else(bif decide (0<=x4)then(bif decide (x4<(x0.length:Int))then(bif Nat.ble (x3.size+(x0.getD (x4:Int).toNat (⟨#[]⟩:ByteArray)).size) 9223372036854775807 then(Z20.l0 k x0 (x3++(x0.getD (x4:Int).toNat (⟨#[]⟩:ByteArray))) (IntKind.wrap .i64 (x4+1)))else none)else none)else none))else(some x3)
def Z20.F (k:Nat)(a0:List ByteArray):Option (ByteArray):=(Z20.l0 k a0 (⟨#[]⟩:ByteArray) 0).bind λy1=>some y1
def Z20.C (k:Nat):Cal->Option CArm:=λc=>match c with
 |_=>none
def Z20.sp0:List Sp:=[.t 0 (.sl .str),.t 3 .str,.t 4 (.int .i64)]
def Z20.sp0_0:List Sp:=[.t 3 .str]
def Z20.A0:LArm:=.one Z20.sp0 Z20.sp0_0 (ByteArray) (λk x=>Z20.l0 k x.1 x.2.1 x.2.2.1) (.exit 0) (λy=>(y,())) (λx=>x.1)
def Z20.L:Nat->Option LArm:=λb=>match b with
 |0=>some Z20.A0
 |_=>none
theorem Z20.run (k:Nat)(a0:List ByteArray):Qk Q0 (Q7 (Z20.C k)) (Q6 29 k Z20.L) Tryz.f149 [.t (.sl .str) a0] (Q2 (.t .str))=Z20.F k a0:=by kernel_rfl
theorem Z20.step0 (k:Nat)(x0:List ByteArray)(x3:ByteArray)(x4:Int):Qs Q0 (Q7 (Z20.C k)) (Q6 29 k Z20.L) 0 (Qj Tryz.f149 0) (QA 29 Z20.sp0 (x0,x3,x4,())) (Z20.A0.cont 29 k)=Z20.l0 (k+1) x0 x3 x4:=by kernel_rfl
theorem Z20.G (hE:EnvOk Tryz.prog Q0)(pv:Nat->Value)(k:Nat):∀cal A,Z20.C k cal=some A->Q9 Tryz.prog Q0 pv cal A:=by
 intro cal A h
 unfold Z20.C at h
 cases h
theorem Z20.good (hE:EnvOk Tryz.prog Q0)(pv:Nat->Value)(k:Nat)(a0:List ByteArray){y:_}(h:Z20.F k a0=some y):Q8 Tryz.prog Q0 pv (.f 149) (Qa [(.sl .str)] (a0,())) (.t .str y):=
 Qh hE (t:=Z20.C) k (λk _=>Z20.G hE pv k) (f:=149) (fn:=Tryz.f149) (by kernel_rfl) rfl (by kernel_rfl) (by kernel_rfl) (lt:=Z20.L) (by kernel_rfl) (λb A h=>by
  unfold Z20.L at h;split at h
  ·cases h;exact⟨by kernel_rfl,by kernel_rfl,λ_=>rfl,λ_=>rfl⟩
  ·cases h) (λb A h=>by
  unfold Z20.L at h;split at h
  ·cases h;exact λk x=>Z20.step0 k x.1 x.2.1 x.2.2.1
  ·cases h) ((Z20.run k a0).trans h) (λr hr=>Q1 hr)
def Z74.F (k:Nat)(a0:Name):Option (ByteArray):=(Z20.F k a0.given).bind λr1=>some r1
def Z74.C (k:Nat):Cal->Option CArm:=λc=>match c with
 |.f 149=>some (.p [(.sl .str)] _ (λx=>Z20.F k x.1) (λr=>(.t .str r)))
 |_=>none
theorem Z74.run (k:Nat)(a0:Name):Qk Q0 (Q7 (Z74.C k)) (Q6 6 0 (λ_=>none)) Tryz.f150 [.t .name a0] (Q2 (.t .str))=Z74.F k a0:=by kernel_rfl
theorem Z74.G (hE:EnvOk Tryz.prog Q0)(pv:Nat->Value)(k:Nat):∀cal A,Z74.C k cal=some A->Q9 Tryz.prog Q0 pv cal A:=by
 intro cal A h
 unfold Z74.C at h
 split at h
 ·cases h;exact λx y hy=>Z20.good hE pv k x.1 hy
 ·cases h
theorem Z74.good (hE:EnvOk Tryz.prog Q0)(pv:Nat->Value)(k:Nat)(a0:Name){y:_}(h:Z74.F k a0=some y):Q8 Tryz.prog Q0 pv (.f 150) (Qa [.name] (a0,())) (.t .str y):=
 Q4 hE (Z74.G hE pv k) (f:=150) (fn:=Tryz.f150) (by kernel_rfl) rfl (by kernel_rfl) (by kernel_rfl) ((Z74.run k a0).trans h) (λr hr=>Q1 hr)
def Z102.F (k:Nat)(a0:Name):Option (ByteArray):=(Z74.F k a0).bind λr1=>(Z20.F k ([r1,a0.particle,a0.family,a0.suffix]:List ByteArray)).bind λr2=>some r2
def Z102.C (k:Nat):Cal->Option CArm:=λc=>match c with
 |.f 150=>some (.p [.name] _ (λx=>Z74.F k x.1) (λr=>(.t .str r)))
 |.f 149=>some (.p [(.sl .str)] _ (λx=>Z20.F k x.1) (λr=>(.t .str r)))
 |_=>none
theorem Z102.run (k:Nat)(a0:Name):Qk Q0 (Q7 (Z102.C k)) (Q6 13 0 (λ_=>none)) Tryz.f132 [.t .name a0] (Q2 (.t .str))=Z102.F k a0:=by kernel_rfl
theorem Z102.G (hE:EnvOk Tryz.prog Q0)(pv:Nat->Value)(k:Nat):∀cal A,Z102.C k cal=some A->Q9 Tryz.prog Q0 pv cal A:=by
 intro cal A h
 unfold Z102.C at h
 split at h
 ·cases h;exact λx y hy=>Z74.good hE pv k x.1 hy
 ·cases h;exact λx y hy=>Z20.good hE pv k x.1 hy
 ·cases h
theorem Z102.good (hE:EnvOk Tryz.prog Q0)(pv:Nat->Value)(k:Nat)(a0:Name){y:_}(h:Z102.F k a0=some y):Q8 Tryz.prog Q0 pv (.f 132) (Qa [.name] (a0,())) (.t .str y):=
 Q4 hE (Z102.G hE pv k) (f:=132) (fn:=Tryz.f132) (by kernel_rfl) rfl (by kernel_rfl) (by kernel_rfl) ((Z102.run k a0).trans h) (λr hr=>Q1 hr)
def Z103.F (k:Nat)(a0:Name):Option (ByteArray):=(Z20.F k ([a0.particle,a0.family]:List ByteArray)).bind λr1=>bif (decide ((a0.given.length:Int) > 0))then(bif Nat.ble (r1.size+(⟨#[44,32]⟩:ByteArray).size) 9223372036854775807 then((Z74.F k a0).bind λr2=>bif Nat.ble ((r1++(⟨#[44,32]⟩:ByteArray)).size+r2.size) 9223372036854775807 then(bif (!Qo a0.suffix (⟨#[]⟩:ByteArray))then(bif Nat.ble (((r1++(⟨#[44,32]⟩:ByteArray))++r2).size+(⟨#[44,32]⟩:ByteArray).size) 9223372036854775807 then(bif Nat.ble ((((r1++(⟨#[44,32]⟩:ByteArray))++r2)++(⟨#[44,32]⟩:ByteArray)).size+a0.suffix.size) 9223372036854775807 then(some ((((r1++(⟨#[44,32]⟩:ByteArray))++r2)++(⟨#[44,32]⟩:ByteArray))++a0.suffix))else none)else none)else(some ((r1++(⟨#[44,32]⟩:ByteArray))++r2)))else none)else none)else(bif (!Qo a0.suffix (⟨#[]⟩:ByteArray))then(bif Nat.ble (r1.size+(⟨#[44,32]⟩:ByteArray).size) 9223372036854775807 then((Z74.F k a0).bind λr3=>bif Nat.ble ((r1++(⟨#[44,32]⟩:ByteArray)).size+r3.size) 9223372036854775807 then(bif (!Qo a0.suffix (⟨#[]⟩:ByteArray))then(bif Nat.ble (((r1++(⟨#[44,32]⟩:ByteArray))++r3).size+(⟨#[44,32]⟩:ByteArray).size) 9223372036854775807 then(bif Nat.ble ((((r1++(⟨#[44,32]⟩:ByteArray))++r3)++(⟨#[44,32]⟩:ByteArray)).size+a0.suffix.size) 9223372036854775807 then(some ((((r1++(⟨#[44,32]⟩:ByteArray))++r3)++(⟨#[44,32]⟩:ByteArray))++a0.suffix))else none)else none)else(some ((r1++(⟨#[44,32]⟩:ByteArray))++r3)))else none)else none)else(bif (!Qo a0.suffix (⟨#[]⟩:ByteArray))then(bif Nat.ble (r1.size+(⟨#[44,32]⟩:ByteArray).size) 9223372036854775807 then(bif Nat.ble ((r1++(⟨#[44,32]⟩:ByteArray)).size+a0.suffix.size) 9223372036854775807 then(some ((r1++(⟨#[44,32]⟩:ByteArray))++a0.suffix))else none)else none)else(some r1)))
def Z103.C (k:Nat):Cal->Option CArm:=λc=>match c with
 |.f 149=>some (.p [(.sl .str)] _ (λx=>Z20.F k x.1) (λr=>(.t .str r)))
 |.f 150=>some (.p [.name] _ (λx=>Z74.F k x.1) (λr=>(.t .str r)))
 |_=>none
theorem Z103.run (k:Nat)(a0:Name):Qk Q0 (Q7 (Z103.C k)) (Q6 33 0 (λ_=>none)) Tryz.f133 [.t .name a0] (Q2 (.t .str))=Z103.F k a0:=by kernel_rfl
theorem Z103.G (hE:EnvOk Tryz.prog Q0)(pv:Nat->Value)(k:Nat):∀cal A,Z103.C k cal=some A->Q9 Tryz.prog Q0 pv cal A:=by
 intro cal A h
 unfold Z103.C at h
 split at h
 ·cases h;exact λx y hy=>Z20.good hE pv k x.1 hy
 ·cases h;exact λx y hy=>Z74.good hE pv k x.1 hy
 ·cases h
theorem Z103.good (hE:EnvOk Tryz.prog Q0)(pv:Nat->Value)(k:Nat)(a0:Name){y:_}(h:Z103.F k a0=some y):Q8 Tryz.prog Q0 pv (.f 133) (Qa [.name] (a0,())) (.t .str y):=
 Q4 hE (Z103.G hE pv k) (f:=133) (fn:=Tryz.f133) (by kernel_rfl) rfl (by kernel_rfl) (by kernel_rfl) ((Z103.run k a0).trans h) (λr hr=>Q1 hr)
def Z123.F (k:Nat)(a0:Name)(a1:Name):Option (Int):=(Z16.F k a0.family).bind λr1=>(Z16.F k a1.family).bind λr2=>(Z65.F r1 r2).bind λr3=>bif (r3 != 0)then(some r3)else((Z65.F a0.particle a1.particle).bind λr4=>bif (r4 != 0)then(some r4)else((Z102.F k a0).bind λr5=>(Z16.F k r5).bind λr6=>(Z102.F k a1).bind λr7=>(Z16.F k r7).bind λr8=>(Z65.F r6 r8).bind λr9=>bif (r9 != 0)then(some r9)else((Z103.F k a0).bind λr10=>(Z103.F k a1).bind λr11=>(Z65.F r10 r11).bind λr12=>some r12)))
def Z123.C (k:Nat):Cal->Option CArm:=λc=>match c with
 |.f 111=>some (.p [.str] _ (λx=>Z16.F k x.1) (λr=>(.t .str r)))
 |.f 74=>some (.p [.str,.str] _ (λx=>Z65.F x.1 x.2.1) (λr=>(.t (.int .i64) r)))
 |.f 132=>some (.p [.name] _ (λx=>Z102.F k x.1) (λr=>(.t .str r)))
 |.f 133=>some (.p [.name] _ (λx=>Z103.F k x.1) (λr=>(.t .str r)))
 |_=>none
theorem Z123.run (k:Nat)(a0:Name)(a1:Name):Qk Q0 (Q7 (Z123.C k)) (Q6 41 0 (λ_=>none)) Tryz.f109 [.t .name a0,.t .name a1] (Q2 (.t (.int .i64)))=Z123.F k a0 a1:=by kernel_rfl
theorem Z123.G (hE:EnvOk Tryz.prog Q0)(pv:Nat->Value)(k:Nat):∀cal A,Z123.C k cal=some A->Q9 Tryz.prog Q0 pv cal A:=by
 intro cal A h
 unfold Z123.C at h
 split at h
 ·cases h;exact λx y hy=>Z16.good hE pv k x.1 hy
 ·cases h;exact λx y hy=>Z65.good hE pv x.1 x.2.1 hy
 ·cases h;exact λx y hy=>Z102.good hE pv k x.1 hy
 ·cases h;exact λx y hy=>Z103.good hE pv k x.1 hy
 ·cases h
theorem Z123.good (hE:EnvOk Tryz.prog Q0)(pv:Nat->Value)(k:Nat)(a0:Name)(a1:Name){y:_}(h:Z123.F k a0 a1=some y):Q8 Tryz.prog Q0 pv (.f 109) (Qa [.name,.name] (a0,a1,())) (.t (.int .i64) y):=
 Q4 hE (Z123.G hE pv k) (f:=109) (fn:=Tryz.f109) (by kernel_rfl) rfl (by kernel_rfl) (by kernel_rfl) ((Z123.run k a0 a1).trans h) (λr hr=>Q1 hr)
def Z35.l0:Nat->(List Name)->(List Name)->Int->Option (Sum Int ((List Name)× (List Name)))
 |0,_,_,_=>none
 |k+1,x0,x1,x5=>bif (decide (x5<(x0.length:Int)))then(bif (decide (x5<(x1.length:Int)))then(bif decide (0<=x5)then(bif decide (x5<(x0.length:Int))then(bif decide (0<=x5)then(bif decide (x5<(x1.length:Int))then((Z123.F k (x0.getD (x5:Int).toNat (Q5 .name)) (x1.getD (x5:Int).toNat (Q5 .name))).bind λr1=>bif (r1 != 0)then(some (.inl r1))else(Z35.l0 k x0 x1 (IntKind.wrap .i64 (x5+1))))else none)else none)else none)else none)else(some (.inr (x0,x1))))else(some (.inr (x0,x1)))
def Z35.F (k:Nat)(a0:List Name)(a1:List Name):Option (Int):=(Z35.l0 k a0 a1 0).bind λy2=>match y2 with|.inl z3=>some z3|.inr z3=>bif (decide ((z3.1.length:Int)<(z3.2.length:Int)))then(some (-1))else(bif (decide ((z3.1.length:Int) > (z3.2.length:Int)))then(some 1)else(some 0))
def Z35.C (k:Nat):Cal->Option CArm:=λc=>match c with
 |.f 109=>some (.p [.name,.name] _ (λx=>Z123.F k x.1 x.2.1) (λr=>(.t (.int .i64) r)))
 |_=>none
def Z35.sp0:List Sp:=[.t 0 (.sl .name),.t 1 (.sl .name),.t 5 (.int .i64)]
def Z35.sp0_0:List Sp:=[.t 4 (.int .i64)]
def Z35.sp0_1:List Sp:=[.t 0 (.sl .name),.t 1 (.sl .name)]
def Z35.A0:LArm:=.two Z35.sp0 Z35.sp0_0 Z35.sp0_1 (Int) ((List Name)× (List Name)) (λk x=>Z35.l0 k x.1 x.2.1 x.2.2.1) .ret (.exit 0) (λy=>(y,())) (λx=>x.1) (λy=>(y.1,y.2,())) (λx=>(x.1,x.2.1))
def Z35.L:Nat->Option LArm:=λb=>match b with
 |0=>some Z35.A0
 |_=>none
theorem Z35.run (k:Nat)(a0:List Name)(a1:List Name):Qk Q0 (Q7 (Z35.C k)) (Q6 43 k Z35.L) Tryz.f69 [.t (.sl .name) a0,.t (.sl .name) a1] (Q2 (.t (.int .i64)))=Z35.F k a0 a1:=by kernel_rfl
theorem Z35.step0 (k:Nat)(x0:List Name)(x1:List Name)(x5:Int):Qs Q0 (Q7 (Z35.C k)) (Q6 43 k Z35.L) 0 (Qj Tryz.f69 0) (QA 43 Z35.sp0 (x0,x1,x5,())) (Z35.A0.cont 43 k)=Z35.l0 (k+1) x0 x1 x5:=by kernel_rfl
theorem Z35.G (hE:EnvOk Tryz.prog Q0)(pv:Nat->Value)(k:Nat):∀cal A,Z35.C k cal=some A->Q9 Tryz.prog Q0 pv cal A:=by
 intro cal A h
 unfold Z35.C at h
 split at h
 ·cases h;exact λx y hy=>Z123.good hE pv k x.1 x.2.1 hy
 ·cases h
theorem Z35.good (hE:EnvOk Tryz.prog Q0)(pv:Nat->Value)(k:Nat)(a0:List Name)(a1:List Name){y:_}(h:Z35.F k a0 a1=some y):Q8 Tryz.prog Q0 pv (.f 69) (Qa [(.sl .name),(.sl .name)] (a0,a1,())) (.t (.int .i64) y):=
 Qh hE (t:=Z35.C) k (λk _=>Z35.G hE pv k) (f:=69) (fn:=Tryz.f69) (by kernel_rfl) rfl (by kernel_rfl) (by kernel_rfl) (lt:=Z35.L) (by kernel_rfl) (λb A h=>by
  unfold Z35.L at h;split at h
  ·cases h;exact⟨by kernel_rfl,by kernel_rfl,by kernel_rfl,λ_=>rfl,λ_=>rfl,λ_=>rfl⟩
  ·cases h) (λb A h=>by
  unfold Z35.L at h;split at h
  ·cases h;exact λk x=>Z35.step0 k x.1 x.2.1 x.2.2.1
  ·cases h) ((Z35.run k a0 a1).trans h) (λr hr=>Q1 hr)
def Z104.F (a0:Entry):Option (List Name):=bif (decide ((a0.authors.length:Int) > 0))then(some a0.authors)else(some a0.editors)
def Z104.C:Cal->Option CArm:=λc=>match c with
 |_=>none
theorem Z104.run (a0:Entry):Qk Q0 (Q7 Z104.C) (Q6 11 0 (λ_=>none)) Tryz.f70 [.t .entry a0] (Q2 (.t (.sl .name)))=Z104.F a0:=by kernel_rfl
theorem Z104.G (hE:EnvOk Tryz.prog Q0)(pv:Nat->Value):∀cal A,Z104.C cal=some A->Q9 Tryz.prog Q0 pv cal A:=by
 intro cal A h
 unfold Z104.C at h
 cases h
theorem Z104.good (hE:EnvOk Tryz.prog Q0)(pv:Nat->Value)(a0:Entry){y:_}(h:Z104.F a0=some y):Q8 Tryz.prog Q0 pv (.f 70) (Qa [.entry] (a0,())) (.t (.sl .name) y):=
 Q4 hE (Z104.G hE pv) (f:=70) (fn:=Tryz.f70) (by kernel_rfl) rfl (by kernel_rfl) (by kernel_rfl) ((Z104.run a0).trans h) (λr hr=>Q1 hr)
def Z124.F (a0:Date)(a1:Date):Option (Int):=bif (decide ((IntKind.wrap .i64 ((IntKind.wrap .i64 ((IntKind.wrap .i64 ((IntKind.wrap .i64 ((IntKind.wrap .i64 ((IntKind.wrap .i64 (a0.y*13))+a0.m))*32))+a0.d))-(IntKind.wrap .i64 ((IntKind.wrap .i64 ((IntKind.wrap .i64 (a1.y*13))+a1.m))*32))))-a1.d))<0))then(some (-1))else(bif ((IntKind.wrap .i64 ((IntKind.wrap .i64 ((IntKind.wrap .i64 ((IntKind.wrap .i64 ((IntKind.wrap .i64 ((IntKind.wrap .i64 (a0.y*13))+a0.m))*32))+a0.d))-(IntKind.wrap .i64 ((IntKind.wrap .i64 ((IntKind.wrap .i64 (a1.y*13))+a1.m))*32))))-a1.d))==0)then(bif (!a0.c)then(bif a1.c then(some (-1))else(bif (decide ((IntKind.wrap .i64 ((IntKind.wrap .i64 ((IntKind.wrap .i64 ((IntKind.wrap .i64 ((IntKind.wrap .i64 ((IntKind.wrap .i64 (a0.y*13))+a0.m))*32))+a0.d))-(IntKind.wrap .i64 ((IntKind.wrap .i64 ((IntKind.wrap .i64 (a1.y*13))+a1.m))*32))))-a1.d)) > 0))then(some 1)else(bif a0.c then(bif (!a1.c)then(some 1)else(some 0))else(some 0))))else(bif (decide ((IntKind.wrap .i64 ((IntKind.wrap .i64 ((IntKind.wrap .i64 ((IntKind.wrap .i64 ((IntKind.wrap .i64 ((IntKind.wrap .i64 (a0.y*13))+a0.m))*32))+a0.d))-(IntKind.wrap .i64 ((IntKind.wrap .i64 ((IntKind.wrap .i64 (a1.y*13))+a1.m))*32))))-a1.d)) > 0))then(some 1)else(bif a0.c then(bif (!a1.c)then(some 1)else(some 0))else(some 0))))else(bif (decide ((IntKind.wrap .i64 ((IntKind.wrap .i64 ((IntKind.wrap .i64 ((IntKind.wrap .i64 ((IntKind.wrap .i64 ((IntKind.wrap .i64 (a0.y*13))+a0.m))*32))+a0.d))-(IntKind.wrap .i64 ((IntKind.wrap .i64 ((IntKind.wrap .i64 (a1.y*13))+a1.m))*32))))-a1.d)) > 0))then(some 1)else(bif a0.c then(bif (!a1.c)then(some 1)else(some 0))else(some 0))))
def Z124.C:Cal->Option CArm:=λc=>match c with
 |_=>none
theorem Z124.run (a0:Date)(a1:Date):Qk Q0 (Q7 Z124.C) (Q6 55 0 (λ_=>none)) Tryz.f71 [.t .date a0,.t .date a1] (Q2 (.t (.int .i64)))=Z124.F a0 a1:=by kernel_rfl
theorem Z124.G (hE:EnvOk Tryz.prog Q0)(pv:Nat->Value):∀cal A,Z124.C cal=some A->Q9 Tryz.prog Q0 pv cal A:=by
 intro cal A h
 unfold Z124.C at h
 cases h
theorem Z124.good (hE:EnvOk Tryz.prog Q0)(pv:Nat->Value)(a0:Date)(a1:Date){y:_}(h:Z124.F a0 a1=some y):Q8 Tryz.prog Q0 pv (.f 71) (Qa [.date,.date] (a0,a1,())) (.t (.int .i64) y):=
 Q4 hE (Z124.G hE pv) (f:=71) (fn:=Tryz.f71) (by kernel_rfl) rfl (by kernel_rfl) (by kernel_rfl) ((Z124.run a0 a1).trans h) (λr hr=>Q1 hr)
def Z125.F (a0:Int):Option (Bool):=bif (decide (a0 ≥ 48))then(some (decide (a0<=57)))else(some false)
def Z125.C:Cal->Option CArm:=λc=>match c with
 |_=>none
theorem Z125.run (a0:Int):Qk Q0 (Q7 Z125.C) (Q6 9 0 (λ_=>none)) Tryz.f134 [.t (.int .u8) a0] (Q2 (.t .bool))=Z125.F a0:=by kernel_rfl
theorem Z125.G (hE:EnvOk Tryz.prog Q0)(pv:Nat->Value):∀cal A,Z125.C cal=some A->Q9 Tryz.prog Q0 pv cal A:=by
 intro cal A h
 unfold Z125.C at h
 cases h
theorem Z125.good (hE:EnvOk Tryz.prog Q0)(pv:Nat->Value)(a0:Int){y:_}(h:Z125.F a0=some y):Q8 Tryz.prog Q0 pv (.f 134) (Qa [(.int .u8)] (a0,())) (.t .bool y):=
 Q4 hE (Z125.G hE pv) (f:=134) (fn:=Tryz.f134) (by kernel_rfl) rfl (by kernel_rfl) (by kernel_rfl) ((Z125.run a0).trans h) (λr hr=>Q1 hr)
def Z12.l0:Nat->(List Int)->Bool->ByteArray->Int->Option ((List Int))
 |0,_,_,_,_=>none
 |k+1,x3,x4,x5,x6=>bif (decide (x6<(x5.size:Int)))then(bif decide (0<=x6)then(bif decide (x6<(x5.size:Int))then((Z64.F (bt x5 (x6:Int).toNat)).bind λr2=>bif (!r2)then((Z125.F (bt x5 (x6:Int).toNat)).bind λr3=>bif (!r3)then(bif x4 then(Z12.l0 k x3 true x5 (IntKind.wrap .i64 (x6+1)))else(Z12.l0 k x3 ((bt x5 (x6:Int).toNat)==32) x5 (IntKind.wrap .i64 (x6+1))))else(bif x4 then(bif (decide ((x3.length:Int) > 0))then(bif room (x3.length+([32]:List Int).length) (.int .u8)then(bif room ((x3++([32]:List Int)).length+([(bt x5 (x6:Int).toNat)]:List Int).length) (.int .u8)then(Z12.l0 k ((x3++([32]:List Int))++([(bt x5 (x6:Int).toNat)]:List Int)) false x5 (IntKind.wrap .i64 (x6+1)))else none)else none)else(bif room (x3.length+([(bt x5 (x6:Int).toNat)]:List Int).length) (.int .u8)then(Z12.l0 k (x3++([(bt x5 (x6:Int).toNat)]:List Int)) false x5 (IntKind.wrap .i64 (x6+1)))else none))else(bif room (x3.length+([(bt x5 (x6:Int).toNat)]:List Int).length) (.int .u8)then(Z12.l0 k (x3++([(bt x5 (x6:Int).toNat)]:List Int)) false x5 (IntKind.wrap .i64 (x6+1)))else none)))else(bif x4 then(bif (decide ((x3.length:Int) > 0))then(bif room (x3.length+([32]:List Int).length) (.int .u8)then(bif room ((x3++([32]:List Int)).length+([(bt x5 (x6:Int).toNat)]:List Int).length) (.int .u8)then(Z12.l0 k ((x3++([32]:List Int))++([(bt x5 (x6:Int).toNat)]:List Int)) false x5 (IntKind.wrap .i64 (x6+1)))else none)else none)else(bif room (x3.length+([(bt x5 (x6:Int).toNat)]:List Int).length) (.int .u8)then(Z12.l0 k (x3++([(bt x5 (x6:Int).toNat)]:List Int)) false x5 (IntKind.wrap .i64 (x6+1)))else none))else(bif room (x3.length+([(bt x5 (x6:Int).toNat)]:List Int).length) (.int .u8)then(Z12.l0 k (x3++([(bt x5 (x6:Int).toNat)]:List Int)) false x5 (IntKind.wrap .i64 (x6+1)))else none)))else none)else none)else(some x3)
def Z12.F (k:Nat)(a0:ByteArray):Option (ByteArray):=(Z16.F k a0).bind λr1=>(Z12.l0 k ([]:List Int) false r1 0).bind λy4=>some (DJ y4)
def Z12.C (k:Nat):Cal->Option CArm:=λc=>match c with
 |.f 111=>some (.p [.str] _ (λx=>Z16.F k x.1) (λr=>(.t .str r)))
 |.f 119=>some (.p [(.int .u8)] _ (λx=>Z64.F x.1) (λr=>(.t .bool r)))
 |.f 134=>some (.p [(.int .u8)] _ (λx=>Z125.F x.1) (λr=>(.t .bool r)))
 |_=>none
def Z12.sp0:List Sp:=[.own 3 1024 5 (.int .u8) false true,.t 4 .bool,.t 5 .str,.t 6 (.int .i64)]
def Z12.sp0_0:List Sp:=[.own 3 1024 5 (.int .u8) false true]
def Z12.A0:LArm:=.one Z12.sp0 Z12.sp0_0 ((List Int)) (λk x=>Z12.l0 k x.1 x.2.1 x.2.2.1 x.2.2.2.1) (.exit 0) (λy=>(y,())) (λx=>x.1)
def Z12.L:Nat->Option LArm:=λb=>match b with
 |0=>some Z12.A0
 |_=>none
theorem Z12.run (k:Nat)(a0:ByteArray):Qk Q0 (Q7 (Z12.C k)) (Q6 48 k Z12.L) Tryz.f110 [.t .str a0] (Q2 (.t .str))=Z12.F k a0:=by kernel_rfl
theorem Z12.step0 (k:Nat)(x3:List Int)(x4:Bool)(x5:ByteArray)(x6:Int):Qs Q0 (Q7 (Z12.C k)) (Q6 48 k Z12.L) 0 (Qj Tryz.f110 0) (QA 48 Z12.sp0 (x3,x4,x5,x6,())) (Z12.A0.cont 48 k)=Z12.l0 (k+1) x3 x4 x5 x6:=by kernel_rfl
theorem Z12.G (hE:EnvOk Tryz.prog Q0)(pv:Nat->Value)(k:Nat):∀cal A,Z12.C k cal=some A->Q9 Tryz.prog Q0 pv cal A:=by
 intro cal A h
 unfold Z12.C at h
 split at h
 ·cases h;exact λx y hy=>Z16.good hE pv k x.1 hy
 ·cases h;exact λx y hy=>Z64.good hE pv x.1 hy
 ·cases h;exact λx y hy=>Z125.good hE pv x.1 hy
 ·cases h
theorem Z12.good (hE:EnvOk Tryz.prog Q0)(pv:Nat->Value)(k:Nat)(a0:ByteArray){y:_}(h:Z12.F k a0=some y):Q8 Tryz.prog Q0 pv (.f 110) (Qa [.str] (a0,())) (.t .str y):=
 Qh hE (t:=Z12.C) k (λk _=>Z12.G hE pv k) (f:=110) (fn:=Tryz.f110) (by kernel_rfl) rfl (by kernel_rfl) (by kernel_rfl) (lt:=Z12.L) (by kernel_rfl) (λb A h=>by
  unfold Z12.L at h;split at h
  ·cases h;exact⟨by kernel_rfl,by kernel_rfl,λ_=>rfl,λ_=>rfl⟩
  ·cases h) (λb A h=>by
  unfold Z12.L at h;split at h
  ·cases h;exact λk x=>Z12.step0 k x.1 x.2.1 x.2.2.1 x.2.2.2.1
  ·cases h) ((Z12.run k a0).trans h) (λr hr=>Q1 hr)
def Z126.F (k:Nat)(a0:ByteArray)(a1:ByteArray):Option (Int):=(Z12.F k a0).bind λr1=>(Z12.F k a1).bind λr2=>(Z65.F r1 r2).bind λr3=>bif (r3 != 0)then(some r3)else((Z65.F a0 a1).bind λr4=>some r4)
def Z126.C (k:Nat):Cal->Option CArm:=λc=>match c with
 |.f 110=>some (.p [.str] _ (λx=>Z12.F k x.1) (λr=>(.t .str r)))
 |.f 74=>some (.p [.str,.str] _ (λx=>Z65.F x.1 x.2.1) (λr=>(.t (.int .i64) r)))
 |_=>none
theorem Z126.run (k:Nat)(a0:ByteArray)(a1:ByteArray):Qk Q0 (Q7 (Z126.C k)) (Q6 17 0 (λ_=>none)) Tryz.f72 [.t .str a0,.t .str a1] (Q2 (.t (.int .i64)))=Z126.F k a0 a1:=by kernel_rfl
theorem Z126.G (hE:EnvOk Tryz.prog Q0)(pv:Nat->Value)(k:Nat):∀cal A,Z126.C k cal=some A->Q9 Tryz.prog Q0 pv cal A:=by
 intro cal A h
 unfold Z126.C at h
 split at h
 ·cases h;exact λx y hy=>Z12.good hE pv k x.1 hy
 ·cases h;exact λx y hy=>Z65.good hE pv x.1 x.2.1 hy
 ·cases h
theorem Z126.good (hE:EnvOk Tryz.prog Q0)(pv:Nat->Value)(k:Nat)(a0:ByteArray)(a1:ByteArray){y:_}(h:Z126.F k a0 a1=some y):Q8 Tryz.prog Q0 pv (.f 72) (Qa [.str,.str] (a0,a1,())) (.t (.int .i64) y):=
 Q4 hE (Z126.G hE pv k) (f:=72) (fn:=Tryz.f72) (by kernel_rfl) rfl (by kernel_rfl) (by kernel_rfl) ((Z126.run k a0 a1).trans h) (λr hr=>Q1 hr)
def Z25.l0:Nat->ByteArray->(List ByteArray)->Int->Option (Sum ByteArray ByteArray)
 |0,_,_,_=>none
 |k+1,x0,x3,x4=>bif (decide (x4<(x3.length:Int)))then(bif decide (0<=x4)then(bif decide (x4<(x3.length:Int))then(bif (decide ((x0.size:Int) ≥ ((x3.getD ((x4:Int).toNat) (⟨#[]⟩:ByteArray)).size:Int)))then(bif decide (0<=((x3.getD ((x4:Int).toNat) (⟨#[]⟩:ByteArray)).size:Int))then(bif decide (((x3.getD ((x4:Int).toNat) (⟨#[]⟩:ByteArray)).size:Int)<=(x0.size:Int))then((Z16.F k (x0.extract 0 (((x3.getD ((x4:Int).toNat) (⟨#[]⟩:ByteArray)).size:Int):Int).toNat)).bind λr1=>bif decide (0<=x4)then(bif decide (x4<(x3.length:Int))then(bif (Qo r1 (x3.getD ((x4:Int).toNat) (⟨#[]⟩:ByteArray)))then(bif decide (0<=((x3.getD ((x4:Int).toNat) (⟨#[]⟩:ByteArray)).size:Int))then(bif decide (((x3.getD ((x4:Int).toNat) (⟨#[]⟩:ByteArray)).size:Int)<=(x0.size:Int))then(some (.inl (x0.extract (((x3.getD ((x4:Int).toNat) (⟨#[]⟩:ByteArray)).size:Int):Int).toNat x0.size)))else none)else none)else(Z25.l0 k x0 x3 (IntKind.wrap .i64 (x4+1))))else none)else none)else none)else none)else(Z25.l0 k x0 x3 (IntKind.wrap .i64 (x4+1))))else none)else none)else(some (.inr x0))
def Z25.F (k:Nat)(a0:ByteArray):Option (ByteArray):=(Z25.l0 k a0 ([(⟨#[97,32]⟩:ByteArray),(⟨#[97,110,32]⟩:ByteArray),(⟨#[116,104,101,32]⟩:ByteArray)]:List ByteArray) 0).bind λy2=>match y2 with|.inl z3=>some z3|.inr z3=>some z3
def Z25.C (k:Nat):Cal->Option CArm:=λc=>match c with
 |.f 111=>some (.p [.str] _ (λx=>Z16.F k x.1) (λr=>(.t .str r)))
 |_=>none
def Z25.sp0:List Sp:=[.t 0 .str,.own 3 1024 9 .str false true,.t 4 (.int .i64)]
def Z25.sp0_0:List Sp:=[.t 2 .str]
def Z25.sp0_1:List Sp:=[.t 0 .str]
def Z25.A0:LArm:=.two Z25.sp0 Z25.sp0_0 Z25.sp0_1 (ByteArray) (ByteArray) (λk x=>Z25.l0 k x.1 x.2.1 x.2.2.1) .ret (.exit 0) (λy=>(y,())) (λx=>x.1) (λy=>(y,())) (λx=>x.1)
def Z25.L:Nat->Option LArm:=λb=>match b with
 |0=>some Z25.A0
 |_=>none
theorem Z25.run (k:Nat)(a0:ByteArray):Qk Q0 (Q7 (Z25.C k)) (Q6 37 k Z25.L) Tryz.f73 [.t .str a0] (Q2 (.t .str))=Z25.F k a0:=by kernel_rfl
theorem Z25.step0 (k:Nat)(x0:ByteArray)(x3:List ByteArray)(x4:Int):Qs Q0 (Q7 (Z25.C k)) (Q6 37 k Z25.L) 0 (Qj Tryz.f73 0) (QA 37 Z25.sp0 (x0,x3,x4,())) (Z25.A0.cont 37 k)=Z25.l0 (k+1) x0 x3 x4:=by kernel_rfl
theorem Z25.G (hE:EnvOk Tryz.prog Q0)(pv:Nat->Value)(k:Nat):∀cal A,Z25.C k cal=some A->Q9 Tryz.prog Q0 pv cal A:=by
 intro cal A h
 unfold Z25.C at h
 split at h
 ·cases h;exact λx y hy=>Z16.good hE pv k x.1 hy
 ·cases h
theorem Z25.good (hE:EnvOk Tryz.prog Q0)(pv:Nat->Value)(k:Nat)(a0:ByteArray){y:_}(h:Z25.F k a0=some y):Q8 Tryz.prog Q0 pv (.f 73) (Qa [.str] (a0,())) (.t .str y):=
 Qh hE (t:=Z25.C) k (λk _=>Z25.G hE pv k) (f:=73) (fn:=Tryz.f73) (by kernel_rfl) rfl (by kernel_rfl) (by kernel_rfl) (lt:=Z25.L) (by kernel_rfl) (λb A h=>by
  unfold Z25.L at h;split at h
  ·cases h;exact⟨by kernel_rfl,by kernel_rfl,by kernel_rfl,λ_=>rfl,λ_=>rfl,λ_=>rfl⟩
  ·cases h) (λb A h=>by
  unfold Z25.L at h;split at h
  ·cases h;exact λk x=>Z25.step0 k x.1 x.2.1 x.2.2.1
  ·cases h) ((Z25.run k a0).trans h) (λr hr=>Q1 hr)
def Z79.F (k:Nat)(a0:Entry)(a1:Entry):Option (Int):=(Z104.F a0).bind λr1=>(Z104.F a1).bind λr2=>(Z35.F k r1 r2).bind λr3=>bif (r3 != 0)then(some r3)else((Z124.F a0.date a1.date).bind λr4=>bif (r4 != 0)then(some r4)else((Z25.F k a0.title).bind λr5=>(Z25.F k a1.title).bind λr6=>(Z126.F k r5 r6).bind λr7=>bif (r7 != 0)then(some r7)else(bif (decide (a0.volume<a1.volume))then(some (-1))else(bif (decide (a0.volume > a1.volume))then(some 1)else((Z65.F a0.key a1.key).bind λr8=>some r8)))))
def Z79.C (k:Nat):Cal->Option CArm:=λc=>match c with
 |.f 70=>some (.p [.entry] _ (λx=>Z104.F x.1) (λr=>(.t (.sl .name) r)))
 |.f 69=>some (.p [(.sl .name),(.sl .name)] _ (λx=>Z35.F k x.1 x.2.1) (λr=>(.t (.int .i64) r)))
 |.f 71=>some (.p [.date,.date] _ (λx=>Z124.F x.1 x.2.1) (λr=>(.t (.int .i64) r)))
 |.f 73=>some (.p [.str] _ (λx=>Z25.F k x.1) (λr=>(.t .str r)))
 |.f 72=>some (.p [.str,.str] _ (λx=>Z126.F k x.1 x.2.1) (λr=>(.t (.int .i64) r)))
 |.f 74=>some (.p [.str,.str] _ (λx=>Z65.F x.1 x.2.1) (λr=>(.t (.int .i64) r)))
 |_=>none
theorem Z79.run (k:Nat)(a0:Entry)(a1:Entry):Qk Q0 (Q7 (Z79.C k)) (Q6 51 0 (λ_=>none)) Tryz.f48 [.t .entry a0,.t .entry a1] (Q2 (.t (.int .i64)))=Z79.F k a0 a1:=by kernel_rfl
theorem Z79.G (hE:EnvOk Tryz.prog Q0)(pv:Nat->Value)(k:Nat):∀cal A,Z79.C k cal=some A->Q9 Tryz.prog Q0 pv cal A:=by
 intro cal A h
 unfold Z79.C at h
 split at h
 ·cases h;exact λx y hy=>Z104.good hE pv x.1 hy
 ·cases h;exact λx y hy=>Z35.good hE pv k x.1 x.2.1 hy
 ·cases h;exact λx y hy=>Z124.good hE pv x.1 x.2.1 hy
 ·cases h;exact λx y hy=>Z25.good hE pv k x.1 hy
 ·cases h;exact λx y hy=>Z126.good hE pv k x.1 x.2.1 hy
 ·cases h;exact λx y hy=>Z65.good hE pv x.1 x.2.1 hy
 ·cases h
theorem Z79.good (hE:EnvOk Tryz.prog Q0)(pv:Nat->Value)(k:Nat)(a0:Entry)(a1:Entry){y:_}(h:Z79.F k a0 a1=some y):Q8 Tryz.prog Q0 pv (.f 48) (Qa [.entry,.entry] (a0,a1,())) (.t (.int .i64) y):=
 Q4 hE (Z79.G hE pv k) (f:=48) (fn:=Tryz.f48) (by kernel_rfl) rfl (by kernel_rfl) (by kernel_rfl) ((Z79.run k a0 a1).trans h) (λr hr=>Q1 hr)
def Z9.l2:Nat->(List ByteArray)->Library->(List ByteArray)->Int->Int->Option ((List ByteArray)×Library× (List ByteArray)×Int×Int)
 |0,_,_,_,_,_=>none
 |k+1,x1,x2,x5,x6,x7=>bif (decide (x7 > 0))then(bif decide (0<=x6)then(bif decide (x6<(x1.length:Int))then((Z1.F k x2 (x1.getD (x6:Int).toNat (⟨#[]⟩:ByteArray))).bind λr1=>bif decide (0<=r1)then(bif decide (r1<(x2.entries.length:Int))then(bif decide (0<=(IntKind.wrap .i64 (x7-1)))then(bif decide ((IntKind.wrap .i64 (x7-1))<(x5.length:Int))then((Z1.F k x2 (x5.getD (((IntKind.wrap .i64 (x7-1)):Int).toNat) (⟨#[]⟩:ByteArray))).bind λr2=>bif decide (0<=r2)then(bif decide (r2<(x2.entries.length:Int))then((Z79.F k (x2.entries.getD (r1:Int).toNat (Q5 .entry)) (x2.entries.getD (r2:Int).toNat (Q5 .entry))).bind λr3=>bif (decide (r3<0))then(Z9.l2 k x1 x2 x5 x6 (IntKind.wrap .i64 (x7-1)))else(some (x1,x2,x5,x6,x7)))else none)else none)else none)else none)else none)else none)else none)else none)else(some (x1,x2,x5,x6,x7))
def Z9.l0:Nat->(List ByteArray)->Library->(List ByteArray)->Int->Option ((List ByteArray))
 |0,_,_,_,_=>none
 |k+1,x1,x2,x5,x6=>bif (decide (x6<(x1.length:Int)))then((Z9.l2 k x1 x2 x5 x6 (x5.length:Int)).bind λy4=>bif decide (0<=y4.2.2.2.2)then(bif decide (y4.2.2.2.2<=(y4.2.2.1.length:Int))then(bif room (([]:List ByteArray).length+(y4.2.2.1.take (y4.2.2.2.2:Int).toNat).length) .str then(bif decide (0<=y4.2.2.2.1)then(bif decide (y4.2.2.2.1<(y4.1.length:Int))then(bif room ((([]:List ByteArray)++(y4.2.2.1.take (y4.2.2.2.2:Int).toNat)).length+([(y4.1.getD (y4.2.2.2.1:Int).toNat (⟨#[]⟩:ByteArray))]:List ByteArray).length) .str then(bif decide (0<=y4.2.2.2.2)then(bif decide (y4.2.2.2.2<=(y4.2.2.1.length:Int))then(bif room (((([]:List ByteArray)++(y4.2.2.1.take (y4.2.2.2.2:Int).toNat))++([(y4.1.getD (y4.2.2.2.1:Int).toNat (⟨#[]⟩:ByteArray))]:List ByteArray)).length+(y4.2.2.1.drop (y4.2.2.2.2:Int).toNat).length) .str then(Z9.l0 k y4.1 y4.2.1 (((([]:List ByteArray)++(y4.2.2.1.take (y4.2.2.2.2:Int).toNat))++([(y4.1.getD (y4.2.2.2.1:Int).toNat (⟨#[]⟩:ByteArray))]:List ByteArray))++(y4.2.2.1.drop (y4.2.2.2.2:Int).toNat)) (IntKind.wrap .i64 (y4.2.2.2.1+1)))else none)else none)else none)else none)else none)else none)else none)else none)else none)else(some x5)
def Z9.F (k:Nat)(a0:Library)(a1:List ByteArray):Option (List ByteArray):=(Z9.l0 k a1 a0 ([]:List ByteArray) 0).bind λy5=>some y5
def Z9.C (k:Nat):Cal->Option CArm:=λc=>match c with
 |.f 23=>some (.p [.lib,.str] _ (λx=>Z1.F k x.1 x.2.1) (λr=>(.t (.int .i64) r)))
 |.f 48=>some (.p [.entry,.entry] _ (λx=>Z79.F k x.1 x.2.1) (λr=>(.t (.int .i64) r)))
 |_=>none
def Z9.sp2:List Sp:=[.t 1 (.sl .str),.boxT 2 0 .lib,.own 5 1024 9 .str false true,.t 6 (.int .i64),.t 7 (.int .i64)]
def Z9.sp2_0:List Sp:=[.t 1 (.sl .str),.boxT 2 0 .lib,.own 5 1024 9 .str false true,.t 6 (.int .i64),.t 7 (.int .i64)]
def Z9.A2:LArm:=.one Z9.sp2 Z9.sp2_0 ((List ByteArray)×Library× (List ByteArray)×Int×Int) (λk x=>Z9.l2 k x.1 x.2.1 x.2.2.1 x.2.2.2.1 x.2.2.2.2.1) (.exit 2) (λy=>(y.1,y.2.1,y.2.2.1,y.2.2.2.1,y.2.2.2.2,())) (λx=>(x.1,x.2.1,x.2.2.1,x.2.2.2.1,x.2.2.2.2.1))
def Z9.sp0:List Sp:=[.t 1 (.sl .str),.boxT 2 0 .lib,.own 5 1024 9 .str false true,.t 6 (.int .i64)]
def Z9.sp0_0:List Sp:=[.own 5 1024 9 .str false true]
def Z9.A0:LArm:=.one Z9.sp0 Z9.sp0_0 ((List ByteArray)) (λk x=>Z9.l0 k x.1 x.2.1 x.2.2.1 x.2.2.2.1) (.exit 0) (λy=>(y,())) (λx=>x.1)
def Z9.L:Nat->Option LArm:=λb=>match b with
 |2=>some Z9.A2
 |0=>some Z9.A0
 |_=>none
theorem Z9.run (k:Nat)(a0:Library)(a1:List ByteArray):Qk Q0 (Q7 (Z9.C k)) (Q6 62 k Z9.L) Tryz.f30 [.t .lib a0,.t (.sl .str) a1] (Q2 (.fr 9 .str))=Z9.F k a0 a1:=by kernel_rfl
theorem Z9.step2 (k:Nat)(x1:List ByteArray)(x2:Library)(x5:List ByteArray)(x6:Int)(x7:Int):Qs Q0 (Q7 (Z9.C k)) (Q6 62 k Z9.L) 2 (Qj Tryz.f30 2) (QA 62 Z9.sp2 (x1,x2,x5,x6,x7,())) (Z9.A2.cont 62 k)=Z9.l2 (k+1) x1 x2 x5 x6 x7:=by kernel_rfl
theorem Z9.step0 (k:Nat)(x1:List ByteArray)(x2:Library)(x5:List ByteArray)(x6:Int):Qs Q0 (Q7 (Z9.C k)) (Q6 62 k Z9.L) 0 (Qj Tryz.f30 0) (QA 62 Z9.sp0 (x1,x2,x5,x6,())) (Z9.A0.cont 62 k)=Z9.l0 (k+1) x1 x2 x5 x6:=by kernel_rfl
theorem Z9.G (hE:EnvOk Tryz.prog Q0)(pv:Nat->Value)(k:Nat):∀cal A,Z9.C k cal=some A->Q9 Tryz.prog Q0 pv cal A:=by
 intro cal A h
 unfold Z9.C at h
 split at h
 ·cases h;exact λx y hy=>Z1.good hE pv k x.1 x.2.1 hy
 ·cases h;exact λx y hy=>Z79.good hE pv k x.1 x.2.1 hy
 ·cases h
theorem Z9.good (hE:EnvOk Tryz.prog Q0)(pv:Nat->Value)(k:Nat)(a0:Library)(a1:List ByteArray){y:_}(h:Z9.F k a0 a1=some y):Q8 Tryz.prog Q0 pv (.f 30) (Qa [.lib,(.sl .str)] (a0,a1,())) (.fr 9 .str y):=
 Qh hE (t:=Z9.C) k (λk _=>Z9.G hE pv k) (f:=30) (fn:=Tryz.f30) (by kernel_rfl) rfl (by kernel_rfl) (by kernel_rfl) (lt:=Z9.L) (by kernel_rfl) (λb A h=>by
  unfold Z9.L at h;split at h
  ·cases h;exact⟨by kernel_rfl,by kernel_rfl,λ_=>rfl,λ_=>rfl⟩
  ·cases h;exact⟨by kernel_rfl,by kernel_rfl,λ_=>rfl,λ_=>rfl⟩
  ·cases h) (λb A h=>by
  unfold Z9.L at h;split at h
  ·cases h;exact λk x=>Z9.step2 k x.1 x.2.1 x.2.2.1 x.2.2.2.1 x.2.2.2.2.1
  ·cases h;exact λk x=>Z9.step0 k x.1 x.2.1 x.2.2.1 x.2.2.2.1
  ·cases h) ((Z9.run k a0 a1).trans h) (λr hr=>Q1 hr)
def Z6.l2:Nat->Library->(List Int)->(List (List ByteArray))->(List ByteArray)->Int->(List ByteArray)->Int->Option (Library× (List Int)× (List (List ByteArray))× (List ByteArray)×Int× (List ByteArray))
 |0,_,_,_,_,_,_,_=>none
 |k+1,x2,x7,x8,x9,x10,x11,x12=>bif (decide (x12<(x9.length:Int)))then(bif decide (0<=x12)then(bif decide (x12<(x9.length:Int))then((Z1.F k x2 (x9.getD ((x12:Int).toNat) (⟨#[]⟩:ByteArray))).bind λr3=>bif decide (0<=r3)then(bif decide (r3<(x2.entries.length:Int))then(bif (((x2.entries.getD (r3:Int).toNat (Q5 .entry)).kind)==x10)then(bif decide (0<=x12)then(bif decide (x12<(x9.length:Int))then(bif room (x11.length+([(x9.getD ((x12:Int).toNat) (⟨#[]⟩:ByteArray))]:List ByteArray).length) .str then(Z6.l2 k x2 x7 x8 x9 x10 (x11++([(x9.getD ((x12:Int).toNat) (⟨#[]⟩:ByteArray))]:List ByteArray)) (IntKind.wrap .i64 (x12+1)))else none)else none)else none)else(Z6.l2 k x2 x7 x8 x9 x10 x11 (IntKind.wrap .i64 (x12+1))))else none)else none)else none)else none)else(some (x2,x7,x8,x9,x10,x11))
def Z6.l0:Nat->Library->(List Int)->(List (List ByteArray))->(List ByteArray)->Int->Option ((List Int)× (List (List ByteArray)))
 |0,_,_,_,_,_=>none
 |k+1,x2,x7,x8,x9,x10=>bif (decide (x10<=4))then((Z6.l2 k x2 x7 x8 x9 x10 ([]:List ByteArray) 0).bind λy4=>bif (decide ((y4.2.2.2.2.2.length:Int) > 0))then(bif room (y4.2.1.length+([y4.2.2.2.2.1]:List Int).length) (.int .i64)then(bif room (y4.2.2.1.length+([y4.2.2.2.2.2]:List (List ByteArray)).length) (.sl .str)then(Z6.l0 k y4.1 (y4.2.1++([y4.2.2.2.2.1]:List Int)) (y4.2.2.1++([y4.2.2.2.2.2]:List (List ByteArray))) y4.2.2.2.1 (IntKind.wrap .i64 (y4.2.2.2.2.1+1)))else none)else none)else(Z6.l0 k y4.1 y4.2.1 y4.2.2.1 y4.2.2.2.1 (IntKind.wrap .i64 (y4.2.2.2.2.1+1))))else(some (x7,x8))
def Z6.F (k:Nat)(a0:Library)(a1:List ByteArray):Option ((List Int)× (List (List ByteArray))×Bool):=(Z2.F k a0 a1).bind λr1=>bif (!r1)then(some (([]:List Int),([]:List (List ByteArray)),false))else((Z9.F k a0 a1).bind λr2=>(Z6.l0 k a0 ([]:List Int) ([]:List (List ByteArray)) r2 1).bind λy5=>some (y5.1,y5.2,true))
def Z6.C (k:Nat):Cal->Option CArm:=λc=>match c with
 |.f 22=>some (.p [.lib,(.sl .str)] _ (λx=>Z2.F k x.1 x.2.1) (λr=>(.t .bool r)))
 |.f 30=>some (.p [.lib,(.sl .str)] _ (λx=>Z9.F k x.1 x.2.1) (λr=>(.fr 9 .str r)))
 |.f 23=>some (.p [.lib,.str] _ (λx=>Z1.F k x.1 x.2.1) (λr=>(.t (.int .i64) r)))
 |_=>none
def Z6.sp2:List Sp:=[.boxT 2 0 .lib,.own 7 1024 3 (.int .i64) false true,.own 8 1028 27 (.sl .str) false true,.own 9 4104 9 .str false true,.t 10 (.int .i64),.own 11 8192 9 .str false true,.t 12 (.int .i64)]
def Z6.sp2_0:List Sp:=[.boxT 2 0 .lib,.own 7 1024 3 (.int .i64) false true,.own 8 1028 27 (.sl .str) false true,.own 9 4104 9 .str false true,.t 10 (.int .i64),.own 11 8192 9 .str false true]
def Z6.A2:LArm:=.one Z6.sp2 Z6.sp2_0 (Library× (List Int)× (List (List ByteArray))× (List ByteArray)×Int× (List ByteArray)) (λk x=>Z6.l2 k x.1 x.2.1 x.2.2.1 x.2.2.2.1 x.2.2.2.2.1 x.2.2.2.2.2.1 x.2.2.2.2.2.2.1) (.exit 2) (λy=>(y.1,y.2.1,y.2.2.1,y.2.2.2.1,y.2.2.2.2.1,y.2.2.2.2.2,())) (λx=>(x.1,x.2.1,x.2.2.1,x.2.2.2.1,x.2.2.2.2.1,x.2.2.2.2.2.1))
def Z6.sp0:List Sp:=[.boxT 2 0 .lib,.own 7 1024 3 (.int .i64) false true,.own 8 1028 27 (.sl .str) false true,.own 9 4104 9 .str false true,.t 10 (.int .i64)]
def Z6.sp0_0:List Sp:=[.own 7 1024 3 (.int .i64) false true,.own 8 1028 27 (.sl .str) false true]
def Z6.A0:LArm:=.one Z6.sp0 Z6.sp0_0 ((List Int)× (List (List ByteArray))) (λk x=>Z6.l0 k x.1 x.2.1 x.2.2.1 x.2.2.2.1 x.2.2.2.2.1) (.exit 0) (λy=>(y.1,y.2,())) (λx=>(x.1,x.2.1))
def Z6.L:Nat->Option LArm:=λb=>match b with
 |2=>some Z6.A2
 |0=>some Z6.A0
 |_=>none
theorem Z6.run (k:Nat)(a0:Library)(a1:List ByteArray):Qk Q0 (Q7 (Z6.C k)) (Q6 68 k Z6.L) Tryz.f10 [.t .lib a0,.t (.sl .str) a1] (Q2K (.fr 3 (.int .i64)) (.fr 27 (.sl .str)) (.t .bool))=Z6.F k a0 a1:=by kernel_rfl
theorem Z6.step2 (k:Nat)(x2:Library)(x7:List Int)(x8:List (List ByteArray))(x9:List ByteArray)(x10:Int)(x11:List ByteArray)(x12:Int):Qs Q0 (Q7 (Z6.C k)) (Q6 68 k Z6.L) 2 (Qj Tryz.f10 2) (QA 68 Z6.sp2 (x2,x7,x8,x9,x10,x11,x12,())) (Z6.A2.cont 68 k)=Z6.l2 (k+1) x2 x7 x8 x9 x10 x11 x12:=by kernel_rfl
theorem Z6.step0 (k:Nat)(x2:Library)(x7:List Int)(x8:List (List ByteArray))(x9:List ByteArray)(x10:Int):Qs Q0 (Q7 (Z6.C k)) (Q6 68 k Z6.L) 0 (Qj Tryz.f10 0) (QA 68 Z6.sp0 (x2,x7,x8,x9,x10,())) (Z6.A0.cont 68 k)=Z6.l0 (k+1) x2 x7 x8 x9 x10:=by kernel_rfl
theorem Z6.G (hE:EnvOk Tryz.prog Q0)(pv:Nat->Value)(k:Nat):∀cal A,Z6.C k cal=some A->Q9 Tryz.prog Q0 pv cal A:=by
 intro cal A h
 unfold Z6.C at h
 split at h
 ·cases h;exact λx y hy=>Z2.good hE pv k x.1 x.2.1 hy
 ·cases h;exact λx y hy=>Z9.good hE pv k x.1 x.2.1 hy
 ·cases h;exact λx y hy=>Z1.good hE pv k x.1 x.2.1 hy
 ·cases h
theorem Z6.good (hE:EnvOk Tryz.prog Q0)(pv:Nat->Value)(k:Nat)(a0:Library)(a1:List ByteArray){y:_}(h:Z6.F k a0 a1=some y):Q8 Tryz.prog Q0 pv (.f 10) (Qa [.lib,(.sl .str)] (a0,a1,())) (.tup [.fr 3 (.int .i64) y.1,.fr 27 (.sl .str) y.2.1,.t .bool y.2.2]):=
 Qh hE (t:=Z6.C) k (λk _=>Z6.G hE pv k) (f:=10) (fn:=Tryz.f10) (by kernel_rfl) rfl (by kernel_rfl) (by kernel_rfl) (lt:=Z6.L) (by kernel_rfl) (λb A h=>by
  unfold Z6.L at h;split at h
  ·cases h;exact⟨by kernel_rfl,by kernel_rfl,λ_=>rfl,λ_=>rfl⟩
  ·cases h;exact⟨by kernel_rfl,by kernel_rfl,λ_=>rfl,λ_=>rfl⟩
  ·cases h) (λb A h=>by
  unfold Z6.L at h;split at h
  ·cases h;exact λk x=>Z6.step2 k x.1 x.2.1 x.2.2.1 x.2.2.2.1 x.2.2.2.2.1 x.2.2.2.2.2.1 x.2.2.2.2.2.2.1
  ·cases h;exact λk x=>Z6.step0 k x.1 x.2.1 x.2.2.1 x.2.2.2.1 x.2.2.2.2.1
  ·cases h) ((Z6.run k a0 a1).trans h) (λr hr=>Q4i hr)
def Z127.F (k:Nat)(a0:Library)(a1:ByteArray):Option (Int×Bool):=(Z60.F k a0 a1).bind λr1=>(Z19.F k a0).bind λr2=>bif (!r2)then(some (0,false))else(bif (decide (r1<0))then(some (0,false))else(some (r1,true)))
def Z127.C (k:Nat):Cal->Option CArm:=λc=>match c with
 |.f 31=>some (.p [.lib,.str] _ (λx=>Z60.F k x.1 x.2.1) (λr=>(.t (.int .i64) r)))
 |.f 32=>some (.p [.lib] _ (λx=>Z19.F k x.1) (λr=>(.t .bool r)))
 |_=>none
theorem Z127.run (k:Nat)(a0:Library)(a1:ByteArray):Qk Q0 (Q7 (Z127.C k)) (Q6 18 0 (λ_=>none)) Tryz.f11 [.t .lib a0,.t .str a1] (DL (.t (.int .i64)) (.t .bool))=Z127.F k a0 a1:=by kernel_rfl
theorem Z127.G (hE:EnvOk Tryz.prog Q0)(pv:Nat->Value)(k:Nat):∀cal A,Z127.C k cal=some A->Q9 Tryz.prog Q0 pv cal A:=by
 intro cal A h
 unfold Z127.C at h
 split at h
 ·cases h;exact λx y hy=>Z60.good hE pv k x.1 x.2.1 hy
 ·cases h;exact λx y hy=>Z19.good hE pv k x.1 hy
 ·cases h
theorem Z127.good (hE:EnvOk Tryz.prog Q0)(pv:Nat->Value)(k:Nat)(a0:Library)(a1:ByteArray){y:_}(h:Z127.F k a0 a1=some y):Q8 Tryz.prog Q0 pv (.f 11) (Qa [.lib,.str] (a0,a1,())) (.tup [.t (.int .i64) y.1,.t .bool y.2]):=
 Q4 hE (Z127.G hE pv k) (f:=11) (fn:=Tryz.f11) (by kernel_rfl) rfl (by kernel_rfl) (by kernel_rfl) ((Z127.run k a0 a1).trans h) (λr hr=>Dw hr)
def Z49.l0:Nat->(List ByteArray)->ByteArray->Int->Option (Sum Bool Unit)
 |0,_,_,_=>none
 |k+1,x0,x1,x5=>bif (decide (x5<(x0.length:Int)))then(bif decide (0<=x5)then(bif decide (x5<(x0.length:Int))then(bif (Qo (x0.getD (x5:Int).toNat (⟨#[]⟩:ByteArray)) x1)then(some (.inl true))else(Z49.l0 k x0 x1 (IntKind.wrap .i64 (x5+1))))else none)else none)else(some (.inr ()))
def Z49.F (k:Nat)(a0:List ByteArray)(a1:ByteArray):Option (Bool):=(Z49.l0 k a0 a1 0).bind λy1=>match y1 with|.inl z2=>some z2|.inr z2=>some false
def Z49.C (k:Nat):Cal->Option CArm:=λc=>match c with
 |_=>none
def Z49.sp0:List Sp:=[.t 0 (.sl .str),.t 1 .str,.t 5 (.int .i64)]
def Z49.sp0_0:List Sp:=[.t 4 .bool]
def Z49.sp0_1:List Sp:=[]
def Z49.A0:LArm:=.two Z49.sp0 Z49.sp0_0 Z49.sp0_1 (Bool) (Unit) (λk x=>Z49.l0 k x.1 x.2.1 x.2.2.1) .ret (.exit 0) (λy=>(y,())) (λx=>x.1) (λy=>()) (λx=>())
def Z49.L:Nat->Option LArm:=λb=>match b with
 |0=>some Z49.A0
 |_=>none
theorem Z49.run (k:Nat)(a0:List ByteArray)(a1:ByteArray):Qk Q0 (Q7 (Z49.C k)) (Q6 18 k Z49.L) Tryz.f12 [.t (.sl .str) a0,.t .str a1] (Q2 (.t .bool))=Z49.F k a0 a1:=by kernel_rfl
theorem Z49.step0 (k:Nat)(x0:List ByteArray)(x1:ByteArray)(x5:Int):Qs Q0 (Q7 (Z49.C k)) (Q6 18 k Z49.L) 0 (Qj Tryz.f12 0) (QA 18 Z49.sp0 (x0,x1,x5,())) (Z49.A0.cont 18 k)=Z49.l0 (k+1) x0 x1 x5:=by kernel_rfl
theorem Z49.G (hE:EnvOk Tryz.prog Q0)(pv:Nat->Value)(k:Nat):∀cal A,Z49.C k cal=some A->Q9 Tryz.prog Q0 pv cal A:=by
 intro cal A h
 unfold Z49.C at h
 cases h
theorem Z49.good (hE:EnvOk Tryz.prog Q0)(pv:Nat->Value)(k:Nat)(a0:List ByteArray)(a1:ByteArray){y:_}(h:Z49.F k a0 a1=some y):Q8 Tryz.prog Q0 pv (.f 12) (Qa [(.sl .str),.str] (a0,a1,())) (.t .bool y):=
 Qh hE (t:=Z49.C) k (λk _=>Z49.G hE pv k) (f:=12) (fn:=Tryz.f12) (by kernel_rfl) rfl (by kernel_rfl) (by kernel_rfl) (lt:=Z49.L) (by kernel_rfl) (λb A h=>by
  unfold Z49.L at h;split at h
  ·cases h;exact⟨by kernel_rfl,by kernel_rfl,by kernel_rfl,λ_=>rfl,λ_=>rfl,λ_=>rfl⟩
  ·cases h) (λb A h=>by
  unfold Z49.L at h;split at h
  ·cases h;exact λk x=>Z49.step0 k x.1 x.2.1 x.2.2.1
  ·cases h) ((Z49.run k a0 a1).trans h) (λr hr=>Q1 hr)
def Z7.l2:Nat->Library->(List ByteArray)->(List Int)->(List (List ByteArray))->Bool->Int->Int->Int->Option (Sum Bool (Library× (List ByteArray)× (List Int)× (List (List ByteArray))×Bool×Int×Int))
 |0,_,_,_,_,_,_,_,_=>none
 |k+1,x3,x4,x9,x10,x11,x15,x16,x17=>bif decide (0<=x16)then(bif decide (x16<(x10.length:Int))then(bif (decide (x17<((x10.getD ((x16:Int).toNat) []).length:Int)))then(bif decide (0<=x16)then(bif decide (x16<(x10.length:Int))then(bif decide (0<=x17)then(bif decide (x17<((x10.getD ((x16:Int).toNat) []).length:Int))then((Z127.F k x3 ((x10.getD ((x16:Int).toNat) []).getD (x17:Int).toNat (⟨#[]⟩:ByteArray))).bind λr8=>bif (!r8.2)then(some (.inl false))else(bif decide (0<=r8.1)then(bif decide (r8.1<(x3.entries.length:Int))then(bif decide (0<=x16)then(bif decide (x16<(x9.length:Int))then(bif (((x3.entries.getD (r8.1:Int).toNat (Q5 .entry)).kind) != (x9.getD ((x16:Int).toNat) 0))then(some (.inl false))else(bif decide (0<=x16)then(bif decide (x16<(x10.length:Int))then(bif decide (0<=x17)then(bif decide (x17<((x10.getD ((x16:Int).toNat) []).length:Int))then((Z49.F k x4 ((x10.getD ((x16:Int).toNat) []).getD (x17:Int).toNat (⟨#[]⟩:ByteArray))).bind λr9=>bif (!r9)then(some (.inl false))else(Z7.l2 k x3 x4 x9 x10 x11 (IntKind.wrap .i64 (x15+1)) x16 (IntKind.wrap .i64 (x17+1))))else none)else none)else none)else none))else none)else none)else none)else none))else none)else none)else none)else none)else(some (.inr (x3,x4,x9,x10,x11,x15,x16))))else none)else none
def Z7.l0:Nat->Library->(List ByteArray)->(List Int)->(List (List ByteArray))->Bool->Int->Int->Option (Sum Bool ((List ByteArray)×Bool×Int))
 |0,_,_,_,_,_,_,_=>none
 |k+1,x3,x4,x9,x10,x11,x15,x16=>bif (decide (x16<(x10.length:Int)))then((Z7.l2 k x3 x4 x9 x10 x11 x15 x16 0).bind λy10=>match y10 with|.inl z11=>some (.inl z11)|.inr z11=>Z7.l0 k z11.1 z11.2.1 z11.2.2.1 z11.2.2.2.1 z11.2.2.2.2.1 z11.2.2.2.2.2.1 (IntKind.wrap .i64 (z11.2.2.2.2.2.2+1)))else(some (.inr (x4,x11,x15)))
def Z7.F (k:Nat)(a0:List Int):Option (Bool):=(Z128.F a0).bind λr1=>bif r1 then(some true)else((Z107.F k a0).bind λr2=>(Z5.F k r2.1 r2.2).bind λr3=>(Z0.F k r2.1 r2.2).bind λr4=>bif (!(r3.2==r4.2))then(some false)else((Z42.F k r3.1 r4.1).bind λr5=>bif (!r5)then(some false)else((Z43.F k r2.1 r2.2).bind λr6=>(Z6.F k r2.1 r2.2).bind λr7=>bif (!(r6.2.2==r7.2.2))then(some false)else(bif ((r6.1.length:Int) != (r6.2.1.length:Int))then(some false)else((Z7.l0 k r2.1 r2.2 r6.1 r6.2.1 r6.2.2 0 0).bind λy12=>match y12 with|.inl z13=>some z13|.inr z13=>bif (!z13.2.1)then(some true)else(some (z13.2.2==(z13.1.length:Int))))))))
def Z7.C (k:Nat):Cal->Option CArm:=λc=>match c with
 |.f 4=>some (.p [(.sl (.int .u8))] _ (λx=>Z128.F x.1) (λr=>(.t .bool r)))
 |.f 5=>some (.p [(.sl (.int .u8))] _ (λx=>Z107.F k x.1) (λr=>(.tup [.t .lib r.1,.t (.sl .str) r.2])))
 |.f 6=>some (.p [.lib,(.sl .str)] _ (λx=>Z5.F k x.1 x.2.1) (λr=>(.tup [.fr 55 .name r.1,.t .bool r.2])))
 |.f 7=>some (.p [.lib,(.sl .str)] _ (λx=>Z0.F k x.1 x.2.1) (λr=>(.tup [.fr 55 .name r.1,.t .bool r.2])))
 |.f 8=>some (.p [(.sl .name),(.sl .name)] _ (λx=>Z42.F k x.1 x.2.1) (λr=>(.t .bool r)))
 |.f 9=>some (.p [.lib,(.sl .str)] _ (λx=>Z43.F k x.1 x.2.1) (λr=>(.tup [.fr 3 (.int .i64) r.1,.fr 27 (.sl .str) r.2.1,.t .bool r.2.2])))
 |.f 10=>some (.p [.lib,(.sl .str)] _ (λx=>Z6.F k x.1 x.2.1) (λr=>(.tup [.fr 3 (.int .i64) r.1,.fr 27 (.sl .str) r.2.1,.t .bool r.2.2])))
 |.f 11=>some (.p [.lib,.str] _ (λx=>Z127.F k x.1 x.2.1) (λr=>(.tup [.t (.int .i64) r.1,.t .bool r.2])))
 |.f 12=>some (.p [(.sl .str),.str] _ (λx=>Z49.F k x.1 x.2.1) (λr=>(.t .bool r)))
 |_=>none
def Z7.sp2:List Sp:=[.boxT 3 3092 .lib,.t 4 (.sl .str),.own 9 8200 3 (.int .i64) false true,.own 10 8201 27 (.sl .str) false true,.t 11 .bool,.t 15 (.int .i64),.t 16 (.int .i64),.t 17 (.int .i64)]
def Z7.sp2_0:List Sp:=[.t 2 .bool]
def Z7.sp2_1:List Sp:=[.boxT 3 3092 .lib,.t 4 (.sl .str),.own 9 8200 3 (.int .i64) false true,.own 10 8201 27 (.sl .str) false true,.t 11 .bool,.t 15 (.int .i64),.t 16 (.int .i64)]
def Z7.A2:LArm:=.two Z7.sp2 Z7.sp2_0 Z7.sp2_1 (Bool) (Library× (List ByteArray)× (List Int)× (List (List ByteArray))×Bool×Int×Int) (λk x=>Z7.l2 k x.1 x.2.1 x.2.2.1 x.2.2.2.1 x.2.2.2.2.1 x.2.2.2.2.2.1 x.2.2.2.2.2.2.1 x.2.2.2.2.2.2.2.1) .ret (.exit 2) (λy=>(y,())) (λx=>x.1) (λy=>(y.1,y.2.1,y.2.2.1,y.2.2.2.1,y.2.2.2.2.1,y.2.2.2.2.2.1,y.2.2.2.2.2.2,())) (λx=>(x.1,x.2.1,x.2.2.1,x.2.2.2.1,x.2.2.2.2.1,x.2.2.2.2.2.1,x.2.2.2.2.2.2.1))
def Z7.sp0:List Sp:=[.boxT 3 3092 .lib,.t 4 (.sl .str),.own 9 8200 3 (.int .i64) false true,.own 10 8201 27 (.sl .str) false true,.t 11 .bool,.t 15 (.int .i64),.t 16 (.int .i64)]
def Z7.sp0_0:List Sp:=[.t 2 .bool]
def Z7.sp0_1:List Sp:=[.t 4 (.sl .str),.t 11 .bool,.t 15 (.int .i64)]
def Z7.A0:LArm:=.two Z7.sp0 Z7.sp0_0 Z7.sp0_1 (Bool) ((List ByteArray)×Bool×Int) (λk x=>Z7.l0 k x.1 x.2.1 x.2.2.1 x.2.2.2.1 x.2.2.2.2.1 x.2.2.2.2.2.1 x.2.2.2.2.2.2.1) .ret (.exit 0) (λy=>(y,())) (λx=>x.1) (λy=>(y.1,y.2.1,y.2.2,())) (λx=>(x.1,x.2.1,x.2.2.1))
def Z7.L:Nat->Option LArm:=λb=>match b with
 |2=>some Z7.A2
 |0=>some Z7.A0
 |_=>none
theorem Z7.run (k:Nat)(a0:List Int):Qk Q0 (Q7 (Z7.C k)) (Q6 136 k Z7.L) Tryz.f3 [.t (.sl (.int .u8)) a0] (Q2 (.t .bool))=Z7.F k a0:=by kernel_rfl
theorem Z7.step2 (k:Nat)(x3:Library)(x4:List ByteArray)(x9:List Int)(x10:List (List ByteArray))(x11:Bool)(x15:Int)(x16:Int)(x17:Int):Qs Q0 (Q7 (Z7.C k)) (Q6 136 k Z7.L) 2 (Qj Tryz.f3 2) (QA 136 Z7.sp2 (x3,x4,x9,x10,x11,x15,x16,x17,())) (Z7.A2.cont 136 k)=Z7.l2 (k+1) x3 x4 x9 x10 x11 x15 x16 x17:=by kernel_rfl
theorem Z7.step0 (k:Nat)(x3:Library)(x4:List ByteArray)(x9:List Int)(x10:List (List ByteArray))(x11:Bool)(x15:Int)(x16:Int):Qs Q0 (Q7 (Z7.C k)) (Q6 136 k Z7.L) 0 (Qj Tryz.f3 0) (QA 136 Z7.sp0 (x3,x4,x9,x10,x11,x15,x16,())) (Z7.A0.cont 136 k)=Z7.l0 (k+1) x3 x4 x9 x10 x11 x15 x16:=by kernel_rfl
theorem Z7.G (hE:EnvOk Tryz.prog Q0)(pv:Nat->Value)(k:Nat):∀cal A,Z7.C k cal=some A->Q9 Tryz.prog Q0 pv cal A:=by
 intro cal A h
 unfold Z7.C at h
 split at h
 ·cases h;exact λx y hy=>Z128.good hE pv x.1 hy
 ·cases h;exact λx y hy=>Z107.good hE pv k x.1 hy
 ·cases h;exact λx y hy=>Z5.good hE pv k x.1 x.2.1 hy
 ·cases h;exact λx y hy=>Z0.good hE pv k x.1 x.2.1 hy
 ·cases h;exact λx y hy=>Z42.good hE pv k x.1 x.2.1 hy
 ·cases h;exact λx y hy=>Z43.good hE pv k x.1 x.2.1 hy
 ·cases h;exact λx y hy=>Z6.good hE pv k x.1 x.2.1 hy
 ·cases h;exact λx y hy=>Z127.good hE pv k x.1 x.2.1 hy
 ·cases h;exact λx y hy=>Z49.good hE pv k x.1 x.2.1 hy
 ·cases h
theorem Z7.good (hE:EnvOk Tryz.prog Q0)(pv:Nat->Value)(k:Nat)(a0:List Int){y:_}(h:Z7.F k a0=some y):Q8 Tryz.prog Q0 pv (.f 3) (Qa [(.sl (.int .u8))] (a0,())) (.t .bool y):=
 Qh hE (t:=Z7.C) k (λk _=>Z7.G hE pv k) (f:=3) (fn:=Tryz.f3) (by kernel_rfl) rfl (by kernel_rfl) (by kernel_rfl) (lt:=Z7.L) (by kernel_rfl) (λb A h=>by
  unfold Z7.L at h;split at h
  ·cases h;exact⟨by kernel_rfl,by kernel_rfl,by kernel_rfl,λ_=>rfl,λ_=>rfl,λ_=>rfl⟩
  ·cases h;exact⟨by kernel_rfl,by kernel_rfl,by kernel_rfl,λ_=>rfl,λ_=>rfl,λ_=>rfl⟩
  ·cases h) (λb A h=>by
  unfold Z7.L at h;split at h
  ·cases h;exact λk x=>Z7.step2 k x.1 x.2.1 x.2.2.1 x.2.2.2.1 x.2.2.2.2.1 x.2.2.2.2.2.1 x.2.2.2.2.2.2.1 x.2.2.2.2.2.2.2.1
  ·cases h;exact λk x=>Z7.step0 k x.1 x.2.1 x.2.2.1 x.2.2.2.1 x.2.2.2.2.1 x.2.2.2.2.2.1 x.2.2.2.2.2.2.1
  ·cases h) ((Z7.run k a0).trans h) (λr hr=>Q1 hr)
end Go.Proofs.YtpmlmdfbhmgikaaGreatDoor
end
section
/- Plain laws: bytes,pieces,edges of a text;no function of the program. -/
namespace Go.Proofs.YtpmlmdfbhmgikaaGreatDoor
open Go.Gx
theorem getD_at {α:Type}{xs:List α}{i:Nat}(h:i<xs.length)(d:α):xs.getD i d=xs[i]:=by simp[List.getD,List.getElem?_eq_getElem h]
theorem Dy {s:ByteArray}:(!Qo s ⟨#[]⟩)=decide (0<s.size):=by
 rw[Qae]
 have:L ⟨#[]⟩=[]:=rfl
 rw[this,<-Ys]
 cases L s<;>rfl
theorem Y8 (s t:ByteArray):(s++t).size=s.size+t.size:=by
 rw[<-Ys,UL,List.length_append,Ys,Ys]
theorem Qx (s:ByteArray):(Qf s).length=s.size:=by
 simp only[Qf,List.length_map,Array.length_toList];rfl
theorem Ua (s:ByteArray):Qf s=(L s).map λb=>(b.toNat:Int):=rfl
theorem XH (s:ByteArray)(i:Nat)(h:i<(Qf s).length):bt s i=(Qf s)[i]:=by
 rw[Q92]
 have h':i<(L s).length:=by simpa[Ua]using h
 simp[Ua,List.getD,h']
theorem XI (s:ByteArray)(i:Nat)(h:i<(Qf s).length):0<=(Qf s)[i]/\(Qf s)[i]<=255:=by
 rw[<-XH s i h];exact Q93 s i
theorem Q2j {s:ByteArray}{i:Nat}(h:i<(Qf s).length)(p:Int->Bool):((Qf s).drop i).all p=(p (Qf s)[i]&&((Qf s).drop (i+1)).all p):=by
 rw[List.drop_eq_getElem_cons h];rfl
theorem Q96 (s:ByteArray)(st a:Nat):(s.extract st s.size).extract a (s.extract st s.size).size=s.extract (st+a) s.size:=by
 apply Xn
 have e:(L s).take s.size=L s:=List.take_of_length_le (Nat.le_refl _)
 rw[Jf,Jf s (st+a),<-Ys (s.extract st s.size),Jf,List.take_length,List.drop_drop,e]
theorem Q97 (s:ByteArray)(st i:Nat)(h:st<=i)(hi:i<=s.size):(s.extract st s.size).extract 0 (i-st)=s.extract st i:=by
 apply Xn
 rw[Jf,Jf,Jf,List.drop_zero,List.take_of_length_le (show(L s).length<=s.size from Nat.le_refl _),List.drop_take]
def sp:ByteArray:=⟨#[32]⟩
theorem Qb8 {l:List UInt8}{c:UInt8}{i:Nat}(h:l[i]? =some c)(hn:∀j,j<i->l[j]? ≠some c):Lib.indexByte l c=i:=by
 have hg:=Lib.indexByte_ge l c
 by_cases e:Lib.indexByte l c= -1
 ·exact absurd h (Lib.indexByte_none e i)
 ·obtain⟨o,ho⟩:∃o:Nat,Lib.indexByte l c=o:=⟨(Lib.indexByte l c).toNat,by omega⟩
  obtain⟨h1,h2⟩:=Lib.indexByte_some ho
  rcases Nat.lt_trichotomy o i with h3|h3|h3
  ·exact absurd h1 (hn o h3)
  ·rw[ho,h3]
  ·exact absurd h (h2 i h3)
theorem Qag {l:List UInt8}{c:UInt8}(hn:∀j:Nat,l[j]? ≠some c):Lib.indexByte l c= -1:=by
 have hg:=Lib.indexByte_ge l c
 by_cases e:Lib.indexByte l c= -1
 ·exact e
 ·obtain⟨o,ho⟩:∃o:Nat,Lib.indexByte l c=o:=⟨(Lib.indexByte l c).toNat,by omega⟩
  exact absurd (Lib.indexByte_some ho).1 (hn o)
theorem Q2k (s:ByteArray):Lib.indexB s sp=Lib.indexByte (L s) 32:=Lib.one s sp rfl
theorem Q5y (s:ByteArray)(st j:Nat):(L (s.extract st s.size))[j]? =(L s)[st+j]?:=by
 rw[Jf,List.take_of_length_le (show(L s).length<=s.size from Nat.le_refl _),List.getElem?_drop]
def Y3 (s:ByteArray)(st:Nat):List ByteArray:=Lib.splitB sp 0 (Lib.countB (s.extract st s.size) sp) (s.extract st s.size)
theorem Q2l (s:ByteArray)(st:Nat)(h:∀j,st<=j->(L s)[j]? ≠some 32):Y3 s st=[s.extract st s.size]:=by
 unfold Y3
 rw[Lib.countB_miss _ _ ((Q2k _).trans (Qag λj=>by rw[Q5y];exact h _ (by omega)))]
 rfl
theorem Q2m (s:ByteArray)(st i:Nat)(h1:st<=i)(hi:i<s.size)(hb:(L s)[i]? =some 32)(h:∀j,st<=j->j<i->(L s)[j]? ≠some 32):Y3 s st=s.extract st i::Y3 s (i+1):=by
 have e:Lib.indexB (s.extract st s.size) sp=((i-st:Nat):Int):=(Q2k _).trans (Qb8 (by rw[Q5y,show st+(i-st)=i by omega];exact hb) λj hj=>by rw[Q5y];exact h _ (by omega) (by omega))
 have e1:sp.size=1:=rfl
 unfold Y3
 rw[Lib.countB_hit _ _ _ (by rw[e1];exact Nat.le_refl _) e,Nat.add_comm 1,Lib.splitB_hit _ _ _ _ _ e,Nat.add_zero,Q97 s st i h1 (by omega),e1,Q96,show st+(i-st+1)=i+1 by omega]
theorem sub_self (s:ByteArray):s.extract 0 s.size=s:=by
 apply Xn
 rw[Jf,List.take_of_length_le (show(L s).length<=s.size from Nat.le_refl _),List.drop_zero]
def words (s:ByteArray):List ByteArray:=Lib.splitB sp 0 (Lib.countB s sp) s
theorem Q0Y (s:ByteArray):Y3 s 0=words s:=by unfold Y3 words;rw[sub_self]
theorem XJ:∀(k:Nat) (s:ByteArray),∀x∈Lib.splitB sp 0 k s,x.size<=s.size
 |0,s,x,hx=>by
  rw[Lib.splitB_zero]at hx
  simp only[List.mem_singleton]at hx
  rw[hx];exact Nat.le_refl _
 |k+1,s,x,hx=>by
  unfold Lib.splitB at hx
  split at hx
  ·simp only[List.mem_singleton]at hx
   rw[hx];exact Nat.le_refl _
  ·rcases List.mem_cons.1 hx with rfl|hx
   ·rw[ByteArray.size_extract];omega
   ·have:=XJ k _ x hx
    rw[ByteArray.size_extract]at this
    omega
theorem Q2n (s:ByteArray):1<=(words s).length/\(words s).length<=s.size+1:=by
 unfold words
 have h1:1<=sp.size:=Nat.le_refl 1
 rw[Lib.splitB_all sp h1 0 _ s rfl]
 have:=Lib.countB_le sp h1 s.size s (Nat.le_refl _)
 omega
theorem Q0Z {α:Type}(p:α->Bool):∀l:List α,l.dropWhile p=l ↔ (∀a,l.head?=some a->p a=false)
 |[]=>by simp
 |a::l=>by
  have hl:(l.dropWhile p).length<=l.length:=(List.dropWhile_sublist p).length_le
  cases h:p a with
  |true=>
   rw[List.dropWhile_cons_of_pos h]
   constructor
   ·intro e
    have:=congrArg List.length e
    simp at this
    omega
   ·intro e
    have:=e a rfl
    rw[h]at this;cases this
  |false=>
   rw[List.dropWhile_cons_of_neg (by rw[h];exact Bool.noConfusion)]
   simp[h]
theorem Q5z (l:List UInt8)(c:UInt8):Lib.trimB l c=l ↔ l.head?≠some c/\l.getLast?≠some c:=by
 unfold Lib.trimB Lib.trimLeftB Lib.trimRightB
 have h1:∀m:List UInt8,m.dropWhile (· ==c)=m ↔ m.head?≠some c:=λm=>by
  rw[Q0Z]
  constructor
  ·intro h e;have:=h c e;simp at this
  ·intro h a e
   have:a≠c:=λe'=>h (e'▸e)
   simpa using this
 constructor
 ·intro h
  have h2:((l.reverse.dropWhile (· ==c)).reverse).length<=l.length:=by
   have:=(List.dropWhile_sublist (p:=(· ==c)) (l:=l.reverse)).length_le
   simpa using this
  have h3:=(List.dropWhile_sublist (p:=(· ==c)) (l:=(l.reverse.dropWhile (· ==c)).reverse))
  have h4:(l.reverse.dropWhile (· ==c)).reverse=l:=by
   have h5:(l.reverse.dropWhile (· ==c)).reverse.length=l.length:=by
    have:=h3.length_le
    rw[h]at this
    omega
   have h6:l.reverse.dropWhile (· ==c)=l.reverse:=(List.dropWhile_sublist (p:=(· ==c)) (l:=l.reverse)).eq_of_length (by simpa using h5)
   rw[h6,List.reverse_reverse]
  rw[h4]at h
  refine⟨(h1 l).1 h,?_⟩
  have h6:l.reverse.dropWhile (· ==c)=l.reverse:=by rw[<-List.reverse_inj,h4,List.reverse_reverse]
  have:=(h1 _).1 h6
  simpa using this
 ·rintro⟨ha,hb⟩
  have h6:l.reverse.dropWhile (· ==c)=l.reverse:=(h1 _).2 (by simpa using hb)
  rw[h6,List.reverse_reverse]
  exact(h1 l).2 ha
def vis (lo b:Int):Bool:=decide (lo<=b)&&decide (b<=126)
theorem Q98 {s:ByteArray}{i:Nat}(hi:i<s.size):bt s i=32 ↔ (L s)[i]? =some 32:=by
 have hi':i<(L s).length:=hi
 have hbt:bt s i=((L s)[i].toNat:Int):=by rw[Q92,getD_at hi']
 rw[List.getElem?_eq_getElem hi',hbt]
 have:(32:UInt8).toNat=32:=rfl
 constructor
 ·intro h
  congr 1
  apply UInt8.toNat_inj.1
  omega
 ·intro h
  rw[Option.some.inj h];rfl
def Qah (s:ByteArray):Bool:=(decide (s.size=0))||(bt s 0 != 32&&bt s (s.size-1) != 32)
theorem Qai (s:ByteArray):Qo ⟨(Lib.trimB (L s) 32).toArray⟩ s=Qah s:=by
 rw[Bool.eq_iff_iff,JH]
 have h1:(⟨(Lib.trimB (L s) 32).toArray⟩:ByteArray)=s ↔ Lib.trimB (L s) 32=L s:=by
  constructor
  ·intro h
   have:=congrArg L h
   rwa [Qaf]at this
  ·intro h
   apply Xn
   rw[Qaf,h]
 rw[h1,Q5z]
 unfold Qah
 by_cases hz:s.size=0
 ·have:L s=[]:=List.eq_nil_of_length_eq_zero hz
  rw[this]
  simp[hz]
 ·have h2:(L s).head?=(L s)[0]?:=List.head?_eq_getElem?
  have h3:(L s).getLast?=(L s)[s.size-1]?:=by rw[List.getLast?_eq_getElem?];rfl
  rw[h2,h3,Bool.or_eq_true,decide_eq_true_eq,Bool.and_eq_true,bne_iff_ne,bne_iff_ne,Ne,Ne,Ne,Ne,Q98 (by omega),Q98 (by omega)]
  simp[hz]
def pos (s:ByteArray):Bool:=decide (0<s.size)
theorem ext_size {s:ByteArray}{a b:Nat}(h:a<=b)(hb:b<=s.size):(s.extract a b).size=b-a:=by
 rw[ByteArray.size_extract];omega
theorem Xf {n:Nat}(h:n<=8192):room n .str=true:=by
 unfold room
 rw[Nat.ble_eq]
 have:nb .str=16:=rfl
 rw[this]
 omega
theorem Q7r (x:List UInt8)(r:List (List UInt8)):Lib.joinTail [32] (x::r)=32::(x++Lib.joinTail [32] r):=by simp[Lib.joinTail]
theorem L32:L ⟨#[32]⟩=[32]:=rfl
def ms {α:Type}(f:α->α)(W:List α)(i:Nat):List α:=(W.take i).map f++W.drop i
section
variable {α:Type} (f:α->α) (W:List α)
end
end Go.Proofs.YtpmlmdfbhmgikaaGreatDoor
end
section
/- Plain laws: texts of an entry. -/
namespace Go.Proofs.YtpmlmdfbhmgikaaGreatDoor
open Go.Gx
theorem Q7s (s:ByteArray)(hs:s.size<=1048576):Z139.F s ⟨#[32]⟩=some ⟨(Lib.trimB (L s) 32).toArray⟩:=by
 unfold Z139.F Q3d
 rw[Nat.ble_eq_true_of_le (by omega)]
 rfl
theorem GE (s:ByteArray)(hs:s.size<=1048576):∀n i:Nat,i+n=s.size->Ev (λk=>Z29.l0 k s i) (if((Qf s).drop i).all (vis 32)=true then .inr s else .inl false)
 |0,i,h=>by
  refine Ev.step (λk=>by rw[Z29.l0]) ?_
  simp(disch:=omega) only[Qn]
  rw[List.drop_eq_nil_of_le (by rw[Qx];omega)]
  exact Ev.pure _
 |n+1,i,h=>by
  have hl:=Qx s
  have hi:i<(Qf s).length:=by omega
  refine Ev.step (λk=>by rw[Z29.l0]) ?_
  simp(disch:=omega) only[Qc,Int.toNat_natCast,XH s i hi]
  rw[Q2j hi]
  unfold vis
  by_cases c1:(Qf s)[i]<32
  ·simp(disch:=omega) only[Qc,Q3b,Bool.false_and];exact Ev.pure _
  ·by_cases c2:(Qf s)[i] > 126
   ·simp(disch:=omega) only[Qc,Qn,Q3b,Bool.and_false,Bool.false_and];exact Ev.pure _
   ·simp(disch:=omega) only[Qc,Qn,Q5w,Bool.and_self,Bool.true_and,wrap_in]
    exact GE s hs n (i+1) (by omega)
theorem Q10 (s:ByteArray)(hs:s.size<=1048576):∀n i:Nat,i+n=s.size->Ev (λk=>Z47.l0 k s i) (if((Qf s).drop i).all (vis 32)=true then .inr s else .inl false)
 |0,i,h=>by
  refine Ev.step (λk=>by rw[Z47.l0]) ?_
  simp(disch:=omega) only[Qn]
  rw[List.drop_eq_nil_of_le (by rw[Qx];omega)]
  exact Ev.pure _
 |n+1,i,h=>by
  have hl:=Qx s
  have hi:i<(Qf s).length:=by omega
  refine Ev.step (λk=>by rw[Z47.l0]) ?_
  simp(disch:=omega) only[Qc,Int.toNat_natCast,XH s i hi]
  rw[Q2j hi]
  unfold vis
  by_cases c1:(Qf s)[i]<32
  ·simp(disch:=omega) only[Qc,Q3b,Bool.false_and];exact Ev.pure _
  ·by_cases c2:(Qf s)[i] > 126
   ·simp(disch:=omega) only[Qc,Qn,Q3b,Bool.and_false,Bool.false_and];exact Ev.pure _
   ·simp(disch:=omega) only[Qc,Qn,Q5w,Bool.and_self,Bool.true_and,wrap_in]
    exact Q10 s hs n (i+1) (by omega)
def Xo (s:ByteArray):Bool:=decide (s.size<=40)&&((Qf s).all (vis 32)&&Qah s)
theorem Ug (s:ByteArray):Ev (λk=>Z29.F k s) (Xo s):=by
 unfold Z29.F Xo
 by_cases c:(s.size:Int) > 40
 ·simp(disch:=omega) only[Qc,Q3b,Bool.false_and]
  exact Ev.pure _
 ·simp(disch:=omega) only[Qn,Q5w,Bool.true_and]
  have:=GE s (by omega) s.size 0 (by omega)
  rw[List.drop_zero]at this
  cases h:(Qf s).all (vis 32)with
  |false=>rw[h]at this;exact Ev.bind this (Ev.pure _)
  |true=>
   rw[h]at this
   refine Ev.bind (a:=.inr s) this ?_
   dsimp only
   have he:Qo s ⟨#[]⟩=decide (s.size=0):=by
    rw[<-Bool.not_not (b:=Qo s ⟨#[]⟩),Dy]
    by_cases hz:s.size=0
    ·simp[hz]
    ·rw[decide_eq_true (by omega:0<s.size),decide_eq_false hz];rfl
   rw[he]
   unfold Qah
   by_cases hz:s.size=0
   ·rw[decide_eq_true hz];exact Ev.pure _
   ·rw[decide_eq_false hz]
    simp(disch:=omega) only[cond_false,cond_true,Qc,wrap_in]
    rw[show((s.size:Int)-1).toNat=s.size-1 by omega,show(0:Int).toNat=0 from rfl,Bool.false_or,Bool.true_and]
    cases (bt s 0 != 32)with
    |true=>exact Ev.pure _
    |false=>exact Ev.pure _
theorem Kt (s:ByteArray):Ev (λk=>Z82.F k s) (Xo s):=by
 unfold Z82.F Xo
 by_cases c:(s.size:Int)<=40
 ·simp(disch:=omega) only[Qc,Q5w,Bool.true_and]
  refine Ev.bind ?_ (Ev.pure _)
  unfold Z47.F
  have:=Q10 s (by omega) s.size 0 (by omega)
  rw[List.drop_zero]at this
  cases h:(Qf s).all (vis 32)with
  |false=>rw[h]at this;exact Ev.bind this (Ev.pure _)
  |true=>
   rw[h]at this
   refine Ev.bind (a:=.inr s) this ?_
   dsimp only
   refine Ev.bind0 (Q7s s (by omega)) ?_
   simp only[Qai,Bool.true_and]
   exact Ev.pure _
 ·simp(disch:=omega) only[Qn,Q3b,Bool.false_and]
  exact Ev.pure _
end Go.Proofs.YtpmlmdfbhmgikaaGreatDoor
end
section
/- Plain laws: a text split at its spaces. -/
namespace Go.Proofs.YtpmlmdfbhmgikaaGreatDoor
open Go.Gx
theorem Q99 (s:ByteArray)(hs:s.size<=1048576):Z138.F s ⟨#[32]⟩=some (words s):=by
 unfold Z138.F Q3c
 rw[Nat.ble_eq_true_of_le (by omega)]
 rfl
end Go.Proofs.YtpmlmdfbhmgikaaGreatDoor
end
section
/- Plain laws: a text split at its spaces,the other way. -/
namespace Go.Proofs.YtpmlmdfbhmgikaaGreatDoor
open Go.Gx
theorem Q11 (s:ByteArray)(hs:s.size<=1048576):∀n i:Nat,i+n=s.size->∀st:Nat,st<=i->(∀j,st<=j->j<i->(L s)[j]? ≠some 32)->∀acc:List ByteArray,acc.length<=i->
  ∃acc' st',Ev (λk=>Z40.l0 k s 32 acc st i) (s,acc',((st':Nat):Int))/\st'<=s.size/\acc'.length<=s.size/\acc'++[s.extract st' s.size]=acc++Y3 s st
 |0,i,h,st,h1,hn,acc,ha=>by
  refine⟨acc,st,Ev.step (λk=>by rw[Z40.l0]) ?_,by omega,by omega,?_⟩
  ·simp(disch:=omega) only[Qn]
   exact Ev.pure _
  ·rw[Q2l s st λj hj=>?_]
   by_cases hj2:j<i
   ·exact hn j hj hj2
   ·rw[List.getElem?_eq_none (by rw[Ys];omega)];exact λh=>by cases h
 |n+1,i,h,st,h1,hn,acc,ha=>by
  have hi:i<(L s).length:=by rw[Ys];omega
  have hbt:bt s i=((L s)[i].toNat:Int):=by rw[Q92,getD_at hi]
  by_cases c:bt s i=32
  ·have hb:(L s)[i]? =some 32:=by
    rw[List.getElem?_eq_getElem hi]
    congr 1
    apply UInt8.toNat_inj.1
    have:(32:UInt8).toNat=32:=rfl
    omega
   obtain⟨acc',st',r1,r2,r3,r4⟩:=Q11 s hs n (i+1) (by omega) (i+1) (Nat.le_refl _) (λj h1 h2=>by omega) (acc++[s.extract st i]) (by simp;omega)
   refine⟨acc',st',Ev.step (λk=>by rw[Z40.l0]) ?_,r2,r3,?_⟩
   ·have hr:room (acc.length+([s.extract st i]:List ByteArray).length) .str=true:=by
     unfold room
     rw[Nat.ble_eq]
     have:nb .str=16:=rfl
     rw[this]
     simp;omega
    simp(disch:=omega) only[Qc,Int.toNat_natCast,ceq,hr,cond_true,wrap_in]
    exact r1
   ·rw[r4,Q2m s st i h1 (by omega) hb hn];simp
  ·obtain⟨acc',st',r1,r2,r3,r4⟩:=Q11 s hs n (i+1) (by omega) st (by omega) (λj h1 h2=>by
    rcases Nat.lt_or_ge j i with h3|h3
    ·exact hn j h1 h3
    ·obtain rfl:j=i:=by omega
     rw[List.getElem?_eq_getElem hi]
     intro e
     apply c
     rw[hbt,Option.some.inj e];rfl) acc (by omega)
   refine⟨acc',st',Ev.step (λk=>by rw[Z40.l0]) ?_,r2,r3,r4⟩
   simp(disch:=omega) only[Qc,Int.toNat_natCast,cne,wrap_in]
   exact r1
theorem Q3e (s:ByteArray)(hs:s.size<=1048576):Ev (λk=>Z40.F k s 32) (words s):=by
 unfold Z40.F
 obtain⟨acc',st',r1,r2,r3,r4⟩:=Q11 s hs s.size 0 (by omega) 0 (Nat.le_refl _) (λj h1 h2=>by omega) [] (Nat.le_refl _)
 refine Ev.bind r1 ?_
 have hr:room (acc'.length+([s.extract st' s.size]:List ByteArray).length) .str=true:=by
  unfold room
  rw[Nat.ble_eq]
  have:nb .str=16:=rfl
  rw[this]
  simp;omega
 simp(disch:=omega) only[Qc,Int.toNat_natCast,hr,cond_true,r4,Q0Y,List.nil_append]
 exact Ev.pure _
end Go.Proofs.YtpmlmdfbhmgikaaGreatDoor
end
section
/- Plain laws: lists of texts: size,copy,equality. -/
namespace Go.Proofs.YtpmlmdfbhmgikaaGreatDoor
open Go.Gx
def Yu (xs:List ByteArray):Nat:=(xs.map ByteArray.size).sum
end Go.Proofs.YtpmlmdfbhmgikaaGreatDoor
end
section
/- Plain laws: names,entries,libraries: size,copy,equality. -/
namespace Go.Proofs.YtpmlmdfbhmgikaaGreatDoor
open Go.Gx
def Ky (n:Name):Nat:=n.given.length+Yu n.given+n.particle.size+n.family.size+n.suffix.size
def JW (xs:List Name):Nat:=xs.length+(xs.map Ky).sum
def Q1z (e:Entry):Nat:=e.key.size+JW e.authors+JW e.editors+e.title.size+e.container.size+e.publisher.size+e.pages.size+e.cross.size
def Q6j (xs:List Entry):Nat:=xs.length+(xs.map Q1z).sum
theorem Q6k {α:Type}(f:α->Nat){xs:List α}{x:α}(h:x∈xs):f x<=(xs.map f).sum:=by
 induction xs with
 |nil=>cases h
 |cons b l ih=>
  simp only[List.map_cons,List.sum_cons]
  rcases List.mem_cons.1 h with rfl|h
  ·omega
  ·have:=ih h;omega
def QI (n:Name):Prop:=Ky n<=1048576
def JX (e:Entry):Prop:=Q1z e<=1048576
def JY (l:Library):Prop:=Q6j l.entries<=1048576
theorem YW {l:Library}(h:JY l){e:Entry}(he:e∈l.entries):JX e:=by
 have:=Q6k Q1z he
 unfold JY Q6j at h
 unfold JX
 omega
theorem Jn {xs:List Name}(h:JW xs<=1048576){n:Name}(hn:n∈xs):QI n:=by
 have:=Q6k Ky hn
 unfold JW at h
 unfold QI
 omega
theorem UM {e:Entry}(h:JX e):JW e.authors<=1048576:=by unfold JX Q1z at h;omega
theorem Q12 {e:Entry}(h:JX e):JW e.editors<=1048576:=by unfold JX Q1z at h;omega
theorem Jy {xs:List Name}(h:JW xs<=1048576):xs.length<=1048576:=by unfold JW at h;omega
theorem KW {l:Library}(h:JY l):l.entries.length<=1048576:=by unfold JY Q6j at h;omega
end Go.Proofs.YtpmlmdfbhmgikaaGreatDoor
end
section
/- Plain laws: slices.IndexFunc,slices.DeleteFunc,as they are printed for a function value. -/
namespace Go.Gx
section
variable {α:Type} {d:α} {p:α->Bool} {q:Nat->α->Option Bool} {xs:List α}
theorem G9 {α:Type}{xs:List α}{i:Nat}(h:i<xs.length)(d:α):xs.getD i d=xs[i]:=by simp[List.getD,List.getElem?_eq_getElem h]
theorem Q9a {l0:Nat->List α->Int->Int->Option (Sum Int Unit)}(H:∀k x0 x7 x8,l0 (k+1) x0 x7 x8=bif (decide (x8<x7))then(bif decide (0<=x8)then(bif decide (x8<(x0.length:Int))then((q k (x0.getD (x8:Int).toNat d)).bind λr1=>bif r1 then(some (.inl x8))else(l0 k x0 x7 (IntKind.wrap .i64 (x8+1))))else none)else none)else(some (.inr ())))
  (hq:∀x,x∈xs->Ev (λk=>q k x) (p x)) (hl:xs.length<=4611686018427387904):∀n i:Nat,i+n=xs.length->(∀x∈xs.take i,p x=false)->
  ∃r,Ev (λk=>l0 k xs xs.length i) r/\((r= .inr ()/\∀x∈xs,p x=false)\/∃j:Nat,r= .inl j/\j<xs.length/\p (xs.getD j d)=true/\∀x∈xs.take j,p x=false)
 |0,i,h,ht=>by
  refine⟨.inr (),Ev.step (λk=>by rw[H]) ?_,.inl ⟨rfl,by rw[List.take_of_length_le (by omega)]at ht;exact ht⟩⟩
  simp(disch:=omega) only[Qn]
  exact Ev.pure _
 |n+1,i,h,ht=>by
  have hi:i<xs.length:=by omega
  cases hp:p xs[i]with
  |true=>
   refine⟨.inl i,Ev.step (λk=>by rw[H]) ?_,.inr ⟨i,rfl,hi,by rw[G9 hi,hp],ht⟩⟩
   simp(disch:=omega) only[Qc,Int.toNat_natCast,G9 hi]
   refine Ev.bind (hq _ (List.getElem_mem hi)) ?_
   rw[hp]
   exact Ev.pure _
  |false=>
   obtain⟨r,h1,h2⟩:=Q9a H hq hl n (i+1) (by omega) (by
    intro x hx
    rw[List.take_add_one,List.getElem?_eq_getElem hi]at hx
    rcases List.mem_append.1 hx with hx|hx
    ·exact ht x hx
    ·simp only[Option.toList_some,List.mem_singleton]at hx
     rw[hx,hp])
   refine⟨r,Ev.step (λk=>by rw[H]) ?_,h2⟩
   simp(disch:=omega) only[Qc,Int.toNat_natCast,G9 hi]
   refine Ev.bind (hq _ (List.getElem_mem hi)) ?_
   rw[hp]
   simp(disch:=omega) only[cond_false,wrap_in]
   exact h1
theorem Ge {l0:Nat->List α->Int->Int->Option (Sum Int Unit)}(H:∀k x0 x7 x8,l0 (k+1) x0 x7 x8=bif (decide (x8<x7))then(bif decide (0<=x8)then(bif decide (x8<(x0.length:Int))then((q k (x0.getD (x8:Int).toNat d)).bind λr1=>bif r1 then(some (.inl x8))else(l0 k x0 x7 (IntKind.wrap .i64 (x8+1))))else none)else none)else(some (.inr ())))
  (hq:∀x,x∈xs->Ev (λk=>q k x) (p x)) (hl:xs.length<=4611686018427387904) {F:Nat->List α->Option Int} (HF:∀k a0,F k a0=(l0 k a0 (a0.length:Int) 0).bind λy2=>match y2 with|.inl z3=>some z3|.inr z3=>some (-1)) :
  ∃r,Ev (λk=>F k xs) r/\((r= -1/\∀x∈xs,p x=false)\/∃j:Nat,r=j/\j<xs.length/\p (xs.getD j d)=true/\∀x∈xs.take j,p x=false):=by
 obtain⟨r,h1,h2⟩:=Q9a H hq hl xs.length 0 (by omega) (λx hx=>by simp at hx)
 rcases h2 with⟨rfl,h2⟩|⟨j,rfl,h2⟩
 ·exact⟨-1,Ev.congr (Ev.bind h1 (Ev.pure _)) (λk=>HF k xs),.inl ⟨rfl,h2⟩⟩
 ·exact⟨j,Ev.congr (Ev.bind h1 (Ev.pure _)) (λk=>HF k xs),.inr ⟨j,rfl,h2⟩⟩
theorem Q5A {l0:Nat->List α->Int->Int->Option (List α×Int)}(H:∀k x0 x5 x6,l0 (k+1) x0 x5 x6=bif (decide (x6<(x0.length:Int)))then(bif decide (0<=x6)then(bif decide (x6<(x0.length:Int))then((q k (x0.getD ((x6:Int).toNat) d)).bind λr2=>bif (!r2)then(bif decide (0<=x5)then(bif decide (x5<(x0.length:Int))then(l0 k (x0.set ((x5:Int).toNat) (x0.getD ((x6:Int).toNat) d)) (IntKind.wrap .i64 (x5+1)) (IntKind.wrap .i64 (x6+1)))else none)else none)else(l0 k x0 x5 (IntKind.wrap .i64 (x6+1))))else none)else none)else(some (x0,x5)))
  (hq:∀x,x∈xs->Ev (λk=>q k x) (p x)) (hl:xs.length<=4611686018427387904):∀n j:Nat,j+n=xs.length->∀(ys:List α) (i:Nat),ys.length=xs.length->i<=j->ys.drop j=xs.drop j->
  ∃zs,∃i':Nat,Ev (λk=>l0 k ys i j) (zs,(i':Int))/\i'<=xs.length/\zs.length=xs.length/\zs.take i'=ys.take i++(xs.drop j).filter λx=> !p x
 |0,j,h,ys,i,hy,hij,hd=>by
  refine⟨ys,i,Ev.step (λk=>by rw[H]) ?_,by omega,hy,?_⟩
  ·simp(disch:=omega) only[Qn]
   exact Ev.pure _
  ·rw[List.drop_eq_nil_of_le (by omega),List.filter_nil,List.append_nil]
 |n+1,j,h,ys,i,hy,hij,hd=>by
  have hj:j<xs.length:=by omega
  have hj':j<ys.length:=by omega
  have hx:ys[j]=xs[j]:=by
   have h0:=congrArg (·[0]?) hd
   simpa[hj,hj']using h0
  have hd1:ys.drop (j+1)=xs.drop (j+1):=by
   have:=congrArg (List.drop 1) hd
   simpa[List.drop_drop]using this
  cases hp:p xs[j]with
  |true=>
   obtain⟨zs,i',h1,h2,h3,h4⟩:=Q5A H hq hl n (j+1) (by omega) ys i hy (by omega) hd1
   refine⟨zs,i',Ev.step (λk=>by rw[H]) ?_,h2,h3,?_⟩
   ·simp(disch:=omega) only[Qc,Int.toNat_natCast,G9 hj',hx]
    refine Ev.bind (hq _ (List.getElem_mem hj)) ?_
    rw[hp]
    simp(disch:=omega) only[Bool.not_true,cond_false,wrap_in]
    exact h1
   ·rw[h4,List.drop_eq_getElem_cons hj,List.filter_cons_of_neg (by rw[hp];decide)]
  |false=>
   obtain⟨zs,i',h1,h2,h3,h4⟩:=Q5A H hq hl n (j+1) (by omega) (ys.set i xs[j]) (i+1) (by simpa using hy) (by omega) (by rw[List.drop_set_of_lt (by omega)];exact hd1)
   refine⟨zs,i',Ev.step (λk=>by rw[H]) ?_,h2,h3,?_⟩
   ·simp(disch:=omega) only[Qc,Int.toNat_natCast,G9 hj',hx]
    refine Ev.bind (hq _ (List.getElem_mem hj)) ?_
    rw[hp]
    simp(disch:=omega) only[Bool.not_false,cond_true,Qc,Int.toNat_natCast,wrap_in]
    exact h1
   ·rw[h4,List.drop_eq_getElem_cons hj,List.filter_cons_of_pos (by rw[hp];decide),List.take_add_one,List.take_set_of_le (Nat.le_refl i)]
    have:(ys.set i xs[j])[i]? =some xs[j]:=by rw[List.getElem?_set_self (by omega)]
    rw[this]
    simp
theorem Q2o {l0:Nat->List α->Int->Int->Option (List α×Int)}(H:∀k x0 x5 x6,l0 (k+1) x0 x5 x6=bif (decide (x6<(x0.length:Int)))then(bif decide (0<=x6)then(bif decide (x6<(x0.length:Int))then((q k (x0.getD ((x6:Int).toNat) d)).bind λr2=>bif (!r2)then(bif decide (0<=x5)then(bif decide (x5<(x0.length:Int))then(l0 k (x0.set ((x5:Int).toNat) (x0.getD ((x6:Int).toNat) d)) (IntKind.wrap .i64 (x5+1)) (IntKind.wrap .i64 (x6+1)))else none)else none)else(l0 k x0 x5 (IntKind.wrap .i64 (x6+1))))else none)else none)else(some (x0,x5)))
  (hq:∀x,x∈xs->Ev (λk=>q k x) (p x)) (hl:xs.length<=4611686018427387904) {I F:Nat->List α->Option _} {e:α}
  (hI:∃r:Int,Ev (λk=>I k xs) r/\((r= -1/\∀x∈xs,p x=false)\/∃j:Nat,r=j/\j<xs.length/\p (xs.getD j d)=true/\∀x∈xs.take j,p x=false))
  (HF:∀k a0,F k a0=(I k a0).bind λr1=>bif (r1==(-1))then(some a0)else((l0 k a0 r1 (IntKind.wrap .i64 (r1+1))).bind λy3=>bif decide (0<=y3.2)then(bif decide (y3.2<=(y3.1.length:Int))then(bif decide (0<=y3.2)then(bif decide (y3.2<=((y3.1.take ((y3.2:Int).toNat)++List.replicate (y3.1.length-((y3.2:Int).toNat)) e).length:Int))then(some ((y3.1.take ((y3.2:Int).toNat)++List.replicate (y3.1.length-((y3.2:Int).toNat)) e).take (y3.2:Int).toNat))else none)else none)else none)else none)) :
  Ev (λk=>F k xs) (xs.filter λx=> !p x):=by
 obtain⟨r,h1,h2⟩:=hI
 refine Ev.congr (?_:Ev _ _) (λk=>HF k xs)
 refine Ev.bind h1 ?_
 rcases h2 with⟨rfl,h2⟩|⟨j,rfl,hj,hp,h2⟩
 ·have:(xs.filter λx=> !p x)=xs:=List.filter_eq_self.2 λx hx=>by rw[h2 x hx];rfl
  rw[this]
  exact Ev.pure _
 ·obtain⟨zs,i',h3,h4,h5,h6⟩:=Q5A H hq hl (xs.length-(j+1)) (j+1) (by omega) xs j rfl (by omega) rfl
  rw[G9 hj]at hp
  have hz:zs.take i'=xs.filter λx=> !p x:=by
   rw[h6]
   conv=>rhs;rw[<-List.take_append_drop j xs,List.filter_append,List.drop_eq_getElem_cons hj,List.filter_cons_of_neg (by rw[hp];decide)]
   congr 1
   exact(List.filter_eq_self.2 λx hx=>by rw[h2 x hx];rfl).symm
  simp(disch:=omega) only[cne,wrap_in]
  refine Ev.bind h3 ?_
  have e1:((zs.take i'++List.replicate (zs.length-i') e)).length=zs.length:=by simp;omega
  simp(disch:=(try simp only[Int.toNat_natCast,e1]);omega) only[Qc,Int.toNat_natCast,e1]
  rw[List.take_append_of_le_length (by simp;omega),List.take_take,Nat.min_self,hz]
  exact Ev.pure _
end
end Go.Gx
end
section
/- Plain laws: keys,names,dates,entries,libraries: are they valid? -/
namespace Go.Proofs.YtpmlmdfbhmgikaaGreatDoor
open Go.Gx
theorem Q13 (a b c:Int):Z62.F a b c=some (decide (a ≥ b)&&decide (a<=c)):=by
 unfold Z62.F
 cases decide (a ≥ b)<;>rfl
theorem Jv (a b c:Int):Z61.F a b c=some (decide (a ≥ b)&&decide (a<=c)):=by
 unfold Z61.F
 cases decide (a ≥ b)<;>rfl
theorem QE {f:Nat->Option Bool}{b c:Bool}(h:b=true->Ev f c):Ev (λk=>bif (!b)then some false else f k) (b&&c):=by
 cases b with
 |false=>exact Ev.pure _
 |true=>exact h rfl
theorem QZ {f:Nat->Option Bool}{b c:Bool}(h:b=true->Ev f c):Ev (λk=>bif b then f k else some false) (b&&c):=by
 cases b with
 |false=>exact Ev.pure _
 |true=>exact h rfl
def Xg (b:Int):Bool:=decide (97<=b)&&decide (b<=122)
def upc (b:Int):Bool:=decide (65<=b)&&decide (b<=90)
def ltr (b:Int):Bool:=upc b||Xg b
def dig (b:Int):Bool:=decide (48<=b)&&decide (b<=57)
theorem XK (b:Int):Z64.F b=some (Xg b):=by
 unfold Z64.F Xg
 simp only[ge_iff_le]
 cases decide (97<=b)<;>rfl
theorem Q14 (b:Int):Z67.F b=some (upc b):=by
 unfold Z67.F upc
 simp only[ge_iff_le]
 cases decide (65<=b)<;>rfl
theorem Q05 (b:Int):Z73.F b=some (ltr b):=by
 unfold Z73.F ltr
 rw[Q14,XK]
 cases upc b<;>rfl
theorem XL (b:Int):Z63.F b=some (Xg b):=by
 unfold Z63.F Xg
 simp only[ge_iff_le]
 cases decide (97<=b)<;>rfl
theorem Q9b (b:Int):Z66.F b=some (upc b):=by
 unfold Z66.F upc
 simp only[ge_iff_le]
 cases decide (65<=b)<;>rfl
theorem Dz (b:Int):Z71.F b=some (ltr b):=by
 unfold Z71.F ltr
 rw[Q9b,XL]
 cases upc b<;>rfl
theorem Q3f (b:Int):Z80.F b=some (dig b):=by
 unfold Z80.F dig
 simp only[ge_iff_le]
 cases decide (48<=b)<;>rfl
def ins (n:Nat)(lo hi:Int):Bool:=decide ((n:Int) ≥ lo)&&decide ((n:Int)<=hi)
theorem Gf {n:Nat}{lo hi:Int}(h:ins n lo hi=true):lo<=n/\(n:Int)<=hi:=by
 unfold ins at h
 simp only[Bool.and_eq_true,decide_eq_true_eq]at h
 exact h
def kb (s:ByteArray)(i:Nat):Bool:=Xg (bt s i)||dig (bt s i)
def Q5B (s:ByteArray):Bool:=ins s.size 1 10&&(Xg (bt s 0)&&(List.range' 0 s.size).all (kb s))
theorem Q5C (s:ByteArray)(hs:s.size<=10):Ev (λk=>Z24.l0 k s ((0:Nat):Int)) (if(List.range' 0 s.size).all (kb s)=true then .inr ()else .inl false):=by
 refine Y7 (f:=λk i=>Z24.l0 k s i) (n:=s.size) (λi hi hp=>?_) (λi r hi hp ih=>?_) ?_ s.size 0 (by omega)
 ·refine Ev.step (λk=>by rw[Z24.l0]) ?_
  unfold kb at hp
  rw[Bool.or_eq_false_iff]at hp
  simp(disch:=omega) only[Qc,Int.toNat_natCast]
  refine Ev.bind0 (XK _) ?_
  rw[hp.1]
  have h2:=hp.2
  unfold dig at h2
  by_cases c:bt s i<48
  ·simp(disch:=omega) only[Qc,Bool.not_false,cond_true]
   exact Ev.pure _
  ·have c2:bt s i > 57:=by
    rw[decide_eq_true (show 48<=bt s i by omega),Bool.true_and,decide_eq_false_iff_not]at h2
    omega
   simp(disch:=omega) only[Qc,Qn,Bool.not_false,cond_true]
   exact Ev.pure _
 ·refine Ev.step (λk=>by rw[Z24.l0]) ?_
  simp(disch:=omega) only[Qc,Int.toNat_natCast]
  refine Ev.bind0 (XK _) ?_
  cases hl:Xg (bt s i)with
  |true=>
   simp(disch:=omega) only[Bool.not_true,cond_false,wrap_in]
   exact ih
  |false=>
   unfold kb at hp
   rw[hl,Bool.false_or]at hp
   unfold dig at hp
   simp only[Bool.and_eq_true,decide_eq_true_eq]at hp
   simp(disch:=omega) only[Bool.not_false,cond_true,Qc,Qn,wrap_in]
   exact ih
 ·refine Ev.step (λk=>by rw[Z24.l0]) ?_
  simp(disch:=omega) only[Qn]
  exact Ev.pure _
theorem Q9c (s:ByteArray)(hs:s.size<=10):Ev (λk=>Z23.l0 k s ((0:Nat):Int)) (if(List.range' 0 s.size).all (kb s)=true then .inr ()else .inl false):=by
 refine Y7 (f:=λk i=>Z23.l0 k s i) (n:=s.size) (λi hi hp=>?_) (λi r hi hp ih=>?_) ?_ s.size 0 (by omega)
 ·refine Ev.step (λk=>by rw[Z23.l0]) ?_
  unfold kb at hp
  rw[Bool.or_eq_false_iff]at hp
  simp(disch:=omega) only[Qc,Int.toNat_natCast]
  refine Ev.bind0 (XL _) ?_
  rw[hp.1]
  simp(disch:=omega) only[Bool.not_false,cond_true,Qc]
  refine Ev.bind0 (Q3f _) ?_
  rw[hp.2]
  exact Ev.pure _
 ·refine Ev.step (λk=>by rw[Z23.l0]) ?_
  simp(disch:=omega) only[Qc,Int.toNat_natCast]
  refine Ev.bind0 (XL _) ?_
  cases hl:Xg (bt s i)with
  |true=>
   simp(disch:=omega) only[Bool.not_true,cond_false,wrap_in]
   exact ih
  |false=>
   unfold kb at hp
   rw[hl,Bool.false_or]at hp
   simp(disch:=omega) only[Bool.not_false,cond_true,Qc]
   refine Ev.bind0 (Q3f _) ?_
   rw[hp]
   simp(disch:=omega) only[Bool.not_true,cond_false,wrap_in]
   exact ih
 ·refine Ev.step (λk=>by rw[Z23.l0]) ?_
  simp(disch:=omega) only[Qn]
  exact Ev.pure _
theorem Q15 (s:ByteArray):Ev (λk=>Z24.F k s) (Q5B s):=by
 unfold Z24.F Q5B
 refine Ev.bind0 (Q13 _ _ _) (QE λh=>?_)
 obtain⟨h1,h2⟩:=Gf h
 simp(disch:=omega) only[Qc,show(0:Int).toNat=0 from rfl]
 refine Ev.bind0 (XK _) (QE λ_=>?_)
 have:=Q5C s (by omega)
 cases ha:(List.range' 0 s.size).all (kb s)with
 |true=>rw[ha]at this;exact Ev.bind this (Ev.pure _)
 |false=>rw[ha]at this;exact Ev.bind this (Ev.pure _)
theorem Q4o (s:ByteArray):Ev (λk=>Z23.F k s) (Q5B s):=by
 unfold Z23.F Q5B
 refine Ev.bind0 (Jv _ _ _) (QE λh=>?_)
 obtain⟨h1,h2⟩:=Gf h
 simp(disch:=omega) only[Qc,show(0:Int).toNat=0 from rfl]
 refine Ev.bind0 (XL _) (QE λ_=>?_)
 have:=Q9c s (by omega)
 cases ha:(List.range' 0 s.size).all (kb s)with
 |true=>rw[ha]at this;exact Ev.bind this (Ev.pure _)
 |false=>rw[ha]at this;exact Ev.bind this (Ev.pure _)
def wp (s:ByteArray)(i:Nat):Bool:=ltr (bt s i)||((bt s i==45||bt s i==39)&&ltr (bt s (i-1)))
def UN (s:ByteArray):Bool:=ins s.size 1 12&&(ltr (bt s 0)&&(ltr (bt s (s.size-1))&&(List.range' 1 (s.size-1)).all (wp s)))
theorem QaI {s:ByteArray}{i:Nat}(h:ltr (bt s i)=false)(h1:bt s i≠45)(h2:bt s i≠39):wp s i=false:=by
 unfold wp
 rw[h,show(bt s i==45)=false by simpa using h1,show(bt s i==39)=false by simpa using h2];rfl
theorem Q9d {s:ByteArray}{i:Nat}(h:ltr (bt s i)=false)(h1:bt s i=45\/bt s i=39):wp s i=ltr (bt s (i-1)):=by
 unfold wp
 rw[h]
 rcases h1 with h1|h1<;>rw[h1]<;>simp
theorem GF (s:ByteArray)(hs:s.size<=12):∀m i:Nat,i+m=s.size->1<=i->Ev (λk=>Z15.l0 k s i) (if(List.range' i m).all (wp s)=true then .inr ()else .inl false)
 |0,i,h,h1=>by
  refine Ev.step (λk=>by rw[Z15.l0]) ?_
  simp(disch:=omega) only[Qn]
  exact Ev.pure _
 |m+1,i,h,h1=>by
  have ih:=GF s hs m (i+1) (by omega) (by omega)
  have et:((i:Int)-1).toNat=i-1:=by omega
  refine Ev.step (λk=>by rw[Z15.l0]) ?_
  rw[List.range'_succ,List.all_cons]
  simp(disch:=omega) only[Qc,Int.toNat_natCast]
  refine Ev.bind0 (Q05 _) ?_
  cases hl:ltr (bt s i)with
  |true=>
   have:wp s i=true:=by unfold wp;rw[hl];rfl
   rw[this]
   simp(disch:=omega) only[Bool.not_true,cond_false,Bool.true_and,wrap_in]
   exact ih
  |false=>
   have fin:(bt s i=45\/bt s i=39)->Ev (λk=>(Z73.F (bt s (i-1))).bind λr5=>bif (!r5)then(some (.inl false))else(Z15.l0 k s ((i:Int)+1))) (if(wp s i&&(List.range' (i+1) m).all (wp s))=true then .inr ()else .inl false):=λhh=>by
    refine Ev.bind0 (Q05 _) ?_
    rw[Q9d hl hh]
    cases ltr (bt s (i-1))with
    |true=>exact ih
    |false=>exact Ev.pure _
   by_cases c1:bt s i=45
   ·simp(disch:=first|exact c1|omega) only[Bool.not_false,cond_true,Qc,UK,wrap_in,et]
    exact fin (.inl c1)
   ·by_cases c2:bt s i=39
    ·simp(disch:=first|exact c1|exact c2|omega) only[Bool.not_false,cond_true,Qc,Xp,UK,wrap_in,et]
     exact fin (.inr c2)
    ·rw[QaI hl c1 c2]
     simp(disch:=first|exact c1|exact c2|omega) only[Bool.not_false,cond_true,Qc,Xp]
     exact Ev.pure _
theorem Q2p (s:ByteArray)(hs:s.size<=12):∀m i:Nat,i+m=s.size->1<=i->Ev (λk=>Z18.l0 k s i) (if(List.range' i m).all (wp s)=true then .inr ()else .inl false)
 |0,i,h,h1=>by
  refine Ev.step (λk=>by rw[Z18.l0]) ?_
  simp(disch:=omega) only[Qn]
  exact Ev.pure _
 |m+1,i,h,h1=>by
  have ih:=Q2p s hs m (i+1) (by omega) (by omega)
  have et:((i:Int)-1).toNat=i-1:=by omega
  refine Ev.step (λk=>by rw[Z18.l0]) ?_
  rw[List.range'_succ,List.all_cons]
  simp(disch:=omega) only[Qc,Int.toNat_natCast]
  refine Ev.bind0 (Dz _) ?_
  cases hl:ltr (bt s i)with
  |true=>
   have:wp s i=true:=by unfold wp;rw[hl];rfl
   rw[this]
   simp(disch:=omega) only[Bool.not_true,cond_false,Bool.true_and,wrap_in]
   exact ih
  |false=>
   have fin:(bt s i=45\/bt s i=39)->Ev (λk=>(Z71.F (bt s (i-1))).bind λr5=>bif (!r5)then(some (.inl false))else(Z18.l0 k s ((i:Int)+1))) (if(wp s i&&(List.range' (i+1) m).all (wp s))=true then .inr ()else .inl false):=λhh=>by
    refine Ev.bind0 (Dz _) ?_
    rw[Q9d hl hh]
    cases ltr (bt s (i-1))with
    |true=>exact ih
    |false=>exact Ev.pure _
   by_cases c1:bt s i=45
   ·simp(disch:=first|exact c1|omega) only[Bool.not_false,cond_true,Qc,UK,wrap_in,et]
    exact fin (.inl c1)
   ·by_cases c2:bt s i=39
    ·simp(disch:=first|exact c1|exact c2|omega) only[Bool.not_false,cond_true,Qc,Xp,UK,wrap_in,et]
     exact fin (.inr c2)
    ·rw[QaI hl c1 c2]
     simp(disch:=first|exact c1|exact c2|omega) only[Bool.not_false,cond_true,Qc,Xp]
     exact Ev.pure _
theorem Yk (s:ByteArray):Ev (λk=>Z15.F k s) (UN s):=by
 unfold Z15.F UN
 refine Ev.bind0 (Q13 _ _ _) (QE λh=>?_)
 obtain⟨h1,h2⟩:=Gf h
 have et:((s.size:Int)-1).toNat=s.size-1:=by omega
 simp(disch:=omega) only[Qc,show(0:Int).toNat=0 from rfl,wrap_in,et]
 refine Ev.bind0 (Q05 _) (QE λ_=>?_)
 refine Ev.bind0 (Q05 _) (QE λ_=>?_)
 have:=GF s (by omega) (s.size-1) 1 (by omega) (Nat.le_refl _)
 cases ha:(List.range' 1 (s.size-1)).all (wp s)with
 |true=>rw[ha]at this;exact Ev.bind this (Ev.pure _)
 |false=>rw[ha]at this;exact Ev.bind this (Ev.pure _)
theorem Q2q (s:ByteArray):Ev (λk=>Z18.F k s) (UN s):=by
 unfold Z18.F UN
 refine Ev.bind0 (Jv _ _ _) (QE λh=>?_)
 obtain⟨h1,h2⟩:=Gf h
 have et:((s.size:Int)-1).toNat=s.size-1:=by omega
 simp(disch:=omega) only[Qc,show(0:Int).toNat=0 from rfl,wrap_in,et]
 refine(Ev.bind0 (Dz _) (QE (c:=ltr (bt s 0)&&(List.range' 1 (s.size-1)).all (wp s)) λ_=>?_)).eq (Bool.and_left_comm _ _ _)
 refine Ev.bind0 (Dz _) (QE λh0=>?_)
 have:=Q2p s (by omega) (s.size-1) 1 (by omega) (Nat.le_refl _)
 refine Ev.bind (a:=if(List.range' 1 (s.size-1)).all (wp s)=true then .inr ()else .inl false) ?_ ?_
 ·refine Ev.step (λk=>by rw[Z18.l0]) ?_
  simp(disch:=omega) only[Qc,show(0:Int).toNat=0 from rfl]
  refine Ev.bind0 (Dz _) ?_
  rw[h0]
  simp(disch:=omega) only[Bool.not_true,cond_false,wrap_in]
  exact this
 ·cases (List.range' 1 (s.size-1)).all (wp s)<;>exact Ev.pure _
def Q1A (s:ByteArray):Bool:=(List.range' 0 s.size).all λi=>Xg (bt s i)
theorem Q7t {s:ByteArray}(h:Q1A s=true):UN s=ins s.size 1 12:=by
 unfold Q1A at h
 rw[List.all_eq_true]at h
 have hl:∀i,i<s.size->ltr (bt s i)=true:=λi hi=>by
  unfold ltr
  rw[h i (by rw[List.mem_range'_1];omega),Bool.or_true]
 unfold UN
 cases hi:ins s.size 1 12 with
 |false=>rfl
 |true=>
  obtain⟨h1,h2⟩:=Gf hi
  rw[hl 0 (by omega),hl (s.size-1) (by omega)]
  have:(List.range' 1 (s.size-1)).all (wp s)=true:=by
   rw[List.all_eq_true]
   intro i hi
   rw[List.mem_range'_1]at hi
   unfold wp
   rw[hl i (by omega)];rfl
  rw[this];rfl
def pw (s:ByteArray):Bool:=ins s.size 1 12&&Q1A s
theorem QaJ (s:ByteArray):(UN s&&Q1A s)=pw s:=by
 unfold pw
 cases h:Q1A s with
 |false=>rw[Bool.and_false,Bool.and_false]
 |true=>rw[Q7t h]
def Yl (s:ByteArray):Bool:=decide (s.size=0)||((words s).all pw&&decide ((words s).length<=2))
theorem UO (s:ByteArray):Qo s ⟨#[]⟩=decide (s.size=0):=by
 rw[<-Bool.not_not (b:=Qo s ⟨#[]⟩),Dy]
 by_cases hz:s.size=0
 ·simp[hz]
 ·rw[decide_eq_true (by omega:0<s.size),decide_eq_false hz];rfl
theorem GG (W:List ByteArray)(i:Nat)(hi:i<W.length)(hs:W[i].size<=1048576):Ev (λk=>Z4.l2 k W i ((0:Nat):Int)) (if Q1A W[i]=true then .inr (W,(i:Int))else .inl false):=by
 refine Y7 (f:=λk j=>Z4.l2 k W i j) (n:=W[i].size) (p:=λj=>Xg (bt W[i] j)) (λj hj hp=>?_) (λj r hj hp ih=>?_) ?_ W[i].size 0 (by omega)
 ·refine Ev.step (λk=>by rw[Z4.l2]) ?_
  simp(disch:=omega) only[Qc,Int.toNat_natCast,getD_at hi]
  refine Ev.bind0 (XK _) ?_
  rw[hp]
  exact Ev.pure _
 ·refine Ev.step (λk=>by rw[Z4.l2]) ?_
  simp(disch:=omega) only[Qc,Int.toNat_natCast,getD_at hi]
  refine Ev.bind0 (XK _) ?_
  rw[hp]
  simp(disch:=omega) only[Bool.not_true,cond_false,wrap_in]
  exact ih
 ·refine Ev.step (λk=>by rw[Z4.l2]) ?_
  simp(disch:=omega) only[Qc,Qn,Int.toNat_natCast,getD_at hi]
  exact Ev.pure _
theorem Q2r (W:List ByteArray)(w:ByteArray)(n i:Int)(hs:w.size<=1048576):Ev (λk=>Z3.l2 k W w ((0:Nat):Int) n i) (if Q1A w=true then .inr (W,n,i)else .inl false):=by
 refine Y7 (f:=λk j=>Z3.l2 k W w j n i) (n:=w.size) (p:=λj=>Xg (bt w j)) (λj hj hp=>?_) (λj r hj hp ih=>?_) ?_ w.size 0 (by omega)
 ·refine Ev.step (λk=>by rw[Z3.l2]) ?_
  simp(disch:=omega) only[Qc,Int.toNat_natCast]
  refine Ev.bind0 (XL _) ?_
  rw[hp]
  exact Ev.pure _
 ·refine Ev.step (λk=>by rw[Z3.l2]) ?_
  simp(disch:=omega) only[Qc,Int.toNat_natCast]
  refine Ev.bind0 (XL _) ?_
  rw[hp]
  simp(disch:=omega) only[Bool.not_true,cond_false,wrap_in]
  exact ih
 ·refine Ev.step (λk=>by rw[Z3.l2]) ?_
  simp(disch:=omega) only[Qn]
  exact Ev.pure _
theorem Q4p (W:List ByteArray)(hl:W.length<=1048577)(hW:∀x∈W,x.size<=1048576):Ev (λk=>Z4.l0 k W ((0:Nat):Int)) (if(List.range' 0 W.length).all (λi=>pw (W.getD i ⟨#[]⟩))=true then .inr W else .inl false):=by
 refine Y7 (f:=λk j=>Z4.l0 k W j) (n:=W.length) (p:=λi=>pw (W.getD i ⟨#[]⟩)) (λj hj hp=>?_) (λj r hj hp ih=>?_) ?_ W.length 0 (by omega)
 ·rw[getD_at hj,<-QaJ]at hp
  refine Ev.step (λk=>by rw[Z4.l0]) ?_
  simp(disch:=omega) only[Qc,Int.toNat_natCast,getD_at hj]
  refine Ev.bind (Yk _) ?_
  cases hw:UN W[j]with
  |false=>exact Ev.pure _
  |true=>
   rw[hw,Bool.true_and]at hp
   have:=GG W j hj (hW _ (List.getElem_mem hj))
   rw[hp]at this
   exact Ev.bind this (Ev.pure _)
 ·rw[getD_at hj,<-QaJ,Bool.and_eq_true]at hp
  refine Ev.step (λk=>by rw[Z4.l0]) ?_
  simp(disch:=omega) only[Qc,Int.toNat_natCast,getD_at hj]
  refine Ev.bind (Yk _) ?_
  rw[hp.1]
  have:=GG W j hj (hW _ (List.getElem_mem hj))
  rw[hp.2]at this
  refine Ev.bind (a:=.inr (W,(j:Int))) this ?_
  simp(disch:=omega) only[wrap_in]
  exact ih
 ·refine Ev.step (λk=>by rw[Z4.l0]) ?_
  simp(disch:=omega) only[Qn]
  exact Ev.pure _
theorem Q7u (W:List ByteArray)(hl:W.length<=1048577)(hW:∀x∈W,x.size<=1048576):Ev (λk=>Z3.l0 k W W.length ((0:Nat):Int)) (if(List.range' 0 W.length).all (λi=>pw (W.getD i ⟨#[]⟩))=true then .inr W else .inl false):=by
 refine Y7 (f:=λk j=>Z3.l0 k W W.length j) (n:=W.length) (p:=λi=>pw (W.getD i ⟨#[]⟩)) (λj hj hp=>?_) (λj r hj hp ih=>?_) ?_ W.length 0 (by omega)
 ·rw[getD_at hj]at hp
  unfold pw at hp
  refine Ev.step (λk=>by rw[Z3.l0]) ?_
  simp(disch:=omega) only[Qc,Int.toNat_natCast,getD_at hj]
  refine Ev.bind0 (Jv _ _ _) ?_
  cases hw:ins W[j].size 1 12 with
  |false=>
   unfold ins at hw
   rw[hw]
   exact Ev.pure _
  |true=>
   rw[hw,Bool.true_and]at hp
   unfold ins at hw
   rw[hw]
   have:=Q2r W W[j] W.length j (hW _ (List.getElem_mem hj))
   rw[hp]at this
   exact Ev.bind this (Ev.pure _)
 ·rw[getD_at hj]at hp
  unfold pw at hp
  rw[Bool.and_eq_true]at hp
  obtain⟨hp1,hp2⟩:=hp
  unfold ins at hp1
  refine Ev.step (λk=>by rw[Z3.l0]) ?_
  simp(disch:=omega) only[Qc,Int.toNat_natCast,getD_at hj]
  refine Ev.bind0 (Jv _ _ _) ?_
  rw[hp1]
  have:=Q2r W W[j] W.length j (hW _ (List.getElem_mem hj))
  rw[hp2]at this
  refine Ev.bind (a:=.inr (W,(W.length:Int),(j:Int))) this ?_
  simp(disch:=omega) only[wrap_in]
  exact ih
 ·refine Ev.step (λk=>by rw[Z3.l0]) ?_
  simp(disch:=omega) only[Qn]
  exact Ev.pure _
theorem Q4q (s:ByteArray)(hs:s.size<=1048576):Ev (λk=>Z4.F k s) (Yl s):=by
 unfold Z4.F Yl
 rw[UO]
 cases decide (s.size=0)with
 |true=>exact Ev.pure _
 |false=>
  refine Ev.bind (Q3e s hs) ?_
  have:=Q4p (words s) (by have:=(Q2n s).2;omega) (λx hx=>by have:=XJ _ _ x hx;omega)
  rw[G8 (words s) ⟨#[]⟩ pw]at this
  rw[Bool.false_or]
  cases ha:(words s).all pw with
  |true=>
   rw[ha]at this
   refine Ev.bind this ((Ev.pure _).eq ?_)
   rw[Bool.true_and];exact decide_eq_decide.2 (by omega)
  |false=>rw[ha]at this;exact Ev.bind this (Ev.pure _)
theorem Q7v (s:ByteArray)(hs:s.size<=1048576):Ev (λk=>Z3.F k s) (Yl s):=by
 unfold Z3.F Yl
 rw[UO]
 cases decide (s.size=0)with
 |true=>exact Ev.pure _
 |false=>
  refine Ev.bind0 (Q99 s hs) ?_
  have:=Q7u (words s) (by have:=(Q2n s).2;omega) (λx hx=>by have:=XJ _ _ x hx;omega)
  rw[G8 (words s) ⟨#[]⟩ pw]at this
  rw[Bool.false_or]
  cases ha:(words s).all pw with
  |true=>
   rw[ha]at this
   refine Ev.bind this ((Ev.pure _).eq ?_)
   rw[Bool.true_and];exact decide_eq_decide.2 (by omega)
  |false=>rw[ha]at this;exact Ev.bind this (Ev.pure _)
def gw (s:ByteArray):Bool:=UN s&&upc (bt s 0)
theorem UP {s:ByteArray}(h:UN s=true):1<=s.size:=by
 unfold UN at h
 rw[Bool.and_eq_true]at h
 have:=(Gf h.1).1
 omega
theorem Q16 (s:ByteArray):Ev (λk=>Z81.F k s) (gw s):=by
 unfold Z81.F gw
 refine Ev.bind (Q2q s) (QZ λh=>?_)
 have:=UP h
 simp(disch:=omega) only[Qc,show(0:Int).toNat=0 from rfl]
 exact Ev.bind0 (Q9b _) (Ev.pure _)
def Q9e (s:ByteArray):Bool:=decide (s.size=0)||UN s
def nameB (n:Name):Bool:=n.given.all gw&&(decide (n.given.length<=3)&&(Yl n.particle&&(gw n.family&&Q9e n.suffix)))
theorem Q4r (n:Name)(hn:n.given.length<=1048576):Ev (λk=>Z32.l0 k n ((0:Nat):Int)) (if(List.range' 0 n.given.length).all (λi=>gw (n.given.getD i ⟨#[]⟩))=true then .inr n else .inl false):=by
 refine Y7 (f:=λk j=>Z32.l0 k n j) (n:=n.given.length) (p:=λi=>gw (n.given.getD i ⟨#[]⟩)) (λj hj hp=>?_) (λj r hj hp ih=>?_) ?_ n.given.length 0 (by omega)
 ·rw[getD_at hj]at hp
  unfold gw at hp
  refine Ev.step (λk=>by rw[Z32.l0]) ?_
  simp(disch:=omega) only[Qc,Int.toNat_natCast,getD_at hj]
  refine Ev.bind (Yk _) ?_
  cases hw:UN n.given[j]with
  |false=>exact Ev.pure _
  |true=>
   rw[hw,Bool.true_and]at hp
   have:=UP hw
   simp(disch:=omega) only[Qc,show(0:Int).toNat=0 from rfl,Bool.not_true,cond_false]
   refine Ev.bind0 (Q14 _) ?_
   rw[hp]
   exact Ev.pure _
 ·rw[getD_at hj]at hp
  unfold gw at hp
  rw[Bool.and_eq_true]at hp
  have:=UP hp.1
  refine Ev.step (λk=>by rw[Z32.l0]) ?_
  simp(disch:=omega) only[Qc,Int.toNat_natCast,getD_at hj]
  refine Ev.bind (Yk _) ?_
  rw[hp.1]
  simp(disch:=omega) only[Qc,show(0:Int).toNat=0 from rfl,Bool.not_true,cond_false]
  refine Ev.bind0 (Q14 _) ?_
  rw[hp.2]
  simp(disch:=omega) only[Bool.not_true,cond_false,wrap_in]
  exact ih
 ·refine Ev.step (λk=>by rw[Z32.l0]) ?_
  simp(disch:=omega) only[Qn]
  exact Ev.pure _
theorem GH (n:Name)(hs:QI n):Ev (λk=>Z32.F k n) (nameB n):=by
 have hg:n.given.length<=1048576:=by unfold QI Ky at hs;omega
 have hp:n.particle.size<=1048576:=by unfold QI Ky at hs;omega
 unfold Z32.F nameB
 have:=Q4r n hg
 rw[G8 n.given ⟨#[]⟩ gw]at this
 cases ha:n.given.all gw with
 |false=>rw[ha]at this;exact Ev.bind this (Ev.pure _)
 |true=>
  rw[ha]at this
  refine Ev.bind (a:=.inr n) this ?_
  dsimp only
  rw[Bool.true_and,show decide (n.given.length<=3)=decide ((n.given.length:Int)<=3)from decide_eq_decide.2 (by omega)]
  refine QZ λ_=>?_
  refine Ev.bind (Q4q _ hp) (QZ λ_=>?_)
  unfold gw
  rw[Bool.and_assoc]
  refine Ev.bind (Yk _) (QZ λh=>?_)
  have:=UP h
  simp(disch:=omega) only[Qc,show(0:Int).toNat=0 from rfl]
  refine Ev.bind0 (Q14 _) (QZ λ_=>?_)
  unfold Q9e
  rw[UO]
  cases decide (n.suffix.size=0)with
  |true=>exact Ev.pure _
  |false=>exact Ev.bind (Yk _) (Ev.pure _)
theorem Q7w (n:Name)(hs:QI n):Ev (λk=>Z108.F k n) (nameB n):=by
 have hg:n.given.length<=1048576:=by unfold QI Ky at hs;omega
 have hp:n.particle.size<=1048576:=by unfold QI Ky at hs;omega
 unfold Z108.F nameB
 by_cases c:n.given.length<=3
 ·simp(disch:=omega) only[Qn,Q5w,Bool.true_and]
  have hq:∀x,x∈n.given->Ev (λk=>Z91.F k x) (!gw x):=λx _=>by
   unfold Z91.F
   exact Ev.bind (Q16 x) (Ev.pure _)
  obtain⟨r,h1,h2⟩:=Ge (d:=(⟨#[]⟩:ByteArray)) (p:=λx=> !gw x) (q:=Z91.F) (xs:=n.given) (l0:=Z51.l0) (λk x0 x7 x8=>by rw[Z51.l0]) hq (by omega) (F:=Z51.F) (λk a0=>rfl)
  refine Ev.bind (a:=!n.given.all gw) ?_ ?_
  ·unfold Z131.F
   refine Ev.bind h1 ((Ev.pure _).eq ?_)
   rcases h2 with⟨rfl,h2⟩|⟨j,rfl,hj,hp,_⟩
   ·have:n.given.all gw=true:=List.all_eq_true.2 λx hx=>by have:=h2 x hx;simpa using this
    rw[this];rfl
   ·have:n.given.all gw=false:=by
     rw[List.all_eq_false]
     refine⟨n.given[j],List.getElem_mem hj,?_⟩
     rw[getD_at hj]at hp
     simpa using hp
    rw[this,decide_eq_true (by omega)];rfl
  ·cases n.given.all gw with
   |false=>exact Ev.pure _
   |true=>
    rw[Bool.true_and]
    refine Ev.bind (Q7v _ hp) (QZ λ_=>?_)
    refine Ev.bind (Q16 _) (QZ λ_=>?_)
    unfold Q9e
    rw[UO]
    cases decide (n.suffix.size=0)with
    |true=>exact Ev.pure _
    |false=>exact Ev.bind (Q2q _) (Ev.pure _)
 ·simp(disch:=omega) only[Qc,Q3b,Bool.false_and,Bool.and_false]
  exact Ev.pure _
def Yt (l:List Name):Bool:=l.all nameB&&decide (l.length<=4)
theorem GI (l:List Name)(hl:l.length<=1048576)(hs:∀n∈l,QI n):∀m i:Nat,i+m=l.length->∃r,Ev (λk=>Z28.l0 k l i) r/\(r= .inl false\/r= .inr l)/\(l.length<=4->r=if(l.drop i).all nameB=true then .inr l else .inl false)
 |0,i,h=>by
  refine⟨.inr l,Ev.step (λk=>by rw[Z28.l0]) ?_,.inr rfl,λ_=>by rw[List.drop_eq_nil_of_le (by omega)];rfl⟩
  simp(disch:=omega) only[Qn]
  exact Ev.pure _
 |m+1,i,h=>by
  have hi:i<l.length:=by omega
  by_cases c4:(i:Int)<=4
  ·cases hn:nameB l[i]with
   |false=>
    refine⟨.inl false,Ev.step (λk=>by rw[Z28.l0]) ?_,.inl rfl,λ_=>by rw[List.drop_eq_getElem_cons hi,List.all_cons,hn];rfl⟩
    simp(disch:=omega) only[Qc,Int.toNat_natCast,getD_at hi]
    refine Ev.bind (GH _ (hs _ (List.getElem_mem hi))) ?_
    rw[hn]
    exact Ev.pure _
   |true=>
    obtain⟨r,h1,h2,h3⟩:=GI l hl hs m (i+1) (by omega)
    refine⟨r,Ev.step (λk=>by rw[Z28.l0]) ?_,h2,λh4=>by rw[h3 h4,List.drop_eq_getElem_cons hi,List.all_cons,hn,Bool.true_and]⟩
    simp(disch:=omega) only[Qc,Int.toNat_natCast,getD_at hi]
    refine Ev.bind (GH _ (hs _ (List.getElem_mem hi))) ?_
    rw[hn]
    simp(disch:=omega) only[Bool.not_true,cond_false,wrap_in]
    exact h1
  ·refine⟨.inr l,Ev.step (λk=>by rw[Z28.l0]) ?_,.inr rfl,λh4=>by omega⟩
   simp(disch:=omega) only[Qc,Qn]
   exact Ev.pure _
theorem DC (l:List Name)(hl:JW l<=1048576):Ev (λk=>Z28.F k l) (Yt l):=by
 unfold Z28.F Yt
 obtain⟨r,h1,h2,h3⟩:=GI l (Jy hl) (λn hn=>Jn hl hn) l.length 0 (by omega)
 rw[List.drop_zero]at h3
 have e:decide (l.length<=4)=decide ((l.length:Int)<=4):=decide_eq_decide.2 (by omega)
 rw[e]
 by_cases c:l.length<=4
 ·rw[h3 c]at h1
  cases ha:l.all nameB with
  |true=>rw[ha]at h1;exact Ev.bind h1 (Ev.pure _)
  |false=>rw[ha]at h1;exact Ev.bind h1 (Ev.pure _)
 ·rw[decide_eq_false (show¬(l.length:Int)<=4 by omega),Bool.and_false]
  rcases h2 with rfl|rfl
  ·exact Ev.bind h1 (Ev.pure _)
  ·exact Ev.bind h1 ((Ev.pure _).eq (decide_eq_false (by omega)))
theorem GK (l:List Name)(hl:JW l<=1048576):Ev (λk=>Z93.F k l) (Yt l):=by
 have hlen:=Jy hl
 unfold Z93.F Yt
 by_cases c:l.length<=4
 ·simp(disch:=omega) only[Qc,Q5w,Bool.and_true]
  have hq:∀x,x∈l->Ev (λk=>Z92.F k x) (!nameB x):=λx hx=>by
   unfold Z92.F
   exact Ev.bind (Q7w x (Jn hl hx)) (Ev.pure _)
  obtain⟨r,h1,h2⟩:=Ge (d:=(Q5 .name:Name)) (p:=λx=> !nameB x) (q:=Z92.F) (xs:=l) (l0:=Z52.l0) (λk x0 x7 x8=>by rw[Z52.l0]) hq (by omega) (F:=Z52.F) (λk a0=>rfl)
  refine Ev.bind (a:=!l.all nameB) ?_ ?_
  ·unfold Z132.F
   refine Ev.bind h1 ((Ev.pure _).eq ?_)
   rcases h2 with⟨rfl,h2⟩|⟨j,rfl,hj,hp,_⟩
   ·have:l.all nameB=true:=List.all_eq_true.2 λx hx=>by have:=h2 x hx;simpa using this
    rw[this];rfl
   ·have:l.all nameB=false:=by
     rw[List.all_eq_false]
     refine⟨l[j],List.getElem_mem hj,?_⟩
     rw[getD_at hj]at hp
     simpa using hp
    rw[this,decide_eq_true (by omega)];rfl
  ·rw[Bool.not_not];exact Ev.pure _
 ·simp(disch:=omega) only[Qn,Q3b,Bool.and_false]
  exact Ev.pure _
theorem Q6l (y m:Int)(hy:0<=y):∃r,Z112.F y m=some r/\Z76.F y m=some r:=by
 have e1:Int.tmod y 4=y % 4:=Int.tmod_eq_emod_of_nonneg hy
 have e2:Int.tmod y 100=y % 100:=Int.tmod_eq_emod_of_nonneg hy
 have e3:Int.tmod y 400=y % 400:=Int.tmod_eq_emod_of_nonneg hy
 have z1:((4:Nat)==0)=false:=rfl
 have z2:((100:Nat)==0)=false:=rfl
 have z3:((400:Nat)==0)=false:=rfl
 unfold Z112.F Z76.F
 rw[e1,e2,e3]
 by_cases c2:m=2
 ·by_cases d1:y % 4=0
  ·by_cases d2:y % 100=0
   ·by_cases d3:y % 400=0
    ·exact⟨29,by simp(disch:=first|assumption|omega) only[ceq,UK,z1,z2,z3,cond_false],by simp(disch:=first|assumption|omega) only[ceq,UK,z1,z2,z3,cond_false]⟩
    ·exact⟨28,by simp(disch:=first|assumption|omega) only[ceq,cne,UK,z1,z2,z3,cond_false],by simp(disch:=first|assumption|omega) only[ceq,cne,UK,z1,z2,z3,cond_false]⟩
   ·exact⟨29,by simp(disch:=first|assumption|omega) only[ceq,Xp,z1,z2,z3,cond_false],by simp(disch:=first|assumption|omega) only[ceq,Xp,z1,z2,z3,cond_false]⟩
  ·have d3:y % 400≠0:=by omega
   exact⟨28,by simp(disch:=first|assumption|omega) only[ceq,cne,z1,z2,z3,cond_false],by simp(disch:=first|assumption|omega) only[ceq,cne,z1,z2,z3,cond_false]⟩
 ·by_cases a:m=4
  ·exact⟨30,by simp(disch:=first|assumption|omega) only[ceq,cne],by simp(disch:=first|assumption|omega) only[ceq,cne]⟩
  ·by_cases b:m=6
   ·exact⟨30,by simp(disch:=first|assumption|omega) only[ceq,cne],by simp(disch:=first|assumption|omega) only[ceq,cne]⟩
   ·by_cases c:m=9
    ·exact⟨30,by simp(disch:=first|assumption|omega) only[ceq,cne],by simp(disch:=first|assumption|omega) only[ceq,cne]⟩
    ·by_cases d:m=11
     ·exact⟨30,by simp(disch:=first|assumption|omega) only[ceq,cne],by simp(disch:=first|assumption|omega) only[ceq,cne]⟩
     ·exact⟨31,by simp(disch:=first|assumption|omega) only[cne],by simp(disch:=first|assumption|omega) only[cne]⟩
theorem Q17 (d:Date):∃b,Z95.F d=some b/\Z85.F d=some b:=by
 unfold Z95.F Z85.F
 cases (d.y==0&&(d.m==0&&(d.d==0&&d.c==false)))with
 |true=>exact⟨true,rfl,rfl⟩
 |false=>
  rw[Q13,Jv]
  simp only[Option.bind_some,cond_false]
  cases h1:(decide (d.y ≥ 1)&&decide (d.y<=2999))with
  |false=>exact⟨false,rfl,rfl⟩
  |true=>
   have hy:0<=d.y:=by
    simp only[Bool.and_eq_true,decide_eq_true_eq]at h1;omega
   rw[Q13,Jv]
   simp only[Option.bind_some,Bool.not_true,cond_false]
   cases h2:(decide (d.m ≥ 0)&&decide (d.m<=12))with
   |false=>exact⟨false,rfl,rfl⟩
   |true=>
    obtain⟨r,r1,r2⟩:=Q6l d.y d.m hy
    rw[r1,r2]
    simp only[Option.bind_some,Bool.not_true,cond_false,Q13,Jv]
    cases d.c with
    |true=>
     by_cases c:d.m=0
     ·exact⟨d.d==0,by simp(disch:=first|assumption|omega) only[cond_true,ceq],by simp(disch:=first|assumption|omega) only[cond_true,ceq,UK]⟩
     ·exact⟨false,by simp(disch:=first|assumption|omega) only[cond_true,cne],by simp(disch:=first|assumption|omega) only[cond_true,Xp]⟩
    |false=>exact⟨bif d.m==0 then(d.d==0)else(decide (d.d ≥ 0)&&decide (d.d<=r)),by cases (d.m==0)<;>rfl,by cases (d.m==0)<;>rfl⟩
open Classical in
noncomputable def KF (d:Date):Bool:=(Q17 d).choose
theorem Q4s (d:Date):Z95.F d=some (KF d):=(Q17 d).choose_spec.1
theorem Q2s (d:Date):Z85.F d=some (KF d):=(Q17 d).choose_spec.2
def Q5D (n lo hi:Int):Bool:=decide (n ≥ lo)&&decide (n<=hi)
def Q3g (e:Entry):Bool:=decide (e.cross.size=0)||(Q5B e.cross&& !Qo e.cross e.key)
noncomputable def YM (e:Entry):Bool:=Q5B e.key&&(Q5D e.kind 1 4&&(Yt e.authors&&(Yt e.editors&&(Xo e.title&&(Xo e.container&&(Xo e.publisher&&(Xo e.pages&&(KF e.date&&(Q5D e.volume 0 9999&&Q3g e)))))))))
theorem DD (e:Entry)(hs:JX e):Ev (λk=>Z113.F k e) (YM e):=by
 unfold Z113.F YM
 refine Ev.bind (Q15 _) (QE λ_=>?_)
 refine Ev.bind0 (Q13 _ _ _) (QE λ_=>?_)
 refine Ev.bind (DC _ (UM hs)) (QE λ_=>?_)
 refine Ev.bind (DC _ (Q12 hs)) (QE λ_=>?_)
 refine Ev.bind (Ug _) (QE λ_=>?_)
 refine Ev.bind (Ug _) (QE λ_=>?_)
 refine Ev.bind (Ug _) (QE λ_=>?_)
 refine Ev.bind (Ug _) (QE λ_=>?_)
 refine Ev.bind0 (Q4s _) (QZ λ_=>?_)
 refine Ev.bind0 (Q13 _ _ _) (QZ λ_=>?_)
 unfold Q3g
 rw[UO]
 cases decide (e.cross.size=0)with
 |true=>exact Ev.pure _
 |false=>
  refine(Ev.bind (Q15 _) (QZ λ_=>?_)).eq (Bool.false_or _).symm
  exact Ev.pure _
theorem Q18 (e:Entry)(hs:JX e):Ev (λk=>Z94.F k e) (YM e):=by
 have key:Ev (λk=>Z94.F k e) (Q5B e.key&&(Q5D e.kind 1 4&&(Yt e.authors&&(Yt e.editors&&(KF e.date&&(Q5D e.volume 0 9999&&(Xo e.title&&(Xo e.container&&(Xo e.publisher&&(Xo e.pages&&Q3g e)))))))))):=by
  unfold Z94.F
  refine Ev.bind (Q4o _) (QE λ_=>?_)
  refine Ev.bind0 (a:=Q5D e.kind 1 4) ?_ (QE λ_=>?_)
  ·unfold Z130.F;rw[Jv];rfl
  refine Ev.bind (GK _ (UM hs)) (QE λ_=>?_)
  refine Ev.bind (GK _ (Q12 hs)) (QE λ_=>?_)
  refine Ev.bind0 (Q2s _) (QE λ_=>?_)
  refine Ev.bind0 (Jv _ _ _) (QE λ_=>?_)
  refine Ev.bind (Kt _) (QZ λ_=>?_)
  refine Ev.bind (Kt _) (QZ λ_=>?_)
  refine Ev.bind (Kt _) (QZ λ_=>?_)
  refine Ev.bind (Kt _) (QZ λ_=>?_)
  unfold Q3g
  rw[UO]
  cases decide (e.cross.size=0)with
  |true=>exact Ev.pure _
  |false=>
   refine(Ev.bind (Q4o _) (QZ λ_=>?_)).eq (Bool.false_or _).symm
   exact Ev.pure _
 refine key.eq ?_
 unfold YM
 ac_rfl
noncomputable def okL (l:Library)(i:Nat):Bool:=YM (l.entries.getD i (Q5 .entry))&&(decide (i=0)||ltS (l.entries.getD (i-1) (Q5 .entry)).key (l.entries.getD i (Q5 .entry)).key)
noncomputable def DF (l:Library):Bool:=(List.range' 0 l.entries.length).all (okL l)&&decide (l.entries.length<=8)
theorem Q3h (l:Library)(hs:JY l):Ev (λk=>Z30.l0 k l ((0:Nat):Int)) (if(List.range' 0 l.entries.length).all (okL l)=true then .inr ()else .inl false):=by
 have hlen:=KW hs
 refine Y7 (f:=λk i=>Z30.l0 k l i) (n:=l.entries.length) (λi hi hp=>?_) (λi r hi hp ih=>?_) ?_ l.entries.length 0 (by omega)
 ·unfold okL at hp
  refine Ev.step (λk=>by rw[Z30.l0]) ?_
  have hsm:JX (l.entries.getD i (Q5 .entry)):=by rw[getD_at hi];exact YW hs (List.getElem_mem hi)
  simp(disch:=omega) only[Qc,Int.toNat_natCast]
  refine Ev.bind (DD _ hsm) ?_
  cases he:YM (l.entries.getD i (Q5 .entry))with
  |false=>exact Ev.pure _
  |true=>
   rw[he,Bool.true_and,Bool.or_eq_false_iff,decide_eq_false_iff_not]at hp
   have et:((i:Int)-1).toNat=i-1:=by omega
   simp(disch:=omega) only[Bool.not_true,cond_false,Qc,wrap_in,et,hp.2,Bool.not_false,cond_true]
   exact Ev.pure _
 ·unfold okL at hp
  rw[Bool.and_eq_true]at hp
  refine Ev.step (λk=>by rw[Z30.l0]) ?_
  have hsm:JX (l.entries.getD i (Q5 .entry)):=by rw[getD_at hi];exact YW hs (List.getElem_mem hi)
  simp(disch:=omega) only[Qc,Int.toNat_natCast]
  refine Ev.bind (DD _ hsm) ?_
  rw[hp.1]
  by_cases c:i=0
  ·simp(disch:=omega) only[Bool.not_true,cond_false,Qn,wrap_in]
   exact ih
  ·have et:((i:Int)-1).toNat=i-1:=by omega
   have h2:=hp.2
   rw[decide_eq_false c,Bool.false_or]at h2
   simp(disch:=omega) only[Bool.not_true,cond_false,Qc,wrap_in,et,h2]
   exact ih
 ·refine Ev.step (λk=>by rw[Z30.l0]) ?_
  simp(disch:=omega) only[Qn]
  exact Ev.pure _
theorem Q9f (l:Library)(hs:JY l):Ev (λk=>Z19.l0 k l l.entries l.entries.length ((0:Nat):Int)) (if(List.range' 0 l.entries.length).all (okL l)=true then .inr l else .inl false):=by
 have hlen:=KW hs
 refine Y7 (f:=λk i=>Z19.l0 k l l.entries l.entries.length i) (n:=l.entries.length) (λi hi hp=>?_) (λi r hi hp ih=>?_) ?_ l.entries.length 0 (by omega)
 ·unfold okL at hp
  refine Ev.step (λk=>by rw[Z19.l0]) ?_
  have hsm:JX (l.entries.getD i (Q5 .entry)):=by rw[getD_at hi];exact YW hs (List.getElem_mem hi)
  simp(disch:=omega) only[Qc,Int.toNat_natCast]
  refine Ev.bind (Q18 _ hsm) ?_
  cases he:YM (l.entries.getD i (Q5 .entry))with
  |false=>exact Ev.pure _
  |true=>
   rw[he,Bool.true_and,Bool.or_eq_false_iff,decide_eq_false_iff_not]at hp
   have et:((i:Int)-1).toNat=i-1:=by omega
   simp(disch:=omega) only[Bool.not_true,cond_false,Qc,wrap_in,et,hp.2,Bool.not_false,cond_true]
   exact Ev.pure _
 ·unfold okL at hp
  rw[Bool.and_eq_true]at hp
  refine Ev.step (λk=>by rw[Z19.l0]) ?_
  have hsm:JX (l.entries.getD i (Q5 .entry)):=by rw[getD_at hi];exact YW hs (List.getElem_mem hi)
  simp(disch:=omega) only[Qc,Int.toNat_natCast]
  refine Ev.bind (Q18 _ hsm) ?_
  rw[hp.1]
  by_cases c:i=0
  ·simp(disch:=omega) only[Bool.not_true,cond_false,Qn,wrap_in]
   exact ih
  ·have et:((i:Int)-1).toNat=i-1:=by omega
   have h2:=hp.2
   rw[decide_eq_false c,Bool.false_or]at h2
   simp(disch:=omega) only[Bool.not_true,cond_false,Qc,wrap_in,et,h2]
   exact ih
 ·refine Ev.step (λk=>by rw[Z19.l0]) ?_
  simp(disch:=omega) only[Qn]
  exact Ev.pure _
theorem Q5E (l:Library)(hs:JY l):Ev (λk=>Z30.F k l) (DF l):=by
 unfold Z30.F DF
 by_cases c:l.entries.length<=8
 ·simp(disch:=omega) only[Qn,Q5w,Bool.and_true]
  have:=Q3h l hs
  cases ha:(List.range' 0 l.entries.length).all (okL l)with
  |true=>rw[ha]at this;exact Ev.bind this (Ev.pure _)
  |false=>rw[ha]at this;exact Ev.bind this (Ev.pure _)
 ·simp(disch:=omega) only[Qc,Q3b,Bool.and_false]
  exact Ev.pure _
theorem Q4t (l:Library)(hs:JY l):Ev (λk=>Z19.F k l) (DF l):=by
 unfold Z19.F DF
 have:=Q9f l hs
 cases ha:(List.range' 0 l.entries.length).all (okL l)with
 |true=>
  rw[ha]at this
  refine Ev.bind this ((Ev.pure _).eq ?_)
  rw[Bool.true_and];exact decide_eq_decide.2 (by omega)
 |false=>rw[ha]at this;exact Ev.bind this (Ev.pure _)
theorem Q9g {l:Library}(h:DF l=true):l.entries.length<=8:=by
 unfold DF at h
 rw[Bool.and_eq_true,decide_eq_true_eq]at h
 exact h.2
end Go.Proofs.YtpmlmdfbhmgikaaGreatDoor
end
section
/- The fields of an entry as texts: both ways to write them answer alike. -/
namespace Go.Proofs.YtpmlmdfbhmgikaaGreatDoor
open Go.Gx
def Jo (x:ByteArray):Bool:=!Qo x ⟨#[]⟩
theorem Q3i {x:ByteArray}(h:Jo x=false):x=⟨#[]⟩:=by
 unfold Jo at h
 exact JH.1 (by simpa using h)
theorem Q9h {x:ByteArray}(h:1<=x.size):Jo x=true:=by
 unfold Jo;rw[Dy];exact decide_eq_true h
def Y9 (sep:List UInt8)(xs:List ByteArray):ByteArray:=⟨(Lib.join (xs.map L) sep).toArray⟩
theorem Q3j (sep:List UInt8)(xs:List ByteArray):L (Y9 sep xs)=Lib.join (xs.map L) sep:=by unfold Y9;exact Qaf _
theorem Q4u (sep:List UInt8):∀xs:List ByteArray,(Lib.joinTail sep (xs.map L)).length=Yu xs+sep.length*xs.length
 |[]=>by simp[Lib.joinTail,Yu]
 |x::r=>by
  have:=Q4u sep r
  simp only[Lib.joinTail,Yu,List.map_cons,List.flatten_cons,List.length_append,List.sum_cons,List.length_cons,Ys]at this ⊢
  rw[this,Nat.mul_succ];omega
theorem Xh (sep:List UInt8)(xs:List ByteArray):(Y9 sep xs).size<=Yu xs+sep.length*xs.length:=by
 rw[<-Ys,Q3j]
 cases xs with
 |nil=>simp[Lib.join_nil]
 |cons x r=>
  rw[List.map_cons,Lib.join_cons,List.length_append,Q4u,Ys]
  simp only[Yu,List.map_cons,List.sum_cons,List.length_cons,Nat.mul_succ]
  omega
theorem Q19 (sep:ByteArray)(xs:List ByteArray)(h1:xs.length<=4194304)(h2:Yu xs<=8388608)(h3:sep.size<=2):Q4l xs sep=some (Y9 (L sep) xs):=by
 unfold Q4l
 have hl:(Lib.join (xs.map (·.data.toList)) sep.data.toList).length<=140737488355328:=by
  have:=Xh (L sep) xs
  rw[<-Ys,Q3j,Ys]at this
  have h4:sep.size*xs.length<=2*xs.length:=Nat.mul_le_mul_right _ h3
  exact Nat.le_trans this (by omega)
 rw[Nat.ble_eq_true_of_le (by omega:xs.length<=140737488355328),Nat.ble_eq_true_of_le hl]
 rfl
def jn:ByteArray->List ByteArray->ByteArray
 |s,[]=>s
 |s,x::r=>jn (bif Jo s then(bif Jo x then(s++⟨#[32]⟩)++x else s++x)else s++x) r
theorem Q4v {s t:ByteArray}(h:Jo s=true):Jo (s++t)=true:=by
 unfold Jo at h ⊢
 rw[Dy]at h ⊢
 have:=of_decide_eq_true h
 rw[Y8]
 exact decide_eq_true (by omega)
theorem Q7x (s:ByteArray):s++(⟨#[]⟩:ByteArray)=s:=by apply Xn;rw[UL];simp[L]
theorem Q7y (s:ByteArray):(⟨#[]⟩:ByteArray)++s=s:=by apply Xn;rw[UL];simp[L]
theorem Q9i:∀(r:List ByteArray) (s:ByteArray),(Jo s=true->L (jn s r)=L s++Lib.joinTail [32] ((r.filter Jo).map L))/\(Jo s=false->L (jn s r)=Lib.join ((r.filter Jo).map L) [32])
 |[],s=>⟨λ_=>by simp[jn,Lib.joinTail],λh=>by rw[Q3i h];rfl⟩
 |x::r,s=>by
  refine⟨λh=>?_,λh=>?_⟩
  ·simp only[jn,h,cond_true]
   cases hx:Jo x with
   |true=>
    simp only[cond_true]
    rw[(Q9i r _).1 (Q4v (Q4v h)),List.filter_cons_of_pos hx,List.map_cons,Q7r,UL,UL,L32]
    simp
   |false=>
    rw[List.filter_cons_of_neg (by simp[hx]),Q3i hx]
    simp only[cond_false,Q7x]
    exact(Q9i r _).1 h
  ·simp only[jn,h,cond_false]
   rw[Q3i h,Q7y]
   cases hx:Jo x with
   |true=>rw[(Q9i r x).1 hx,List.filter_cons_of_pos hx,List.map_cons,Lib.join_cons]
   |false=>
    rw[List.filter_cons_of_neg (by simp[hx])]
    exact(Q9i r x).2 hx
theorem Q7z {xs:List ByteArray}{i:Nat}(hi:i<xs.length):Yu (xs.drop i)=xs[i].size+Yu (xs.drop (i+1)):=by
 rw[List.drop_eq_getElem_cons hi];simp only[Yu,List.map_cons,List.sum_cons]
theorem Q2t (xs:List ByteArray)(hlen:xs.length<=4194304):∀n i:Nat,i+n=xs.length->∀s:ByteArray,s.size+n+Yu (xs.drop i)<=1099511627776->Ev (λk=>Z20.l0 k xs s i) (jn s (xs.drop i))
 |0,i,h,s,hs=>by
  rw[List.drop_eq_nil_of_le (by omega)]
  refine Ev.step (λk=>by rw[Z20.l0]) ?_
  simp(disch:=omega) only[Qn]
  exact Ev.pure _
 |n+1,i,h,s,hs=>by
  have hi:i<xs.length:=by omega
  rw[Q7z hi]at hs
  rw[List.drop_eq_getElem_cons hi]
  simp only[jn]
  refine Ev.step (λk=>by rw[Z20.l0]) ?_
  have ih:=λs hs=>Q2t xs hlen n (i+1) (by omega) s hs
  have e1:(⟨#[32]⟩:ByteArray).size=1:=rfl
  have hb1:(!Qo s ⟨#[]⟩)=Jo s:=rfl
  have hb2:(!Qo xs[i] ⟨#[]⟩)=Jo xs[i]:=rfl
  simp(disch:=omega) only[Qc,Int.toNat_natCast,getD_at hi,hb1,hb2,wrap_in,Q3a,Y8,e1]
  cases Jo s with
  |false=>exact ih _ (by rw[Y8];omega)
  |true=>
   cases Jo xs[i]with
   |false=>exact ih _ (by rw[Y8];omega)
   |true=>exact ih _ (by rw[Y8,Y8,e1];omega)
theorem Ku (xs:List ByteArray)(hlen:xs.length<=4194304)(ht:Yu xs<=8388608):Ev (λk=>Z20.F k xs) (Y9 [32] (xs.filter Jo)):=by
 unfold Z20.F
 have:=Q2t xs hlen xs.length 0 (by omega) ⟨#[]⟩ (by rw[List.drop_zero,show(⟨#[]⟩:ByteArray).size=0 from rfl];omega)
 refine Ev.bind this ((Ev.pure _).eq ?_)
 apply Xn
 rw[List.drop_zero,(Q9i xs ⟨#[]⟩).2 (by unfold Jo;rw[Yj];rfl),Q3j]
theorem Uh (p:ByteArray->Bool):∀xs:List ByteArray,Yu (xs.filter p)<=Yu xs
 |[]=>Nat.le_refl _
 |x::r=>by
  have:=Uh p r
  cases h:p x with
  |true=>rw[List.filter_cons_of_pos h];simp only[Yu,List.map_cons,List.sum_cons]at this ⊢;omega
  |false=>rw[List.filter_cons_of_neg (by simp[h])];simp only[Yu,List.map_cons,List.sum_cons]at this ⊢;omega
theorem Q2u (xs:List ByteArray)(hlen:xs.length<=4194304)(ht:Yu xs<=8388608):Ev (λk=>Z84.F k xs) (Y9 [32] (xs.filter Jo)):=by
 unfold Z84.F
 have hq:∀x,x∈xs->Ev (λ_=>Z77.F x) (Qo x ⟨#[]⟩):=λx _=>Ev.pure _
 have hdel:=Q2o (d:=(⟨#[]⟩:ByteArray)) (p:=λx=>Qo x ⟨#[]⟩) (q:=λ_ x=>Z77.F x) (xs:=xs) (l0:=Z58.l0) (λk x0 x5 x6=>by rw[Z58.l0]) hq (by omega) (I:=Z56.F) (F:=Z58.F)
  (Ge (d:=(⟨#[]⟩:ByteArray)) (p:=λx=>Qo x ⟨#[]⟩) (q:=λ_ x=>Z77.F x) (l0:=Z56.l0) (λk x0 x7 x8=>by rw[Z56.l0]) hq (by omega) (λk a0=>rfl)) (λk a0=>rfl)
 refine Ev.bind hdel (Ev.bind0 ?_ (Ev.pure _))
 have hf:(xs.filter Jo).length<=xs.length:=List.length_filter_le _ _
 exact Q19 ⟨#[32]⟩ (xs.filter Jo) (by omega) (by have:=Uh Jo xs;omega) (by decide)
def cs2:ByteArray:=⟨#[44,32]⟩
def Q7A (n:Name):ByteArray:=
 let r1:=Y9 [32] ([n.particle,n.family].filter Jo)
 let r2:=bif decide ((n.given.length:Int) > 0)||Jo n.suffix then(r1++cs2)++Y9 [32] n.given else r1
 bif Jo n.suffix then(r2++cs2)++n.suffix else r2
theorem Q2v {n:Name}(h:nameB n=true):n.given.filter Jo=n.given:=by
 unfold nameB at h
 simp only[Bool.and_eq_true]at h
 refine List.filter_eq_self.2 λx hx=>?_
 have:=List.all_eq_true.1 h.1 x hx
 unfold gw at this
 simp only[Bool.and_eq_true]at this
 exact Q9h (UP this.1)
theorem Ji {n:Name}(hs:QI n):n.given.length+Yu n.given+n.particle.size+n.family.size+n.suffix.size<=1048576:=hs
theorem Qb9 (a b:ByteArray):Yu [a,b]=a.size+b.size:=by simp[Yu]
theorem Q6m (n:Name):(Y9 [32] ([n.particle,n.family].filter Jo)).size<=n.particle.size+n.family.size+2:=by
 have h1:=Xh [32] ([n.particle,n.family].filter Jo)
 have h2:=Uh Jo [n.particle,n.family]
 have h3:([n.particle,n.family].filter Jo).length<=2:=List.length_filter_le _ _
 rw[Qb9]at h2
 simp only[List.length_singleton,Nat.one_mul]at h1
 omega
theorem Q3k (n:Name):(Y9 [32] n.given).size<=Yu n.given+n.given.length:=by
 have h1:=Xh [32] n.given
 simpa using h1
theorem Q2w (a b c:ByteArray):(a++b)++c=a++(b++c):=by apply Xn;simp only[UL,List.append_assoc]
theorem Q1a (n:Name)(hs:QI n)(hv:nameB n=true):Ev (λk=>Z103.F k n) (Q7A n):=by
 have h3:=Ji hs
 have h1:=Q6m n
 have h2:=Q3k n
 have hj:=Ku [n.particle,n.family] (by simp) (by rw[Qb9];omega)
 have hg:=Ku n.given (by omega) (by omega)
 rw[Q2v hv]at hg
 have hg':Ev (λk=>Z74.F k n) (Y9 [32] n.given):=by unfold Z74.F;exact Ev.bind hg (Ev.pure _)
 unfold Z103.F Q7A
 refine Ev.bind hj ?_
 have e2:(⟨#[44,32]⟩:ByteArray).size=2:=rfl
 have hb:(!Qo n.suffix ⟨#[]⟩)=Jo n.suffix:=rfl
 simp(disch:=omega) only[hb,Y8,e2,Q3a]
 cases hx:decide ((n.given.length:Int) > 0)with
 |true=>
  simp only[cond_true,Bool.true_or]
  refine Ev.bind hg' ?_
  simp(disch:=omega) only[Y8,e2,Q3a]
  cases Jo n.suffix<;>exact Ev.pure _
 |false=>
  cases Jo n.suffix with
  |false=>exact Ev.pure _
  |true=>
   simp only[cond_true,cond_false,Bool.or_true]
   refine Ev.bind hg' ?_
   simp(disch:=omega) only[Y8,e2,Q3a]
   exact Ev.pure _
theorem Q1b (n:Name)(hs:QI n):Ev (λk=>Z99.F k n) (Q7A n):=by
 have h3:=Ji hs
 have h1:=Q6m n
 have h2:=Q3k n
 have hj:=Q2u [n.particle,n.family] (by simp) (by rw[Qb9];omega)
 have hg:Z137.F n.given ⟨#[32]⟩=some (Y9 [32] n.given):=Q19 ⟨#[32]⟩ n.given (by omega) (by omega) (by decide)
 unfold Z99.F Q7A
 refine Ev.bind hj ?_
 have e2:(⟨#[44,32]⟩:ByteArray).size=2:=rfl
 have hb:(!Qo n.suffix ⟨#[]⟩)=Jo n.suffix:=rfl
 simp(disch:=omega) only[hb,hg,Option.bind_some,Y8,e2,Q3a,Q2w]
 cases decide ((n.given.length:Int) > 0)<;>cases Jo n.suffix<;>simp only[cond_true,cond_false,Bool.or_true,Bool.or_false,Bool.true_or,Bool.false_or,Q2w]<;>exact Ev.pure _
theorem Q9j {e:Entry}(h:YM e=true):Yt e.authors=true/\Yt e.editors=true/\KF e.date=true/\0<=e.volume/\e.volume<=9999:=by
 unfold YM Q5D at h
 simp only[Bool.and_eq_true,decide_eq_true_eq]at h
 exact⟨h.2.2.1,h.2.2.2.1,h.2.2.2.2.2.2.2.2.1,h.2.2.2.2.2.2.2.2.2.1.1,h.2.2.2.2.2.2.2.2.2.1.2⟩
theorem Q4w {l:List Name}(h:Yt l=true):l.length<=4/\∀n∈l,nameB n=true:=by
 unfold Yt at h
 simp only[Bool.and_eq_true,decide_eq_true_eq]at h
 exact⟨h.2,λn hn=>List.all_eq_true.1 h.1 n hn⟩
def okF (e:Entry):Prop:=Yt e.authors=true/\Yt e.editors=true/\KF e.date=true/\0<=e.volume/\e.volume<=9999/\JW e.authors<=1048576/\JW e.editors<=1048576
theorem Qba {e:Entry}(hs:JX e)(hv:YM e=true):okF e:=by
 obtain⟨ha,he,hd,v0,v1⟩:=Q9j hv
 exact⟨ha,he,hd,v0,v1,UM hs,Q12 hs⟩
end Go.Proofs.YtpmlmdfbhmgikaaGreatDoor
end
section
/- Plain laws: an entry found by its key;its parent. -/
namespace Go.Proofs.YtpmlmdfbhmgikaaGreatDoor
open Go.Gx
theorem Q9k (l:Library)(key:ByteArray)(hl:l.entries.length<=1048576):∀n i:Nat,i+n=l.entries.length->
  ∃r:Sum Int Unit,Ev (λk=>Z1.l0 k key l i) r/\Ev (λk=>Z39.l0 k l.entries key l.entries.length i) r/\∀z,r= .inl z->0<=z/\z<l.entries.length
 |0,i,h=>by
  refine⟨.inr (),Ev.step (λk=>by rw[Z1.l0]) ?_,Ev.step (λk=>by rw[Z39.l0]) ?_,λz hz=>by cases hz⟩
  ·simp(disch:=omega) only[Qn];exact Ev.pure _
  ·simp(disch:=omega) only[Qn];exact Ev.pure _
 |n+1,i,h=>by
  have hi:i<l.entries.length:=by omega
  have e1:Z129.F l.entries[i] key=some (Qo l.entries[i].key key):=rfl
  cases hb:Qo l.entries[i].key key with
  |true=>
   refine⟨.inl i,Ev.step (λk=>by rw[Z1.l0]) ?_,Ev.step (λk=>by rw[Z39.l0]) ?_,λz hz=>by cases hz;omega⟩
   ·simp(disch:=omega) only[Qc,Int.toNat_natCast,getD_at hi,hb,cond_true]
    exact Ev.pure _
   ·simp(disch:=omega) only[Qc,Int.toNat_natCast,getD_at hi]
    refine Ev.bind0 e1 ?_
    rw[hb]
    exact Ev.pure _
  |false=>
   obtain⟨r,r1,r2,r3⟩:=Q9k l key hl n (i+1) (by omega)
   refine⟨r,Ev.step (λk=>by rw[Z1.l0]) ?_,Ev.step (λk=>by rw[Z39.l0]) ?_,r3⟩
   ·simp(disch:=omega) only[Qc,Int.toNat_natCast,getD_at hi,hb,cond_false,wrap_in]
    exact r1
   ·simp(disch:=omega) only[Qc,Int.toNat_natCast,getD_at hi]
    refine Ev.bind0 e1 ?_
    rw[hb]
    simp(disch:=omega) only[cond_false,wrap_in]
    exact r2
theorem Qaj (l:Library)(key:ByteArray)(hl:l.entries.length<=1048576):∃r:Int,Ev (λk=>Z1.F k l key) r/\Ev (λk=>Z60.F k l key) r/\ -1<=r/\r<l.entries.length:=by
 obtain⟨r,r1,r2,r3⟩:=Q9k l key hl l.entries.length 0 (by omega)
 unfold Z1.F Z60.F Z39.F
 cases r with
 |inl z=>exact⟨z,Ev.bind r1 (Ev.pure _),Ev.bind (Ev.bind r2 (Ev.pure _)) (Ev.pure _),by have:=r3 z rfl;omega,(r3 z rfl).2⟩
 |inr u=>exact⟨-1,Ev.bind r1 (Ev.pure _),Ev.bind (Ev.bind r2 (Ev.pure _)) (Ev.pure _),by omega,by omega⟩
end Go.Proofs.YtpmlmdfbhmgikaaGreatDoor
end
section
/- Plain laws: the chain of an entry,keys,entries found by their keys. -/
namespace Go.Proofs.YtpmlmdfbhmgikaaGreatDoor
open Go.Gx
def kAt (l:Library)(x:Int):ByteArray:=(l.entries.getD x.toNat (Q5 .entry)).key
theorem Q6n (l:Library)(key:ByteArray)(hl:l.entries.length<=1048576):∀n i:Nat,i+n=l.entries.length->
  ∃r:Sum Int Unit,Ev (λk=>Z1.l0 k key l i) r/\(∀z,r= .inl z->∃j:Nat,z=j/\i<=j/\j<l.entries.length/\(l.entries.getD j (Q5 .entry)).key=key)/\(∀u,r= .inr u->∀j,i<=j->j<l.entries.length->(l.entries.getD j (Q5 .entry)).key≠key)
 |0,i,h=>by
  refine⟨.inr (),Ev.step (λk=>by rw[Z1.l0]) ?_,(λz hz=>by cases hz),λu _ j h1 h2=>by omega⟩
  simp(disch:=omega) only[Qn];exact Ev.pure _
 |n+1,i,h=>by
  have hi:i<l.entries.length:=by omega
  cases hb:Qo l.entries[i].key key with
  |true=>
   refine⟨.inl i,Ev.step (λk=>by rw[Z1.l0]) ?_,λz hz=>?_,(λu hu=>by cases hu)⟩
   ·simp(disch:=omega) only[Qc,Int.toNat_natCast,getD_at hi,hb,cond_true]
    exact Ev.pure _
   ·cases hz
    exact⟨i,rfl,Nat.le_refl _,hi,by rw[getD_at hi];exact JH.1 hb⟩
  |false=>
   obtain⟨r,r1,r2,r3⟩:=Q6n l key hl n (i+1) (by omega)
   refine⟨r,Ev.step (λk=>by rw[Z1.l0]) ?_,λz hz=>?_,λu hu j h1 h2=>?_⟩
   ·simp(disch:=omega) only[Qc,Int.toNat_natCast,getD_at hi,hb,cond_false,wrap_in]
    exact r1
   ·obtain⟨j,e,h1,h2⟩:=r2 z hz
    exact⟨j,e,by omega,h2⟩
   ·by_cases e:j=i
    ·subst e
     rw[getD_at hi]
     intro he
     rw[he,Yj]at hb
     cases hb
    ·exact r3 u hu j (by omega) h2
theorem Q4x (l:Library)(key:ByteArray)(hl:l.entries.length<=1048576):∃r:Int,Ev (λk=>Z1.F k l key) r/\Ev (λk=>Z60.F k l key) r/\ -1<=r/\r<l.entries.length/\(0<=r->kAt l r=key)/\(r<0->∀j,j<l.entries.length->(l.entries.getD j (Q5 .entry)).key≠key):=by
 obtain⟨r,r1,r2,r3,r4⟩:=Qaj l key hl
 obtain⟨q,q1,q2,q3⟩:=Q6n l key hl l.entries.length 0 (by omega)
 refine⟨r,r1,r2,r3,r4,?_⟩
 have hF:Ev (λk=>Z1.F k l key) (match q with|.inl z=>z|.inr _=> -1):=by
  unfold Z1.F
  cases q with
  |inl z=>exact Ev.bind q1 (Ev.pure _)
  |inr u=>exact Ev.bind q1 (Ev.pure _)
 have e:=Ev.uniq r1 hF
 cases q with
 |inl z=>
  obtain⟨j,rfl,_,_,h⟩:=q2 z rfl
  have e:r=(j:Int):=e
  exact⟨λ_=>by rw[e];unfold kAt;rw[Int.toNat_natCast];exact h,λh0=>by omega⟩
 |inr u=>
  have e:r= -1:=e
  exact⟨λh0=>by omega,λ_ j hj=>q3 u rfl j (Nat.zero_le _) hj⟩
end Go.Proofs.YtpmlmdfbhmgikaaGreatDoor
end
section
/- Plain laws: lower case. -/
namespace Go.Proofs.YtpmlmdfbhmgikaaGreatDoor
open Go.Gx
theorem Q3l (ys:List Int):L (DJ ys)=ys.map λn=>UInt8.ofNat n.toNat:=Qaf _
theorem Q5F (s:ByteArray):DJ (Qf s)=s:=by
 apply Xn
 rw[Q3l,Ua,List.map_map]
 conv=>rhs;rw[<-List.map_id (L s)]
 refine List.map_congr_left λb _=>?_
 simp
theorem Q7B (ys:List Int):(DJ ys).size=ys.length:=by
 rw[<-Ys,Q3l,List.length_map]
theorem Q1c (b:Int):Z66.F b=some (decide (65<=b)&&decide (b<=90)):=by
 unfold Z66.F
 simp only[ge_iff_le]
 cases decide (65<=b)<;>rfl
def Up (b:Int):Int:=bif decide (65<=b)&&decide (b<=90)then b+32 else b
def mix (s:ByteArray)(i:Nat):List Int:=((Qf s).take i).map Up++(Qf s).drop i
theorem Kv (s:ByteArray)(i:Nat):(mix s i).length=(Qf s).length:=by
 unfold mix;simp;omega
theorem Q3m (s:ByteArray)(i:Nat)(h:i<(Qf s).length):(mix s i).getD i 0=(Qf s)[i]:=by
 unfold mix
 rw[List.getD_eq_getElem?_getD,List.getElem?_append_right (by simp;omega)]
 simp[Nat.min_eq_left (Nat.le_of_lt h),h]
theorem Q06 (s:ByteArray)(i:Nat)(h:i<(Qf s).length):(mix s i).set i (Up (Qf s)[i])=mix s (i+1):=by
 unfold mix
 rw[List.set_append_right _ _ (by simp;omega)]
 simp only[List.length_map,List.length_take,Nat.min_eq_left (Nat.le_of_lt h),Nat.sub_self]
 rw[List.drop_eq_getElem_cons h,List.set_cons_zero,List.take_add_one,List.getElem?_eq_getElem h]
 simp only[Option.toList_some,List.map_append,List.map_cons,List.map_nil,List.append_assoc,List.cons_append,List.nil_append]
theorem Q1d (s:ByteArray)(i:Nat)(h:i<(Qf s).length)(e:Up (Qf s)[i]=(Qf s)[i]):mix s (i+1)=mix s i:=by
 rw[<-Q06 s i h,e]
 apply List.ext_getElem?
 intro j
 by_cases hj:i=j
 ·subst hj
  have:=Q3m s i h
  rw[List.getD_eq_getElem?_getD]at this
  rw[List.getElem?_set_self (by rw[Kv];exact h)]
  rw[List.getElem?_eq_getElem (by rw[Kv];exact h)]at this ⊢
  rw[<-this];rfl
 ·rw[List.getElem?_set_ne hj]
theorem Q4y (s:ByteArray)(hs:s.size<=1048576):∀n i:Nat,i+n=s.size->Ev (λk=>Z10.l0 k (mix s i) s.size i) ((Qf s).map Up)
 |0,i,h=>by
  refine Ev.step (λk=>by rw[Z10.l0]) ?_
  simp(disch:=omega) only[Qn]
  unfold mix
  rw[List.take_of_length_le (by rw[Qx];omega),List.drop_eq_nil_of_le (by rw[Qx];omega),List.append_nil]
  exact Ev.pure _
 |n+1,i,h=>by
  have hl:=Qx s
  have hi:i<(Qf s).length:=by omega
  have hm:=Kv s i
  have ih:=Q4y s hs n (i+1) (by omega)
  have hb:=XI s i hi
  refine Ev.step (λk=>by rw[Z10.l0]) ?_
  simp(disch:=omega) only[Qc,Int.toNat_natCast,Q3m s i hi]
  refine Ev.bind0 (Q1c _) ?_
  cases hu:decide (65<=(Qf s)[i])&&decide ((Qf s)[i]<=90)with
  |true=>
   have hu':=hu
   simp only[Bool.and_eq_true,decide_eq_true_eq]at hu'
   have e:IntKind.wrap .u8 (IntKind.wrap .u8 ((Qf s)[i]+97)-65)=Up (Qf s)[i]:=by
    unfold Up
    rw[hu,cond_true,IntKind.wrap_u8,IntKind.wrap_u8];omega
   simp(disch:=omega) only[cond_true,Qc,e,Q06 s i hi,wrap_in]
   exact ih
  |false=>
   have e:Up (Qf s)[i]=(Qf s)[i]:=by unfold Up;rw[hu,cond_false]
   rw[Q1d s i hi e]at ih
   simp(disch:=omega) only[cond_false,wrap_in]
   exact ih
def YN (s:ByteArray):ByteArray:=DJ ((Qf s).map Up)
theorem Q2x (s:ByteArray):(YN s).size=s.size:=by unfold YN;rw[Q7B,List.length_map,Qx]
theorem Q4z (s:ByteArray)(hs:s.size<=1048576):Ev (λk=>Z10.F k s) (YN s):=by
 unfold Z10.F
 rw[Qx]
 simp(disch:=omega) only[Q3a]
 have:=Q4y s hs s.size 0 (by omega)
 unfold mix at this
 rw[List.take_zero,List.map_nil,List.nil_append,List.drop_zero]at this
 exact Ev.bind this (Ev.pure _)
end Go.Proofs.YtpmlmdfbhmgikaaGreatDoor
end
section
/- Comparing texts,names and dates. -/
namespace Go.Proofs.YtpmlmdfbhmgikaaGreatDoor
open Go.Gx
def tc (a b:ByteArray):Int:=Lib.compareBytes (L a) (L b)
theorem Xi (a b:ByteArray):Z116.F a b=some (tc a b):=rfl
theorem Q4A:∀a b:List UInt8,Op.bytesLess a b=decide (Lib.compareBytes a b<0)
 |[],[]=>rfl
 |[],_::_=>rfl
 |_::_,[]=>rfl
 |a::ar,b::bs=>by
  have ih:=Q4A ar bs
  unfold Op.bytesLess Lib.compareBytes
  by_cases h1:a<b
  ·simp[h1]
  ·by_cases h2:b<a
   ·have:a≠b:=by rintro rfl;exact h1 h2
    simp[h1,h2,this]
   ·have:a=b:=UInt8.le_antisymm (UInt8.not_lt.1 h2) (UInt8.not_lt.1 h1)
    subst this
    simp[h1,ih]
theorem Q1e:∀a b:List UInt8,Lib.compareBytes a b=0 ↔ a=b
 |[],[]=>by simp[Lib.compareBytes]
 |[],_::_=>by simp[Lib.compareBytes]
 |_::_,[]=>by simp[Lib.compareBytes]
 |a::ar,b::bs=>by
  have ih:=Q1e ar bs
  unfold Lib.compareBytes
  by_cases h1:a<b
  ·simp only[h1,if_true]
   constructor
   ·intro h;cases h
   ·intro h;cases h;exact absurd h1 (UInt8.lt_irrefl _)
  ·by_cases h2:b<a
   ·simp only[h1,h2,if_true,if_false]
    constructor
    ·intro h;cases h
    ·intro h;cases h;exact absurd h2 (UInt8.lt_irrefl _)
   ·simp only[h1,h2,if_false,ih]
    have:a=b:=by
     have h3:=UInt8.not_lt.1 h1
     have h4:=UInt8.not_lt.1 h2
     exact UInt8.le_antisymm h4 h3
    subst this
    simp
theorem Q2y:∀a b:List UInt8,Lib.compareBytes a b= -1\/Lib.compareBytes a b=0\/Lib.compareBytes a b=1
 |[],[]=>by simp[Lib.compareBytes]
 |[],_::_=>by simp[Lib.compareBytes]
 |_::_,[]=>by simp[Lib.compareBytes]
 |a::ar,b::bs=>by
  have ih:=Q2y ar bs
  unfold Lib.compareBytes
  split
  ·exact .inl rfl
  ·split
   ·exact .inr (.inr rfl)
   ·exact ih
theorem Xj (a b:ByteArray):Z65.F a b=some (tc a b):=by
 unfold Z65.F tc
 have h1:ltS a b=decide (Lib.compareBytes (L a) (L b)<0):=by unfold ltS;rw[toList_eq,toList_eq];exact Q4A _ _
 have h2:Qo a b=decide (Lib.compareBytes (L a) (L b)=0):=by
  cases h:Qo a b with
  |true=>rw[JH.1 h];exact(decide_eq_true ((Q1e _ _).2 rfl)).symm
  |false=>
   refine(decide_eq_false λe=>?_).symm
   rw[JH.2 (Xn ((Q1e _ _).1 e))]at h
   cases h
 rw[h1,h2]
 rcases Q2y (L a) (L b)with h|h|h<;>rw[h]<;>rfl
def orI:List Int->Int
 |[]=>0
 |x::l=>if x=0 then orI l else x
theorem QaK (xs:List Int)(hl:xs.length<=100):∀n i:Nat,i+n=xs.length->Ev (λk=>Z14.l0 k 0 xs xs.length i) (if orI (xs.drop i)=0 then .inr 0 else .inl (orI (xs.drop i)))
 |0,i,h=>by
  refine Ev.step (λk=>by rw[Z14.l0]) ?_
  simp(disch:=omega) only[Qn]
  rw[List.drop_eq_nil_of_le (by omega)]
  exact Ev.pure _
 |n+1,i,h=>by
  have hi:i<xs.length:=by omega
  refine Ev.step (λk=>by rw[Z14.l0]) ?_
  simp(disch:=omega) only[Qc,Int.toNat_natCast,getD_at hi]
  rw[List.drop_eq_getElem_cons hi]
  by_cases h0:xs[i]=0
  ·simp(disch:=omega) only[UK,h0,orI,if_true,wrap_in]
   exact QaK xs hl n (i+1) (by omega)
  ·simp(disch:=omega) only[Xp,orI,if_neg h0]
   exact Ev.pure _
theorem Q6o (xs:List Int)(hl:xs.length<=100):Ev (λk=>Z14.F k xs) (orI xs):=by
 unfold Z14.F
 have h:=QaK xs hl xs.length 0 (by omega)
 rw[List.drop_zero]at h
 by_cases h0:orI xs=0
 ·rw[if_pos h0]at h
  exact Ev.bind h ((Ev.pure _).eq h0.symm)
 ·rw[if_neg h0]at h
  exact Ev.bind h (Ev.pure _)
def ic (a b:Int):Int:=if a<b then -1 else if a > b then 1 else 0
theorem DG (a b:Int):Z68.F a b=some (ic a b):=by
 unfold Z68.F Z118.F ic
 have e:∀x:Int,(x != x)=false:=λx=>by simp
 simp only[e,Option.bind_some,cond_false]
 by_cases h1:a<b
 ·rw[Qc h1,if_pos h1]
 ·rw[Qn h1,if_neg h1]
  by_cases h2:a > b
  ·rw[Qc h2,if_pos h2]
  ·rw[Qn h2,if_neg h2]
theorem Q1f (s:ByteArray)(hs:s.size<=2097152):∀n i:Nat,i+n=s.size->Ev (λk=>Z16.l0 k (mix s i) i) ((Qf s).map Up)
 |0,i,h=>by
  refine Ev.step (λk=>by rw[Z16.l0]) ?_
  have hm:=Kv s i
  have hl:=Qx s
  simp(disch:=omega) only[Qn]
  unfold mix
  rw[List.take_of_length_le (by rw[Qx];omega),List.drop_eq_nil_of_le (by rw[Qx];omega),List.append_nil]
  exact Ev.pure _
 |n+1,i,h=>by
  have hl:=Qx s
  have hi:i<(Qf s).length:=by omega
  have hm:=Kv s i
  have ih:=Q1f s hs n (i+1) (by omega)
  have hb:=XI s i hi
  refine Ev.step (λk=>by rw[Z16.l0]) ?_
  simp(disch:=omega) only[Qc,Int.toNat_natCast,Q3m s i hi]
  refine Ev.bind0 (Q14 _) ?_
  cases hu:upc (Qf s)[i]with
  |true=>
   have hu':=hu
   simp only[upc,Bool.and_eq_true,decide_eq_true_eq]at hu'
   have e:IntKind.wrap .u8 ((Qf s)[i]+32)=Up (Qf s)[i]:=by
    unfold Up
    unfold upc at hu
    rw[hu,cond_true,IntKind.wrap_u8];omega
   simp(disch:=omega) only[cond_true,Qc,e,Q06 s i hi,wrap_in]
   exact ih
  |false=>
   have e:Up (Qf s)[i]=(Qf s)[i]:=by unfold Up;unfold upc at hu;rw[hu,cond_false]
   rw[Q1d s i hi e]at ih
   simp(disch:=omega) only[cond_false,wrap_in]
   exact ih
theorem YB (s:ByteArray)(hs:s.size<=2097152):Ev (λk=>Z16.F k s) (YN s):=by
 unfold Z16.F
 simp(disch:=omega) only[Q3a]
 have:=Q1f s hs s.size 0 (by omega)
 unfold mix at this
 rw[List.take_zero,List.map_nil,List.nil_append,List.drop_zero]at this
 exact Ev.bind this (Ev.pure _)
theorem Q9l {n:Nat}(h:n<=4194304):room n (.int .u8)=true:=by
 unfold room
 rw[Nat.ble_eq]
 have:nb (.int .u8)=1:=rfl
 rw[this]
 omega
theorem Q1g (b:Int):Z125.F b=some (dig b):=by
 unfold Z125.F dig
 by_cases h:b ≥ 48
 ·rw[Qc h,decide_eq_true (show 48<=b from h)];rfl
 ·rw[Qn h,decide_eq_false (show¬48<=b from h)];rfl
theorem Q6p (s:ByteArray)(hs:s.size<=1048576):∀n i:Nat,i+n=s.size->∀(out:List Int) (g:Bool),out.length<=2*i->
  ∃r,Ev (λk=>Z12.l0 k out g s i) r/\Ev (λk=>Z11.l0 k out g (Qf s) (Qf s).length i) r/\r.length<=2*s.size
 |0,i,h,out,g,ho=>by
  have hl:=Qx s
  refine⟨out,Ev.step (λk=>by rw[Z12.l0]) ?_,Ev.step (λk=>by rw[Z11.l0]) ?_,by omega⟩
  ·simp(disch:=omega) only[Qn];exact Ev.pure _
  ·simp(disch:=omega) only[Qn];exact Ev.pure _
 |n+1,i,h,out,g,ho=>by
  have hl:=Qx s
  have hi:i<(Qf s).length:=by omega
  have hbt:=XH s i hi
  have go:∀(out':List Int) (g':Bool),out'.length<=2* (i+1)->∃r,Ev (λk=>Z12.l0 k out' g' s (i+1:Nat)) r/\Ev (λk=>Z11.l0 k out' g' (Qf s) (Qf s).length (i+1:Nat)) r/\r.length<=2*s.size:=λout' g' ho'=>Q6p s hs n (i+1) (by omega) out' g' ho'
  have r1:∀x:Int,room (out.length+([x]:List Int).length) (.int .u8)=true:=λx=>Q9l (by simp only[List.length_singleton];omega)
  have r2:∀x y:Int,room ((out++[x]).length+([y]:List Int).length) (.int .u8)=true:=λx y=>Q9l (by simp only[List.length_append,List.length_singleton];omega)
  have one:∀x:Int,(out++[x]).length<=2* (i+1):=λx=>by simp;omega
  have two:∀x y:Int,((out++[x])++[y]).length<=2* (i+1):=λx y=>by simp;omega
  have key:∃out' g',out'.length<=2* (i+1)/\(∀r,Ev (λk=>Z12.l0 k out' g' s (i+1:Nat)) r->Ev (λk=>Z12.l0 k out g s i) r)/\(∀r,Ev (λk=>Z11.l0 k out' g' (Qf s) (Qf s).length (i+1:Nat)) r->Ev (λk=>Z11.l0 k out g (Qf s) (Qf s).length i) r):=by
   cases hlo:Xg (bt s i)||dig (bt s i)with
   |false=>
    simp only[Bool.or_eq_false_iff]at hlo
    refine⟨out,(bif g then true else bt s i==32),by omega,λr hr=>Ev.step (λk=>by rw[Z12.l0]) ?_,λr hr=>Ev.step (λk=>by rw[Z11.l0]) ?_⟩
    ·simp(disch:=omega) only[Qc,Int.toNat_natCast]
     refine Ev.bind0 (XK _) ?_
     rw[hlo.1]
     refine Ev.bind0 (Q1g _) ?_
     rw[hlo.2]
     simp(disch:=omega) only[Bool.not_false,cond_true,wrap_in]
     cases g<;>exact hr
    ·simp(disch:=omega) only[Qc,Int.toNat_natCast,getD_at hi,<-hbt]
     refine Ev.bind0 (XL _) ?_
     rw[hlo.1]
     refine Ev.bind0 (Q3f _) ?_
     rw[hlo.2]
     simp(disch:=omega) only[Bool.not_false,cond_true,wrap_in]
     cases g<;>exact hr
   |true=>
    refine⟨(bif g&&decide ((out.length:Int) > 0)then(out++[32])++[bt s i]else out++[bt s i]),false,?_,λr hr=>Ev.step (λk=>by rw[Z12.l0]) ?_,λr hr=>Ev.step (λk=>by rw[Z11.l0]) ?_⟩
    ·cases g&&decide ((out.length:Int) > 0)
     ·exact one _
     ·exact two _ _
    ·simp(disch:=omega) only[Qc,Int.toNat_natCast]
     refine Ev.bind0 (XK _) ?_
     have fin:Ev (λk=>bif g then(bif decide ((out.length:Int) > 0)then Z12.l0 k ((out++[32])++[bt s i]) false s (i+1:Nat)else Z12.l0 k (out++[bt s i]) false s (i+1:Nat))else Z12.l0 k (out++[bt s i]) false s (i+1:Nat)) r:=by
      revert hr
      cases g<;>cases decide ((out.length:Int) > 0)<;>exact λhr=>hr
     cases hl1:Xg (bt s i)with
     |true=>
      simp(disch:=omega) only[Bool.not_true,cond_false,r1,r2,cond_true,wrap_in]
      exact fin
     |false=>
      rw[hl1,Bool.false_or]at hlo
      refine Ev.bind0 (Q1g _) ?_
      rw[hlo]
      simp(disch:=omega) only[Bool.not_true,Bool.not_false,cond_false,r1,r2,cond_true,wrap_in]
      exact fin
    ·simp(disch:=omega) only[Qc,Int.toNat_natCast,getD_at hi,<-hbt]
     refine Ev.bind0 (XL _) ?_
     have fin:Ev (λk=>bif g then(bif decide ((out.length:Int) > 0)then Z11.l0 k ((out++[32])++[bt s i]) false (Qf s) (Qf s).length (i+1:Nat)else Z11.l0 k (out++[bt s i]) false (Qf s) (Qf s).length (i+1:Nat))else Z11.l0 k (out++[bt s i]) false (Qf s) (Qf s).length (i+1:Nat)) r:=by
      revert hr
      cases g<;>cases decide ((out.length:Int) > 0)<;>exact λhr=>hr
     cases hl1:Xg (bt s i)with
     |true=>
      simp(disch:=omega) only[Bool.not_true,cond_false,r1,r2,cond_true,wrap_in]
      exact fin
     |false=>
      rw[hl1,Bool.false_or]at hlo
      refine Ev.bind0 (Q3f _) ?_
      rw[hlo]
      simp(disch:=omega) only[Bool.not_true,Bool.not_false,cond_false,r1,r2,cond_true,wrap_in]
      exact fin
  obtain⟨out',g',k1,k2,k3⟩:=key
  obtain⟨r,h1,h2,h3⟩:=go out' g' k1
  exact⟨r,k2 r h1,k3 r h2,h3⟩
theorem Q6q (s:ByteArray)(hs:s.size<=1048576):∃r,Ev (λk=>Z12.F k s) r/\Ev (λk=>Z11.F k s) r:=by
 have hz:=Q2x s
 obtain⟨r,h1,h2,h3⟩:=Q6p (YN s) (by omega) (YN s).size 0 (by omega) [] false (by simp)
 refine⟨DJ r,?_,?_⟩
 ·unfold Z12.F
  exact Ev.bind (YB s (by omega)) (Ev.bind h1 (Ev.pure _))
 ·unfold Z11.F
  refine Ev.bind (Q4z s hs) ?_
  simp(disch:=omega) only[Q3a]
  exact Ev.bind h2 (Ev.pure _)
theorem Q5G (a b:ByteArray)(ha:a.size<=1048576)(hb:b.size<=1048576):∃r,Ev (λk=>Z126.F k a b) r/\Ev (λk=>Z120.F k a b) r:=by
 obtain⟨x,x1,x2⟩:=Q6q a ha
 obtain⟨y,y1,y2⟩:=Q6q b hb
 refine⟨orI [tc x y,tc a b],?_,?_⟩
 ·unfold Z126.F
  refine Ev.bind x1 (Ev.bind y1 (Ev.bind0 (Xj x y) ?_))
  by_cases h:tc x y=0
  ·simp only[UK h,Xj,Option.bind_some]
   exact(Ev.pure _).eq (by simp only[orI,if_pos h];split<;>simp_all)
  ·simp only[Xp h]
   exact(Ev.pure _).eq (by simp only[orI,if_neg h])
 ·unfold Z120.F
  refine Ev.bind x2 (Ev.bind y2 (Ev.bind0 (Xi x y) (Ev.bind0 (Xi a b) (Ev.bind (Q6o _ (by simp)) (Ev.pure _)))))
end Go.Proofs.YtpmlmdfbhmgikaaGreatDoor
end
section
/- Comparing entries: articles,names,dates. -/
namespace Go.Proofs.YtpmlmdfbhmgikaaGreatDoor
open Go.Gx
theorem Q9m (s:ByteArray){n m:Nat}(h:n<=m):(YN (s.extract 0 m)).extract 0 n=YN (s.extract 0 n):=by
 apply Xn
 unfold YN
 rw[Jf,Q3l,Q3l,Ua,Ua,Jf,Jf,List.drop_zero,List.drop_zero,List.drop_zero,<-List.map_take,<-List.map_take,<-List.map_take,List.take_take,Nat.min_eq_left h]
theorem Q6r (s:ByteArray)(hs:s.size<=1048576)(W:List ByteArray)(hl:W.length<=100)(hW:∀w∈W,w.size<=4):∀n i:Nat,i+n=W.length->∃r,Ev (λk=>Z25.l0 k s W i) r/\Ev (λk=>Z31.l0 k s W W.length i) r/\(∀z,r= .inl z->z.size<=s.size)/\(∀z,r= .inr z->z=s)
 |0,i,h=>by
  refine⟨.inr s,Ev.step (λk=>by rw[Z25.l0]) ?_,Ev.step (λk=>by rw[Z31.l0]) ?_,λz e=>(by cases e),λz e=>(by cases e;rfl)⟩
  ·simp(disch:=omega) only[Qn];exact Ev.pure _
  ·simp(disch:=omega) only[Qn];exact Ev.pure _
 |n+1,i,h=>by
  have hi:i<W.length:=by omega
  obtain⟨r,h1,h2,h3,h4⟩:=Q6r s hs W hl hW n (i+1) (by omega)
  have hw:=hW _ (List.getElem_mem hi)
  have hm:∃m:Nat,(if(4:Int)<(s.size:Int)then(4:Int)else(s.size:Int))=(m:Int)/\m<=s.size/\m<=4/\(m=4\/m=s.size):=by
   by_cases h5:(4:Int)<(s.size:Int)
   ·exact⟨4,by rw[if_pos h5];rfl,by omega,by omega,.inl rfl⟩
   ·exact⟨s.size,by rw[if_neg h5],by omega,by omega,.inr rfl⟩
  obtain⟨m,m1,m2,m3,m4⟩:=hm
  have hsz:(s.extract 0 m).size=m:=by rw[ext_size (Nat.zero_le _) m2];omega
  have hlow:=Q4z (s.extract 0 m) (by omega)
  have hlz:=Q2x (s.extract 0 m)
  by_cases hn:W[i].size<=s.size
  ·have hnm:W[i].size<=m:=by omega
   have hsz2:(s.extract 0 W[i].size).size=W[i].size:=by rw[ext_size (Nat.zero_le _) hn];omega
   have hlow2:=YB (s.extract 0 W[i].size) (by omega)
   have hpre:Z88.F (YN (s.extract 0 m)) W[i]=some (Qo (YN (s.extract 0 W[i].size)) W[i]):=by
    unfold Z88.F Z121.F
    simp(disch:=omega) only[Qc,Int.toNat_natCast,Q9m s hnm,Option.bind_some]
   cases hb:Qo (YN (s.extract 0 W[i].size)) W[i]with
   |true=>
    refine⟨.inl (s.extract W[i].size s.size),Ev.step (λk=>by rw[Z25.l0]) ?_,Ev.step (λk=>by rw[Z31.l0]) ?_,λz e=>?_,λz e=>(by cases e)⟩
    ·simp(disch:=omega) only[Qc,Int.toNat_natCast,getD_at hi]
     refine Ev.bind hlow2 ?_
     simp(disch:=omega) only[hb,cond_true,Qc,getD_at hi]
     exact Ev.pure _
    ·simp(disch:=omega) only[Qc,Int.toNat_natCast,getD_at hi,m1]
     refine Ev.bind hlow ?_
     rw[hpre,hb]
     simp(disch:=omega) only[Option.bind_some,cond_true,Qc]
     exact Ev.pure _
    ·cases e
     rw[ext_size hn (Nat.le_refl _)]
     omega
   |false=>
    refine⟨r,Ev.step (λk=>by rw[Z25.l0]) ?_,Ev.step (λk=>by rw[Z31.l0]) ?_,h3,h4⟩
    ·simp(disch:=omega) only[Qc,Int.toNat_natCast,getD_at hi]
     refine Ev.bind hlow2 ?_
     simp(disch:=omega) only[hb,cond_false,Qc,getD_at hi,wrap_in]
     exact h1
    ·simp(disch:=omega) only[Qc,Int.toNat_natCast,getD_at hi,m1]
     refine Ev.bind hlow ?_
     rw[hpre,hb]
     simp(disch:=omega) only[Option.bind_some,cond_false,wrap_in]
     exact h2
  ·have hpre:Z88.F (YN (s.extract 0 m)) W[i]=some false:=by
    unfold Z88.F Z121.F
    simp(disch:=omega) only[Qn,Option.bind_some]
   refine⟨r,Ev.step (λk=>by rw[Z25.l0]) ?_,Ev.step (λk=>by rw[Z31.l0]) ?_,h3,h4⟩
   ·simp(disch:=omega) only[Qc,Qn,Int.toNat_natCast,getD_at hi,wrap_in]
    exact h1
   ·simp(disch:=omega) only[Qc,Int.toNat_natCast,getD_at hi,m1]
    refine Ev.bind hlow ?_
    rw[hpre]
    simp(disch:=omega) only[Option.bind_some,cond_false,wrap_in]
    exact h2
theorem Q6s (s:ByteArray)(hs:s.size<=1048576):∃r,Ev (λk=>Z25.F k s) r/\Ev (λk=>Z31.F k s) r/\r.size<=s.size:=by
 obtain⟨r,h1,h2,h3,h4⟩:=Q6r s hs [⟨#[97,32]⟩,⟨#[97,110,32]⟩,⟨#[116,104,101,32]⟩] (by simp) (by decide) 3 0 rfl
 unfold Z25.F Z31.F
 cases r with
 |inl z=>exact⟨z,Ev.bind h1 (Ev.pure _),Ev.bind h2 (Ev.pure _),h3 z rfl⟩
 |inr z=>exact⟨z,Ev.bind h1 (Ev.pure _),Ev.bind h2 (Ev.pure _),by rw[h4 z rfl];exact Nat.le_refl _⟩
theorem Q9n {s:ByteArray}{st i j:Nat}(hi:i<=s.size)(h:Q1A (s.extract st i)=true)(h1:st<=j)(h2:j<i):Xg (bt s j)=true:=by
 unfold Q1A at h
 have hsz:(s.extract st i).size=i-st:=ext_size (by omega) hi
 have:=List.all_eq_true.1 h (j-st) (List.mem_range'_1.2 ⟨by omega,by omega⟩)
 rwa [show bt (s.extract st i) (j-st)=bt s j by
  rw[Q92,Q92,Jf]
  congr 1
  congr 1
  rw[List.getD_eq_getElem?_getD,List.getD_eq_getElem?_getD,List.getElem?_drop,List.getElem?_take,if_pos (by omega),show st+(j-st)=j by omega]]at this
theorem Q5H (s:ByteArray):∀n i:Nat,i+n=s.size->∀st:Nat,st<=i->(∀j,st<=j->j<i->(L s)[j]? ≠some 32)->(Y3 s st).all Q1A=true->∀j,st<=j->j<s.size->bt s j=32\/Xg (bt s j)=true
 |0,i,h,st,h1,h2,h3,j,h4,h5=>by
  rw[Q2l s st (λj a=>by
   by_cases hj:j<i
   ·exact h2 j a hj
   ·rw[List.getElem?_eq_none (by rw[Ys];omega)];simp)]at h3
  simp only[List.all_cons,List.all_nil,Bool.and_true]at h3
  exact .inr (Q9n (Nat.le_refl _) h3 h4 h5)
 |n+1,i,h,st,h1,h2,h3,j,h4,h5=>by
  by_cases hb:(L s)[i]? =some 32
  ·rw[Q2m s st i h1 (by omega) hb h2]at h3
   simp only[List.all_cons,Bool.and_eq_true]at h3
   by_cases hj:j<i
   ·exact .inr (Q9n (by omega) h3.1 h4 hj)
   ·by_cases hj2:j=i
    ·subst hj2;exact .inl ((Q98 (by omega)).2 hb)
    ·exact Q5H s n (i+1) (by omega) (i+1) (Nat.le_refl _) (λk a b=>by omega) h3.2 j (by omega) h5
  ·exact Q5H s n (i+1) (by omega) st (by omega) (λk a b=>by
    by_cases e:k=i
    ·subst e;exact hb
    ·exact h2 k a (by omega)) h3 j h4 h5
theorem Q9o (s:ByteArray)(h:∀j,j<s.size->bt s j=32\/Xg (bt s j)=true):YN s=s:=by
 have hl:=Qx s
 have e:(Qf s).map Up=Qf s:=by
  apply List.ext_getElem (by simp)
  intro j h1 h2
  rw[List.getElem_map]
  have:=h j (by omega)
  rw[XH s j h2]at this
  unfold Up
  have hn:(decide (65<=(Qf s)[j])&&decide ((Qf s)[j]<=90))=false:=by
   rcases this with h3|h3
   ·rw[h3];rfl
   ·simp only[Xg,Bool.and_eq_true,decide_eq_true_eq]at h3
    rw[Bool.and_eq_false_iff]
    exact .inr (decide_eq_false (by omega))
  rw[hn];rfl
 unfold YN
 rw[e,Q5F]
theorem Q4B {p:ByteArray}(h:Yl p=true):YN p=p:=by
 refine Q9o p λj hj=>?_
 unfold Yl at h
 simp only[Bool.or_eq_true,decide_eq_true_eq,Bool.and_eq_true]at h
 rcases h with h|⟨h,_⟩
 ·omega
 ·refine Q5H p p.size 0 (by omega) 0 (Nat.le_refl _) (λk a b=>by omega) ?_ j (Nat.zero_le _) hj
  rw[Q0Y]
  refine List.all_eq_true.2 λx hx=>?_
  have:=List.all_eq_true.1 h x hx
  unfold pw at this
  simp only[Bool.and_eq_true]at this
  exact this.2
end Go.Proofs.YtpmlmdfbhmgikaaGreatDoor
end
section
/- Comparing entries. -/
namespace Go.Proofs.YtpmlmdfbhmgikaaGreatDoor
open Go.Gx
theorem Q2z (s:ByteArray)(hs:s.size<=2097152):∀n i:Nat,i+n=s.size->Ev (λk=>Z10.l0 k (mix s i) s.size i) ((Qf s).map Up)
 |0,i,h=>by
  refine Ev.step (λk=>by rw[Z10.l0]) ?_
  simp(disch:=omega) only[Qn]
  unfold mix
  rw[List.take_of_length_le (by rw[Qx];omega),List.drop_eq_nil_of_le (by rw[Qx];omega),List.append_nil]
  exact Ev.pure _
 |n+1,i,h=>by
  have hl:=Qx s
  have hi:i<(Qf s).length:=by omega
  have hm:=Kv s i
  have ih:=Q2z s hs n (i+1) (by omega)
  have hb:=XI s i hi
  refine Ev.step (λk=>by rw[Z10.l0]) ?_
  simp(disch:=omega) only[Qc,Int.toNat_natCast,Q3m s i hi]
  refine Ev.bind0 (Q1c _) ?_
  cases hu:decide (65<=(Qf s)[i])&&decide ((Qf s)[i]<=90)with
  |true=>
   have hu':=hu
   simp only[Bool.and_eq_true,decide_eq_true_eq]at hu'
   have e:IntKind.wrap .u8 (IntKind.wrap .u8 ((Qf s)[i]+97)-65)=Up (Qf s)[i]:=by
    unfold Up
    rw[hu,cond_true,IntKind.wrap_u8,IntKind.wrap_u8];omega
   simp(disch:=omega) only[cond_true,Qc,e,Q06 s i hi,wrap_in]
   exact ih
  |false=>
   have e:Up (Qf s)[i]=(Qf s)[i]:=by unfold Up;rw[hu,cond_false]
   rw[Q1d s i hi e]at ih
   simp(disch:=omega) only[cond_false,wrap_in]
   exact ih
theorem YX (s:ByteArray)(hs:s.size<=2097152):Ev (λk=>Z10.F k s) (YN s):=by
 unfold Z10.F
 rw[Qx]
 simp(disch:=omega) only[Q3a]
 have:=Q2z s hs s.size 0 (by omega)
 unfold mix at this
 rw[List.take_zero,List.map_nil,List.nil_append,List.drop_zero]at this
 exact Ev.bind this (Ev.pure _)
def GL (n:Name):ByteArray:=Y9 [32] ([Y9 [32] n.given,n.particle,n.family,n.suffix].filter Jo)
theorem YY (n:Name)(hs:QI n):Yu [Y9 [32] n.given,n.particle,n.family,n.suffix]<=1048580/\(GL n).size<=1048590:=by
 have h3:=Ji hs
 have h2:=Q3k n
 have e:Yu [Y9 [32] n.given,n.particle,n.family,n.suffix]=(Y9 [32] n.given).size+(n.particle.size+(n.family.size+n.suffix.size)):=by simp[Yu]
 have h1:=Xh [32] ([Y9 [32] n.given,n.particle,n.family,n.suffix].filter Jo)
 have h4:=Uh Jo [Y9 [32] n.given,n.particle,n.family,n.suffix]
 have h5:([Y9 [32] n.given,n.particle,n.family,n.suffix].filter Jo).length<=4:=List.length_filter_le _ _
 simp only[List.length_singleton,Nat.one_mul]at h1
 unfold GL
 omega
theorem GM (n:Name)(hs:QI n)(hv:nameB n=true):Ev (λk=>Z102.F k n) (GL n):=by
 have h3:=Ji hs
 have hg:=Ku n.given (by omega) (by omega)
 rw[Q2v hv]at hg
 unfold Z102.F Z74.F
 exact Ev.bind (Ev.bind hg (Ev.pure _)) (Ev.bind (Ku _ (by simp) (by have:=(YY n hs).1;omega)) (Ev.pure _))
theorem GN (n:Name)(hs:QI n):Ev (λk=>Z98.F k n) (GL n):=by
 have h3:=Ji hs
 have hg:Z137.F n.given ⟨#[32]⟩=some (Y9 [32] n.given):=Q19 ⟨#[32]⟩ n.given (by omega) (by omega) (by decide)
 unfold Z98.F
 exact Ev.bind0 hg (Ev.bind (Q2u _ (by simp) (by have:=(YY n hs).1;omega)) (Ev.pure _))
def nmC (a b:Name):Int:=orI [tc (YN a.family) (YN b.family),tc a.particle b.particle,tc (YN (GL a)) (YN (GL b)),tc (Q7A a) (Q7A b)]
theorem Q2A {n:Name}(hv:nameB n=true):Yl n.particle=true:=by
 unfold nameB at hv
 simp only[Bool.and_eq_true]at hv
 exact hv.2.2.1
theorem Q7C (a b:Name)(ha:QI a)(hb:QI b)(va:nameB a=true)(vb:nameB b=true):Ev (λk=>Z123.F k a b) (nmC a b):=by
 have sa:=Ji ha
 have sb:=Ji hb
 have fa:=(YY a ha).2
 have fb:=(YY b hb).2
 unfold Z123.F nmC
 refine Ev.bind (YB _ (by omega)) (Ev.bind (YB _ (by omega)) (Ev.bind0 (Xj _ _) ?_))
 by_cases h1:tc (YN a.family) (YN b.family)=0
 ·simp only[UK h1,orI,if_pos h1]
  refine Ev.bind0 (Xj _ _) ?_
  by_cases h2:tc a.particle b.particle=0
  ·simp only[UK h2,if_pos h2]
   refine Ev.bind (GM a ha va) (Ev.bind (YB _ (by omega)) (Ev.bind (GM b hb vb) (Ev.bind (YB _ (by omega)) (Ev.bind0 (Xj _ _) ?_))))
   by_cases h3:tc (YN (GL a)) (YN (GL b))=0
   ·simp only[UK h3,if_pos h3]
    refine Ev.bind (Q1a a ha va) (Ev.bind (Q1a b hb vb) (Ev.bind0 (Xj _ _) ((Ev.pure _).eq ?_)))
    split
    ·assumption
    ·rfl
   ·simp only[Xp h3,if_neg h3]
    exact Ev.pure _
  ·simp only[Xp h2,if_neg h2]
   exact Ev.pure _
 ·simp only[Xp h1,orI,if_neg h1]
  exact Ev.pure _
theorem Q7D (a b:Name)(ha:QI a)(hb:QI b)(va:nameB a=true)(vb:nameB b=true):Ev (λk=>Z117.F k a b) (nmC a b):=by
 have sa:=Ji ha
 have sb:=Ji hb
 have fa:=(YY a ha).2
 have fb:=(YY b hb).2
 have pa:=YX a.particle (by omega)
 have pb:=YX b.particle (by omega)
 rw[Q4B (Q2A va)]at pa
 rw[Q4B (Q2A vb)]at pb
 unfold Z117.F nmC
 refine Ev.bind (YX _ (by omega)) (Ev.bind (YX _ (by omega)) (Ev.bind0 (Xi _ _) (Ev.bind pa (Ev.bind pb (Ev.bind0 (Xi _ _) ?_)))))
 refine Ev.bind (GN a ha) (Ev.bind (YX _ (by omega)) (Ev.bind (GN b hb) (Ev.bind (YX _ (by omega)) (Ev.bind0 (Xi _ _) ?_))))
 exact Ev.bind (Q1b a ha) (Ev.bind (Q1b b hb) (Ev.bind0 (Xi _ _) (Ev.bind (Q6o _ (by simp)) (Ev.pure _))))
def Q1h (l:List Name):Prop:=l.length<=4/\∀n∈l,QI n/\nameB n=true
def Gg:List Name->List Name->Int
 |[],[]=>0
 |[],_::_=> -1
 |_::_,[]=>1
 |a::ar,b::bs=>if nmC a b=0 then Gg ar bs else nmC a b
theorem Q9p (xs ys:List Name)(hx:Q1h xs)(hy:Q1h ys):∀n i:Nat,i+n=xs.length->i<=ys.length->∃r r',Ev (λk=>Z35.l0 k xs ys i) r/\Ev (λk=>Z34.l0 k xs ys xs xs.length i) r'/\
  (∀z,r= .inl z->z=Gg (xs.drop i) (ys.drop i))/\(∀z,r= .inr z->z=(xs,ys)/\(if xs.length<ys.length then -1 else if xs.length > ys.length then 1 else 0)=Gg (xs.drop i) (ys.drop i))/\(∀z,r'= .inl z->z=Gg (xs.drop i) (ys.drop i))/\(∀z,r'= .inr z->z=(xs,ys)/\(if xs.length<ys.length then -1 else 0)=Gg (xs.drop i) (ys.drop i))
 |0,i,h,hi2=>by
  have hlx:=hx.1
  have hly:=hy.1
  have hd:xs.drop i=[]:=List.drop_eq_nil_of_le (by omega)
  have hc:Gg (xs.drop i) (ys.drop i)=if xs.length<ys.length then -1 else 0:=by
   rw[hd]
   by_cases hlt:xs.length<ys.length
   ·rw[if_pos hlt,List.drop_eq_getElem_cons (show i<ys.length by omega)];rfl
   ·rw[if_neg hlt,List.drop_eq_nil_of_le (by omega)];rfl
  refine⟨.inr (xs,ys),.inr (xs,ys),Ev.step (λk=>by rw[Z35.l0]) ?_,Ev.step (λk=>by rw[Z34.l0]) ?_,λz e=>(by cases e),λz e=>?_,λz e=>(by cases e),λz e=>?_⟩
  ·simp(disch:=omega) only[Qn];exact Ev.pure _
  ·simp(disch:=omega) only[Qn];exact Ev.pure _
  ·cases e
   refine⟨rfl,?_⟩
   rw[hc]
   by_cases hlt:xs.length<ys.length
   ·rw[if_pos hlt,if_pos hlt]
   ·rw[if_neg hlt,if_neg hlt,if_neg (by omega)]
  ·cases e;exact⟨rfl,hc.symm⟩
 |n+1,i,h,hi2=>by
  have hlx:=hx.1
  have hly:=hy.1
  have hi:i<xs.length:=by omega
  have hdx:xs.drop i=xs[i]::xs.drop (i+1):=List.drop_eq_getElem_cons hi
  by_cases hj:i<ys.length
  ·have hdy:ys.drop i=ys[i]::ys.drop (i+1):=List.drop_eq_getElem_cons hj
   have hc:Gg (xs.drop i) (ys.drop i)=if nmC xs[i] ys[i]=0 then Gg (xs.drop (i+1)) (ys.drop (i+1))else nmC xs[i] ys[i]:=by rw[hdx,hdy];rfl
   obtain⟨s1,v1⟩:=hx.2 _ (List.getElem_mem hi)
   obtain⟨s2,v2⟩:=hy.2 _ (List.getElem_mem hj)
   have e1:=Q7C _ _ s1 s2 v1 v2
   have e2:=Q7D _ _ s1 s2 v1 v2
   by_cases h0:nmC xs[i] ys[i]=0
   ·obtain⟨r,r',k1,k2,k3,k4,k5,k6⟩:=Q9p xs ys hx hy n (i+1) (by omega) (by omega)
    rw[hc,if_pos h0]
    refine⟨r,r',Ev.step (λk=>by rw[Z35.l0]) ?_,Ev.step (λk=>by rw[Z34.l0]) ?_,k3,k4,k5,k6⟩
    ·simp(disch:=omega) only[Qc,Int.toNat_natCast,getD_at hi,getD_at hj]
     refine Ev.bind e1 ?_
     simp(disch:=omega) only[UK,wrap_in]
     exact k1
    ·simp(disch:=omega) only[Qc,Qn,Int.toNat_natCast,getD_at hi,getD_at hj]
     refine Ev.bind e2 ?_
     simp(disch:=omega) only[UK,wrap_in]
     exact k2
   ·rw[hc,if_neg h0]
    refine⟨.inl (nmC xs[i] ys[i]),.inl (nmC xs[i] ys[i]),Ev.step (λk=>by rw[Z35.l0]) ?_,Ev.step (λk=>by rw[Z34.l0]) ?_,λz e=>(by cases e;rfl),λz e=>(by cases e),λz e=>(by cases e;rfl),λz e=>(by cases e)⟩
    ·simp(disch:=omega) only[Qc,Int.toNat_natCast,getD_at hi,getD_at hj]
     refine Ev.bind e1 ?_
     simp(disch:=omega) only[Xp]
     exact Ev.pure _
    ·simp(disch:=omega) only[Qc,Qn,Int.toNat_natCast,getD_at hi,getD_at hj]
     refine Ev.bind e2 ?_
     simp(disch:=omega) only[Xp]
     exact Ev.pure _
  ·have hc:Gg (xs.drop i) (ys.drop i)=1:=by rw[hdx,List.drop_eq_nil_of_le (show ys.length<=i by omega)];rfl
   refine⟨.inr (xs,ys),.inl 1,Ev.step (λk=>by rw[Z35.l0]) ?_,Ev.step (λk=>by rw[Z34.l0]) ?_,λz e=>(by cases e),λz e=>?_,λz e=>(by cases e;exact hc.symm),λz e=>(by cases e)⟩
   ·simp(disch:=omega) only[Qc,Qn];exact Ev.pure _
   ·simp(disch:=omega) only[Qc];exact Ev.pure _
   ·cases e
    refine⟨rfl,?_⟩
    rw[hc,if_neg (by omega),if_pos (by omega)]
theorem Qbb (xs ys:List Name)(hx:Q1h xs)(hy:Q1h ys):Ev (λk=>Z35.F k xs ys) (Gg xs ys)/\Ev (λk=>Z34.F k xs ys) (Gg xs ys):=by
 obtain⟨r,r',k1,k2,k3,k4,k5,k6⟩:=Q9p xs ys hx hy xs.length 0 (by omega) (Nat.zero_le _)
 rw[List.drop_zero,List.drop_zero]at k3 k4 k5 k6
 have hlx:=hx.1
 have hly:=hy.1
 unfold Z35.F Z34.F
 constructor
 ·cases r with
  |inl z=>exact Ev.bind k1 ((Ev.pure _).eq (k3 z rfl))
  |inr z=>
   obtain⟨rfl,h2⟩:=k4 z rfl
   refine Ev.bind k1 ?_
   rw[<-h2]
   show Ev (λ_=>bif decide ((xs.length:Int)<(ys.length:Int))then some (-1)else(bif decide ((xs.length:Int) > (ys.length:Int))then some 1 else some 0)) _
   by_cases h5:xs.length<ys.length
   ·simp(disch:=omega) only[Qc,if_pos h5];exact Ev.pure _
   ·by_cases h6:xs.length > ys.length
    ·simp(disch:=omega) only[Qc,Qn,if_neg h5,if_pos h6];exact Ev.pure _
    ·simp(disch:=omega) only[Qn,if_neg h5,if_neg h6];exact Ev.pure _
 ·cases r' with
  |inl z=>exact Ev.bind k2 ((Ev.pure _).eq (k5 z rfl))
  |inr z=>
   obtain⟨rfl,h2⟩:=k6 z rfl
   refine Ev.bind k2 ?_
   rw[<-h2]
   show Ev (λ_=>bif decide ((xs.length:Int)<(ys.length:Int))then some (-1)else some 0) _
   by_cases h5:xs.length<ys.length
   ·simp(disch:=omega) only[Qc,if_pos h5];exact Ev.pure _
   ·simp(disch:=omega) only[Qn,if_neg h5];exact Ev.pure _
end Go.Proofs.YtpmlmdfbhmgikaaGreatDoor
end
section
/- Comparing dates and entries. -/
namespace Go.Proofs.YtpmlmdfbhmgikaaGreatDoor
open Go.Gx
def Q2B (f:Option Int):Prop:=∀r,f=some r->r<=31
theorem Q5I {b:Bool}{x y:Option Int}(hx:Q2B x)(hy:Q2B y):Q2B (cond b x y):=by cases b<;>assumption
theorem Q5J:Q2B none:=λr h=>by cases h
theorem Q5K {n:Int}(h:n<=31):Q2B (some n):=λr e=>by cases e;exact h
theorem Qbc {y m r:Int}(h:Z76.F y m=some r):r<=31:=by
 refine(?_:Q2B (Z76.F y m)) r h
 unfold Z76.F
 repeat first|exact Q5J|exact Q5K (by decide)|apply Q5I
theorem Q1i {d:Date}(h:KF d=true):0<=d.y/\d.y<=2999/\0<=d.m/\d.m<=12/\0<=d.d/\d.d<=31:=by
 have h1:=Q2s d
 rw[h]at h1
 unfold Z85.F at h1
 cases hz:(d.y==0&&(d.m==0&&(d.d==0&&d.c==false)))with
 |true=>
  simp only[Bool.and_eq_true,beq_iff_eq]at hz
  omega
 |false=>
  rw[hz]at h1
  simp only[cond_false,Jv,Option.bind_some]at h1
  cases hy:(decide (d.y ≥ 1)&&decide (d.y<=2999))with
  |false=>rw[hy]at h1;cases h1
  |true=>
   rw[hy]at h1
   cases hm:(decide (d.m ≥ 0)&&decide (d.m<=12))with
   |false=>rw[hm]at h1;cases h1
   |true=>
    rw[hm]at h1
    simp only[Bool.and_eq_true,decide_eq_true_eq]at hy hm
    obtain⟨r,r1,r2⟩:=Q6l d.y d.m (by omega)
    have hr:r<=31:=Qbc r2
    rw[r2]at h1
    simp only[Bool.not_true,cond_false,Option.bind_some,Jv]at h1
    refine⟨by omega,by omega,by omega,by omega,?_⟩
    cases hc:d.c<;>rw[hc]at h1<;>simp only[cond_true,cond_false]at h1<;>cases h2:(d.m==0)<;>(have h3:(d.m != 0)= !(d.m==0):=rfl)<;>simp only[h3,h2,Bool.not_true,Bool.not_false,cond_true,cond_false,Option.some.injEq,beq_iff_eq,Bool.and_eq_true,decide_eq_true_eq]at h1<;>first|omega|(cases h1;done)
def Q9q (d:Date):Int:=bif d.c then 1 else 0
def dtC (a b:Date):Int:=orI [ic a.y b.y,ic a.m b.m,ic a.d b.d,ic (Q9q a) (Q9q b)]
theorem Q7E (a b:Date):Ev (λk=>Z119.F k a b) (dtC a b):=by
 unfold Z119.F dtC
 have hc:∀d:Date,Z100.F d=some (Q9q d):=λd=>by unfold Z100.F Q9q;cases d.c<;>rfl
 exact Ev.bind0 (DG _ _) (Ev.bind0 (DG _ _) (Ev.bind0 (DG _ _) (Ev.bind0 (hc a) (Ev.bind0 (hc b) (Ev.bind0 (DG _ _) (Ev.bind (Q6o _ (by simp)) (Ev.pure _)))))))
theorem Q6t {a b:Int}(h:a<b):ic a b= -1:=by unfold ic;rw[if_pos h]
theorem Q6u {a b:Int}(h:b<a):ic a b=1:=by unfold ic;rw[if_neg (by omega),if_pos h]
theorem Q6v {a b:Int}(h:a=b):ic a b=0:=by unfold ic;rw[if_neg (by omega),if_neg (by omega)]
theorem Ub {x:Int}{l:List Int}(h:x≠0):orI (x::l)=x:=by simp only[orI,if_neg h]
theorem Xk {x:Int}{l:List Int}(h:x=0):orI (x::l)=orI l:=by simp only[orI,if_pos h]
theorem Q7F (a b:Date)(ha:KF a=true)(hb:KF b=true):Z124.F a b=some (dtC a b):=by
 obtain⟨a1,a2,a3,a4,a5,a6⟩:=Q1i ha
 obtain⟨b1,b2,b3,b4,b5,b6⟩:=Q1i hb
 have e:IntKind.wrap .i64 ((IntKind.wrap .i64 ((IntKind.wrap .i64 ((IntKind.wrap .i64 ((IntKind.wrap .i64 ((IntKind.wrap .i64 (a.y*13))+a.m))*32))+a.d))-(IntKind.wrap .i64 ((IntKind.wrap .i64 ((IntKind.wrap .i64 (b.y*13))+b.m))*32))))-b.d)=((a.y*13+a.m)*32+a.d)-((b.y*13+b.m)*32+b.d):=by
  simp(disch:=omega) only[wrap_in]
  omega
 unfold Z124.F
 rw[e]
 unfold dtC
 by_cases h1:a.y<b.y
 ·rw[Q6t h1,Ub (by decide),Qc (by omega)]
 by_cases h1':b.y<a.y
 ·rw[Q6u h1',Ub (by decide)]
  simp(disch:=omega) only[Qn,cne,Qc]
 have h1:a.y=b.y:=by omega
 rw[Q6v h1,Xk rfl]
 by_cases h2:a.m<b.m
 ·rw[Q6t h2,Ub (by decide),Qc (by omega)]
 by_cases h2':b.m<a.m
 ·rw[Q6u h2',Ub (by decide)]
  simp(disch:=omega) only[Qn,cne,Qc]
 have h2:a.m=b.m:=by omega
 rw[Q6v h2,Xk rfl]
 by_cases h3:a.d<b.d
 ·rw[Q6t h3,Ub (by decide),Qc (by omega)]
 by_cases h3':b.d<a.d
 ·rw[Q6u h3',Ub (by decide)]
  simp(disch:=omega) only[Qn,cne,Qc]
 have h3:a.d=b.d:=by omega
 rw[Q6v h3,Xk rfl]
 simp(disch:=omega) only[Qn,ceq]
 unfold Q9q
 cases a.c<;>cases b.c<;>rfl
structure EOk (e:Entry):Prop where
 au:Q1h e.authors
 ed:Q1h e.editors
 da:KF e.date=true
 ti:e.title.size<=1048576
theorem Qbd {e:Entry}(hs:JX e)(hv:YM e=true):EOk e:=by
 obtain⟨h1,h2,h3,_,_,h6,h7⟩:=Qba hs hv
 obtain⟨a1,a2⟩:=Q4w h1
 obtain⟨b1,b2⟩:=Q4w h2
 refine⟨⟨a1,λn hn=>⟨Jn h6 hn,a2 n hn⟩⟩,⟨b1,λn hn=>⟨Jn h7 hn,b2 n hn⟩⟩,h3,?_⟩
 unfold JX Q1z at hs
 omega
def KG (e:Entry):List Name:=bif decide ((e.authors.length:Int) > 0)then e.authors else e.editors
theorem Q6w {e:Entry}(h:EOk e):Q1h (KG e):=by
 unfold KG
 cases decide ((e.authors.length:Int) > 0)
 ·exact h.ed
 ·exact h.au
theorem GO (e:Entry):Z104.F e=some (KG e):=by unfold Z104.F KG;cases decide ((e.authors.length:Int) > 0)<;>rfl
theorem GP (e:Entry):Z97.F e=some (KG e):=by unfold Z97.F KG;cases decide ((e.authors.length:Int) > 0)<;>rfl
theorem Qak (a b:Entry)(ha:EOk a)(hb:EOk b):∃r,Ev (λk=>Z79.F k a b) r/\Ev (λk=>Z122.F k a b) r:=by
 obtain⟨n1,n2⟩:=Qbb _ _ (Q6w ha) (Q6w hb)
 have d1:=Q7F _ _ ha.da hb.da
 have d2:=Q7E a.date b.date
 obtain⟨x,x1,x2,x3⟩:=Q6s a.title ha.ti
 obtain⟨y,y1,y2,y3⟩:=Q6s b.title hb.ti
 obtain⟨c,c1,c2⟩:=Q5G x y (by have:=ha.ti;omega) (by have:=hb.ti;omega)
 refine⟨orI [Gg (KG a) (KG b),dtC a.date b.date,c,ic a.volume b.volume,tc a.key b.key],?_,?_⟩
 ·unfold Z79.F
  refine Ev.bind0 (GO a) (Ev.bind0 (GO b) (Ev.bind n1 ?_))
  by_cases h1:Gg (KG a) (KG b)=0
  ·rw[Xk h1]
   simp only[UK h1]
   refine Ev.bind0 d1 ?_
   by_cases h2:dtC a.date b.date=0
   ·rw[Xk h2]
    simp only[UK h2]
    refine Ev.bind x1 (Ev.bind y1 (Ev.bind c1 ?_))
    by_cases h3:c=0
    ·rw[Xk h3]
     simp only[UK h3]
     by_cases h4:a.volume<b.volume
     ·rw[Q6t h4,Ub (by decide)]
      simp(disch:=omega) only[Qc]
      exact Ev.pure _
     ·by_cases h5:b.volume<a.volume
      ·rw[Q6u h5,Ub (by decide)]
       simp(disch:=omega) only[Qc,Qn]
       exact Ev.pure _
      ·rw[Q6v (by omega),Xk rfl]
       simp(disch:=omega) only[Qn]
       refine Ev.bind0 (Xj _ _) ((Ev.pure _).eq ?_)
       simp only[orI]
       split
       ·assumption
       ·rfl
    ·rw[Ub h3]
     simp only[Xp h3]
     exact Ev.pure _
   ·rw[Ub h2]
    simp only[Xp h2]
    exact Ev.pure _
  ·rw[Ub h1]
   simp only[Xp h1]
   exact Ev.pure _
 ·unfold Z122.F
  exact Ev.bind0 (GP a) (Ev.bind0 (GP b) (Ev.bind n2 (Ev.bind d2 (Ev.bind x2 (Ev.bind y2 (Ev.bind c2 (Ev.bind0 (DG _ _) (Ev.bind0 (Xi _ _) (Ev.bind (Q6o _ (by simp)) (Ev.pure _))))))))))
end Go.Proofs.YtpmlmdfbhmgikaaGreatDoor
end
section
/- Sorting of short lists by insertion. -/
namespace Go.Proofs.YtpmlmdfbhmgikaaGreatDoor
open Go.Gx
def Kz (lt:ByteArray->ByteArray->Bool)(x:ByteArray)(out:List ByteArray):Nat->Nat
 |0=>0
 |k+1=>bif lt x (out.getD k ⟨#[]⟩)then Kz lt x out k else k+1
theorem Q3n (lt:ByteArray->ByteArray->Bool)(x:ByteArray)(out:List ByteArray):∀k,Kz lt x out k<=k
 |0=>Nat.le_refl _
 |k+1=>by
  have:=Q3n lt x out k
  unfold Kz
  cases lt x (out.getD k ⟨#[]⟩)<;>simp only[cond_true,cond_false]<;>omega
def at_ (x:ByteArray)(out rest:List ByteArray)(j:Nat):List ByteArray:=out.take j++x::(out.drop j++rest)
def Ur (lt:ByteArray->ByteArray->Bool)(out:List ByteArray)(x:ByteArray):List ByteArray:=out.take (Kz lt x out out.length)++x::out.drop (Kz lt x out out.length)
def DI (lt:ByteArray->ByteArray->Bool)(xs:List ByteArray):List ByteArray:=xs.foldl (Ur lt) []
theorem Q1j (lt:ByteArray->ByteArray->Bool)(out:List ByteArray)(x:ByteArray):(Ur lt out x).length=out.length+1:=by
 have:=Q3n lt x out out.length
 unfold Ur
 simp only[List.length_append,List.length_take,List.length_cons,List.length_drop]
 omega
theorem Q1k {lt:ByteArray->ByteArray->Bool}{out:List ByteArray}{x y:ByteArray}(h:y∈Ur lt out x):y=x\/y∈out:=by
 unfold Ur at h
 simp only[List.mem_append,List.mem_cons]at h
 rcases h with h|h|h
 ·exact .inr (List.mem_of_mem_take h)
 ·exact .inl h
 ·exact .inr (List.mem_of_mem_drop h)
theorem Q4C (lt:ByteArray->ByteArray->Bool):∀(xs out:List ByteArray),(xs.foldl (Ur lt) out).length=out.length+xs.length
 |[],out=>rfl
 |x::xs,out=>by rw[List.foldl_cons,Q4C lt xs,Q1j,List.length_cons];omega
theorem Q4D {lt:ByteArray->ByteArray->Bool}:∀{xs out:List ByteArray} {y:ByteArray},y∈xs.foldl (Ur lt) out->y∈xs\/y∈out
 |[],out,y,h=>.inr h
 |x::xs,out,y,h=>by
  rcases Q4D (xs:=xs) h with h|h
  ·exact .inl (List.mem_cons_of_mem _ h)
  ·rcases Q1k h with h|h
   ·exact .inl (h▸List.mem_cons_self)
   ·exact .inr h
theorem Kw (lt:ByteArray->ByteArray->Bool)(xs:List ByteArray):(DI lt xs).length=xs.length:=by unfold DI;rw[Q4C];simp
theorem Q7G {lt:ByteArray->ByteArray->Bool}{xs:List ByteArray}{y:ByteArray}(h:y∈DI lt xs):y∈xs:=by
 rcases Q4D h with h|h
 ·exact h
 ·cases h
theorem Q1l (x:ByteArray)(out rest:List ByteArray)(j:Nat)(h:j<out.length) :
  at_ x out rest (j+1)=out.take j++out[j]::x::(out.drop (j+1)++rest)/\at_ x out rest j=out.take j++x::out[j]::(out.drop (j+1)++rest):=by
 unfold at_
 constructor
 ·rw[<-List.take_append_getElem h,List.append_assoc];rfl
 ·rw[List.drop_eq_getElem_cons h];rfl
theorem Qbe (x:ByteArray)(out rest:List ByteArray)(j:Nat)(h:j<=out.length):(at_ x out rest j).length=out.length+1+rest.length:=by
 unfold at_
 simp only[List.length_append,List.length_take,List.length_cons,List.length_drop]
 omega
theorem Qbf (x:ByteArray)(out rest:List ByteArray)(j:Nat)(h:j<out.length):(at_ x out rest (j+1)).getD (j+1) ⟨#[]⟩=x/\(at_ x out rest (j+1)).getD j ⟨#[]⟩=out[j]:=by
 have hl:(out.take j).length=j:=by rw[List.length_take];omega
 rw[(Q1l x out rest j h).1]
 constructor
 ·rw[List.getD_eq_getElem?_getD,List.getElem?_append_right (by omega),hl,show j+1-j=1 by omega];rfl
 ·rw[List.getD_eq_getElem?_getD,List.getElem?_append_right (by omega),hl,Nat.sub_self];rfl
theorem Qal (x:ByteArray)(out rest:List ByteArray)(j:Nat)(h:j<out.length):((at_ x out rest (j+1)).set (j+1) out[j]).set j x=at_ x out rest j:=by
 have hl:(out.take j).length=j:=by rw[List.length_take];omega
 rw[(Q1l x out rest j h).1,(Q1l x out rest j h).2,List.set_append_right _ _ (by omega),hl,show j+1-j=1 by omega,List.set_append_right _ _ (by omega),hl,Nat.sub_self]
 rfl
theorem Q4E (l:Library)(lt:ByteArray->ByteArray->Bool)(x:ByteArray)(out rest:List ByteArray)(b i:Int)(hl:out.length+rest.length<=100)(hC:∀y∈out,∃c:Int,Ev (λk=>Z78.F k x y l) c/\decide (c<0)=lt x y) :
  ∀j:Nat,j<=out.length->Ev (λk=>Z8.l2 k (at_ x out rest j) 0 b l i j) (at_ x out rest (Kz lt x out j),0,b,l,i)
 |0,hj=>by
  refine Ev.step (λk=>by rw[Z8.l2]) ?_
  simp(disch:=omega) only[Qn]
  exact Ev.pure _
 |j+1,hj=>by
  have ih:=Q4E l lt x out rest b i hl hC j (by omega)
  have hlen:=Qbe x out rest (j+1) (by omega)
  obtain⟨g1,g2⟩:=Qbf x out rest j (by omega)
  obtain⟨c,c1,c2⟩:=hC out[j] (List.getElem_mem (by omega))
  have hj1:IntKind.wrap .i64 (((j+1:Nat):Int)-1)=(j:Int):=by rw[wrap_in (by omega) (by omega)];omega
  refine Ev.step (λk=>by rw[Z8.l2]) ?_
  rw[hj1]
  simp(disch:=omega) only[Qc,Int.toNat_natCast,g1,g2]
  refine Ev.bind c1 ?_
  unfold Kz
  rw[getD_at (show j<out.length by omega),c2]
  cases lt x out[j]with
  |false=>exact Ev.pure _
  |true=>
   simp(disch:=omega) only[cond_true,Qc,List.length_set,Qal x out rest j (by omega)]
   exact ih
theorem Q4F (l:Library)(lt:ByteArray->ByteArray->Bool)(keys:List ByteArray)(hk:keys.length<=100)(hC:∀x∈keys,∀y∈keys,∃c:Int,Ev (λk=>Z78.F k x y l) c/\decide (c<0)=lt x y) :
  ∀n i:Nat,i+n=keys.length->∀out:List ByteArray,out.length=i->(∀y∈out,y∈keys)->Ev (λk=>Z8.l0 k (out++keys.drop i) 0 keys.length l i) ((keys.drop i).foldl (Ur lt) out)
 |0,i,h,out,ho,hm=>by
  refine Ev.step (λk=>by rw[Z8.l0]) ?_
  simp(disch:=omega) only[Qn]
  rw[List.drop_eq_nil_of_le (by omega),List.append_nil]
  exact Ev.pure _
 |n+1,i,h,out,ho,hm=>by
  have hi:i<keys.length:=by omega
  have hd:keys.drop i=keys[i]::keys.drop (i+1):=List.drop_eq_getElem_cons hi
  have hx:keys[i]∈keys:=List.getElem_mem hi
  have h2:=Q4E l lt keys[i] out (keys.drop (i+1)) keys.length i (by rw[List.length_drop];omega) (λy hy=>hC _ hx _ (hm y hy)) out.length (Nat.le_refl _)
  have e1:at_ keys[i] out (keys.drop (i+1)) out.length=out++keys.drop i:=by unfold at_;rw[List.take_length,List.drop_length,hd];rfl
  have e2:at_ keys[i] out (keys.drop (i+1)) (Kz lt keys[i] out out.length)=Ur lt out keys[i]++keys.drop (i+1):=by unfold at_ Ur;rw[List.append_assoc];rfl
  rw[e1,e2,ho]at h2
  have ih:=Q4F l lt keys hk hC n (i+1) (by omega) (Ur lt out keys[i]) (by rw[Q1j,ho]) (λy hy=>by
   rcases Q1k hy with h|h
   ·exact h▸hx
   ·exact hm y h)
  refine Ev.step (λk=>by rw[Z8.l0]) ?_
  simp(disch:=omega) only[Qc]
  refine Ev.bind h2 ?_
  simp(disch:=omega) only[wrap_in,ho]
  have e3:(keys.drop i).foldl (Ur lt) out=(keys.drop (i+1)).foldl (Ur lt) (Ur lt out keys[i]):=by rw[hd,List.foldl_cons]
  rw[e3]
  exact ih
theorem Q9r (l:Library)(lt:ByteArray->ByteArray->Bool)(keys:List ByteArray)(hk:keys.length<=100)(hC:∀x∈keys,∀y∈keys,∃c:Int,Ev (λk=>Z78.F k x y l) c/\decide (c<0)=lt x y):Ev (λk=>Z8.F k keys 0 keys.length l) (DI lt keys):=by
 unfold Z8.F
 have h:Ev (λk=>Z8.l0 k keys 0 keys.length l (1:Nat)) (DI lt keys):=by
  cases keys with
  |nil=>
   refine Ev.step (λk=>by rw[Z8.l0]) ?_
   simp(disch:=simp) only[Qn]
   exact Ev.pure _
  |cons x r=>
   have:=Q4F l lt (x::r) hk hC r.length 1 (by simp;omega) [x] rfl (λy hy=>by simp at hy;exact hy▸List.mem_cons_self)
   exact this
 refine Ev.bind h ?_
 rw[Kw,Nat.beq_refl]
 exact Ev.pure _
theorem Q6x (l:Library)(lt:ByteArray->ByteArray->Bool)(keys out:List ByteArray)(i:Nat)(hi:i<keys.length)(ho:out.length<=100)(hk:keys.length<=100)(hl:l.entries.length<=8)
  (hC:∀y∈out,∃(p q c:Int),0<=p/\p<l.entries.length/\0<=q/\q<l.entries.length/\Ev (λk=>Z1.F k l keys[i]) p/\Ev (λk=>Z1.F k l y) q/\Ev (λk=>Z79.F k (l.entries.getD p.toNat (Q5 .entry)) (l.entries.getD q.toNat (Q5 .entry))) c/\decide (c<0)=lt keys[i] y) :
  ∀j:Nat,j<=out.length->Ev (λk=>Z9.l2 k keys l out i j) (keys,l,out,(i:Int),((Kz lt keys[i] out j:Nat):Int))
 |0,hj=>by
  refine Ev.step (λk=>by rw[Z9.l2]) ?_
  simp(disch:=omega) only[Qn]
  exact Ev.pure _
 |j+1,hj=>by
  have ih:=Q6x l lt keys out i hi ho hk hl hC j (by omega)
  obtain⟨p,q,c,p0,p1,q0,q1,e1,e2,e3,e4⟩:=hC out[j] (List.getElem_mem (by omega))
  have hj1:IntKind.wrap .i64 (((j+1:Nat):Int)-1)=(j:Int):=by rw[wrap_in (by omega) (by omega)];omega
  refine Ev.step (λk=>by rw[Z9.l2]) ?_
  rw[hj1]
  simp(disch:=omega) only[Qc,Int.toNat_natCast,getD_at hi]
  refine Ev.bind e1 ?_
  simp(disch:=omega) only[Qc,getD_at (show j<out.length by omega)]
  refine Ev.bind e2 ?_
  simp(disch:=omega) only[Qc]
  refine Ev.bind e3 ?_
  unfold Kz
  rw[getD_at (show j<out.length by omega),e4]
  cases lt keys[i] out[j]with
  |false=>exact Ev.pure _
  |true=>exact ih
theorem Q6y (l:Library)(lt:ByteArray->ByteArray->Bool)(keys:List ByteArray)(hk:keys.length<=100)(hl:l.entries.length<=8)
  (hC:∀x∈keys,∀y∈keys,∃(p q c:Int),0<=p/\p<l.entries.length/\0<=q/\q<l.entries.length/\Ev (λk=>Z1.F k l x) p/\Ev (λk=>Z1.F k l y) q/\Ev (λk=>Z79.F k (l.entries.getD p.toNat (Q5 .entry)) (l.entries.getD q.toNat (Q5 .entry))) c/\decide (c<0)=lt x y) :
  ∀n i:Nat,i+n=keys.length->∀out:List ByteArray,out.length=i->(∀y∈out,y∈keys)->Ev (λk=>Z9.l0 k keys l out i) ((keys.drop i).foldl (Ur lt) out)
 |0,i,h,out,ho,hm=>by
  refine Ev.step (λk=>by rw[Z9.l0]) ?_
  simp(disch:=omega) only[Qn]
  rw[List.drop_eq_nil_of_le (by omega)]
  exact Ev.pure _
 |n+1,i,h,out,ho,hm=>by
  have hi:i<keys.length:=by omega
  have hd:keys.drop i=keys[i]::keys.drop (i+1):=List.drop_eq_getElem_cons hi
  have hx:keys[i]∈keys:=List.getElem_mem hi
  have h2:=Q6x l lt keys out i hi (by omega) hk hl (λy hy=>hC _ hx _ (hm y hy)) out.length (Nat.le_refl _)
  have hp:=Q3n lt keys[i] out out.length
  have ih:=Q6y l lt keys hk hl hC n (i+1) (by omega) (Ur lt out keys[i]) (by rw[Q1j,ho]) (λy hy=>by
   rcases Q1k hy with h|h
   ·exact h▸hx
   ·exact hm y h)
  refine Ev.step (λk=>by rw[Z9.l0]) ?_
  simp(disch:=omega) only[Qc]
  refine Ev.bind h2 ?_
  have r1:room (([]:List ByteArray).length+(out.take (Kz lt keys[i] out out.length)).length) .str=true:=Xf (by simp only[List.length_nil,List.length_take];omega)
  have r2:room ((([]:List ByteArray)++out.take (Kz lt keys[i] out out.length)).length+([keys[i]]:List ByteArray).length) .str=true:=Xf (by simp only[List.length_append,List.length_nil,List.length_take,List.length_singleton];omega)
  have r3:room (((([]:List ByteArray)++out.take (Kz lt keys[i] out out.length))++([keys[i]]:List ByteArray)).length+(out.drop (Kz lt keys[i] out out.length)).length) .str=true:=Xf (by simp only[List.length_append,List.length_nil,List.length_take,List.length_singleton,List.length_drop];omega)
  have e:((([]:List ByteArray)++out.take (Kz lt keys[i] out out.length))++([keys[i]]:List ByteArray))++out.drop (Kz lt keys[i] out out.length)=Ur lt out keys[i]:=by unfold Ur;simp
  simp(disch:=omega) only[Qc,Int.toNat_natCast,getD_at hi,r1,r2,r3,cond_true,e,wrap_in]
  have e3:(keys.drop i).foldl (Ur lt) out=(keys.drop (i+1)).foldl (Ur lt) (Ur lt out keys[i]):=by rw[hd,List.foldl_cons]
  rw[e3]
  exact ih
end Go.Proofs.YtpmlmdfbhmgikaaGreatDoor
end
section
/- Keys of a library: found,different,sorted. -/
namespace Go.Proofs.YtpmlmdfbhmgikaaGreatDoor
open Go.Gx
theorem QaL (xs:List ByteArray)(hl:xs.length<=1048576)(x:ByteArray):∀n i:Nat,i+n=xs.length->∃r:Int,-1<=r/\r<xs.length/\Ev (λk=>Z37.l0 k xs x xs.length i) (if r<0 then .inr ()else .inl r)/\
  (r<0->∀j,i<=j->(h:j<xs.length)->xs[j]≠x)/\(0<=r->x∈xs)
 |0,i,h=>by
  refine⟨-1,by omega,by omega,Ev.step (λk=>by rw[Z37.l0]) ?_,λ_ j h1 h2=>by omega,λh=>by omega⟩
  simp(disch:=omega) only[Qn];exact Ev.pure _
 |n+1,i,h=>by
  have hi:i<xs.length:=by omega
  cases hb:Qo x xs[i]with
  |true=>
   have e:=JH.1 hb
   refine⟨(i:Int),by omega,by omega,Ev.step (λk=>by rw[Z37.l0]) ?_,λh=>by omega,λ_=>e▸List.getElem_mem hi⟩
   simp(disch:=omega) only[Qc,Int.toNat_natCast,getD_at hi,hb,cond_true]
   rw[if_neg (by omega)]
   exact Ev.pure _
  |false=>
   have hne:xs[i]≠x:=λe=>by rw[JH.2 e.symm]at hb;cases hb
   obtain⟨r,r0,r1,k1,k3,k4⟩:=QaL xs hl x n (i+1) (by omega)
   refine⟨r,r0,r1,Ev.step (λk=>by rw[Z37.l0]) ?_,λh j h1 h2=>?_,k4⟩
   ·simp(disch:=omega) only[Qc,Int.toNat_natCast,getD_at hi,hb,cond_false,wrap_in]
    exact k1
   ·by_cases e:j=i
    ·subst e;exact hne
    ·exact k3 h j (by omega) h2
theorem Qam (xs:List ByteArray)(hl:xs.length<=1048576)(x:ByteArray):∃r:Int,-1<=r/\r<xs.length/\Ev (λk=>Z37.F k xs x) r/\(r<0->x ∉ xs)/\(0<=r->x∈xs):=by
 obtain⟨r,r0,r1,k1,k3,k4⟩:=QaL xs hl x xs.length 0 (by omega)
 refine⟨r,r0,r1,?_,λh hx=>?_,k4⟩
 ·unfold Z37.F
  by_cases h:r<0
  ·rw[if_pos h]at k1
   exact Ev.bind k1 ((Ev.pure _).eq (by omega))
  ·rw[if_neg h]at k1
   exact Ev.bind k1 (Ev.pure _)
 ·obtain⟨j,hj,e⟩:=List.getElem_of_mem hx
  exact k3 h j (Nat.zero_le _) hj e
theorem Q9s (l:Library)(keys:List ByteArray)(i:Nat)(hi:i<keys.length)(hl:keys.length<=1048576):∀n m:Nat,m+n=i->∃d:Bool,Ev (λk=>Z2.l2 k keys l i m) (if d=true then .inl false else .inr (keys,l,(i:Int)))/\(d=true ↔ keys[i]∈(keys.take i).drop m)
 |0,m,h=>by
  refine⟨false,Ev.step (λk=>by rw[Z2.l2]) ?_,?_⟩
  ·simp(disch:=omega) only[Qn];exact Ev.pure _
  ·rw[List.drop_eq_nil_of_le (by rw[List.length_take];omega)];simp
 |n+1,m,h=>by
  have hm:m<keys.length:=by omega
  have hd:(keys.take i).drop m=keys[m]::(keys.take i).drop (m+1):=by
   rw[List.drop_eq_getElem_cons (show m<(keys.take i).length by rw[List.length_take];omega),List.getElem_take]
  cases hb:Qo keys[m] keys[i]with
  |true=>
   refine⟨true,Ev.step (λk=>by rw[Z2.l2]) ?_,?_⟩
   ·simp(disch:=omega) only[Qc,Int.toNat_natCast,getD_at hm,getD_at hi,hb,cond_true]
    exact Ev.pure _
   ·rw[hd,<-JH.1 hb];simp
  |false=>
   have hne:keys[i]≠keys[m]:=λe=>by rw[JH.2 e.symm]at hb;cases hb
   obtain⟨d,d1,d2⟩:=Q9s l keys i hi hl n (m+1) (by omega)
   refine⟨d,Ev.step (λk=>by rw[Z2.l2]) ?_,?_⟩
   ·simp(disch:=omega) only[Qc,Int.toNat_natCast,getD_at hm,getD_at hi,hb,cond_false,wrap_in]
    exact d1
   ·rw[d2,hd];simp[hne]
theorem Q6z (l:Library)(hl:l.entries.length<=1048576)(keys:List ByteArray)(hk:keys.length<=1048576):∀n i:Nat,i+n=keys.length->
  ∃b:Bool,Ev (λk=>Z2.l0 k keys l i) (if b=true then .inr ()else .inl false)/\Ev (λk=>Z21.l0 k keys l keys keys.length i) (if b=true then .inr l else .inl false)/\
   (b=true->∀j,i<=j->(h:j<keys.length)->(∃p:Int,0<=p/\p<l.entries.length/\kAt l p=keys[j])/\keys[j] ∉ keys.take j)
 |0,i,h=>by
  refine⟨true,Ev.step (λk=>by rw[Z2.l0]) ?_,Ev.step (λk=>by rw[Z21.l0]) ?_,λ_ j h1 h2=>by omega⟩
  ·simp(disch:=omega) only[Qn];exact Ev.pure _
  ·simp(disch:=omega) only[Qn];exact Ev.pure _
 |n+1,i,h=>by
  have hi:i<keys.length:=by omega
  obtain⟨p,p1,p2,p3,p4,p5,_⟩:=Q4x l keys[i] hl
  by_cases hp:p<0
  ·refine⟨false,Ev.step (λk=>by rw[Z2.l0]) ?_,Ev.step (λk=>by rw[Z21.l0]) ?_,λh=>by cases h⟩
   ·simp(disch:=omega) only[Qc,Int.toNat_natCast,getD_at hi]
    refine Ev.bind p1 ?_
    simp(disch:=omega) only[Qc]
    exact Ev.pure _
   ·simp(disch:=omega) only[Qc,Int.toNat_natCast,getD_at hi]
    refine Ev.bind p2 ?_
    simp(disch:=omega) only[Qc]
    exact Ev.pure _
  ·obtain⟨d,d1,d2⟩:=Q9s l keys i hi hk i 0 (by omega)
   rw[List.drop_zero]at d2
   obtain⟨r,r0,r1,x1,x3,x4⟩:=Qam (keys.take i) (by rw[List.length_take];omega) keys[i]
   have hct:Ev (λk=>Z109.F k (keys.take i) keys[i]) d:=by
    unfold Z109.F
    refine Ev.bind x1 ((Ev.pure _).eq ?_)
    cases d with
    |true=>
     have:=d2.1 rfl
     exact decide_eq_true (by
      apply Classical.byContradiction
      intro hn
      exact x3 (by omega) this)
    |false=>exact decide_eq_false λhn=>by have:=d2.2 (x4 hn);cases this
   cases d with
   |true=>
    refine⟨false,Ev.step (λk=>by rw[Z2.l0]) ?_,Ev.step (λk=>by rw[Z21.l0]) ?_,λh=>by cases h⟩
    ·simp(disch:=omega) only[Qc,Int.toNat_natCast,getD_at hi]
     refine Ev.bind p1 ?_
     simp(disch:=omega) only[Qn]
     exact Ev.bind d1 (Ev.pure _)
    ·simp(disch:=omega) only[Qc,Int.toNat_natCast,getD_at hi]
     refine Ev.bind p2 ?_
     simp(disch:=omega) only[Qn,Qc]
     refine Ev.bind hct ?_
     exact Ev.pure _
   |false=>
    obtain⟨b,b1,b2,b3⟩:=Q6z l hl keys hk n (i+1) (by omega)
    refine⟨b,Ev.step (λk=>by rw[Z2.l0]) ?_,Ev.step (λk=>by rw[Z21.l0]) ?_,λhb j h1 h2=>?_⟩
    ·simp(disch:=omega) only[Qc,Int.toNat_natCast,getD_at hi]
     refine Ev.bind p1 ?_
     simp(disch:=omega) only[Qn]
     have d3:Ev (λk=>Z2.l2 k keys l i 0) (.inr (keys,l,(i:Int))):=d1
     refine Ev.bind d3 ?_
     show Ev (λk=>Z2.l0 k keys l (IntKind.wrap .i64 ((i:Int)+1))) _
     rw[wrap_in (by omega) (by omega)]
     exact b1
    ·simp(disch:=omega) only[Qc,Int.toNat_natCast,getD_at hi]
     refine Ev.bind p2 ?_
     simp(disch:=omega) only[Qn,Qc]
     refine Ev.bind hct ?_
     simp(disch:=omega) only[cond_false,wrap_in]
     exact b2
    ·by_cases e:j=i
     ·subst e
      exact⟨⟨p,by omega,p4,p5 (by omega)⟩,λhm=>by have:=d2.2 hm;cases this⟩
     ·exact b3 hb j (by omega) h2
theorem Q4G {α:Type}[DecidableEq α]:∀(xs ys:List α),xs.Nodup->(∀x∈xs,x∈ys)->xs.length<=ys.length
 |[],ys,_,_=>Nat.zero_le _
 |x::xs,ys,h,hm=>by
  rw[List.nodup_cons]at h
  have hx:=hm x List.mem_cons_self
  have:=Q4G xs (ys.erase x) h.2 λy hy=>(List.mem_erase_of_ne (λe=>h.1 (by rw[<-e];exact hy))).2 (hm y (List.mem_cons_of_mem _ hy))
  rw[List.length_erase_of_mem hx]at this
  have:=List.length_pos_of_mem hx
  rw[List.length_cons]
  omega
theorem Q5L:∀(xs:List ByteArray),(∀j,(h:j<xs.length)->xs[j] ∉ xs.take j)->xs.Nodup:=λxs h=>by
 rw[List.nodup_iff_pairwise_ne,List.pairwise_iff_getElem]
 intro i j hi hj hlt e
 refine h j hj ?_
 rw[<-e]
 exact List.mem_take_iff_getElem.2 ⟨i,by omega,rfl⟩
theorem Q1m (l:Library)(hs:JY l)(keys:List ByteArray)(hk:keys.length<=1048576):∃v:Bool,Ev (λk=>Z2.F k l keys) v/\Ev (λk=>Z21.F k l keys) v/\
  (v=true->DF l=true/\l.entries.length<=8/\keys.length<=8/\∀x∈keys,∃p:Int,0<=p/\p<l.entries.length/\Ev (λk=>Z1.F k l x) p/\Ev (λk=>Z60.F k l x) p):=by
 have hl:=KW hs
 have v1:=Q5E l hs
 have v2:=Q4t l hs
 obtain⟨b,b1,b2,b3⟩:=Q6z l hl keys hk keys.length 0 (by omega)
 refine⟨DF l&&b,?_,?_,λh=>?_⟩
 ·unfold Z2.F
  refine Ev.bind v1 ?_
  cases DF l with
  |false=>exact Ev.pure _
  |true=>cases b<;>exact Ev.bind b1 (Ev.pure _)
 ·unfold Z21.F
  cases b with
  |false=>exact Ev.bind b2 ((Ev.pure _).eq (by simp))
  |true=>exact Ev.bind b2 (Ev.bind v2 ((Ev.pure _).eq (by simp)))
 ·simp only[Bool.and_eq_true]at h
  obtain⟨h1,h2⟩:=h
  have b4:=b3 h2
  have hlen:=Q9g h1
  refine⟨h1,hlen,?_,λx hx=>?_⟩
  ·have:=@Q4G _ (λa b=>Classical.propDecidable (a=b)) keys (l.entries.map (·.key)) (Q5L keys λj h=>(b4 j (Nat.zero_le _) h).2) λx hx=>by
    obtain⟨j,hj,e⟩:=List.getElem_of_mem hx
    obtain⟨⟨p,p0,p1,p2⟩,_⟩:=b4 j (Nat.zero_le _) hj
    rw[<-e,<-p2]
    unfold kAt
    rw[getD_at (show p.toNat<l.entries.length by omega)]
    exact List.mem_map.2 ⟨_,List.getElem_mem _,rfl⟩
   rw[List.length_map]at this
   omega
  ·obtain⟨j,hj,e⟩:=List.getElem_of_mem hx
   obtain⟨⟨p,p0,p1,p2⟩,_⟩:=b4 j (Nat.zero_le _) hj
   obtain⟨q,q1,q2,q3,q4,q5,q6⟩:=Q4x l x hl
   refine⟨q,?_,q4,q1,q2⟩
   apply Classical.byContradiction
   intro hn
   refine q6 (by omega) p.toNat (by omega) ?_
   rw[<-e,<-p2]
   rfl
theorem Q9t:∀n:Fin 13,(Z115.F (IntKind.wrap .u64 (n.val:Int))).isSome=true:=by decide+kernel
theorem Qan {n:Nat}(h:n<=12):∃r,Z115.F (IntKind.wrap .u64 (n:Int))=some r:=by
 exact Option.isSome_iff_exists.1 (Q9t ⟨n,by omega⟩)
def Found (l:Library)(keys:List ByteArray):Prop:=∀x∈keys,∃p:Int,0<=p/\p<l.entries.length/\Ev (λk=>Z1.F k l x) p/\Ev (λk=>Z60.F k l x) p
theorem Qao (l:Library)(hs:JY l)(hv:DF l=true)(hl:l.entries.length<=8)(keys:List ByteArray)(hf:Found l keys):∃lt:ByteArray->ByteArray->Bool,
  (∀x∈keys,∀y∈keys,∃c:Int,Ev (λk=>Z78.F k x y l) c/\decide (c<0)=lt x y)/\
  (∀x∈keys,∀y∈keys,∃(p q c:Int),0<=p/\p<l.entries.length/\0<=q/\q<l.entries.length/\Ev (λk=>Z1.F k l x) p/\Ev (λk=>Z1.F k l y) q/\Ev (λk=>Z79.F k (l.entries.getD p.toNat (Q5 .entry)) (l.entries.getD q.toNat (Q5 .entry))) c/\decide (c<0)=lt x y):=by
 have hok:∀p:Int,0<=p->p<l.entries.length->EOk (l.entries.getD p.toNat (Q5 .entry)):=λp p0 p1=>by
  have hp:p.toNat<l.entries.length:=by omega
  have hb:=hv
  unfold DF at hb
  simp only[Bool.and_eq_true,List.all_eq_true]at hb
  have h1:=hb.1 p.toNat (List.mem_range'_1.2 ⟨Nat.zero_le _,by omega⟩)
  unfold okL at h1
  rw[Bool.and_eq_true]at h1
  rw[getD_at hp]at h1 ⊢
  exact Qbd (YW hs (List.getElem_mem hp)) h1.1
 have h:∀x y,∃c:Int,x∈keys->y∈keys->Ev (λk=>Z78.F k x y l) c/\∃(p q:Int),0<=p/\p<l.entries.length/\0<=q/\q<l.entries.length/\Ev (λk=>Z1.F k l x) p/\Ev (λk=>Z1.F k l y) q/\Ev (λk=>Z79.F k (l.entries.getD p.toNat (Q5 .entry)) (l.entries.getD q.toNat (Q5 .entry))) c:=λx y=>by
  by_cases hx:x∈keys
  ·by_cases hy:y∈keys
   ·obtain⟨p,p0,p1,p2,p3⟩:=hf x hx
    obtain⟨q,q0,q1,q2,q3⟩:=hf y hy
    obtain⟨c,c1,c2⟩:=Qak _ _ (hok p p0 p1) (hok q q0 q1)
    refine⟨c,λ_ _=>⟨?_,p,q,p0,p1,q0,q1,p2,q2,c1⟩⟩
    unfold Z78.F
    refine Ev.bind p3 ?_
    simp(disch:=omega) only[Qc]
    refine Ev.bind q3 ?_
    simp(disch:=omega) only[Qc]
    exact Ev.bind c2 (Ev.pure _)
   ·exact⟨0,λ_ h=>absurd h hy⟩
  ·exact⟨0,λh=>absurd h hx⟩
 refine⟨λx y=>decide (Classical.choose (h x y)<0),λx hx y hy=>?_,λx hx y hy=>?_⟩
 ·exact⟨_,(Classical.choose_spec (h x y) hx hy).1,rfl⟩
 ·obtain⟨p,q,h1,h2,h3,h4,h5,h6,h7⟩:=(Classical.choose_spec (h x y) hx hy).2
  exact⟨p,q,_,h1,h2,h3,h4,h5,h6,h7,rfl⟩
end Go.Proofs.YtpmlmdfbhmgikaaGreatDoor
end
