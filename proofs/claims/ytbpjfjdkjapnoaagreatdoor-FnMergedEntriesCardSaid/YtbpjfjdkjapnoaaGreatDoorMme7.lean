/- Plain laws: bytes,pieces,edges of a text;no function of the program. -/
import Derived.Test.YtbpjfjdkjapnoaaGreatDoorMme6
import Derived.Test.YtbpjfjdkjapnoaaGreatDoorMme4
import Derived.Lib.IndexBytes
import Derived.Lib.IndexLaws
import Derived.Lib.CountLaws
import Derived.Lib.Split
import Derived.Lib.SplitLaws
import Derived.Lib.TrimByte
import Derived.Lib.Join
import Derived.Lib.ItoaNum
set_option linter.unusedVariables false
set_option linter.unusedSimpArgs false
set_option maxRecDepth 100000
section
namespace Go.Proofs.YtbpjfjdkjapnoaaGreatDoor
open Go.Gx
def Z74.F (k:Nat)(a0:Entry)(a1:Entry):Option (Entry):=(Z48.F k a0).bind λr1=>bif ((a0.authors.length:Int)==0)then((Z7.F k a1.authors).bind λr2=>bif ((a0.editors.length:Int)==0)then((Z7.F k a1.editors).bind λr3=>(Z49.F a0.title a1.title).bind λr4=>(Z49.F a0.container a1.container).bind λr5=>(Z49.F a0.publisher a1.publisher).bind λr6=>(Z49.F a0.pages a1.pages).bind λr7=>bif (a0.date.y==0)then(bif (a0.volume==0)then(bif (Q3 a0.cross (⟨#[]⟩:ByteArray))then(bif (!Q3 a1.cross a0.key)then(some (⟨r1.key,r1.kind,r2,r3,r4,r5,r6,a1.date,a1.volume,r7,a1.cross⟩:Entry))else(some (⟨r1.key,r1.kind,r2,r3,r4,r5,r6,a1.date,a1.volume,r7,r1.cross⟩:Entry)))else(some (⟨r1.key,r1.kind,r2,r3,r4,r5,r6,a1.date,a1.volume,r7,r1.cross⟩:Entry)))else(bif (Q3 a0.cross (⟨#[]⟩:ByteArray))then(bif (!Q3 a1.cross a0.key)then(some (⟨r1.key,r1.kind,r2,r3,r4,r5,r6,a1.date,r1.volume,r7,a1.cross⟩:Entry))else(some (⟨r1.key,r1.kind,r2,r3,r4,r5,r6,a1.date,r1.volume,r7,r1.cross⟩:Entry)))else(some (⟨r1.key,r1.kind,r2,r3,r4,r5,r6,a1.date,r1.volume,r7,r1.cross⟩:Entry))))else(bif (a0.volume==0)then(bif (Q3 a0.cross (⟨#[]⟩:ByteArray))then(bif (!Q3 a1.cross a0.key)then(some (⟨r1.key,r1.kind,r2,r3,r4,r5,r6,r1.date,a1.volume,r7,a1.cross⟩:Entry))else(some (⟨r1.key,r1.kind,r2,r3,r4,r5,r6,r1.date,a1.volume,r7,r1.cross⟩:Entry)))else(some (⟨r1.key,r1.kind,r2,r3,r4,r5,r6,r1.date,a1.volume,r7,r1.cross⟩:Entry)))else(bif (Q3 a0.cross (⟨#[]⟩:ByteArray))then(bif (!Q3 a1.cross a0.key)then(some (⟨r1.key,r1.kind,r2,r3,r4,r5,r6,r1.date,r1.volume,r7,a1.cross⟩:Entry))else(some (⟨r1.key,r1.kind,r2,r3,r4,r5,r6,r1.date,r1.volume,r7,r1.cross⟩:Entry)))else(some (⟨r1.key,r1.kind,r2,r3,r4,r5,r6,r1.date,r1.volume,r7,r1.cross⟩:Entry)))))else((Z49.F a0.title a1.title).bind λr8=>(Z49.F a0.container a1.container).bind λr9=>(Z49.F a0.publisher a1.publisher).bind λr10=>(Z49.F a0.pages a1.pages).bind λr11=>bif (a0.date.y==0)then(bif (a0.volume==0)then(bif (Q3 a0.cross (⟨#[]⟩:ByteArray))then(bif (!Q3 a1.cross a0.key)then(some (⟨r1.key,r1.kind,r2,r1.editors,r8,r9,r10,a1.date,a1.volume,r11,a1.cross⟩:Entry))else(some (⟨r1.key,r1.kind,r2,r1.editors,r8,r9,r10,a1.date,a1.volume,r11,r1.cross⟩:Entry)))else(some (⟨r1.key,r1.kind,r2,r1.editors,r8,r9,r10,a1.date,a1.volume,r11,r1.cross⟩:Entry)))else(bif (Q3 a0.cross (⟨#[]⟩:ByteArray))then(bif (!Q3 a1.cross a0.key)then(some (⟨r1.key,r1.kind,r2,r1.editors,r8,r9,r10,a1.date,r1.volume,r11,a1.cross⟩:Entry))else(some (⟨r1.key,r1.kind,r2,r1.editors,r8,r9,r10,a1.date,r1.volume,r11,r1.cross⟩:Entry)))else(some (⟨r1.key,r1.kind,r2,r1.editors,r8,r9,r10,a1.date,r1.volume,r11,r1.cross⟩:Entry))))else(bif (a0.volume==0)then(bif (Q3 a0.cross (⟨#[]⟩:ByteArray))then(bif (!Q3 a1.cross a0.key)then(some (⟨r1.key,r1.kind,r2,r1.editors,r8,r9,r10,r1.date,a1.volume,r11,a1.cross⟩:Entry))else(some (⟨r1.key,r1.kind,r2,r1.editors,r8,r9,r10,r1.date,a1.volume,r11,r1.cross⟩:Entry)))else(some (⟨r1.key,r1.kind,r2,r1.editors,r8,r9,r10,r1.date,a1.volume,r11,r1.cross⟩:Entry)))else(bif (Q3 a0.cross (⟨#[]⟩:ByteArray))then(bif (!Q3 a1.cross a0.key)then(some (⟨r1.key,r1.kind,r2,r1.editors,r8,r9,r10,r1.date,r1.volume,r11,a1.cross⟩:Entry))else(some (⟨r1.key,r1.kind,r2,r1.editors,r8,r9,r10,r1.date,r1.volume,r11,r1.cross⟩:Entry)))else(some (⟨r1.key,r1.kind,r2,r1.editors,r8,r9,r10,r1.date,r1.volume,r11,r1.cross⟩:Entry))))))else(bif ((a0.editors.length:Int)==0)then((Z7.F k a1.editors).bind λr12=>(Z49.F a0.title a1.title).bind λr13=>(Z49.F a0.container a1.container).bind λr14=>(Z49.F a0.publisher a1.publisher).bind λr15=>(Z49.F a0.pages a1.pages).bind λr16=>bif (a0.date.y==0)then(bif (a0.volume==0)then(bif (Q3 a0.cross (⟨#[]⟩:ByteArray))then(bif (!Q3 a1.cross a0.key)then(some (⟨r1.key,r1.kind,r1.authors,r12,r13,r14,r15,a1.date,a1.volume,r16,a1.cross⟩:Entry))else(some (⟨r1.key,r1.kind,r1.authors,r12,r13,r14,r15,a1.date,a1.volume,r16,r1.cross⟩:Entry)))else(some (⟨r1.key,r1.kind,r1.authors,r12,r13,r14,r15,a1.date,a1.volume,r16,r1.cross⟩:Entry)))else(bif (Q3 a0.cross (⟨#[]⟩:ByteArray))then(bif (!Q3 a1.cross a0.key)then(some (⟨r1.key,r1.kind,r1.authors,r12,r13,r14,r15,a1.date,r1.volume,r16,a1.cross⟩:Entry))else(some (⟨r1.key,r1.kind,r1.authors,r12,r13,r14,r15,a1.date,r1.volume,r16,r1.cross⟩:Entry)))else(some (⟨r1.key,r1.kind,r1.authors,r12,r13,r14,r15,a1.date,r1.volume,r16,r1.cross⟩:Entry))))else(bif (a0.volume==0)then(bif (Q3 a0.cross (⟨#[]⟩:ByteArray))then(bif (!Q3 a1.cross a0.key)then(some (⟨r1.key,r1.kind,r1.authors,r12,r13,r14,r15,r1.date,a1.volume,r16,a1.cross⟩:Entry))else(some (⟨r1.key,r1.kind,r1.authors,r12,r13,r14,r15,r1.date,a1.volume,r16,r1.cross⟩:Entry)))else(some (⟨r1.key,r1.kind,r1.authors,r12,r13,r14,r15,r1.date,a1.volume,r16,r1.cross⟩:Entry)))else(bif (Q3 a0.cross (⟨#[]⟩:ByteArray))then(bif (!Q3 a1.cross a0.key)then(some (⟨r1.key,r1.kind,r1.authors,r12,r13,r14,r15,r1.date,r1.volume,r16,a1.cross⟩:Entry))else(some (⟨r1.key,r1.kind,r1.authors,r12,r13,r14,r15,r1.date,r1.volume,r16,r1.cross⟩:Entry)))else(some (⟨r1.key,r1.kind,r1.authors,r12,r13,r14,r15,r1.date,r1.volume,r16,r1.cross⟩:Entry)))))else((Z49.F a0.title a1.title).bind λr17=>(Z49.F a0.container a1.container).bind λr18=>(Z49.F a0.publisher a1.publisher).bind λr19=>(Z49.F a0.pages a1.pages).bind λr20=>bif (a0.date.y==0)then(bif (a0.volume==0)then(bif (Q3 a0.cross (⟨#[]⟩:ByteArray))then(bif (!Q3 a1.cross a0.key)then(some (⟨r1.key,r1.kind,r1.authors,r1.editors,r17,r18,r19,a1.date,a1.volume,r20,a1.cross⟩:Entry))else(some (⟨r1.key,r1.kind,r1.authors,r1.editors,r17,r18,r19,a1.date,a1.volume,r20,r1.cross⟩:Entry)))else(some (⟨r1.key,r1.kind,r1.authors,r1.editors,r17,r18,r19,a1.date,a1.volume,r20,r1.cross⟩:Entry)))else(bif (Q3 a0.cross (⟨#[]⟩:ByteArray))then(bif (!Q3 a1.cross a0.key)then(some (⟨r1.key,r1.kind,r1.authors,r1.editors,r17,r18,r19,a1.date,r1.volume,r20,a1.cross⟩:Entry))else(some (⟨r1.key,r1.kind,r1.authors,r1.editors,r17,r18,r19,a1.date,r1.volume,r20,r1.cross⟩:Entry)))else(some (⟨r1.key,r1.kind,r1.authors,r1.editors,r17,r18,r19,a1.date,r1.volume,r20,r1.cross⟩:Entry))))else(bif (a0.volume==0)then(bif (Q3 a0.cross (⟨#[]⟩:ByteArray))then(bif (!Q3 a1.cross a0.key)then(some (⟨r1.key,r1.kind,r1.authors,r1.editors,r17,r18,r19,r1.date,a1.volume,r20,a1.cross⟩:Entry))else(some (⟨r1.key,r1.kind,r1.authors,r1.editors,r17,r18,r19,r1.date,a1.volume,r20,r1.cross⟩:Entry)))else(some (⟨r1.key,r1.kind,r1.authors,r1.editors,r17,r18,r19,r1.date,a1.volume,r20,r1.cross⟩:Entry)))else(bif (Q3 a0.cross (⟨#[]⟩:ByteArray))then(bif (!Q3 a1.cross a0.key)then(some (⟨r1.key,r1.kind,r1.authors,r1.editors,r17,r18,r19,r1.date,r1.volume,r20,a1.cross⟩:Entry))else(some (⟨r1.key,r1.kind,r1.authors,r1.editors,r17,r18,r19,r1.date,r1.volume,r20,r1.cross⟩:Entry)))else(some (⟨r1.key,r1.kind,r1.authors,r1.editors,r17,r18,r19,r1.date,r1.volume,r20,r1.cross⟩:Entry))))))
def Z74.C (k:Nat):Cal->Option CArm:=λc=>match c with
 |.f 41=>some (.p [.entry] _ (λx=>Z48.F k x.1) (λr=>(.t .entry r)))
 |.f 61=>some (.p [(.sl .name)] _ (λx=>Z7.F k x.1) (λr=>(.fr 84 .name r)))
 |.f 62=>some (.p [.str,.str] _ (λx=>Z49.F x.1 x.2.1) (λr=>(.t .str r)))
 |_=>none
theorem Z74.run (k:Nat)(a0:Entry)(a1:Entry):Qq Q0 (Qf (Z74.C k)) (Qe 75 0 (λ_=>none)) Tryz.f24 [.t .entry a0,.t .entry a1] (Q6 (.t .entry))=Z74.F k a0 a1:=by kernel_rfl
theorem Z74.G (hE:EnvOk Tryz.prog Q0)(pv:Nat->Value)(k:Nat):∀cal A,Z74.C k cal=some A->Qc Tryz.prog Q0 pv cal A:=by
 intro cal A h
 unfold Z74.C at h
 split at h
 ·cases h;exact λx y hy=>Z48.good hE pv k x.1 hy
 ·cases h;exact λx y hy=>Z7.good hE pv k x.1 hy
 ·cases h;exact λx y hy=>Z49.good hE pv x.1 x.2.1 hy
 ·cases h
theorem Z74.good (hE:EnvOk Tryz.prog Q0)(pv:Nat->Value)(k:Nat)(a0:Entry)(a1:Entry){y:_}(h:Z74.F k a0 a1=some y):Qb Tryz.prog Q0 pv (.f 24) (Q7 [.entry,.entry] (a0,a1,())) (.t .entry y):=
 Q8 hE (Z74.G hE pv k) (f:=24) (fn:=Tryz.f24) (by kernel_rfl) rfl (by kernel_rfl) (by kernel_rfl) ((Z74.run k a0 a1).trans h) (λr hr=>Q1 hr)
def Z99.F (k:Nat)(a0:Entry)(a1:Entry):Option (Entry×Bool):=(Z53.F k a0).bind λr1=>bif (!r1)then(some ((⟨(⟨#[]⟩:ByteArray),0,([]:List Name),([]:List Name),(⟨#[]⟩:ByteArray),(⟨#[]⟩:ByteArray),(⟨#[]⟩:ByteArray),(Q2 .date),0,(⟨#[]⟩:ByteArray),(⟨#[]⟩:ByteArray)⟩:Entry),false))else((Z53.F k a1).bind λr2=>bif (!r2)then(some ((⟨(⟨#[]⟩:ByteArray),0,([]:List Name),([]:List Name),(⟨#[]⟩:ByteArray),(⟨#[]⟩:ByteArray),(⟨#[]⟩:ByteArray),(Q2 .date),0,(⟨#[]⟩:ByteArray),(⟨#[]⟩:ByteArray)⟩:Entry),false))else((Z74.F k a0 a1).bind λr3=>some (r3,true)))
def Z99.C (k:Nat):Cal->Option CArm:=λc=>match c with
 |.f 23=>some (.p [.entry] _ (λx=>Z53.F k x.1) (λr=>(.t .bool r)))
 |.f 24=>some (.p [.entry,.entry] _ (λx=>Z74.F k x.1 x.2.1) (λr=>(.t .entry r)))
 |_=>none
theorem Z99.run (k:Nat)(a0:Entry)(a1:Entry):Qq Q0 (Qf (Z99.C k)) (Qe 18 0 (λ_=>none)) Tryz.f7 [.t .entry a0,.t .entry a1] (U6 (.t .entry) (.t .bool))=Z99.F k a0 a1:=by kernel_rfl
theorem Z99.G (hE:EnvOk Tryz.prog Q0)(pv:Nat->Value)(k:Nat):∀cal A,Z99.C k cal=some A->Qc Tryz.prog Q0 pv cal A:=by
 intro cal A h
 unfold Z99.C at h
 split at h
 ·cases h;exact λx y hy=>Z53.good hE pv k x.1 hy
 ·cases h;exact λx y hy=>Z74.good hE pv k x.1 x.2.1 hy
 ·cases h
theorem Z99.good (hE:EnvOk Tryz.prog Q0)(pv:Nat->Value)(k:Nat)(a0:Entry)(a1:Entry){y:_}(h:Z99.F k a0 a1=some y):Qb Tryz.prog Q0 pv (.f 7) (Q7 [.entry,.entry] (a0,a1,())) (.tup [.t .entry y.1,.t .bool y.2]):=
 Q8 hE (Z99.G hE pv k) (f:=7) (fn:=Tryz.f7) (by kernel_rfl) rfl (by kernel_rfl) (by kernel_rfl) ((Z99.run k a0 a1).trans h) (λr hr=>Yx hr)
def Z17.l0:Nat->(List ByteArray)->(List ByteArray)->Int->Option (Sum Bool Unit)
 |0,_,_,_=>none
 |k+1,x0,x1,x5=>bif (decide (x5<(x0.length:Int)))then(bif decide (0<=x5)then(bif decide (x5<(x0.length:Int))then(bif decide (0<=x5)then(bif decide (x5<(x1.length:Int))then(bif (!Q3 (x0.getD (x5:Int).toNat (⟨#[]⟩:ByteArray)) (x1.getD (x5:Int).toNat (⟨#[]⟩:ByteArray)))then(some (.inl false))else(Z17.l0 k x0 x1 (IntKind.wrap .i64 (x5+1))))else none)else none)else none)else none)else(some (.inr ()))
def Z17.F (k:Nat)(a0:List ByteArray)(a1:List ByteArray):Option (Bool):=bif ((a0.length:Int) != (a1.length:Int))then(some false)else((Z17.l0 k a0 a1 0).bind λy1=>match y1 with|.inl z2=>some z2|.inr z2=>some true)
def Z17.C (k:Nat):Cal->Option CArm:=λc=>match c with
 |_=>none
def Z17.sp0:List Sp:=[.t 0 (.sl .str),.t 1 (.sl .str),.t 5 (.int .i64)]
def Z17.sp0_0:List Sp:=[.t 4 .bool]
def Z17.sp0_1:List Sp:=[]
def Z17.A0:LArm:=.two Z17.sp0 Z17.sp0_0 Z17.sp0_1 (Bool) (Unit) (λk x=>Z17.l0 k x.1 x.2.1 x.2.2.1) .ret (.exit 0) (λy=>(y,())) (λx=>x.1) (λy=>()) (λx=>())
def Z17.L:Nat->Option LArm:=λb=>match b with
 |0=>some Z17.A0
 |_=>none
theorem Z17.run (k:Nat)(a0:List ByteArray)(a1:List ByteArray):Qq Q0 (Qf (Z17.C k)) (Qe 26 k Z17.L) Tryz.f13 [.t (.sl .str) a0,.t (.sl .str) a1] (Q6 (.t .bool))=Z17.F k a0 a1:=by kernel_rfl
theorem Z17.step0 (k:Nat)(x0:List ByteArray)(x1:List ByteArray)(x5:Int):QN Q0 (Qf (Z17.C k)) (Qe 26 k Z17.L) 0 (Qm Tryz.f13 0) (J6 26 Z17.sp0 (x0,x1,x5,())) (Z17.A0.cont 26 k)=Z17.l0 (k+1) x0 x1 x5:=by kernel_rfl
theorem Z17.G (hE:EnvOk Tryz.prog Q0)(pv:Nat->Value)(k:Nat):∀cal A,Z17.C k cal=some A->Qc Tryz.prog Q0 pv cal A:=by
 intro cal A h
 unfold Z17.C at h
 cases h
theorem Z17.good (hE:EnvOk Tryz.prog Q0)(pv:Nat->Value)(k:Nat)(a0:List ByteArray)(a1:List ByteArray){y:_}(h:Z17.F k a0 a1=some y):Qb Tryz.prog Q0 pv (.f 13) (Q7 [(.sl .str),(.sl .str)] (a0,a1,())) (.t .bool y):=
 Qj hE (t:=Z17.C) k (λk _=>Z17.G hE pv k) (f:=13) (fn:=Tryz.f13) (by kernel_rfl) rfl (by kernel_rfl) (by kernel_rfl) (lt:=Z17.L) (by kernel_rfl) (λb A h=>by
  unfold Z17.L at h;split at h
  ·cases h;exact⟨by kernel_rfl,by kernel_rfl,by kernel_rfl,λ_=>rfl,λ_=>rfl,λ_=>rfl⟩
  ·cases h) (λb A h=>by
  unfold Z17.L at h;split at h
  ·cases h;exact λk x=>Z17.step0 k x.1 x.2.1 x.2.2.1
  ·cases h) ((Z17.run k a0 a1).trans h) (λr hr=>Q1 hr)
def Z29.l0:Nat->(List Name)->(List Name)->Int->Option (Sum Bool Unit)
 |0,_,_,_=>none
 |k+1,x0,x1,x5=>bif (decide (x5<(x0.length:Int)))then(bif decide (0<=x5)then(bif decide (x5<(x0.length:Int))then(bif decide (0<=x5)then(bif decide (x5<(x1.length:Int))then((Z17.F k ((x0.getD (x5:Int).toNat (Q2 .name)).given) ((x1.getD (x5:Int).toNat (Q2 .name)).given)).bind λr1=>bif (!r1)then(some (.inl false))else(bif decide (0<=x5)then(bif decide (x5<(x0.length:Int))then(bif decide (0<=x5)then(bif decide (x5<(x1.length:Int))then(bif (!Q3 ((x0.getD (x5:Int).toNat (Q2 .name)).particle) ((x1.getD (x5:Int).toNat (Q2 .name)).particle))then(some (.inl false))else(bif decide (0<=x5)then(bif decide (x5<(x0.length:Int))then(bif decide (0<=x5)then(bif decide (x5<(x1.length:Int))then(bif (!Q3 ((x0.getD (x5:Int).toNat (Q2 .name)).family) ((x1.getD (x5:Int).toNat (Q2 .name)).family))then(some (.inl false))else(bif decide (0<=x5)then(bif decide (x5<(x0.length:Int))then(bif decide (0<=x5)then(bif decide (x5<(x1.length:Int))then(bif (!Q3 ((x0.getD (x5:Int).toNat (Q2 .name)).suffix) ((x1.getD (x5:Int).toNat (Q2 .name)).suffix))then(some (.inl false))else(Z29.l0 k x0 x1 (IntKind.wrap .i64 (x5+1))))else none)else none)else none)else none))else none)else none)else none)else none))else none)else none)else none)else none))else none)else none)else none)else none)else(some (.inr ()))
def Z29.F (k:Nat)(a0:List Name)(a1:List Name):Option (Bool):=bif ((a0.length:Int) != (a1.length:Int))then(some false)else((Z29.l0 k a0 a1 0).bind λy2=>match y2 with|.inl z3=>some z3|.inr z3=>some true)
def Z29.C (k:Nat):Cal->Option CArm:=λc=>match c with
 |.f 13=>some (.p [(.sl .str),(.sl .str)] _ (λx=>Z17.F k x.1 x.2.1) (λr=>(.t .bool r)))
 |_=>none
def Z29.sp0:List Sp:=[.t 0 (.sl .name),.t 1 (.sl .name),.t 5 (.int .i64)]
def Z29.sp0_0:List Sp:=[.t 4 .bool]
def Z29.sp0_1:List Sp:=[]
def Z29.A0:LArm:=.two Z29.sp0 Z29.sp0_0 Z29.sp0_1 (Bool) (Unit) (λk x=>Z29.l0 k x.1 x.2.1 x.2.2.1) .ret (.exit 0) (λy=>(y,())) (λx=>x.1) (λy=>()) (λx=>())
def Z29.L:Nat->Option LArm:=λb=>match b with
 |0=>some Z29.A0
 |_=>none
theorem Z29.run (k:Nat)(a0:List Name)(a1:List Name):Qq Q0 (Qf (Z29.C k)) (Qe 68 k Z29.L) Tryz.f25 [.t (.sl .name) a0,.t (.sl .name) a1] (Q6 (.t .bool))=Z29.F k a0 a1:=by kernel_rfl
theorem Z29.step0 (k:Nat)(x0:List Name)(x1:List Name)(x5:Int):QN Q0 (Qf (Z29.C k)) (Qe 68 k Z29.L) 0 (Qm Tryz.f25 0) (J6 68 Z29.sp0 (x0,x1,x5,())) (Z29.A0.cont 68 k)=Z29.l0 (k+1) x0 x1 x5:=by kernel_rfl
theorem Z29.G (hE:EnvOk Tryz.prog Q0)(pv:Nat->Value)(k:Nat):∀cal A,Z29.C k cal=some A->Qc Tryz.prog Q0 pv cal A:=by
 intro cal A h
 unfold Z29.C at h
 split at h
 ·cases h;exact λx y hy=>Z17.good hE pv k x.1 x.2.1 hy
 ·cases h
theorem Z29.good (hE:EnvOk Tryz.prog Q0)(pv:Nat->Value)(k:Nat)(a0:List Name)(a1:List Name){y:_}(h:Z29.F k a0 a1=some y):Qb Tryz.prog Q0 pv (.f 25) (Q7 [(.sl .name),(.sl .name)] (a0,a1,())) (.t .bool y):=
 Qj hE (t:=Z29.C) k (λk _=>Z29.G hE pv k) (f:=25) (fn:=Tryz.f25) (by kernel_rfl) rfl (by kernel_rfl) (by kernel_rfl) (lt:=Z29.L) (by kernel_rfl) (λb A h=>by
  unfold Z29.L at h;split at h
  ·cases h;exact⟨by kernel_rfl,by kernel_rfl,by kernel_rfl,λ_=>rfl,λ_=>rfl,λ_=>rfl⟩
  ·cases h) (λb A h=>by
  unfold Z29.L at h;split at h
  ·cases h;exact λk x=>Z29.step0 k x.1 x.2.1 x.2.2.1
  ·cases h) ((Z29.run k a0 a1).trans h) (λr hr=>Q1 hr)
def Z67.F (k:Nat)(a0:Entry)(a1:Entry):Option (Bool):=bif (Q3 a0.key a1.key)then(bif (a0.kind==a1.kind)then((Z29.F k a0.authors a1.authors).bind λr1=>bif r1 then((Z29.F k a0.editors a1.editors).bind λr2=>bif r2 then(bif (Q3 a0.title a1.title)then(bif (Q3 a0.container a1.container)then(bif (Q3 a0.publisher a1.publisher)then(bif ((a0.date.y==a1.date.y&&(a0.date.m==a1.date.m&&(a0.date.d==a1.date.d&&a0.date.c==a1.date.c))))then(bif (a0.volume==a1.volume)then(bif (Q3 a0.pages a1.pages)then(some (Q3 a0.cross a1.cross))else(some false))else(some false))else(some false))else(some false))else(some false))else(some false))else(some false))else(some false))else(some false))else(some false)
def Z67.C (k:Nat):Cal->Option CArm:=λc=>match c with
 |.f 25=>some (.p [(.sl .name),(.sl .name)] _ (λx=>Z29.F k x.1 x.2.1) (λr=>(.t .bool r)))
 |_=>none
theorem Z67.run (k:Nat)(a0:Entry)(a1:Entry):Qq Q0 (Qf (Z67.C k)) (Qe 80 0 (λ_=>none)) Tryz.f8 [.t .entry a0,.t .entry a1] (Q6 (.t .bool))=Z67.F k a0 a1:=by kernel_rfl
theorem Z67.G (hE:EnvOk Tryz.prog Q0)(pv:Nat->Value)(k:Nat):∀cal A,Z67.C k cal=some A->Qc Tryz.prog Q0 pv cal A:=by
 intro cal A h
 unfold Z67.C at h
 split at h
 ·cases h;exact λx y hy=>Z29.good hE pv k x.1 x.2.1 hy
 ·cases h
theorem Z67.good (hE:EnvOk Tryz.prog Q0)(pv:Nat->Value)(k:Nat)(a0:Entry)(a1:Entry){y:_}(h:Z67.F k a0 a1=some y):Qb Tryz.prog Q0 pv (.f 8) (Q7 [.entry,.entry] (a0,a1,())) (.t .bool y):=
 Q8 hE (Z67.G hE pv k) (f:=8) (fn:=Tryz.f8) (by kernel_rfl) rfl (by kernel_rfl) (by kernel_rfl) ((Z67.run k a0 a1).trans h) (λr hr=>Q1 hr)
def Z112.F (a0:List ByteArray)(a1:ByteArray):Option (ByteArray):=Q4B a0 a1
theorem Z112.good (hE:EnvOk Tryz.prog Q0)(pv:Nat->Value)(a0:List ByteArray)(a1:ByteArray){y:_}(h:Z112.F a0 a1=some y):Qb Tryz.prog Q0 pv (.f 94) (Q7 [(.sl .str),.str] (a0,a1,())) (.t .str y):=
 Q9t (fn:=Tryz.f94) (by kernel_rfl) rfl (by kernel_rfl) Tryz.strings_Join_none Tryz.strings_Join h
def Z68.F (a0:ByteArray):Option (Bool):=some (Q3 a0 (⟨#[]⟩:ByteArray))
def Z68.C:Cal->Option CArm:=λc=>match c with
 |_=>none
theorem Z68.run (a0:ByteArray):Qq Q0 (Qf Z68.C) (Qe 5 0 (λ_=>none)) Tryz.f134 [.t .str a0] (Q6 (.t .bool))=Z68.F a0:=by kernel_rfl
theorem Z68.G (hE:EnvOk Tryz.prog Q0)(pv:Nat->Value):∀cal A,Z68.C cal=some A->Qc Tryz.prog Q0 pv cal A:=by
 intro cal A h
 unfold Z68.C at h
 cases h
theorem Z68.good (hE:EnvOk Tryz.prog Q0)(pv:Nat->Value)(a0:ByteArray){y:_}(h:Z68.F a0=some y):Qb Tryz.prog Q0 pv (.f 134) (Q7 [.str] (a0,())) (.t .bool y):=
 Q8 hE (Z68.G hE pv) (f:=134) (fn:=Tryz.f134) (by kernel_rfl) rfl (by kernel_rfl) (by kernel_rfl) ((Z68.run a0).trans h) (λr hr=>Q1 hr)
def Z42.l0:Nat->(List ByteArray)->Int->Int->Option (Sum Int Unit)
 |0,_,_,_=>none
 |k+1,x0,x7,x8=>bif (decide (x8<x7))then(bif decide (0<=x8)then(bif decide (x8<(x0.length:Int))then((Z68.F (x0.getD (x8:Int).toNat (⟨#[]⟩:ByteArray))).bind λr1=>bif r1 then(some (.inl x8))else(Z42.l0 k x0 x7 (IntKind.wrap .i64 (x8+1))))else none)else none)else(some (.inr ()))
def Z42.F (k:Nat)(a0:List ByteArray):Option (Int):=(Z42.l0 k a0 (a0.length:Int) 0).bind λy2=>match y2 with|.inl z3=>some z3|.inr z3=>some (-1)
def Z42.C (k:Nat):Cal->Option CArm:=λc=>match c with
 |.f 134=>some (.p [.str] _ (λx=>Z68.F x.1) (λr=>(.t .bool r)))
 |_=>none
def Z42.sp0:List Sp:=[.t 0 (.sl .str),.con 1 (.clo 134),.t 7 (.int .i64),.t 8 (.int .i64)]
def Z42.sp0_0:List Sp:=[.t 4 (.int .i64)]
def Z42.sp0_1:List Sp:=[]
def Z42.A0:LArm:=.two Z42.sp0 Z42.sp0_0 Z42.sp0_1 (Int) (Unit) (λk x=>Z42.l0 k x.1 x.2.2.1 x.2.2.2.1) .ret (.exit 0) (λy=>(y,())) (λx=>x.1) (λy=>()) (λx=>())
def Z42.L:Nat->Option LArm:=λb=>match b with
 |0=>some Z42.A0
 |_=>none
theorem Z42.run (k:Nat)(a0:List ByteArray):Qq Q0 (Qf (Z42.C k)) (Qe 19 k Z42.L) Tryz.f117 [.t (.sl .str) a0,.clo 134 []] (Q6 (.t (.int .i64)))=Z42.F k a0:=by kernel_rfl
theorem Z42.step0 (k:Nat)(x0:List ByteArray)(x7:Int)(x8:Int):QN Q0 (Qf (Z42.C k)) (Qe 19 k Z42.L) 0 (Qm Tryz.f117 0) (J6 19 Z42.sp0 (x0,(),x7,x8,())) (Z42.A0.cont 19 k)=Z42.l0 (k+1) x0 x7 x8:=by kernel_rfl
theorem Z42.G (hE:EnvOk Tryz.prog Q0)(pv:Nat->Value)(k:Nat):∀cal A,Z42.C k cal=some A->Qc Tryz.prog Q0 pv cal A:=by
 intro cal A h
 unfold Z42.C at h
 split at h
 ·cases h;exact λx y hy=>Z68.good hE pv x.1 hy
 ·cases h
theorem Z42.good (hE:EnvOk Tryz.prog Q0)(pv:Nat->Value)(k:Nat)(a0:List ByteArray){y:_}(h:Z42.F k a0=some y):Qb Tryz.prog Q0 pv (.f 117) (YX [.t (.sl .str),.clo 134 []] (a0,(()),())) (.t (.int .i64) y):=
 Qj hE (t:=Z42.C) k (λk _=>Z42.G hE pv k) (f:=117) (fn:=Tryz.f117) (by kernel_rfl) rfl (by kernel_rfl) (by kernel_rfl) (lt:=Z42.L) (by kernel_rfl) (λb A h=>by
  unfold Z42.L at h;split at h
  ·cases h;exact⟨by kernel_rfl,by kernel_rfl,by kernel_rfl,λ_=>rfl,λ_=>rfl,λ_=>rfl⟩
  ·cases h) (λb A h=>by
  unfold Z42.L at h;split at h
  ·cases h;exact λk x=>Z42.step0 k x.1 x.2.2.1 x.2.2.2.1
  ·cases h) ((Z42.run k a0).trans h) (λr hr=>Q1 hr)
def Z44.l0:Nat->(List ByteArray)->Int->Int->Option ((List ByteArray)×Int)
 |0,_,_,_=>none
 |k+1,x0,x5,x6=>bif (decide (x6<(x0.length:Int)))then(bif decide (0<=x6)then(bif decide (x6<(x0.length:Int))then((Z68.F (x0.getD ((x6:Int).toNat) (⟨#[]⟩:ByteArray))).bind λr2=>bif (!r2)then(bif decide (0<=x5)then(bif decide (x5<(x0.length:Int))then(Z44.l0 k (x0.set ((x5:Int).toNat) (x0.getD ((x6:Int).toNat) (⟨#[]⟩:ByteArray))) (IntKind.wrap .i64 (x5+1)) (IntKind.wrap .i64 (x6+1)))else none)else none)else(Z44.l0 k x0 x5 (IntKind.wrap .i64 (x6+1))))else none)else none)else(some (x0,x5))
def Z44.F (k:Nat)(a0:List ByteArray):Option (List ByteArray):=(Z42.F k a0).bind λr1=>bif (r1==(-1))then(some a0)else((Z44.l0 k a0 r1 (IntKind.wrap .i64 (r1+1))).bind λy3=>bif decide (0<=y3.2)then(bif decide (y3.2<=(y3.1.length:Int))then(bif decide (0<=y3.2)then(bif decide (y3.2<=((y3.1.take ((y3.2:Int).toNat)++List.replicate (y3.1.length-((y3.2:Int).toNat)) (⟨#[]⟩:ByteArray)).length:Int))then(some ((y3.1.take ((y3.2:Int).toNat)++List.replicate (y3.1.length-((y3.2:Int).toNat)) (⟨#[]⟩:ByteArray)).take (y3.2:Int).toNat))else none)else none)else none)else none)
def Z44.C (k:Nat):Cal->Option CArm:=λc=>match c with
 |.f 117=>some (.q [.t (.sl .str),.clo 134 []] _ (λx=>Z42.F k x.1) (λr=>(.t (.int .i64) r)))
 |.f 134=>some (.p [.str] _ (λx=>Z68.F x.1) (λr=>(.t .bool r)))
 |_=>none
def Z44.sp0:List Sp:=[.own 0 1099511627777 9 .str false true,.con 1 (.clo 134),.t 5 (.int .i64),.t 6 (.int .i64)]
def Z44.sp0_0:List Sp:=[.own 0 1099511627777 9 .str false true,.t 5 (.int .i64)]
def Z44.A0:LArm:=.one Z44.sp0 Z44.sp0_0 ((List ByteArray)×Int) (λk x=>Z44.l0 k x.1 x.2.2.1 x.2.2.2.1) (.exit 0) (λy=>(y.1,y.2,())) (λx=>(x.1,x.2.1))
def Z44.L:Nat->Option LArm:=λb=>match b with
 |0=>some Z44.A0
 |_=>none
theorem Z44.run (k:Nat)(a0:List ByteArray):YP Q0 (Qf (Z44.C k)) (Qe 42 k Z44.L) Tryz.f133 D3 (.fr 9 .str a0) [.clo 134 []] (Q3j 9 .str)=Z44.F k a0:=by kernel_rfl
theorem Z44.step0 (k:Nat)(x0:List ByteArray)(x5:Int)(x6:Int):QN Q0 (Qf (Z44.C k)) (Qe 42 k Z44.L) 0 (Qm Tryz.f133 0) (J6 42 Z44.sp0 (x0,(),x5,x6,())) (Z44.A0.cont 42 k)=Z44.l0 (k+1) x0 x5 x6:=by kernel_rfl
theorem Z44.G (hE:EnvOk Tryz.prog Q0)(pv:Nat->Value)(k:Nat):∀cal A,Z44.C k cal=some A->Qc Tryz.prog Q0 pv cal A:=by
 intro cal A h
 unfold Z44.C at h
 split at h
 ·cases h;exact λx y hy=>Z42.good hE pv k x.1 hy
 ·cases h;exact λx y hy=>Z68.good hE pv x.1 hy
 ·cases h
theorem Z44.good (hE:EnvOk Tryz.prog Q0)(pv:Nat->Value)(k:Nat)(a0:List ByteArray){y:_}(h:Z44.F k a0=some y):Qx Tryz.prog Q0 pv 133 (.fr 9 .str a0) (YX [.clo 134 []] ((()),())) (.mov 9 .str y):=
 YK hE (t:=Z44.C) k (λk _=>Z44.G hE pv k) (f:=133) (fn:=Tryz.f133) (by kernel_rfl) rfl (by kernel_rfl) (.inr rfl) (by kernel_rfl) (lt:=Z44.L) (by kernel_rfl) (λb A h=>by
  unfold Z44.L at h;split at h
  ·cases h;exact⟨by kernel_rfl,by kernel_rfl,λ_=>rfl,λ_=>rfl⟩
  ·cases h) (λb A h=>by
  unfold Z44.L at h;split at h
  ·cases h;exact λk x=>Z44.step0 k x.1 x.2.2.1 x.2.2.2.1
  ·cases h) ((Z44.run k a0).trans h) (λr hr=>Q5H hr)
def Z100.F (k:Nat)(a0:List ByteArray):Option (ByteArray):=(Z44.F k a0).bind λr1=>(Z112.F r1 (⟨#[32]⟩:ByteArray)).bind λr2=>some r2
def Z100.C (k:Nat):Cal->Option CArm:=λc=>match c with
 |.f 133=>some (.mq (.fr 9 .str) [.clo 134 []] _ (λx0 x=>Z44.F k x0) (λr=>.mov 9 .str r))
 |.f 94=>some (.p [(.sl .str),.str] _ (λx=>Z112.F x.1 x.2.1) (λr=>(.t .str r)))
 |_=>none
theorem Z100.run (k:Nat)(a0:List ByteArray):YP Q0 (Qf (Z100.C k)) (Qe 6 0 (λ_=>none)) Tryz.f112 D3 (.fr 9 .str a0) [] (Q3k .str)=Z100.F k a0:=by kernel_rfl
theorem Z100.G (hE:EnvOk Tryz.prog Q0)(pv:Nat->Value)(k:Nat):∀cal A,Z100.C k cal=some A->Qc Tryz.prog Q0 pv cal A:=by
 intro cal A h
 unfold Z100.C at h
 split at h
 ·cases h;exact⟨_,rfl,λx0 x y hy=>Z44.good hE pv k x0 hy⟩
 ·cases h;exact λx y hy=>Z112.good hE pv x.1 x.2.1 hy
 ·cases h
theorem Z100.good (hE:EnvOk Tryz.prog Q0)(pv:Nat->Value)(k:Nat)(a0:List ByteArray){y:_}(h:Z100.F k a0=some y):Qx Tryz.prog Q0 pv 112 (.fr 9 .str a0) (Q7 [] (())) (.pc false .str y):=
 QQ hE (Z100.G hE pv k) (f:=112) (fn:=Tryz.f112) (by kernel_rfl) rfl (by kernel_rfl) (.inr rfl) (by kernel_rfl) ((Z100.run k a0).trans h) (λr hr=>Q5I hr)
def Z101.F (k:Nat)(a0:Name):Option (ByteArray):=(Z100.F k ([a0.particle,a0.family]:List ByteArray)).bind λr1=>bif (decide ((a0.given.length:Int) > 0))then((Z112.F a0.given (⟨#[32]⟩:ByteArray)).bind λr2=>bif Nat.ble ((⟨#[44,32]⟩:ByteArray).size+r2.size) 9223372036854775807 then(bif Nat.ble (r1.size+((⟨#[44,32]⟩:ByteArray)++r2).size) 9223372036854775807 then(bif (!Q3 a0.suffix (⟨#[]⟩:ByteArray))then(bif Nat.ble ((⟨#[44,32]⟩:ByteArray).size+a0.suffix.size) 9223372036854775807 then(bif Nat.ble ((r1++((⟨#[44,32]⟩:ByteArray)++r2)).size+((⟨#[44,32]⟩:ByteArray)++a0.suffix).size) 9223372036854775807 then(some ((r1++((⟨#[44,32]⟩:ByteArray)++r2))++((⟨#[44,32]⟩:ByteArray)++a0.suffix)))else none)else none)else(some (r1++((⟨#[44,32]⟩:ByteArray)++r2))))else none)else none)else(bif (!Q3 a0.suffix (⟨#[]⟩:ByteArray))then((Z112.F a0.given (⟨#[32]⟩:ByteArray)).bind λr3=>bif Nat.ble ((⟨#[44,32]⟩:ByteArray).size+r3.size) 9223372036854775807 then(bif Nat.ble (r1.size+((⟨#[44,32]⟩:ByteArray)++r3).size) 9223372036854775807 then(bif (!Q3 a0.suffix (⟨#[]⟩:ByteArray))then(bif Nat.ble ((⟨#[44,32]⟩:ByteArray).size+a0.suffix.size) 9223372036854775807 then(bif Nat.ble ((r1++((⟨#[44,32]⟩:ByteArray)++r3)).size+((⟨#[44,32]⟩:ByteArray)++a0.suffix).size) 9223372036854775807 then(some ((r1++((⟨#[44,32]⟩:ByteArray)++r3))++((⟨#[44,32]⟩:ByteArray)++a0.suffix)))else none)else none)else(some (r1++((⟨#[44,32]⟩:ByteArray)++r3))))else none)else none)else(bif (!Q3 a0.suffix (⟨#[]⟩:ByteArray))then(bif Nat.ble ((⟨#[44,32]⟩:ByteArray).size+a0.suffix.size) 9223372036854775807 then(bif Nat.ble (r1.size+((⟨#[44,32]⟩:ByteArray)++a0.suffix).size) 9223372036854775807 then(some (r1++((⟨#[44,32]⟩:ByteArray)++a0.suffix)))else none)else none)else(some r1)))
def Z101.C (k:Nat):Cal->Option CArm:=λc=>match c with
 |.f 112=>some (.m (.fr 9 .str) [] _ (λx0 x=>Z100.F k x0) (λr=>.pc false .str r))
 |.f 94=>some (.p [(.sl .str),.str] _ (λx=>Z112.F x.1 x.2.1) (λr=>(.t .str r)))
 |_=>none
theorem Z101.run (k:Nat)(a0:Name):Qq Q0 (Qf (Z101.C k)) (Qe 34 0 (λ_=>none)) Tryz.f93 [.t .name a0] (Q6 (.t .str))=Z101.F k a0:=by kernel_rfl
theorem Z101.G (hE:EnvOk Tryz.prog Q0)(pv:Nat->Value)(k:Nat):∀cal A,Z101.C k cal=some A->Qc Tryz.prog Q0 pv cal A:=by
 intro cal A h
 unfold Z101.C at h
 split at h
 ·cases h;exact⟨_,rfl,λx0 x y hy=>Z100.good hE pv k x0 hy⟩
 ·cases h;exact λx y hy=>Z112.good hE pv x.1 x.2.1 hy
 ·cases h
theorem Z101.good (hE:EnvOk Tryz.prog Q0)(pv:Nat->Value)(k:Nat)(a0:Name){y:_}(h:Z101.F k a0=some y):Qb Tryz.prog Q0 pv (.f 93) (Q7 [.name] (a0,())) (.t .str y):=
 Q8 hE (Z101.G hE pv k) (f:=93) (fn:=Tryz.f93) (by kernel_rfl) rfl (by kernel_rfl) (by kernel_rfl) ((Z101.run k a0).trans h) (λr hr=>Q1 hr)
def Z37.l0:Nat->(List ByteArray)->(List Name)->Int->Int->Option ((List ByteArray))
 |0,_,_,_,_=>none
 |k+1,x3,x7,x8,x9=>bif (decide (x9<x8))then(bif decide (0<=x9)then(bif decide (x9<(x7.length:Int))then((Z101.F k (x7.getD (x9:Int).toNat (Q2 .name))).bind λr1=>bif room (x3.length+([r1]:List ByteArray).length) .str then(Z37.l0 k (x3++([r1]:List ByteArray)) x7 x8 (IntKind.wrap .i64 (x9+1)))else none)else none)else none)else(some x3)
def Z37.F (k:Nat)(a0:List Name):Option (ByteArray):=(Z37.l0 k ([]:List ByteArray) a0 (a0.length:Int) 0).bind λy2=>(Z112.F y2 (⟨#[59,32]⟩:ByteArray)).bind λr3=>some r3
def Z37.C (k:Nat):Cal->Option CArm:=λc=>match c with
 |.f 93=>some (.p [.name] _ (λx=>Z101.F k x.1) (λr=>(.t .str r)))
 |.f 94=>some (.p [(.sl .str),.str] _ (λx=>Z112.F x.1 x.2.1) (λr=>(.t .str r)))
 |_=>none
def Z37.sp0:List Sp:=[.own 3 1024 9 .str false true,.t 7 (.sl .name),.t 8 (.int .i64),.t 9 (.int .i64)]
def Z37.sp0_0:List Sp:=[.own 3 1024 9 .str false true]
def Z37.A0:LArm:=.one Z37.sp0 Z37.sp0_0 ((List ByteArray)) (λk x=>Z37.l0 k x.1 x.2.1 x.2.2.1 x.2.2.2.1) (.exit 0) (λy=>(y,())) (λx=>x.1)
def Z37.L:Nat->Option LArm:=λb=>match b with
 |0=>some Z37.A0
 |_=>none
theorem Z37.run (k:Nat)(a0:List Name):Qq Q0 (Qf (Z37.C k)) (Qe 21 k Z37.L) Tryz.f63 [.t (.sl .name) a0] (Q6 (.t .str))=Z37.F k a0:=by kernel_rfl
theorem Z37.step0 (k:Nat)(x3:List ByteArray)(x7:List Name)(x8:Int)(x9:Int):QN Q0 (Qf (Z37.C k)) (Qe 21 k Z37.L) 0 (Qm Tryz.f63 0) (J6 21 Z37.sp0 (x3,x7,x8,x9,())) (Z37.A0.cont 21 k)=Z37.l0 (k+1) x3 x7 x8 x9:=by kernel_rfl
theorem Z37.G (hE:EnvOk Tryz.prog Q0)(pv:Nat->Value)(k:Nat):∀cal A,Z37.C k cal=some A->Qc Tryz.prog Q0 pv cal A:=by
 intro cal A h
 unfold Z37.C at h
 split at h
 ·cases h;exact λx y hy=>Z101.good hE pv k x.1 hy
 ·cases h;exact λx y hy=>Z112.good hE pv x.1 x.2.1 hy
 ·cases h
theorem Z37.good (hE:EnvOk Tryz.prog Q0)(pv:Nat->Value)(k:Nat)(a0:List Name){y:_}(h:Z37.F k a0=some y):Qb Tryz.prog Q0 pv (.f 63) (Q7 [(.sl .name)] (a0,())) (.t .str y):=
 Qj hE (t:=Z37.C) k (λk _=>Z37.G hE pv k) (f:=63) (fn:=Tryz.f63) (by kernel_rfl) rfl (by kernel_rfl) (by kernel_rfl) (lt:=Z37.L) (by kernel_rfl) (λb A h=>by
  unfold Z37.L at h;split at h
  ·cases h;exact⟨by kernel_rfl,by kernel_rfl,λ_=>rfl,λ_=>rfl⟩
  ·cases h) (λb A h=>by
  unfold Z37.L at h;split at h
  ·cases h;exact λk x=>Z37.step0 k x.1 x.2.1 x.2.2.1 x.2.2.2.1
  ·cases h) ((Z37.run k a0).trans h) (λr hr=>Q1 hr)
def Z115.F (a0:Int):Option (ByteArray):=Q3r a0
theorem Z115.good (hE:EnvOk Tryz.prog Q0)(pv:Nat->Value)(a0:Int){y:_}(h:Z115.F a0=some y):Qb Tryz.prog Q0 pv (.f 65) (Q7 [(.int .i64)] (a0,())) (.t .str y):=
 Q7I (fn:=Tryz.f65) (by kernel_rfl) rfl (by kernel_rfl) (g:=1) (by kernel_rfl) (by kernel_rfl) Tryz.strconv_Itoa h
def Z13.l0:Nat->Int->ByteArray->Option (ByteArray)
 |0,_,_=>none
 |k+1,x1,x5=>bif (decide ((x5.size:Int)<x1))then(bif Nat.ble ((⟨#[48]⟩:ByteArray).size+x5.size) 9223372036854775807 then(Z13.l0 k x1 ((⟨#[48]⟩:ByteArray)++x5))else none)else(some x5)
def Z13.F (k:Nat)(a0:Int)(a1:Int):Option (ByteArray):=(Z115.F a0).bind λr1=>(Z13.l0 k a1 r1).bind λy2=>some y2
def Z13.C (k:Nat):Cal->Option CArm:=λc=>match c with
 |.f 65=>some (.p [(.int .i64)] _ (λx=>Z115.F x.1) (λr=>(.t .str r)))
 |_=>none
def Z13.sp0:List Sp:=[.t 1 (.int .i64),.t 5 .str]
def Z13.sp0_0:List Sp:=[.t 5 .str]
def Z13.A0:LArm:=.one Z13.sp0 Z13.sp0_0 (ByteArray) (λk x=>Z13.l0 k x.1 x.2.1) (.exit 0) (λy=>(y,())) (λx=>x.1)
def Z13.L:Nat->Option LArm:=λb=>match b with
 |0=>some Z13.A0
 |_=>none
theorem Z13.run (k:Nat)(a0:Int)(a1:Int):Qq Q0 (Qf (Z13.C k)) (Qe 15 k Z13.L) Tryz.f95 [.t (.int .i64) a0,.t (.int .i64) a1] (Q6 (.t .str))=Z13.F k a0 a1:=by kernel_rfl
theorem Z13.step0 (k:Nat)(x1:Int)(x5:ByteArray):QN Q0 (Qf (Z13.C k)) (Qe 15 k Z13.L) 0 (Qm Tryz.f95 0) (J6 15 Z13.sp0 (x1,x5,())) (Z13.A0.cont 15 k)=Z13.l0 (k+1) x1 x5:=by kernel_rfl
theorem Z13.G (hE:EnvOk Tryz.prog Q0)(pv:Nat->Value)(k:Nat):∀cal A,Z13.C k cal=some A->Qc Tryz.prog Q0 pv cal A:=by
 intro cal A h
 unfold Z13.C at h
 split at h
 ·cases h;exact λx y hy=>Z115.good hE pv x.1 hy
 ·cases h
theorem Z13.good (hE:EnvOk Tryz.prog Q0)(pv:Nat->Value)(k:Nat)(a0:Int)(a1:Int){y:_}(h:Z13.F k a0 a1=some y):Qb Tryz.prog Q0 pv (.f 95) (Q7 [(.int .i64),(.int .i64)] (a0,a1,())) (.t .str y):=
 Qj hE (t:=Z13.C) k (λk _=>Z13.G hE pv k) (f:=95) (fn:=Tryz.f95) (by kernel_rfl) rfl (by kernel_rfl) (by kernel_rfl) (lt:=Z13.L) (by kernel_rfl) (λb A h=>by
  unfold Z13.L at h;split at h
  ·cases h;exact⟨by kernel_rfl,by kernel_rfl,λ_=>rfl,λ_=>rfl⟩
  ·cases h) (λb A h=>by
  unfold Z13.L at h;split at h
  ·cases h;exact λk x=>Z13.step0 k x.1 x.2.1
  ·cases h) ((Z13.run k a0 a1).trans h) (λr hr=>Q1 hr)
def Z102.F (k:Nat)(a0:Date):Option (ByteArray):=bif (a0.y==0)then(some (⟨#[117,110,107,110,111,119,110]⟩:ByteArray))else((Z13.F k a0.y 4).bind λr1=>bif a0.c then(bif Nat.ble ((⟨#[99]⟩:ByteArray).size+r1.size) 9223372036854775807 then(bif (decide (a0.m > 0))then((Z13.F k a0.m 2).bind λr2=>bif Nat.ble ((⟨#[45]⟩:ByteArray).size+r2.size) 9223372036854775807 then(bif Nat.ble (((⟨#[99]⟩:ByteArray)++r1).size+((⟨#[45]⟩:ByteArray)++r2).size) 9223372036854775807 then(bif (decide (a0.d > 0))then((Z13.F k a0.d 2).bind λr3=>bif Nat.ble ((⟨#[45]⟩:ByteArray).size+r3.size) 9223372036854775807 then(bif Nat.ble ((((⟨#[99]⟩:ByteArray)++r1)++((⟨#[45]⟩:ByteArray)++r2)).size+((⟨#[45]⟩:ByteArray)++r3).size) 9223372036854775807 then(some ((((⟨#[99]⟩:ByteArray)++r1)++((⟨#[45]⟩:ByteArray)++r2))++((⟨#[45]⟩:ByteArray)++r3)))else none)else none)else(some (((⟨#[99]⟩:ByteArray)++r1)++((⟨#[45]⟩:ByteArray)++r2))))else none)else none)else(bif (decide (a0.d > 0))then((Z13.F k a0.d 2).bind λr4=>bif Nat.ble ((⟨#[45]⟩:ByteArray).size+r4.size) 9223372036854775807 then(bif Nat.ble (((⟨#[99]⟩:ByteArray)++r1).size+((⟨#[45]⟩:ByteArray)++r4).size) 9223372036854775807 then(some (((⟨#[99]⟩:ByteArray)++r1)++((⟨#[45]⟩:ByteArray)++r4)))else none)else none)else(some ((⟨#[99]⟩:ByteArray)++r1))))else none)else(bif (decide (a0.m > 0))then((Z13.F k a0.m 2).bind λr5=>bif Nat.ble ((⟨#[45]⟩:ByteArray).size+r5.size) 9223372036854775807 then(bif Nat.ble (r1.size+((⟨#[45]⟩:ByteArray)++r5).size) 9223372036854775807 then(bif (decide (a0.d > 0))then((Z13.F k a0.d 2).bind λr6=>bif Nat.ble ((⟨#[45]⟩:ByteArray).size+r6.size) 9223372036854775807 then(bif Nat.ble ((r1++((⟨#[45]⟩:ByteArray)++r5)).size+((⟨#[45]⟩:ByteArray)++r6).size) 9223372036854775807 then(some ((r1++((⟨#[45]⟩:ByteArray)++r5))++((⟨#[45]⟩:ByteArray)++r6)))else none)else none)else(some (r1++((⟨#[45]⟩:ByteArray)++r5))))else none)else none)else(bif (decide (a0.d > 0))then((Z13.F k a0.d 2).bind λr7=>bif Nat.ble ((⟨#[45]⟩:ByteArray).size+r7.size) 9223372036854775807 then(bif Nat.ble (r1.size+((⟨#[45]⟩:ByteArray)++r7).size) 9223372036854775807 then(some (r1++((⟨#[45]⟩:ByteArray)++r7)))else none)else none)else(some r1))))
def Z102.C (k:Nat):Cal->Option CArm:=λc=>match c with
 |.f 95=>some (.p [(.int .i64),(.int .i64)] _ (λx=>Z13.F k x.1 x.2.1) (λr=>(.t .str r)))
 |_=>none
theorem Z102.run (k:Nat)(a0:Date):Qq Q0 (Qf (Z102.C k)) (Qe 33 0 (λ_=>none)) Tryz.f64 [.t .date a0] (Q6 (.t .str))=Z102.F k a0:=by kernel_rfl
theorem Z102.G (hE:EnvOk Tryz.prog Q0)(pv:Nat->Value)(k:Nat):∀cal A,Z102.C k cal=some A->Qc Tryz.prog Q0 pv cal A:=by
 intro cal A h
 unfold Z102.C at h
 split at h
 ·cases h;exact λx y hy=>Z13.good hE pv k x.1 x.2.1 hy
 ·cases h
theorem Z102.good (hE:EnvOk Tryz.prog Q0)(pv:Nat->Value)(k:Nat)(a0:Date){y:_}(h:Z102.F k a0=some y):Qb Tryz.prog Q0 pv (.f 64) (Q7 [.date] (a0,())) (.t .str y):=
 Q8 hE (Z102.G hE pv k) (f:=64) (fn:=Tryz.f64) (by kernel_rfl) rfl (by kernel_rfl) (by kernel_rfl) ((Z102.run k a0).trans h) (λr hr=>Q1 hr)
def Z69.F (k:Nat)(a0:Entry)(a1:ByteArray):Option (ByteArray):=bif (Q3 a1 (⟨#[97,117,116,104,111,114,115]⟩:ByteArray))then((Z37.F k a0.authors).bind λr1=>some r1)else(bif (Q3 a1 (⟨#[101,100,105,116,111,114,115]⟩:ByteArray))then((Z37.F k a0.editors).bind λr2=>some r2)else(bif (Q3 a1 (⟨#[116,105,116,108,101]⟩:ByteArray))then(some a0.title)else(bif (Q3 a1 (⟨#[99,111,110,116,97,105,110,101,114]⟩:ByteArray))then(some a0.container)else(bif (Q3 a1 (⟨#[112,117,98,108,105,115,104,101,114]⟩:ByteArray))then(some a0.publisher)else(bif (Q3 a1 (⟨#[100,97,116,101]⟩:ByteArray))then(bif (decide (a0.date.y > 0))then((Z102.F k a0.date).bind λr3=>some r3)else(some (⟨#[]⟩:ByteArray)))else(bif (Q3 a1 (⟨#[118,111,108,117,109,101]⟩:ByteArray))then(bif (decide (a0.volume > 0))then((Z115.F a0.volume).bind λr4=>some r4)else(some (⟨#[]⟩:ByteArray)))else(bif (Q3 a1 (⟨#[112,97,103,101,115]⟩:ByteArray))then(some a0.pages)else(some (⟨#[]⟩:ByteArray)))))))))
def Z69.C (k:Nat):Cal->Option CArm:=λc=>match c with
 |.f 63=>some (.p [(.sl .name)] _ (λx=>Z37.F k x.1) (λr=>(.t .str r)))
 |.f 64=>some (.p [.date] _ (λx=>Z102.F k x.1) (λr=>(.t .str r)))
 |.f 65=>some (.p [(.int .i64)] _ (λx=>Z115.F x.1) (λr=>(.t .str r)))
 |_=>none
theorem Z69.run (k:Nat)(a0:Entry)(a1:ByteArray):Qq Q0 (Qf (Z69.C k)) (Qe 49 0 (λ_=>none)) Tryz.f26 [.t .entry a0,.t .str a1] (Q6 (.t .str))=Z69.F k a0 a1:=by kernel_rfl
theorem Z69.G (hE:EnvOk Tryz.prog Q0)(pv:Nat->Value)(k:Nat):∀cal A,Z69.C k cal=some A->Qc Tryz.prog Q0 pv cal A:=by
 intro cal A h
 unfold Z69.C at h
 split at h
 ·cases h;exact λx y hy=>Z37.good hE pv k x.1 hy
 ·cases h;exact λx y hy=>Z102.good hE pv k x.1 hy
 ·cases h;exact λx y hy=>Z115.good hE pv x.1 hy
 ·cases h
theorem Z69.good (hE:EnvOk Tryz.prog Q0)(pv:Nat->Value)(k:Nat)(a0:Entry)(a1:ByteArray){y:_}(h:Z69.F k a0 a1=some y):Qb Tryz.prog Q0 pv (.f 26) (Q7 [.entry,.str] (a0,a1,())) (.t .str y):=
 Q8 hE (Z69.G hE pv k) (f:=26) (fn:=Tryz.f26) (by kernel_rfl) rfl (by kernel_rfl) (by kernel_rfl) ((Z69.run k a0 a1).trans h) (λr hr=>Q1 hr)
def Z8.l0:Nat->Entry->Entry->(List ByteArray)->(List ByteArray)->Int->Option ((List ByteArray))
 |0,_,_,_,_,_=>none
 |k+1,x2,x3,x6,x20,x21=>bif (decide (x21<8))then(bif decide (0<=x21)then(bif decide (x21<(8:Int))then((Z69.F k x2 (x20.getD (x21:Int).toNat ⟨#[]⟩)).bind λr3=>(Z69.F k x3 (x20.getD (x21:Int).toNat ⟨#[]⟩)).bind λr4=>bif (!Q3 r3 (⟨#[]⟩:ByteArray))then(bif (!Q3 r4 (⟨#[]⟩:ByteArray))then(bif (!Q3 r3 r4)then(bif room (x6.length+([(x20.getD (x21:Int).toNat ⟨#[]⟩)]:List ByteArray).length) .str then(Z8.l0 k x2 x3 (x6++([(x20.getD (x21:Int).toNat ⟨#[]⟩)]:List ByteArray)) x20 (IntKind.wrap .i64 (x21+1)))else none)else(Z8.l0 k x2 x3 x6 x20 (IntKind.wrap .i64 (x21+1))))else(Z8.l0 k x2 x3 x6 x20 (IntKind.wrap .i64 (x21+1))))else(Z8.l0 k x2 x3 x6 x20 (IntKind.wrap .i64 (x21+1))))else none)else none)else(some x6)
def Z8.F (k:Nat)(a0:Entry)(a1:Entry):Option ((List ByteArray)×Bool):=(Z51.F k a0).bind λr1=>bif (!r1)then(some ([],false))else((Z51.F k a1).bind λr2=>bif (!r2)then(some ([],false))else((Z8.l0 k a0 a1 ([]:List ByteArray) Q08 0).bind λy5=>some (y5,true)))
def Z8.C (k:Nat):Cal->Option CArm:=λc=>match c with
 |.f 10=>some (.p [.entry] _ (λx=>Z51.F k x.1) (λr=>(.t .bool r)))
 |.f 26=>some (.p [.entry,.str] _ (λx=>Z69.F k x.1 x.2.1) (λr=>(.t .str r)))
 |_=>none
def Z8.sp0:List Sp:=[.boxT 2 0 .entry,.boxT 3 4 .entry,.own 6 3072 9 .str false true,.t 20 (.arr 8 .str),.t 21 (.int .i64)]
def Z8.sp0_0:List Sp:=[.own 6 3072 9 .str false true]
def Z8.A0:LArm:=.one Z8.sp0 Z8.sp0_0 ((List ByteArray)) (λk x=>Z8.l0 k x.1 x.2.1 x.2.2.1 x.2.2.2.1 x.2.2.2.2.1) (.exit 0) (λy=>(y,())) (λx=>x.1)
def Z8.L:Nat->Option LArm:=λb=>match b with
 |0=>some Z8.A0
 |_=>none
theorem Z8.run (k:Nat)(a0:Entry)(a1:Entry):Qq Q0 (Qf (Z8.C k)) (Qe 47 k Z8.L) Tryz.f9 [.t .entry a0,.t .entry a1] (U6 (.fr 9 .str) (.t .bool))=Z8.F k a0 a1:=by kernel_rfl
theorem Z8.step0 (k:Nat)(x2:Entry)(x3:Entry)(x6:List ByteArray)(x20:List ByteArray)(x21:Int):QN Q0 (Qf (Z8.C k)) (Qe 47 k Z8.L) 0 (Qm Tryz.f9 0) (J6 47 Z8.sp0 (x2,x3,x6,x20,x21,())) (Z8.A0.cont 47 k)=Z8.l0 (k+1) x2 x3 x6 x20 x21:=by kernel_rfl
theorem Z8.G (hE:EnvOk Tryz.prog Q0)(pv:Nat->Value)(k:Nat):∀cal A,Z8.C k cal=some A->Qc Tryz.prog Q0 pv cal A:=by
 intro cal A h
 unfold Z8.C at h
 split at h
 ·cases h;exact λx y hy=>Z51.good hE pv k x.1 hy
 ·cases h;exact λx y hy=>Z69.good hE pv k x.1 x.2.1 hy
 ·cases h
theorem Z8.good (hE:EnvOk Tryz.prog Q0)(pv:Nat->Value)(k:Nat)(a0:Entry)(a1:Entry){y:_}(h:Z8.F k a0 a1=some y):Qb Tryz.prog Q0 pv (.f 9) (Q7 [.entry,.entry] (a0,a1,())) (.tup [.fr 9 .str y.1,.t .bool y.2]):=
 Qj hE (t:=Z8.C) k (λk _=>Z8.G hE pv k) (f:=9) (fn:=Tryz.f9) (by kernel_rfl) rfl (by kernel_rfl) (by kernel_rfl) (lt:=Z8.L) (by kernel_rfl) (λb A h=>by
  unfold Z8.L at h;split at h
  ·cases h;exact⟨by kernel_rfl,by kernel_rfl,λ_=>rfl,λ_=>rfl⟩
  ·cases h) (λb A h=>by
  unfold Z8.L at h;split at h
  ·cases h;exact λk x=>Z8.step0 k x.1 x.2.1 x.2.2.1 x.2.2.2.1 x.2.2.2.2.1
  ·cases h) ((Z8.run k a0 a1).trans h) (λr hr=>Yx hr)
def Z76.F (k:Nat)(a0:List Int):Option (Entry×Entry):=(Z54.F k (⟨a0,0,0⟩:Cur)).bind λr1=>(Z59.F k r1.1 r1.2).bind λr2=>some (r1.2,r2.2)
def Z76.C (k:Nat):Cal->Option CArm:=λc=>match c with
 |.f 19=>some (.m (.bx .cur) [] _ (λx0 x=>Z54.F k x0) (λr=>.kep (.bx .cur r.1) (.t .entry r.2)))
 |.f 20=>some (.m (.bx .cur) [.entry] _ (λx0 x=>Z59.F k x0 x.1) (λr=>.kep (.bx .cur r.1) (.t .entry r.2)))
 |_=>none
theorem Z76.run (k:Nat)(a0:List Int):Qq Q0 (Qf (Z76.C k)) (Qe 15 0 (λ_=>none)) Tryz.f11 [.t (.sl (.int .u8)) a0] (U6 (.t .entry) (.t .entry))=Z76.F k a0:=by kernel_rfl
theorem Z76.G (hE:EnvOk Tryz.prog Q0)(pv:Nat->Value)(k:Nat):∀cal A,Z76.C k cal=some A->Qc Tryz.prog Q0 pv cal A:=by
 intro cal A h
 unfold Z76.C at h
 split at h
 ·cases h;exact⟨_,rfl,λx0 x y hy=>Z54.good hE pv k x0 hy⟩
 ·cases h;exact⟨_,rfl,λx0 x y hy=>Z59.good hE pv k x0 x.1 hy⟩
 ·cases h
theorem Z76.good (hE:EnvOk Tryz.prog Q0)(pv:Nat->Value)(k:Nat)(a0:List Int){y:_}(h:Z76.F k a0=some y):Qb Tryz.prog Q0 pv (.f 11) (Q7 [(.sl (.int .u8))] (a0,())) (.tup [.t .entry y.1,.t .entry y.2]):=
 Q8 hE (Z76.G hE pv k) (f:=11) (fn:=Tryz.f11) (by kernel_rfl) rfl (by kernel_rfl) (by kernel_rfl) ((Z76.run k a0).trans h) (λr hr=>Yx hr)
def Z25.l0:Nat->(List ByteArray)->ByteArray->Int->Option (ByteArray)
 |0,_,_,_=>none
 |k+1,x0,x3,x4=>bif (decide (x4<(x0.length:Int)))then(bif (!Q3 x3 (⟨#[]⟩:ByteArray))then(bif decide (0<=x4)then(bif decide (x4<(x0.length:Int))then(bif (!Q3 (x0.getD (x4:Int).toNat (⟨#[]⟩:ByteArray)) (⟨#[]⟩:ByteArray))then(bif Nat.ble (x3.size+(⟨#[32]⟩:ByteArray).size) 9223372036854775807 then(bif decide (0<=x4)then(bif decide (x4<(x0.length:Int))then(bif Nat.ble ((x3++(⟨#[32]⟩:ByteArray)).size+(x0.getD (x4:Int).toNat (⟨#[]⟩:ByteArray)).size) 9223372036854775807 then(Z25.l0 k x0 ((x3++(⟨#[32]⟩:ByteArray))++(x0.getD (x4:Int).toNat (⟨#[]⟩:ByteArray))) (IntKind.wrap .i64 (x4+1)))else none)else none)else none)else none)else(bif decide (0<=x4)then(bif decide (x4<(x0.length:Int))then(bif Nat.ble (x3.size+(x0.getD (x4:Int).toNat (⟨#[]⟩:ByteArray)).size) 9223372036854775807 then(Z25.l0 k x0 (x3++(x0.getD (x4:Int).toNat (⟨#[]⟩:ByteArray))) (IntKind.wrap .i64 (x4+1)))else none)else none)else none))else none)else none)else(bif decide (0<=x4)then(bif decide (x4<(x0.length:Int))then(bif Nat.ble (x3.size+(x0.getD (x4:Int).toNat (⟨#[]⟩:ByteArray)).size) 9223372036854775807 then(Z25.l0 k x0 (x3++(x0.getD (x4:Int).toNat (⟨#[]⟩:ByteArray))) (IntKind.wrap .i64 (x4+1)))else none)else none)else none))else(some x3)
def Z25.F (k:Nat)(a0:List ByteArray):Option (ByteArray):=(Z25.l0 k a0 (⟨#[]⟩:ByteArray) 0).bind λy1=>some y1
def Z25.C (k:Nat):Cal->Option CArm:=λc=>match c with
 |_=>none
def Z25.sp0:List Sp:=[.t 0 (.sl .str),.t 3 .str,.t 4 (.int .i64)]
def Z25.sp0_0:List Sp:=[.t 3 .str]
def Z25.A0:LArm:=.one Z25.sp0 Z25.sp0_0 (ByteArray) (λk x=>Z25.l0 k x.1 x.2.1 x.2.2.1) (.exit 0) (λy=>(y,())) (λx=>x.1)
def Z25.L:Nat->Option LArm:=λb=>match b with
 |0=>some Z25.A0
 |_=>none
theorem Z25.run (k:Nat)(a0:List ByteArray):Qq Q0 (Qf (Z25.C k)) (Qe 29 k Z25.L) Tryz.f128 [.t (.sl .str) a0] (Q6 (.t .str))=Z25.F k a0:=by kernel_rfl
theorem Z25.step0 (k:Nat)(x0:List ByteArray)(x3:ByteArray)(x4:Int):QN Q0 (Qf (Z25.C k)) (Qe 29 k Z25.L) 0 (Qm Tryz.f128 0) (J6 29 Z25.sp0 (x0,x3,x4,())) (Z25.A0.cont 29 k)=Z25.l0 (k+1) x0 x3 x4:=by kernel_rfl
theorem Z25.G (hE:EnvOk Tryz.prog Q0)(pv:Nat->Value)(k:Nat):∀cal A,Z25.C k cal=some A->Qc Tryz.prog Q0 pv cal A:=by
 intro cal A h
 unfold Z25.C at h
 cases h
theorem Z25.good (hE:EnvOk Tryz.prog Q0)(pv:Nat->Value)(k:Nat)(a0:List ByteArray){y:_}(h:Z25.F k a0=some y):Qb Tryz.prog Q0 pv (.f 128) (Q7 [(.sl .str)] (a0,())) (.t .str y):=
 Qj hE (t:=Z25.C) k (λk _=>Z25.G hE pv k) (f:=128) (fn:=Tryz.f128) (by kernel_rfl) rfl (by kernel_rfl) (by kernel_rfl) (lt:=Z25.L) (by kernel_rfl) (λb A h=>by
  unfold Z25.L at h;split at h
  ·cases h;exact⟨by kernel_rfl,by kernel_rfl,λ_=>rfl,λ_=>rfl⟩
  ·cases h) (λb A h=>by
  unfold Z25.L at h;split at h
  ·cases h;exact λk x=>Z25.step0 k x.1 x.2.1 x.2.2.1
  ·cases h) ((Z25.run k a0).trans h) (λr hr=>Q1 hr)
def Z86.F (k:Nat)(a0:Name):Option (ByteArray):=(Z25.F k a0.given).bind λr1=>some r1
def Z86.C (k:Nat):Cal->Option CArm:=λc=>match c with
 |.f 128=>some (.p [(.sl .str)] _ (λx=>Z25.F k x.1) (λr=>(.t .str r)))
 |_=>none
theorem Z86.run (k:Nat)(a0:Name):Qq Q0 (Qf (Z86.C k)) (Qe 6 0 (λ_=>none)) Tryz.f129 [.t .name a0] (Q6 (.t .str))=Z86.F k a0:=by kernel_rfl
theorem Z86.G (hE:EnvOk Tryz.prog Q0)(pv:Nat->Value)(k:Nat):∀cal A,Z86.C k cal=some A->Qc Tryz.prog Q0 pv cal A:=by
 intro cal A h
 unfold Z86.C at h
 split at h
 ·cases h;exact λx y hy=>Z25.good hE pv k x.1 hy
 ·cases h
theorem Z86.good (hE:EnvOk Tryz.prog Q0)(pv:Nat->Value)(k:Nat)(a0:Name){y:_}(h:Z86.F k a0=some y):Qb Tryz.prog Q0 pv (.f 129) (Q7 [.name] (a0,())) (.t .str y):=
 Q8 hE (Z86.G hE pv k) (f:=129) (fn:=Tryz.f129) (by kernel_rfl) rfl (by kernel_rfl) (by kernel_rfl) ((Z86.run k a0).trans h) (λr hr=>Q1 hr)
def Z87.F (k:Nat)(a0:Name):Option (ByteArray):=(Z25.F k ([a0.particle,a0.family]:List ByteArray)).bind λr1=>bif (decide ((a0.given.length:Int) > 0))then(bif Nat.ble (r1.size+(⟨#[44,32]⟩:ByteArray).size) 9223372036854775807 then((Z86.F k a0).bind λr2=>bif Nat.ble ((r1++(⟨#[44,32]⟩:ByteArray)).size+r2.size) 9223372036854775807 then(bif (!Q3 a0.suffix (⟨#[]⟩:ByteArray))then(bif Nat.ble (((r1++(⟨#[44,32]⟩:ByteArray))++r2).size+(⟨#[44,32]⟩:ByteArray).size) 9223372036854775807 then(bif Nat.ble ((((r1++(⟨#[44,32]⟩:ByteArray))++r2)++(⟨#[44,32]⟩:ByteArray)).size+a0.suffix.size) 9223372036854775807 then(some ((((r1++(⟨#[44,32]⟩:ByteArray))++r2)++(⟨#[44,32]⟩:ByteArray))++a0.suffix))else none)else none)else(some ((r1++(⟨#[44,32]⟩:ByteArray))++r2)))else none)else none)else(bif (!Q3 a0.suffix (⟨#[]⟩:ByteArray))then(bif Nat.ble (r1.size+(⟨#[44,32]⟩:ByteArray).size) 9223372036854775807 then((Z86.F k a0).bind λr3=>bif Nat.ble ((r1++(⟨#[44,32]⟩:ByteArray)).size+r3.size) 9223372036854775807 then(bif (!Q3 a0.suffix (⟨#[]⟩:ByteArray))then(bif Nat.ble (((r1++(⟨#[44,32]⟩:ByteArray))++r3).size+(⟨#[44,32]⟩:ByteArray).size) 9223372036854775807 then(bif Nat.ble ((((r1++(⟨#[44,32]⟩:ByteArray))++r3)++(⟨#[44,32]⟩:ByteArray)).size+a0.suffix.size) 9223372036854775807 then(some ((((r1++(⟨#[44,32]⟩:ByteArray))++r3)++(⟨#[44,32]⟩:ByteArray))++a0.suffix))else none)else none)else(some ((r1++(⟨#[44,32]⟩:ByteArray))++r3)))else none)else none)else(bif (!Q3 a0.suffix (⟨#[]⟩:ByteArray))then(bif Nat.ble (r1.size+(⟨#[44,32]⟩:ByteArray).size) 9223372036854775807 then(bif Nat.ble ((r1++(⟨#[44,32]⟩:ByteArray)).size+a0.suffix.size) 9223372036854775807 then(some ((r1++(⟨#[44,32]⟩:ByteArray))++a0.suffix))else none)else none)else(some r1)))
def Z87.C (k:Nat):Cal->Option CArm:=λc=>match c with
 |.f 128=>some (.p [(.sl .str)] _ (λx=>Z25.F k x.1) (λr=>(.t .str r)))
 |.f 129=>some (.p [.name] _ (λx=>Z86.F k x.1) (λr=>(.t .str r)))
 |_=>none
theorem Z87.run (k:Nat)(a0:Name):Qq Q0 (Qf (Z87.C k)) (Qe 33 0 (λ_=>none)) Tryz.f104 [.t .name a0] (Q6 (.t .str))=Z87.F k a0:=by kernel_rfl
theorem Z87.G (hE:EnvOk Tryz.prog Q0)(pv:Nat->Value)(k:Nat):∀cal A,Z87.C k cal=some A->Qc Tryz.prog Q0 pv cal A:=by
 intro cal A h
 unfold Z87.C at h
 split at h
 ·cases h;exact λx y hy=>Z25.good hE pv k x.1 hy
 ·cases h;exact λx y hy=>Z86.good hE pv k x.1 hy
 ·cases h
theorem Z87.good (hE:EnvOk Tryz.prog Q0)(pv:Nat->Value)(k:Nat)(a0:Name){y:_}(h:Z87.F k a0=some y):Qb Tryz.prog Q0 pv (.f 104) (Q7 [.name] (a0,())) (.t .str y):=
 Q8 hE (Z87.G hE pv k) (f:=104) (fn:=Tryz.f104) (by kernel_rfl) rfl (by kernel_rfl) (by kernel_rfl) ((Z87.run k a0).trans h) (λr hr=>Q1 hr)
def Z30.l0:Nat->(List Name)->ByteArray->Int->Option (ByteArray)
 |0,_,_,_=>none
 |k+1,x0,x3,x4=>bif (decide (x4<(x0.length:Int)))then(bif (decide (x4 > 0))then(bif Nat.ble (x3.size+(⟨#[59,32]⟩:ByteArray).size) 9223372036854775807 then(bif decide (0<=x4)then(bif decide (x4<(x0.length:Int))then((Z87.F k (x0.getD (x4:Int).toNat (Q2 .name))).bind λr1=>bif Nat.ble ((x3++(⟨#[59,32]⟩:ByteArray)).size+r1.size) 9223372036854775807 then(Z30.l0 k x0 ((x3++(⟨#[59,32]⟩:ByteArray))++r1) (IntKind.wrap .i64 (x4+1)))else none)else none)else none)else none)else(bif decide (0<=x4)then(bif decide (x4<(x0.length:Int))then((Z87.F k (x0.getD (x4:Int).toNat (Q2 .name))).bind λr2=>bif Nat.ble (x3.size+r2.size) 9223372036854775807 then(Z30.l0 k x0 (x3++r2) (IntKind.wrap .i64 (x4+1)))else none)else none)else none))else(some x3)
def Z30.F (k:Nat)(a0:List Name):Option (ByteArray):=(Z30.l0 k a0 (⟨#[]⟩:ByteArray) 0).bind λy3=>some y3
def Z30.C (k:Nat):Cal->Option CArm:=λc=>match c with
 |.f 104=>some (.p [.name] _ (λx=>Z87.F k x.1) (λr=>(.t .str r)))
 |_=>none
def Z30.sp0:List Sp:=[.t 0 (.sl .name),.t 3 .str,.t 4 (.int .i64)]
def Z30.sp0_0:List Sp:=[.t 3 .str]
def Z30.A0:LArm:=.one Z30.sp0 Z30.sp0_0 (ByteArray) (λk x=>Z30.l0 k x.1 x.2.1 x.2.2.1) (.exit 0) (λy=>(y,())) (λx=>x.1)
def Z30.L:Nat->Option LArm:=λb=>match b with
 |0=>some Z30.A0
 |_=>none
theorem Z30.run (k:Nat)(a0:List Name):Qq Q0 (Qf (Z30.C k)) (Qe 23 k Z30.L) Tryz.f73 [.t (.sl .name) a0] (Q6 (.t .str))=Z30.F k a0:=by kernel_rfl
theorem Z30.step0 (k:Nat)(x0:List Name)(x3:ByteArray)(x4:Int):QN Q0 (Qf (Z30.C k)) (Qe 23 k Z30.L) 0 (Qm Tryz.f73 0) (J6 23 Z30.sp0 (x0,x3,x4,())) (Z30.A0.cont 23 k)=Z30.l0 (k+1) x0 x3 x4:=by kernel_rfl
theorem Z30.G (hE:EnvOk Tryz.prog Q0)(pv:Nat->Value)(k:Nat):∀cal A,Z30.C k cal=some A->Qc Tryz.prog Q0 pv cal A:=by
 intro cal A h
 unfold Z30.C at h
 split at h
 ·cases h;exact λx y hy=>Z87.good hE pv k x.1 hy
 ·cases h
theorem Z30.good (hE:EnvOk Tryz.prog Q0)(pv:Nat->Value)(k:Nat)(a0:List Name){y:_}(h:Z30.F k a0=some y):Qb Tryz.prog Q0 pv (.f 73) (Q7 [(.sl .name)] (a0,())) (.t .str y):=
 Qj hE (t:=Z30.C) k (λk _=>Z30.G hE pv k) (f:=73) (fn:=Tryz.f73) (by kernel_rfl) rfl (by kernel_rfl) (by kernel_rfl) (lt:=Z30.L) (by kernel_rfl) (λb A h=>by
  unfold Z30.L at h;split at h
  ·cases h;exact⟨by kernel_rfl,by kernel_rfl,λ_=>rfl,λ_=>rfl⟩
  ·cases h) (λb A h=>by
  unfold Z30.L at h;split at h
  ·cases h;exact λk x=>Z30.step0 k x.1 x.2.1 x.2.2.1
  ·cases h) ((Z30.run k a0).trans h) (λr hr=>Q1 hr)
mutual
def Z46.F:Nat->Int->Option (ByteArray)
 |0,_=>none
 |k+1,a0=>bif (decide (a0<0))then((Z46.F k (IntKind.wrap .i64 (0-a0))).bind λr1=>bif Nat.ble ((⟨#[45]⟩:ByteArray).size+r1.size) 9223372036854775807 then(some ((⟨#[45]⟩:ByteArray)++r1))else none)else(bif (decide (a0<10))then(bif decide (0<=(IntKind.wrap .i64 (a0+1)))then(bif decide ((IntKind.wrap .i64 (a0+1))<=((⟨#[48,49,50,51,52,53,54,55,56,57]⟩:ByteArray).size:Int))then(bif decide (0<=a0)then(bif decide (a0<=(IntKind.wrap .i64 (a0+1)))then(some ((⟨#[48,49,50,51,52,53,54,55,56,57]⟩:ByteArray).extract (a0:Int).toNat ((IntKind.wrap .i64 (a0+1)):Int).toNat))else none)else none)else none)else none)else(bif (10==0)then(none)else((Z46.F k (IntKind.wrap .i64 (Int.tdiv a0 10))).bind λr2=>bif (10==0)then(none)else(bif (10==0)then(none)else(bif decide (0<=(IntKind.wrap .i64 ((Int.tmod a0 10)+1)))then(bif decide ((IntKind.wrap .i64 ((Int.tmod a0 10)+1))<=((⟨#[48,49,50,51,52,53,54,55,56,57]⟩:ByteArray).size:Int))then(bif decide (0<=(Int.tmod a0 10))then(bif decide ((Int.tmod a0 10)<=(IntKind.wrap .i64 ((Int.tmod a0 10)+1)))then(bif Nat.ble (r2.size+((⟨#[48,49,50,51,52,53,54,55,56,57]⟩:ByteArray).extract ((Int.tmod a0 10):Int).toNat ((IntKind.wrap .i64 ((Int.tmod a0 10)+1)):Int).toNat).size) 9223372036854775807 then(some (r2++((⟨#[48,49,50,51,52,53,54,55,56,57]⟩:ByteArray).extract ((Int.tmod a0 10):Int).toNat ((IntKind.wrap .i64 ((Int.tmod a0 10)+1)):Int).toNat)))else none)else none)else none)else none)else none)))))
end
def Z46.C (k:Nat):Cal->Option CArm:=λc=>match c with
 |.f 75=>some (.p [(.int .i64)] _ (λx=>Z46.F k x.1) (λr=>(.t .str r)))
 |_=>none
theorem Z46.run (k:Nat)(a0:Int):Qq Q0 (Qf (Z46.C k)) (Qe 25 0 (λ_=>none)) Tryz.f75 [.t (.int .i64) a0] (Q6 (.t .str))=Z46.F (k+1) a0:=by kernel_rfl
def Z46.Gd (pv:Nat->Value)(k:Nat):Prop:=(∀(a0:Int) {y:_},Z46.F k a0=some y->Qb Tryz.prog Q0 pv (.f 75) (Q7 [(.int .i64)] (a0,())) (.t .str y))
theorem Z46.G (hE:EnvOk Tryz.prog Q0)(pv:Nat->Value)(k:Nat)(hI:Z46.Gd pv k):∀cal A,Z46.C k cal=some A->Qc Tryz.prog Q0 pv cal A:=by
 intro cal A h
 unfold Z46.C at h
 split at h
 ·cases h;exact λx y hy=>hI x.1 hy
 ·cases h
theorem Z46.gd (hE:EnvOk Tryz.prog Q0)(pv:Nat->Value)(k:Nat)(hI:∀k',k'<=k->Z46.Gd pv k')(a0:Int){y:_}(h:Z46.F (k+1) a0=some y):Qb Tryz.prog Q0 pv (.f 75) (Q7 [(.int .i64)] (a0,())) (.t .str y):=
 Q8 hE (Z46.G hE pv k (hI k (Nat.le_refl k))) (f:=75) (fn:=Tryz.f75) (by kernel_rfl) rfl (by kernel_rfl) (by kernel_rfl) ((Z46.run k a0).trans h) (λr hr=>Q1 hr)
theorem Z46.all (hE:EnvOk Tryz.prog Q0)(pv:Nat->Value):∀k k',k'<=k->Z46.Gd pv k':=by
 intro k
 induction k with
 |zero=>
  intro k' hk
  obtain rfl:k'=0:=by omega
  exact λ_ y h=>by cases (show(none:Option _)=some y from h)
 |succ k ih=>
  intro k' hk
  rcases Nat.lt_or_ge k' (k+1)with hlt|hge
  ·exact ih k' (by omega)
  ·obtain rfl:k'=k+1:=by omega
   exact λa0 y h=>Z46.gd hE pv k ih a0 h
theorem Z46.good (hE:EnvOk Tryz.prog Q0)(pv:Nat->Value)(k:Nat)(a0:Int){y:_}(h:Z46.F k a0=some y):Qb Tryz.prog Q0 pv (.f 75) (Q7 [(.int .i64)] (a0,())) (.t .str y):=
 (Z46.all hE pv k k (Nat.le_refl k)) a0 h
def Z21.l0:Nat->Int->ByteArray->Option (ByteArray)
 |0,_,_=>none
 |k+1,x1,x5=>bif (decide ((x5.size:Int)<x1))then(bif Nat.ble ((⟨#[48]⟩:ByteArray).size+x5.size) 9223372036854775807 then(Z21.l0 k x1 ((⟨#[48]⟩:ByteArray)++x5))else none)else(some x5)
def Z21.F (k:Nat)(a0:Int)(a1:Int):Option (ByteArray):=(Z46.F k a0).bind λr1=>(Z21.l0 k a1 r1).bind λy2=>some y2
def Z21.C (k:Nat):Cal->Option CArm:=λc=>match c with
 |.f 75=>some (.p [(.int .i64)] _ (λx=>Z46.F k x.1) (λr=>(.t .str r)))
 |_=>none
def Z21.sp0:List Sp:=[.t 1 (.int .i64),.t 5 .str]
def Z21.sp0_0:List Sp:=[.t 5 .str]
def Z21.A0:LArm:=.one Z21.sp0 Z21.sp0_0 (ByteArray) (λk x=>Z21.l0 k x.1 x.2.1) (.exit 0) (λy=>(y,())) (λx=>x.1)
def Z21.L:Nat->Option LArm:=λb=>match b with
 |0=>some Z21.A0
 |_=>none
theorem Z21.run (k:Nat)(a0:Int)(a1:Int):Qq Q0 (Qf (Z21.C k)) (Qe 15 k Z21.L) Tryz.f105 [.t (.int .i64) a0,.t (.int .i64) a1] (Q6 (.t .str))=Z21.F k a0 a1:=by kernel_rfl
theorem Z21.step0 (k:Nat)(x1:Int)(x5:ByteArray):QN Q0 (Qf (Z21.C k)) (Qe 15 k Z21.L) 0 (Qm Tryz.f105 0) (J6 15 Z21.sp0 (x1,x5,())) (Z21.A0.cont 15 k)=Z21.l0 (k+1) x1 x5:=by kernel_rfl
theorem Z21.G (hE:EnvOk Tryz.prog Q0)(pv:Nat->Value)(k:Nat):∀cal A,Z21.C k cal=some A->Qc Tryz.prog Q0 pv cal A:=by
 intro cal A h
 unfold Z21.C at h
 split at h
 ·cases h;exact λx y hy=>Z46.good hE pv k x.1 hy
 ·cases h
theorem Z21.good (hE:EnvOk Tryz.prog Q0)(pv:Nat->Value)(k:Nat)(a0:Int)(a1:Int){y:_}(h:Z21.F k a0 a1=some y):Qb Tryz.prog Q0 pv (.f 105) (Q7 [(.int .i64),(.int .i64)] (a0,a1,())) (.t .str y):=
 Qj hE (t:=Z21.C) k (λk _=>Z21.G hE pv k) (f:=105) (fn:=Tryz.f105) (by kernel_rfl) rfl (by kernel_rfl) (by kernel_rfl) (lt:=Z21.L) (by kernel_rfl) (λb A h=>by
  unfold Z21.L at h;split at h
  ·cases h;exact⟨by kernel_rfl,by kernel_rfl,λ_=>rfl,λ_=>rfl⟩
  ·cases h) (λb A h=>by
  unfold Z21.L at h;split at h
  ·cases h;exact λk x=>Z21.step0 k x.1 x.2.1
  ·cases h) ((Z21.run k a0 a1).trans h) (λr hr=>Q1 hr)
def Z103.F (k:Nat)(a0:Date):Option (ByteArray):=bif (a0.y==0)then(some (⟨#[117,110,107,110,111,119,110]⟩:ByteArray))else((Z21.F k a0.y 4).bind λr1=>bif (decide (a0.m > 0))then(bif Nat.ble (r1.size+(⟨#[45]⟩:ByteArray).size) 9223372036854775807 then((Z21.F k a0.m 2).bind λr2=>bif Nat.ble ((r1++(⟨#[45]⟩:ByteArray)).size+r2.size) 9223372036854775807 then(bif (decide (a0.d > 0))then(bif Nat.ble (((r1++(⟨#[45]⟩:ByteArray))++r2).size+(⟨#[45]⟩:ByteArray).size) 9223372036854775807 then((Z21.F k a0.d 2).bind λr3=>bif Nat.ble ((((r1++(⟨#[45]⟩:ByteArray))++r2)++(⟨#[45]⟩:ByteArray)).size+r3.size) 9223372036854775807 then(bif a0.c then(bif Nat.ble ((⟨#[99]⟩:ByteArray).size+((((r1++(⟨#[45]⟩:ByteArray))++r2)++(⟨#[45]⟩:ByteArray))++r3).size) 9223372036854775807 then(some ((⟨#[99]⟩:ByteArray)++((((r1++(⟨#[45]⟩:ByteArray))++r2)++(⟨#[45]⟩:ByteArray))++r3)))else none)else(some ((((r1++(⟨#[45]⟩:ByteArray))++r2)++(⟨#[45]⟩:ByteArray))++r3)))else none)else none)else(bif a0.c then(bif Nat.ble ((⟨#[99]⟩:ByteArray).size+((r1++(⟨#[45]⟩:ByteArray))++r2).size) 9223372036854775807 then(some ((⟨#[99]⟩:ByteArray)++((r1++(⟨#[45]⟩:ByteArray))++r2)))else none)else(some ((r1++(⟨#[45]⟩:ByteArray))++r2))))else none)else none)else(bif (decide (a0.d > 0))then(bif Nat.ble (r1.size+(⟨#[45]⟩:ByteArray).size) 9223372036854775807 then((Z21.F k a0.d 2).bind λr4=>bif Nat.ble ((r1++(⟨#[45]⟩:ByteArray)).size+r4.size) 9223372036854775807 then(bif a0.c then(bif Nat.ble ((⟨#[99]⟩:ByteArray).size+((r1++(⟨#[45]⟩:ByteArray))++r4).size) 9223372036854775807 then(some ((⟨#[99]⟩:ByteArray)++((r1++(⟨#[45]⟩:ByteArray))++r4)))else none)else(some ((r1++(⟨#[45]⟩:ByteArray))++r4)))else none)else none)else(bif a0.c then(bif Nat.ble ((⟨#[99]⟩:ByteArray).size+r1.size) 9223372036854775807 then(some ((⟨#[99]⟩:ByteArray)++r1))else none)else(some r1))))
def Z103.C (k:Nat):Cal->Option CArm:=λc=>match c with
 |.f 105=>some (.p [(.int .i64),(.int .i64)] _ (λx=>Z21.F k x.1 x.2.1) (λr=>(.t .str r)))
 |_=>none
theorem Z103.run (k:Nat)(a0:Date):Qq Q0 (Qf (Z103.C k)) (Qe 33 0 (λ_=>none)) Tryz.f74 [.t .date a0] (Q6 (.t .str))=Z103.F k a0:=by kernel_rfl
theorem Z103.G (hE:EnvOk Tryz.prog Q0)(pv:Nat->Value)(k:Nat):∀cal A,Z103.C k cal=some A->Qc Tryz.prog Q0 pv cal A:=by
 intro cal A h
 unfold Z103.C at h
 split at h
 ·cases h;exact λx y hy=>Z21.good hE pv k x.1 x.2.1 hy
 ·cases h
theorem Z103.good (hE:EnvOk Tryz.prog Q0)(pv:Nat->Value)(k:Nat)(a0:Date){y:_}(h:Z103.F k a0=some y):Qb Tryz.prog Q0 pv (.f 74) (Q7 [.date] (a0,())) (.t .str y):=
 Q8 hE (Z103.G hE pv k) (f:=74) (fn:=Tryz.f74) (by kernel_rfl) rfl (by kernel_rfl) (by kernel_rfl) ((Z103.run k a0).trans h) (λr hr=>Q1 hr)
def Z88.F (k:Nat)(a0:Entry)(a1:ByteArray):Option (ByteArray×Bool):=bif (Q3 a1 (⟨#[97,117,116,104,111,114,115]⟩:ByteArray))then((Z30.F k a0.authors).bind λr1=>some (r1,true))else(bif (Q3 a1 (⟨#[101,100,105,116,111,114,115]⟩:ByteArray))then((Z30.F k a0.editors).bind λr2=>some (r2,true))else(bif (Q3 a1 (⟨#[116,105,116,108,101]⟩:ByteArray))then(some (a0.title,true))else(bif (Q3 a1 (⟨#[99,111,110,116,97,105,110,101,114]⟩:ByteArray))then(some (a0.container,true))else(bif (Q3 a1 (⟨#[112,117,98,108,105,115,104,101,114]⟩:ByteArray))then(some (a0.publisher,true))else(bif (Q3 a1 (⟨#[112,97,103,101,115]⟩:ByteArray))then(some (a0.pages,true))else(bif (Q3 a1 (⟨#[100,97,116,101]⟩:ByteArray))then(bif (a0.date.y==0)then(some ((⟨#[]⟩:ByteArray),true))else((Z103.F k a0.date).bind λr3=>some (r3,true)))else(bif (Q3 a1 (⟨#[118,111,108,117,109,101]⟩:ByteArray))then(bif (a0.volume==0)then(some ((⟨#[]⟩:ByteArray),true))else((Z46.F k a0.volume).bind λr4=>some (r4,true)))else(some ((⟨#[]⟩:ByteArray),false)))))))))
def Z88.C (k:Nat):Cal->Option CArm:=λc=>match c with
 |.f 73=>some (.p [(.sl .name)] _ (λx=>Z30.F k x.1) (λr=>(.t .str r)))
 |.f 74=>some (.p [.date] _ (λx=>Z103.F k x.1) (λr=>(.t .str r)))
 |.f 75=>some (.p [(.int .i64)] _ (λx=>Z46.F k x.1) (λr=>(.t .str r)))
 |_=>none
theorem Z88.run (k:Nat)(a0:Entry)(a1:ByteArray):Qq Q0 (Qf (Z88.C k)) (Qe 50 0 (λ_=>none)) Tryz.f33 [.t .entry a0,.t .str a1] (U6 (.t .str) (.t .bool))=Z88.F k a0 a1:=by kernel_rfl
theorem Z88.G (hE:EnvOk Tryz.prog Q0)(pv:Nat->Value)(k:Nat):∀cal A,Z88.C k cal=some A->Qc Tryz.prog Q0 pv cal A:=by
 intro cal A h
 unfold Z88.C at h
 split at h
 ·cases h;exact λx y hy=>Z30.good hE pv k x.1 hy
 ·cases h;exact λx y hy=>Z103.good hE pv k x.1 hy
 ·cases h;exact λx y hy=>Z46.good hE pv k x.1 hy
 ·cases h
theorem Z88.good (hE:EnvOk Tryz.prog Q0)(pv:Nat->Value)(k:Nat)(a0:Entry)(a1:ByteArray){y:_}(h:Z88.F k a0 a1=some y):Qb Tryz.prog Q0 pv (.f 33) (Q7 [.entry,.str] (a0,a1,())) (.tup [.t .str y.1,.t .bool y.2]):=
 Q8 hE (Z88.G hE pv k) (f:=33) (fn:=Tryz.f33) (by kernel_rfl) rfl (by kernel_rfl) (by kernel_rfl) ((Z88.run k a0 a1).trans h) (λr hr=>Yx hr)
def Z26.l0:Nat->Entry->Entry->(List ByteArray)->(List ByteArray)->Int->Option ((List ByteArray))
 |0,_,_,_,_,_=>none
 |k+1,x2,x3,x6,x7,x8=>bif (decide (x8<(x7.length:Int)))then(bif decide (0<=x8)then(bif decide (x8<(x7.length:Int))then((Z88.F k x2 (x7.getD ((x8:Int).toNat) (⟨#[]⟩:ByteArray))).bind λr3=>bif decide (0<=x8)then(bif decide (x8<(x7.length:Int))then((Z88.F k x3 (x7.getD ((x8:Int).toNat) (⟨#[]⟩:ByteArray))).bind λr4=>bif (!Q3 r3.1 (⟨#[]⟩:ByteArray))then(bif (!Q3 r4.1 (⟨#[]⟩:ByteArray))then(bif (!Q3 r3.1 r4.1)then(bif decide (0<=x8)then(bif decide (x8<(x7.length:Int))then(bif room (x6.length+([(x7.getD ((x8:Int).toNat) (⟨#[]⟩:ByteArray))]:List ByteArray).length) .str then(Z26.l0 k x2 x3 (x6++([(x7.getD ((x8:Int).toNat) (⟨#[]⟩:ByteArray))]:List ByteArray)) x7 (IntKind.wrap .i64 (x8+1)))else none)else none)else none)else(Z26.l0 k x2 x3 x6 x7 (IntKind.wrap .i64 (x8+1))))else(Z26.l0 k x2 x3 x6 x7 (IntKind.wrap .i64 (x8+1))))else(Z26.l0 k x2 x3 x6 x7 (IntKind.wrap .i64 (x8+1))))else none)else none)else none)else none)else(some x6)
def Z26.F (k:Nat)(a0:Entry)(a1:Entry):Option ((List ByteArray)×Bool):=(Z53.F k a0).bind λr1=>bif (!r1)then(some (([]:List ByteArray),false))else((Z53.F k a1).bind λr2=>bif (!r2)then(some (([]:List ByteArray),false))else((Z26.l0 k a0 a1 ([]:List ByteArray) ([(⟨#[97,117,116,104,111,114,115]⟩:ByteArray),(⟨#[101,100,105,116,111,114,115]⟩:ByteArray),(⟨#[116,105,116,108,101]⟩:ByteArray),(⟨#[99,111,110,116,97,105,110,101,114]⟩:ByteArray),(⟨#[112,117,98,108,105,115,104,101,114]⟩:ByteArray),(⟨#[100,97,116,101]⟩:ByteArray),(⟨#[118,111,108,117,109,101]⟩:ByteArray),(⟨#[112,97,103,101,115]⟩:ByteArray)]:List ByteArray) 0).bind λy5=>some (y5,true)))
def Z26.C (k:Nat):Cal->Option CArm:=λc=>match c with
 |.f 23=>some (.p [.entry] _ (λx=>Z53.F k x.1) (λr=>(.t .bool r)))
 |.f 33=>some (.p [.entry,.str] _ (λx=>Z88.F k x.1 x.2.1) (λr=>(.tup [.t .str r.1,.t .bool r.2])))
 |_=>none
def Z26.sp0:List Sp:=[.boxT 2 0 .entry,.boxT 3 4 .entry,.own 6 1024 9 .str false true,.own 7 4096 9 .str false true,.t 8 (.int .i64)]
def Z26.sp0_0:List Sp:=[.own 6 1024 9 .str false true]
def Z26.A0:LArm:=.one Z26.sp0 Z26.sp0_0 ((List ByteArray)) (λk x=>Z26.l0 k x.1 x.2.1 x.2.2.1 x.2.2.2.1 x.2.2.2.2.1) (.exit 0) (λy=>(y,())) (λx=>x.1)
def Z26.L:Nat->Option LArm:=λb=>match b with
 |0=>some Z26.A0
 |_=>none
theorem Z26.run (k:Nat)(a0:Entry)(a1:Entry):Qq Q0 (Qf (Z26.C k)) (Qe 67 k Z26.L) Tryz.f12 [.t .entry a0,.t .entry a1] (U6 (.fr 9 .str) (.t .bool))=Z26.F k a0 a1:=by kernel_rfl
theorem Z26.step0 (k:Nat)(x2:Entry)(x3:Entry)(x6:List ByteArray)(x7:List ByteArray)(x8:Int):QN Q0 (Qf (Z26.C k)) (Qe 67 k Z26.L) 0 (Qm Tryz.f12 0) (J6 67 Z26.sp0 (x2,x3,x6,x7,x8,())) (Z26.A0.cont 67 k)=Z26.l0 (k+1) x2 x3 x6 x7 x8:=by kernel_rfl
theorem Z26.G (hE:EnvOk Tryz.prog Q0)(pv:Nat->Value)(k:Nat):∀cal A,Z26.C k cal=some A->Qc Tryz.prog Q0 pv cal A:=by
 intro cal A h
 unfold Z26.C at h
 split at h
 ·cases h;exact λx y hy=>Z53.good hE pv k x.1 hy
 ·cases h;exact λx y hy=>Z88.good hE pv k x.1 x.2.1 hy
 ·cases h
theorem Z26.good (hE:EnvOk Tryz.prog Q0)(pv:Nat->Value)(k:Nat)(a0:Entry)(a1:Entry){y:_}(h:Z26.F k a0 a1=some y):Qb Tryz.prog Q0 pv (.f 12) (Q7 [.entry,.entry] (a0,a1,())) (.tup [.fr 9 .str y.1,.t .bool y.2]):=
 Qj hE (t:=Z26.C) k (λk _=>Z26.G hE pv k) (f:=12) (fn:=Tryz.f12) (by kernel_rfl) rfl (by kernel_rfl) (by kernel_rfl) (lt:=Z26.L) (by kernel_rfl) (λb A h=>by
  unfold Z26.L at h;split at h
  ·cases h;exact⟨by kernel_rfl,by kernel_rfl,λ_=>rfl,λ_=>rfl⟩
  ·cases h) (λb A h=>by
  unfold Z26.L at h;split at h
  ·cases h;exact λk x=>Z26.step0 k x.1 x.2.1 x.2.2.1 x.2.2.2.1 x.2.2.2.2.1
  ·cases h) ((Z26.run k a0 a1).trans h) (λr hr=>Yx hr)
def Z15.l0:Nat->Library->Int->Option (Sum Bool Unit)
 |0,_,_=>none
 |k+1,x1,x3=>bif (decide (x3<(x1.entries.length:Int)))then(bif decide (0<=x3)then(bif decide (x3<(x1.entries.length:Int))then((Z53.F k (x1.entries.getD (x3:Int).toNat (Q2 .entry))).bind λr1=>bif (!r1)then(some (.inl false))else(bif (decide (x3 > 0))then(bif decide (0<=(IntKind.wrap .i64 (x3-1)))then(bif decide ((IntKind.wrap .i64 (x3-1))<(x1.entries.length:Int))then(bif decide (0<=x3)then(bif decide (x3<(x1.entries.length:Int))then(bif (!ltS ((x1.entries.getD ((IntKind.wrap .i64 (x3-1)):Int).toNat (Q2 .entry)).key) ((x1.entries.getD (x3:Int).toNat (Q2 .entry)).key))then(some (.inl false))else(Z15.l0 k x1 (IntKind.wrap .i64 (x3+1))))else none)else none)else none)else none)else(Z15.l0 k x1 (IntKind.wrap .i64 (x3+1)))))else none)else none)else(some (.inr ()))
def Z15.F (k:Nat)(a0:Library):Option (Bool):=bif (decide ((a0.entries.length:Int) > 8))then(some false)else((Z15.l0 k a0 0).bind λy2=>match y2 with|.inl z3=>some z3|.inr z3=>some true)
def Z15.C (k:Nat):Cal->Option CArm:=λc=>match c with
 |.f 23=>some (.p [.entry] _ (λx=>Z53.F k x.1) (λr=>(.t .bool r)))
 |_=>none
def Z15.sp0:List Sp:=[.boxT 1 0 .lib,.t 3 (.int .i64)]
def Z15.sp0_0:List Sp:=[.t 2 .bool]
def Z15.sp0_1:List Sp:=[]
def Z15.A0:LArm:=.two Z15.sp0 Z15.sp0_0 Z15.sp0_1 (Bool) (Unit) (λk x=>Z15.l0 k x.1 x.2.1) .ret (.exit 0) (λy=>(y,())) (λx=>x.1) (λy=>()) (λx=>())
def Z15.L:Nat->Option LArm:=λb=>match b with
 |0=>some Z15.A0
 |_=>none
theorem Z15.run (k:Nat)(a0:Library):Qq Q0 (Qf (Z15.C k)) (Qe 42 k Z15.L) Tryz.f39 [.t .lib a0] (Q6 (.t .bool))=Z15.F k a0:=by kernel_rfl
theorem Z15.step0 (k:Nat)(x1:Library)(x3:Int):QN Q0 (Qf (Z15.C k)) (Qe 42 k Z15.L) 0 (Qm Tryz.f39 0) (J6 42 Z15.sp0 (x1,x3,())) (Z15.A0.cont 42 k)=Z15.l0 (k+1) x1 x3:=by kernel_rfl
theorem Z15.G (hE:EnvOk Tryz.prog Q0)(pv:Nat->Value)(k:Nat):∀cal A,Z15.C k cal=some A->Qc Tryz.prog Q0 pv cal A:=by
 intro cal A h
 unfold Z15.C at h
 split at h
 ·cases h;exact λx y hy=>Z53.good hE pv k x.1 hy
 ·cases h
theorem Z15.good (hE:EnvOk Tryz.prog Q0)(pv:Nat->Value)(k:Nat)(a0:Library){y:_}(h:Z15.F k a0=some y):Qb Tryz.prog Q0 pv (.f 39) (Q7 [.lib] (a0,())) (.t .bool y):=
 Qj hE (t:=Z15.C) k (λk _=>Z15.G hE pv k) (f:=39) (fn:=Tryz.f39) (by kernel_rfl) rfl (by kernel_rfl) (by kernel_rfl) (lt:=Z15.L) (by kernel_rfl) (λb A h=>by
  unfold Z15.L at h;split at h
  ·cases h;exact⟨by kernel_rfl,by kernel_rfl,by kernel_rfl,λ_=>rfl,λ_=>rfl,λ_=>rfl⟩
  ·cases h) (λb A h=>by
  unfold Z15.L at h;split at h
  ·cases h;exact λk x=>Z15.step0 k x.1 x.2.1
  ·cases h) ((Z15.run k a0).trans h) (λr hr=>Q1 hr)
def Z6.l0:Nat->Library->Entry->(List Entry)->(List Entry)->Bool->Int->Option (Entry× (List Entry)× (List Entry)×Bool)
 |0,_,_,_,_,_,_=>none
 |k+1,x2,x3,x4,x5,x6,x7=>bif (decide (x7<(x2.entries.length:Int)))then(bif decide (0<=x7)then(bif decide (x7<(x2.entries.length:Int))then(bif (!ltS ((x2.entries.getD (x7:Int).toNat (Q2 .entry)).key) x3.key)then(bif (!x6)then((Z48.F k x3).bind λr1=>bif room (x5.length+([r1]:List Entry).length) .entry then(bif decide (0<=x7)then(bif decide (x7<(x2.entries.length:Int))then(bif (!Q3 ((x2.entries.getD (x7:Int).toNat (Q2 .entry)).key) x3.key)then(bif decide (0<=x7)then(bif decide (x7<(x2.entries.length:Int))then((Z48.F k (x2.entries.getD (x7:Int).toNat (Q2 .entry))).bind λr2=>bif room ((x5++([r1]:List Entry)).length+([r2]:List Entry).length) .entry then(Z6.l0 k x2 x3 x4 ((x5++([r1]:List Entry))++([r2]:List Entry)) true (IntKind.wrap .i64 (x7+1)))else none)else none)else none)else(Z6.l0 k x2 x3 x4 (x5++([r1]:List Entry)) true (IntKind.wrap .i64 (x7+1))))else none)else none)else none)else(bif decide (0<=x7)then(bif decide (x7<(x2.entries.length:Int))then(bif (!Q3 ((x2.entries.getD (x7:Int).toNat (Q2 .entry)).key) x3.key)then(bif decide (0<=x7)then(bif decide (x7<(x2.entries.length:Int))then((Z48.F k (x2.entries.getD (x7:Int).toNat (Q2 .entry))).bind λr3=>bif room (x5.length+([r3]:List Entry).length) .entry then(Z6.l0 k x2 x3 x4 (x5++([r3]:List Entry)) x6 (IntKind.wrap .i64 (x7+1)))else none)else none)else none)else(Z6.l0 k x2 x3 x4 x5 x6 (IntKind.wrap .i64 (x7+1))))else none)else none))else(bif decide (0<=x7)then(bif decide (x7<(x2.entries.length:Int))then(bif (!Q3 ((x2.entries.getD (x7:Int).toNat (Q2 .entry)).key) x3.key)then(bif decide (0<=x7)then(bif decide (x7<(x2.entries.length:Int))then((Z48.F k (x2.entries.getD (x7:Int).toNat (Q2 .entry))).bind λr4=>bif room (x5.length+([r4]:List Entry).length) .entry then(Z6.l0 k x2 x3 x4 (x5++([r4]:List Entry)) x6 (IntKind.wrap .i64 (x7+1)))else none)else none)else none)else(Z6.l0 k x2 x3 x4 x5 x6 (IntKind.wrap .i64 (x7+1))))else none)else none))else none)else none)else(some (x3,x4,x5,x6))
def Z6.F (k:Nat)(a0:Library)(a1:Entry):Option (Library):=(Z6.l0 k a0 a1 ([]:List Entry) ([]) false 0).bind λy5=>bif (!y5.2.2.2)then((Z48.F k y5.1).bind λr6=>bif room (y5.2.2.1.length+([r6]:List Entry).length) .entry then(some (⟨(y5.2.2.1++([r6]:List Entry))⟩:Library))else none)else(some (⟨y5.2.2.1⟩:Library))
def Z6.C (k:Nat):Cal->Option CArm:=λc=>match c with
 |.f 41=>some (.p [.entry] _ (λx=>Z48.F k x.1) (λr=>(.t .entry r)))
 |_=>none
def Z6.sp0:List Sp:=[.boxT 2 0 .lib,.boxT 3 4 .entry,.boxF 4 8 .lib [.t (.sl .entry)],.boxF 5 1028 .lib [.own 1099511627859 28 .entry false true],.t 6 .bool,.t 7 (.int .i64)]
def Z6.sp0_0:List Sp:=[.boxT 3 4 .entry,.boxF 4 8 .lib [.t (.sl .entry)],.boxF 5 1028 .lib [.own 1099511627859 28 .entry false true],.t 6 .bool]
def Z6.A0:LArm:=.one Z6.sp0 Z6.sp0_0 (Entry× (List Entry)× (List Entry)×Bool) (λk x=>Z6.l0 k x.1 x.2.1 x.2.2.1.1 x.2.2.2.1.1 x.2.2.2.2.1 x.2.2.2.2.2.1) (.exit 0) (λy=>(y.1,(y.2.1,()),(y.2.2.1,()),y.2.2.2,())) (λx=>(x.1,x.2.1.1,x.2.2.1.1,x.2.2.2.1))
def Z6.L:Nat->Option LArm:=λb=>match b with
 |0=>some Z6.A0
 |_=>none
theorem Z6.run (k:Nat)(a0:Library)(a1:Entry):Qq Q0 (Qf (Z6.C k)) (Qe 66 k Z6.L) Tryz.f77 [.t .lib a0,.t .entry a1] (Q6 (.sf .lib 28))=Z6.F k a0 a1:=by kernel_rfl
theorem Z6.step0 (k:Nat)(x2:Library)(x3:Entry)(x4:List Entry)(x5:List Entry)(x6:Bool)(x7:Int):QN Q0 (Qf (Z6.C k)) (Qe 66 k Z6.L) 0 (Qm Tryz.f77 0) (J6 66 Z6.sp0 (x2,x3,(x4,()),(x5,()),x6,x7,())) (Z6.A0.cont 66 k)=Z6.l0 (k+1) x2 x3 x4 x5 x6 x7:=by kernel_rfl
theorem Z6.G (hE:EnvOk Tryz.prog Q0)(pv:Nat->Value)(k:Nat):∀cal A,Z6.C k cal=some A->Qc Tryz.prog Q0 pv cal A:=by
 intro cal A h
 unfold Z6.C at h
 split at h
 ·cases h;exact λx y hy=>Z48.good hE pv k x.1 hy
 ·cases h
theorem Z6.good (hE:EnvOk Tryz.prog Q0)(pv:Nat->Value)(k:Nat)(a0:Library)(a1:Entry){y:_}(h:Z6.F k a0 a1=some y):Qb Tryz.prog Q0 pv (.f 77) (Q7 [.lib,.entry] (a0,a1,())) (sfV 28 .lib y):=
 Qj hE (t:=Z6.C) k (λk _=>Z6.G hE pv k) (f:=77) (fn:=Tryz.f77) (by kernel_rfl) rfl (by kernel_rfl) (by kernel_rfl) (lt:=Z6.L) (by kernel_rfl) (λb A h=>by
  unfold Z6.L at h;split at h
  ·cases h;exact⟨by kernel_rfl,by kernel_rfl,λ_=>rfl,λ_=>rfl⟩
  ·cases h) (λb A h=>by
  unfold Z6.L at h;split at h
  ·cases h;exact λk x=>Z6.step0 k x.1 x.2.1 x.2.2.1.1 x.2.2.2.1.1 x.2.2.2.2.1 x.2.2.2.2.2.1
  ·cases h) ((Z6.run k a0 a1).trans h) (λr hr=>Q1 hr)
def Z31.l0:Nat->Cur->(List Entry)->(List Entry)->Int->Option (Cur× (List Entry)× (List Entry))
 |0,_,_,_,_=>none
 |k+1,x0,x2,x3,x4=>bif (decide (x4 > 0))then((Z58.F k x0).bind λr2=>(Z27.F r2.1 4).bind λr3=>bif r3.2 then((Z3.F r3.1 ([(⟨#[97,49]⟩:ByteArray),(⟨#[98,50]⟩:ByteArray),(⟨#[99,51]⟩:ByteArray)]:List ByteArray)).bind λr4=>bif (Q3 r4.2 r2.2.key)then((Z6.F k (⟨x3⟩:Library) (⟨r2.2.key,r2.2.kind,r2.2.authors,r2.2.editors,r2.2.title,r2.2.container,r2.2.publisher,r2.2.date,r2.2.volume,r2.2.pages,(⟨#[]⟩:ByteArray)⟩:Entry)).bind λr5=>Z31.l0 k r4.1 x2 r5.entries (IntKind.wrap .i64 (x4-1)))else((Z6.F k (⟨x3⟩:Library) (⟨r2.2.key,r2.2.kind,r2.2.authors,r2.2.editors,r2.2.title,r2.2.container,r2.2.publisher,r2.2.date,r2.2.volume,r2.2.pages,r4.2⟩:Entry)).bind λr6=>Z31.l0 k r4.1 x2 r6.entries (IntKind.wrap .i64 (x4-1))))else((Z6.F k (⟨x3⟩:Library) r2.2).bind λr7=>Z31.l0 k r3.1 x2 r7.entries (IntKind.wrap .i64 (x4-1))))else(some (x0,x2,x3))
def Z31.F (k:Nat)(a0:Cur):Option (Cur×Library):=(Z0.F a0 6).bind λr1=>(Z31.l0 k r1.1 ([]:List Entry) ([]) r1.2).bind λy8=>some (y8.1,(⟨y8.2.2⟩:Library))
def Z31.C (k:Nat):Cal->Option CArm:=λc=>match c with
 |.f 43=>some (.m (.bx .cur) [(.int .i64)] _ (λx0 x=>Z0.F x0 x.1) (λr=>.kep (.bx .cur r.1) (.t (.int .i64) r.2)))
 |.f 42=>some (.m (.bx .cur) [] _ (λx0 x=>Z58.F k x0) (λr=>.kep (.bx .cur r.1) (.t .entry r.2)))
 |.f 21=>some (.m (.bx .cur) [(.int .i64)] _ (λx0 x=>Z27.F x0 x.1) (λr=>.kep (.bx .cur r.1) (.t .bool r.2)))
 |.f 44=>some (.m (.bx .cur) [(.sl .str)] _ (λx0 x=>Z3.F x0 x.1) (λr=>.kep (.bx .cur r.1) (.t .str r.2)))
 |.f 77=>some (.p [.lib,.entry] _ (λx=>Z6.F k x.1 x.2.1) (λr=>(sfV 28 .lib r)))
 |_=>none
def Z31.sp0:List Sp:=[.boxT 0 1099511627776 .cur,.boxF 2 0 .lib [.t (.sl .entry)],.boxF 3 1028 .lib [.own 1099511627827 28 .entry false true],.t 4 (.int .i64)]
def Z31.sp0_0:List Sp:=[.boxT 0 1099511627776 .cur,.boxF 2 0 .lib [.t (.sl .entry)],.boxF 3 1028 .lib [.own 1099511627827 28 .entry false true]]
def Z31.A0:LArm:=.one Z31.sp0 Z31.sp0_0 (Cur× (List Entry)× (List Entry)) (λk x=>Z31.l0 k x.1 x.2.1.1 x.2.2.1.1 x.2.2.2.1) (.exit 0) (λy=>(y.1,(y.2.1,()),(y.2.2,()),())) (λx=>(x.1,x.2.1.1,x.2.2.1.1))
def Z31.L:Nat->Option LArm:=λb=>match b with
 |0=>some Z31.A0
 |_=>none
theorem Z31.run (k:Nat)(a0:Cur):YP Q0 (Qf (Z31.C k)) (Qe 31 k Z31.L) Tryz.f106 Qd (.bx .cur a0) [] (Yb (.bx .cur) (Q6 (.sf .lib 28)))=Z31.F k a0:=by kernel_rfl
theorem Z31.step0 (k:Nat)(x0:Cur)(x2:List Entry)(x3:List Entry)(x4:Int):QN Q0 (Qf (Z31.C k)) (Qe 31 k Z31.L) 0 (Qm Tryz.f106 0) (J6 31 Z31.sp0 (x0,(x2,()),(x3,()),x4,())) (Z31.A0.cont 31 k)=Z31.l0 (k+1) x0 x2 x3 x4:=by kernel_rfl
theorem Z31.G (hE:EnvOk Tryz.prog Q0)(pv:Nat->Value)(k:Nat):∀cal A,Z31.C k cal=some A->Qc Tryz.prog Q0 pv cal A:=by
 intro cal A h
 unfold Z31.C at h
 split at h
 ·cases h;exact⟨_,rfl,λx0 x y hy=>Z0.good hE pv x0 x.1 hy⟩
 ·cases h;exact⟨_,rfl,λx0 x y hy=>Z58.good hE pv k x0 hy⟩
 ·cases h;exact⟨_,rfl,λx0 x y hy=>Z27.good hE pv x0 x.1 hy⟩
 ·cases h;exact⟨_,rfl,λx0 x y hy=>Z3.good hE pv x0 x.1 hy⟩
 ·cases h;exact λx y hy=>Z6.good hE pv k x.1 x.2.1 hy
 ·cases h
theorem Z31.good (hE:EnvOk Tryz.prog Q0)(pv:Nat->Value)(k:Nat)(a0:Cur){y:_}(h:Z31.F k a0=some y):Qx Tryz.prog Q0 pv 106 (.bx .cur a0) (Q7 [] (())) (.kep (.bx .cur y.1) (sfV 28 .lib y.2)):=
 YK hE (t:=Z31.C) k (λk _=>Z31.G hE pv k) (f:=106) (fn:=Tryz.f106) (by kernel_rfl) rfl (by kernel_rfl) (.inl rfl) (by kernel_rfl) (lt:=Z31.L) (by kernel_rfl) (λb A h=>by
  unfold Z31.L at h;split at h
  ·cases h;exact⟨by kernel_rfl,by kernel_rfl,λ_=>rfl,λ_=>rfl⟩
  ·cases h) (λb A h=>by
  unfold Z31.L at h;split at h
  ·cases h;exact λk x=>Z31.step0 k x.1 x.2.1.1 x.2.2.1.1 x.2.2.2.1
  ·cases h) ((Z31.run k a0).trans h) (λr hr=>QU (λr y h=>Q1 h) hr)
def Z45.l1:Nat->Cur->(List Entry)->(List Entry)->Int->Option (Cur× (List Entry)× (List Entry))
 |0,_,_,_,_=>none
 |k+1,x0,x2,x3,x4=>(Z0.F x0 2).bind λr5=>bif (decide ((x3.length:Int)<(IntKind.wrap .i64 (8+r5.2))))then(bif (decide (x4<10))then((Z58.F k r5.1).bind λr6=>(Z46.F k x4).bind λr7=>bif Nat.ble ((⟨#[120]⟩:ByteArray).size+r7.size) 9223372036854775807 then(bif room (x3.length+([(⟨((⟨#[120]⟩:ByteArray)++r7),r6.2.kind,r6.2.authors,r6.2.editors,r6.2.title,r6.2.container,r6.2.publisher,r6.2.date,r6.2.volume,r6.2.pages,r6.2.cross⟩:Entry)]:List Entry).length) .entry then(Z45.l1 k r6.1 x2 (x3++([(⟨((⟨#[120]⟩:ByteArray)++r7),r6.2.kind,r6.2.authors,r6.2.editors,r6.2.title,r6.2.container,r6.2.publisher,r6.2.date,r6.2.volume,r6.2.pages,r6.2.cross⟩:Entry)]:List Entry)) (IntKind.wrap .i64 (x4+1)))else none)else none)else(some (r5.1,x2,x3)))else(some (r5.1,x2,x3))
def Z45.F (k:Nat)(a0:Cur):Option (Cur×Library):=(Z31.F k a0).bind λr1=>bif ((r1.2.entries.length:Int)==0)then(some (r1.1,(⟨r1.2.entries⟩:Library)))else((Z0.F r1.1 16).bind λr2=>bif (r2.2==0)then((Z0.F r2.1 (r1.2.entries.length:Int)).bind λr3=>(Z54.F k r3.1).bind λr4=>bif decide (0<=r3.2)then(bif decide (r3.2<(r1.2.entries.length:Int))then(some (r4.1,(⟨(r1.2.entries.set ((r3.2:Int).toNat) r4.2)⟩:Library)))else none)else none)else(bif (r2.2==1)then(bif decide (0<=0)then(bif decide (0<(r1.2.entries.length:Int))then(bif room (r1.2.entries.length+([(r1.2.entries.getD ((0:Int).toNat) (Q2 .entry))]:List Entry).length) .entry then(some (r2.1,(⟨(r1.2.entries++([(r1.2.entries.getD ((0:Int).toNat) (Q2 .entry))]:List Entry))⟩:Library)))else none)else none)else none)else(bif (r2.2==2)then((Z45.l1 k r2.1 ([]:List Entry) r1.2.entries 0).bind λy8=>some (y8.1,(⟨y8.2.2⟩:Library)))else(some (r2.1,(⟨r1.2.entries⟩:Library))))))
def Z45.C (k:Nat):Cal->Option CArm:=λc=>match c with
 |.f 106=>some (.m (.bx .cur) [] _ (λx0 x=>Z31.F k x0) (λr=>.kep (.bx .cur r.1) (sfV 28 .lib r.2)))
 |.f 43=>some (.m (.bx .cur) [(.int .i64)] _ (λx0 x=>Z0.F x0 x.1) (λr=>.kep (.bx .cur r.1) (.t (.int .i64) r.2)))
 |.f 19=>some (.m (.bx .cur) [] _ (λx0 x=>Z54.F k x0) (λr=>.kep (.bx .cur r.1) (.t .entry r.2)))
 |.f 42=>some (.m (.bx .cur) [] _ (λx0 x=>Z58.F k x0) (λr=>.kep (.bx .cur r.1) (.t .entry r.2)))
 |.f 75=>some (.p [(.int .i64)] _ (λx=>Z46.F k x.1) (λr=>(.t .str r)))
 |_=>none
def Z45.sp1:List Sp:=[.boxT 0 1099511627776 .cur,.boxF 2 0 .lib [.t (.sl .entry)],.boxF 3 1032 .lib [.own 1028 28 .entry false true],.t 4 (.int .i64)]
def Z45.sp1_0:List Sp:=[.boxT 0 1099511627776 .cur,.boxF 2 0 .lib [.t (.sl .entry)],.boxF 3 1032 .lib [.own 1028 28 .entry false true]]
def Z45.A1:LArm:=.one Z45.sp1 Z45.sp1_0 (Cur× (List Entry)× (List Entry)) (λk x=>Z45.l1 k x.1 x.2.1.1 x.2.2.1.1 x.2.2.2.1) (.exit 1) (λy=>(y.1,(y.2.1,()),(y.2.2,()),())) (λx=>(x.1,x.2.1.1,x.2.2.1.1))
def Z45.L:Nat->Option LArm:=λb=>match b with
 |1=>some Z45.A1
 |_=>none
theorem Z45.run (k:Nat)(a0:Cur):YP Q0 (Qf (Z45.C k)) (Qe 66 k Z45.L) Tryz.f76 Qd (.bx .cur a0) [] (Yb (.bx .cur) (Q6 (.sf .lib 28)))=Z45.F k a0:=by kernel_rfl
theorem Z45.step1 (k:Nat)(x0:Cur)(x2:List Entry)(x3:List Entry)(x4:Int):QN Q0 (Qf (Z45.C k)) (Qe 66 k Z45.L) 1 (Qm Tryz.f76 1) (J6 66 Z45.sp1 (x0,(x2,()),(x3,()),x4,())) (Z45.A1.cont 66 k)=Z45.l1 (k+1) x0 x2 x3 x4:=by kernel_rfl
theorem Z45.G (hE:EnvOk Tryz.prog Q0)(pv:Nat->Value)(k:Nat):∀cal A,Z45.C k cal=some A->Qc Tryz.prog Q0 pv cal A:=by
 intro cal A h
 unfold Z45.C at h
 split at h
 ·cases h;exact⟨_,rfl,λx0 x y hy=>Z31.good hE pv k x0 hy⟩
 ·cases h;exact⟨_,rfl,λx0 x y hy=>Z0.good hE pv x0 x.1 hy⟩
 ·cases h;exact⟨_,rfl,λx0 x y hy=>Z54.good hE pv k x0 hy⟩
 ·cases h;exact⟨_,rfl,λx0 x y hy=>Z58.good hE pv k x0 hy⟩
 ·cases h;exact λx y hy=>Z46.good hE pv k x.1 hy
 ·cases h
theorem Z45.good (hE:EnvOk Tryz.prog Q0)(pv:Nat->Value)(k:Nat)(a0:Cur){y:_}(h:Z45.F k a0=some y):Qx Tryz.prog Q0 pv 76 (.bx .cur a0) (Q7 [] (())) (.kep (.bx .cur y.1) (sfV 28 .lib y.2)):=
 YK hE (t:=Z45.C) k (λk _=>Z45.G hE pv k) (f:=76) (fn:=Tryz.f76) (by kernel_rfl) rfl (by kernel_rfl) (.inl rfl) (by kernel_rfl) (lt:=Z45.L) (by kernel_rfl) (λb A h=>by
  unfold Z45.L at h;split at h
  ·cases h;exact⟨by kernel_rfl,by kernel_rfl,λ_=>rfl,λ_=>rfl⟩
  ·cases h) (λb A h=>by
  unfold Z45.L at h;split at h
  ·cases h;exact λk x=>Z45.step1 k x.1 x.2.1.1 x.2.2.1.1 x.2.2.2.1
  ·cases h) ((Z45.run k a0).trans h) (λr hr=>QU (λr y h=>Q1 h) hr)
def Z104.F (k:Nat)(a0:Cur):Option (Cur×Library):=(Z45.F k a0).bind λr1=>bif ((r1.2.entries.length:Int)==0)then(some (r1.1,(⟨r1.2.entries⟩:Library)))else(bif (decide ((r1.2.entries.length:Int) > 6))then(some (r1.1,(⟨r1.2.entries⟩:Library)))else((Z15.F k (⟨r1.2.entries⟩:Library)).bind λr2=>bif (!r2)then(some (r1.1,(⟨r1.2.entries⟩:Library)))else((Z0.F r1.1 (r1.2.entries.length:Int)).bind λr3=>bif decide (0<=r3.2)then(bif decide (r3.2<(r1.2.entries.length:Int))then((Z59.F k r3.1 (r1.2.entries.getD ((r3.2:Int).toNat) (Q2 .entry))).bind λr4=>(Z3.F r4.1 ([(⟨#[97,97,97]⟩:ByteArray),(⟨#[122,122,122]⟩:ByteArray),(⟨#[109,109,49]⟩:ByteArray)]:List ByteArray)).bind λr5=>(Z53.F k (⟨r5.2,r4.2.kind,r4.2.authors,r4.2.editors,r4.2.title,r4.2.container,r4.2.publisher,r4.2.date,r4.2.volume,r4.2.pages,r4.2.cross⟩:Entry)).bind λr6=>bif r6 then((Z6.F k (⟨r1.2.entries⟩:Library) (⟨r5.2,r4.2.kind,r4.2.authors,r4.2.editors,r4.2.title,r4.2.container,r4.2.publisher,r4.2.date,r4.2.volume,r4.2.pages,r4.2.cross⟩:Entry)).bind λr7=>some (r5.1,(⟨r7.entries⟩:Library)))else(some (r5.1,(⟨r1.2.entries⟩:Library))))else none)else none)))
def Z104.C (k:Nat):Cal->Option CArm:=λc=>match c with
 |.f 76=>some (.m (.bx .cur) [] _ (λx0 x=>Z45.F k x0) (λr=>.kep (.bx .cur r.1) (sfV 28 .lib r.2)))
 |.f 39=>some (.p [.lib] _ (λx=>Z15.F k x.1) (λr=>(.t .bool r)))
 |.f 43=>some (.m (.bx .cur) [(.int .i64)] _ (λx0 x=>Z0.F x0 x.1) (λr=>.kep (.bx .cur r.1) (.t (.int .i64) r.2)))
 |.f 20=>some (.m (.bx .cur) [.entry] _ (λx0 x=>Z59.F k x0 x.1) (λr=>.kep (.bx .cur r.1) (.t .entry r.2)))
 |.f 44=>some (.m (.bx .cur) [(.sl .str)] _ (λx0 x=>Z3.F x0 x.1) (λr=>.kep (.bx .cur r.1) (.t .str r.2)))
 |.f 23=>some (.p [.entry] _ (λx=>Z53.F k x.1) (λr=>(.t .bool r)))
 |.f 77=>some (.p [.lib,.entry] _ (λx=>Z6.F k x.1 x.2.1) (λr=>(sfV 28 .lib r)))
 |_=>none
theorem Z104.run (k:Nat)(a0:Cur):YP Q0 (Qf (Z104.C k)) (Qe 44 0 (λ_=>none)) Tryz.f34 Qd (.bx .cur a0) [] (Yb (.bx .cur) (Q6 (.t .lib)))=Z104.F k a0:=by kernel_rfl
theorem Z104.G (hE:EnvOk Tryz.prog Q0)(pv:Nat->Value)(k:Nat):∀cal A,Z104.C k cal=some A->Qc Tryz.prog Q0 pv cal A:=by
 intro cal A h
 unfold Z104.C at h
 split at h
 ·cases h;exact⟨_,rfl,λx0 x y hy=>Z45.good hE pv k x0 hy⟩
 ·cases h;exact λx y hy=>Z15.good hE pv k x.1 hy
 ·cases h;exact⟨_,rfl,λx0 x y hy=>Z0.good hE pv x0 x.1 hy⟩
 ·cases h;exact⟨_,rfl,λx0 x y hy=>Z59.good hE pv k x0 x.1 hy⟩
 ·cases h;exact⟨_,rfl,λx0 x y hy=>Z3.good hE pv x0 x.1 hy⟩
 ·cases h;exact λx y hy=>Z53.good hE pv k x.1 hy
 ·cases h;exact λx y hy=>Z6.good hE pv k x.1 x.2.1 hy
 ·cases h
theorem Z104.good (hE:EnvOk Tryz.prog Q0)(pv:Nat->Value)(k:Nat)(a0:Cur){y:_}(h:Z104.F k a0=some y):Qx Tryz.prog Q0 pv 34 (.bx .cur a0) (Q7 [] (())) (.kep (.bx .cur y.1) (.t .lib y.2)):=
 QQ hE (Z104.G hE pv k) (f:=34) (fn:=Tryz.f34) (by kernel_rfl) rfl (by kernel_rfl) (.inl rfl) (by kernel_rfl) ((Z104.run k a0).trans h) (λr hr=>QU (λr y h=>Q1 h) hr)
def Z89.F (a0:Cur)(a1:Library):Option (Cur×ByteArray):=bif ((a1.entries.length:Int)==0)then((Z3.F a0 ([(⟨#[97,49]⟩:ByteArray),(⟨#[98,50]⟩:ByteArray),(⟨#[122,122]⟩:ByteArray),(⟨#[]⟩:ByteArray),(⟨#[65]⟩:ByteArray)]:List ByteArray)).bind λr1=>some (r1.1,r1.2))else((Z27.F a0 8).bind λr2=>bif r2.2 then((Z3.F r2.1 ([(⟨#[97,49]⟩:ByteArray),(⟨#[98,50]⟩:ByteArray),(⟨#[122,122]⟩:ByteArray),(⟨#[]⟩:ByteArray),(⟨#[65]⟩:ByteArray)]:List ByteArray)).bind λr3=>some (r3.1,r3.2))else((Z0.F r2.1 (a1.entries.length:Int)).bind λr4=>bif decide (0<=r4.2)then(bif decide (r4.2<(a1.entries.length:Int))then(some (r4.1,(a1.entries.getD (r4.2:Int).toNat (Q2 .entry)).key))else none)else none))
def Z89.C:Cal->Option CArm:=λc=>match c with
 |.f 44=>some (.m (.bx .cur) [(.sl .str)] _ (λx0 x=>Z3.F x0 x.1) (λr=>.kep (.bx .cur r.1) (.t .str r.2)))
 |.f 21=>some (.m (.bx .cur) [(.int .i64)] _ (λx0 x=>Z27.F x0 x.1) (λr=>.kep (.bx .cur r.1) (.t .bool r.2)))
 |.f 43=>some (.m (.bx .cur) [(.int .i64)] _ (λx0 x=>Z0.F x0 x.1) (λr=>.kep (.bx .cur r.1) (.t (.int .i64) r.2)))
 |_=>none
theorem Z89.run (a0:Cur)(a1:Library):YP Q0 (Qf Z89.C) (Qe 26 0 (λ_=>none)) Tryz.f35 Qd (.bx .cur a0) [.t .lib a1] (Yb (.bx .cur) (Q6 (.t .str)))=Z89.F a0 a1:=by kernel_rfl
theorem Z89.G (hE:EnvOk Tryz.prog Q0)(pv:Nat->Value):∀cal A,Z89.C cal=some A->Qc Tryz.prog Q0 pv cal A:=by
 intro cal A h
 unfold Z89.C at h
 split at h
 ·cases h;exact⟨_,rfl,λx0 x y hy=>Z3.good hE pv x0 x.1 hy⟩
 ·cases h;exact⟨_,rfl,λx0 x y hy=>Z27.good hE pv x0 x.1 hy⟩
 ·cases h;exact⟨_,rfl,λx0 x y hy=>Z0.good hE pv x0 x.1 hy⟩
 ·cases h
theorem Z89.good (hE:EnvOk Tryz.prog Q0)(pv:Nat->Value)(a0:Cur)(a1:Library){y:_}(h:Z89.F a0 a1=some y):Qx Tryz.prog Q0 pv 35 (.bx .cur a0) (Q7 [.lib] (a1,())) (.kep (.bx .cur y.1) (.t .str y.2)):=
 QQ hE (Z89.G hE pv) (f:=35) (fn:=Tryz.f35) (by kernel_rfl) rfl (by kernel_rfl) (.inl rfl) (by kernel_rfl) ((Z89.run a0 a1).trans h) (λr hr=>QU (λr y h=>Q1 h) hr)
def Z77.F (k:Nat)(a0:List Int):Option (Library×ByteArray×ByteArray):=(Z104.F k (⟨a0,0,0⟩:Cur)).bind λr1=>(Z89.F r1.1 r1.2).bind λr2=>(Z89.F r2.1 r1.2).bind λr3=>some (r1.2,r2.2,r3.2)
def Z77.C (k:Nat):Cal->Option CArm:=λc=>match c with
 |.f 34=>some (.m (.bx .cur) [] _ (λx0 x=>Z104.F k x0) (λr=>.kep (.bx .cur r.1) (.t .lib r.2)))
 |.f 35=>some (.m (.bx .cur) [.lib] _ (λx0 x=>Z89.F x0 x.1) (λr=>.kep (.bx .cur r.1) (.t .str r.2)))
 |_=>none
theorem Z77.run (k:Nat)(a0:List Int):Qq Q0 (Qf (Z77.C k)) (Qe 21 0 (λ_=>none)) Tryz.f14 [.t (.sl (.int .u8)) a0] (Q5b (.t .lib) (.t .str) (.t .str))=Z77.F k a0:=by kernel_rfl
theorem Z77.G (hE:EnvOk Tryz.prog Q0)(pv:Nat->Value)(k:Nat):∀cal A,Z77.C k cal=some A->Qc Tryz.prog Q0 pv cal A:=by
 intro cal A h
 unfold Z77.C at h
 split at h
 ·cases h;exact⟨_,rfl,λx0 x y hy=>Z104.good hE pv k x0 hy⟩
 ·cases h;exact⟨_,rfl,λx0 x y hy=>Z89.good hE pv x0 x.1 hy⟩
 ·cases h
theorem Z77.good (hE:EnvOk Tryz.prog Q0)(pv:Nat->Value)(k:Nat)(a0:List Int){y:_}(h:Z77.F k a0=some y):Qb Tryz.prog Q0 pv (.f 14) (Q7 [(.sl (.int .u8))] (a0,())) (.tup [.t .lib y.1,.t .str y.2.1,.t .str y.2.2]):=
 Q8 hE (Z77.G hE pv k) (f:=14) (fn:=Tryz.f14) (by kernel_rfl) rfl (by kernel_rfl) (by kernel_rfl) ((Z77.run k a0).trans h) (λr hr=>Q9l hr)
def Z9.l0:Nat->Library->(List Entry)->Int->Int->Option (Sum Bool Library)
 |0,_,_,_,_=>none
 |k+1,x1,x6,x7,x8=>bif (decide (x8<x7))then(bif decide (0<=x8)then(bif decide (x8<(x6.length:Int))then((Z51.F k (x6.getD (x8:Int).toNat (Q2 .entry))).bind λr1=>bif (!r1)then(some (.inl false))else(bif (decide (x8 > 0))then(bif decide (0<=(IntKind.wrap .i64 (x8-1)))then(bif decide ((IntKind.wrap .i64 (x8-1))<(x1.entries.length:Int))then(bif (!ltS ((x1.entries.getD ((IntKind.wrap .i64 (x8-1)):Int).toNat (Q2 .entry)).key) ((x6.getD (x8:Int).toNat (Q2 .entry)).key))then(some (.inl false))else(Z9.l0 k x1 x6 x7 (IntKind.wrap .i64 (x8+1))))else none)else none)else(Z9.l0 k x1 x6 x7 (IntKind.wrap .i64 (x8+1)))))else none)else none)else(some (.inr x1))
def Z9.F (k:Nat)(a0:Library):Option (Bool):=(Z9.l0 k a0 a0.entries (a0.entries.length:Int) 0).bind λy2=>match y2 with|.inl z3=>some z3|.inr z3=>some (decide ((z3.entries.length:Int)<=8))
def Z9.C (k:Nat):Cal->Option CArm:=λc=>match c with
 |.f 10=>some (.p [.entry] _ (λx=>Z51.F k x.1) (λr=>(.t .bool r)))
 |_=>none
def Z9.sp0:List Sp:=[.boxT 1 0 .lib,.t 6 (.sl .entry),.t 7 (.int .i64),.t 8 (.int .i64)]
def Z9.sp0_0:List Sp:=[.t 2 .bool]
def Z9.sp0_1:List Sp:=[.boxT 1 0 .lib]
def Z9.A0:LArm:=.two Z9.sp0 Z9.sp0_0 Z9.sp0_1 (Bool) (Library) (λk x=>Z9.l0 k x.1 x.2.1 x.2.2.1 x.2.2.2.1) .ret (.exit 0) (λy=>(y,())) (λx=>x.1) (λy=>(y,())) (λx=>x.1)
def Z9.L:Nat->Option LArm:=λb=>match b with
 |0=>some Z9.A0
 |_=>none
theorem Z9.run (k:Nat)(a0:Library):Qq Q0 (Qf (Z9.C k)) (Qe 37 k Z9.L) Tryz.f18 [.t .lib a0] (Q6 (.t .bool))=Z9.F k a0:=by kernel_rfl
theorem Z9.step0 (k:Nat)(x1:Library)(x6:List Entry)(x7:Int)(x8:Int):QN Q0 (Qf (Z9.C k)) (Qe 37 k Z9.L) 0 (Qm Tryz.f18 0) (J6 37 Z9.sp0 (x1,x6,x7,x8,())) (Z9.A0.cont 37 k)=Z9.l0 (k+1) x1 x6 x7 x8:=by kernel_rfl
theorem Z9.G (hE:EnvOk Tryz.prog Q0)(pv:Nat->Value)(k:Nat):∀cal A,Z9.C k cal=some A->Qc Tryz.prog Q0 pv cal A:=by
 intro cal A h
 unfold Z9.C at h
 split at h
 ·cases h;exact λx y hy=>Z51.good hE pv k x.1 hy
 ·cases h
theorem Z9.good (hE:EnvOk Tryz.prog Q0)(pv:Nat->Value)(k:Nat)(a0:Library){y:_}(h:Z9.F k a0=some y):Qb Tryz.prog Q0 pv (.f 18) (Q7 [.lib] (a0,())) (.t .bool y):=
 Qj hE (t:=Z9.C) k (λk _=>Z9.G hE pv k) (f:=18) (fn:=Tryz.f18) (by kernel_rfl) rfl (by kernel_rfl) (by kernel_rfl) (lt:=Z9.L) (by kernel_rfl) (λb A h=>by
  unfold Z9.L at h;split at h
  ·cases h;exact⟨by kernel_rfl,by kernel_rfl,by kernel_rfl,λ_=>rfl,λ_=>rfl,λ_=>rfl⟩
  ·cases h) (λb A h=>by
  unfold Z9.L at h;split at h
  ·cases h;exact λk x=>Z9.step0 k x.1 x.2.1 x.2.2.1 x.2.2.2.1
  ·cases h) ((Z9.run k a0).trans h) (λr hr=>Q1 hr)
def Z110.F (a0:Entry)(a1:ByteArray):Option (Bool):=some (Q3 a0.key a1)
def Z110.C:Cal->Option CArm:=λc=>match c with
 |_=>none
theorem Z110.run (a0:Entry)(a1:ByteArray):Qq Q0 (Qf Z110.C) (Qe 8 0 (λ_=>none)) Tryz.f79 [.t .entry a0,.tp (.t .str a1)] (Q6 (.t .bool))=Z110.F a0 a1:=by kernel_rfl
theorem Z110.G (hE:EnvOk Tryz.prog Q0)(pv:Nat->Value):∀cal A,Z110.C cal=some A->Qc Tryz.prog Q0 pv cal A:=by
 intro cal A h
 unfold Z110.C at h
 cases h
theorem Z110.good (hE:EnvOk Tryz.prog Q0)(pv:Nat->Value)(a0:Entry)(a1:ByteArray){y:_}(h:Z110.F a0 a1=some y):Qb Tryz.prog Q0 pv (.f 79) (YX [.t .entry,.tp .str] (a0,a1,())) (.t .bool y):=
 Q8 hE (Z110.G hE pv) (f:=79) (fn:=Tryz.f79) (by kernel_rfl) rfl (by kernel_rfl) (by kernel_rfl) ((Z110.run a0 a1).trans h) (λr hr=>Q1 hr)
def Z35.l0:Nat->(List Entry)->ByteArray->Int->Int->Option (Sum Int Unit)
 |0,_,_,_,_=>none
 |k+1,x0,x1,x7,x8=>bif (decide (x8<x7))then(bif decide (0<=x8)then(bif decide (x8<(x0.length:Int))then((Z110.F (x0.getD (x8:Int).toNat (Q2 .entry)) x1).bind λr1=>bif r1 then(some (.inl x8))else(Z35.l0 k x0 x1 x7 (IntKind.wrap .i64 (x8+1))))else none)else none)else(some (.inr ()))
def Z35.F (k:Nat)(a0:List Entry)(a1c0:ByteArray):Option (Int):=(Z35.l0 k a0 a1c0 (a0.length:Int) 0).bind λy2=>match y2 with|.inl z3=>some z3|.inr z3=>some (-1)
def Z35.C (k:Nat):Cal->Option CArm:=λc=>match c with
 |.f 79=>some (.q [.t .entry,.tp .str] _ (λx=>Z110.F x.1 x.2.1) (λr=>(.t .bool r)))
 |_=>none
def Z35.sp0:List Sp:=[.t 0 (.sl .entry),.cl 1 79 [.tp .str],.t 7 (.int .i64),.t 8 (.int .i64)]
def Z35.sp0_0:List Sp:=[.t 4 (.int .i64)]
def Z35.sp0_1:List Sp:=[]
def Z35.A0:LArm:=.two Z35.sp0 Z35.sp0_0 Z35.sp0_1 (Int) (Unit) (λk x=>Z35.l0 k x.1 x.2.1.1 x.2.2.1 x.2.2.2.1) .ret (.exit 0) (λy=>(y,())) (λx=>x.1) (λy=>()) (λx=>())
def Z35.L:Nat->Option LArm:=λb=>match b with
 |0=>some Z35.A0
 |_=>none
theorem Z35.run (k:Nat)(a0:List Entry)(a1c0:ByteArray):Qq Q0 (Qf (Z35.C k)) (Qe 19 k Z35.L) Tryz.f78 [.t (.sl .entry) a0,.clo 79 [.tp (.t .str a1c0)]] (Q6 (.t (.int .i64)))=Z35.F k a0 a1c0:=by kernel_rfl
theorem Z35.step0 (k:Nat)(x0:List Entry)(x1:ByteArray)(x7:Int)(x8:Int):QN Q0 (Qf (Z35.C k)) (Qe 19 k Z35.L) 0 (Qm Tryz.f78 0) (J6 19 Z35.sp0 (x0,(x1,()),x7,x8,())) (Z35.A0.cont 19 k)=Z35.l0 (k+1) x0 x1 x7 x8:=by kernel_rfl
theorem Z35.G (hE:EnvOk Tryz.prog Q0)(pv:Nat->Value)(k:Nat):∀cal A,Z35.C k cal=some A->Qc Tryz.prog Q0 pv cal A:=by
 intro cal A h
 unfold Z35.C at h
 split at h
 ·cases h;exact λx y hy=>Z110.good hE pv x.1 x.2.1 hy
 ·cases h
theorem Z35.good (hE:EnvOk Tryz.prog Q0)(pv:Nat->Value)(k:Nat)(a0:List Entry)(a1c0:ByteArray){y:_}(h:Z35.F k a0 a1c0=some y):Qb Tryz.prog Q0 pv (.f 78) (YX [.t (.sl .entry),.clo 79 [.tp .str]] (a0,(a1c0,()),())) (.t (.int .i64) y):=
 Qj hE (t:=Z35.C) k (λk _=>Z35.G hE pv k) (f:=78) (fn:=Tryz.f78) (by kernel_rfl) rfl (by kernel_rfl) (by kernel_rfl) (lt:=Z35.L) (by kernel_rfl) (λb A h=>by
  unfold Z35.L at h;split at h
  ·cases h;exact⟨by kernel_rfl,by kernel_rfl,by kernel_rfl,λ_=>rfl,λ_=>rfl,λ_=>rfl⟩
  ·cases h) (λb A h=>by
  unfold Z35.L at h;split at h
  ·cases h;exact λk x=>Z35.step0 k x.1 x.2.1.1 x.2.2.1 x.2.2.2.1
  ·cases h) ((Z35.run k a0 a1c0).trans h) (λr hr=>Q1 hr)
def Z78.F (k:Nat)(a0:Library)(a1:ByteArray):Option (Int):=(Z35.F k a0.entries a1).bind λr1=>some r1
def Z78.C (k:Nat):Cal->Option CArm:=λc=>match c with
 |.f 78=>some (.q [.t (.sl .entry),.clo 79 [.tp .str]] _ (λx=>Z35.F k x.1 x.2.1.1) (λr=>(.t (.int .i64) r)))
 |_=>none
theorem Z78.run (k:Nat)(a0:Library)(a1:ByteArray):Qq Q0 (Qf (Z78.C k)) (Qe 9 0 (λ_=>none)) Tryz.f36 [.t .lib a0,.t .str a1] (Q6 (.t (.int .i64)))=Z78.F k a0 a1:=by kernel_rfl
theorem Z78.G (hE:EnvOk Tryz.prog Q0)(pv:Nat->Value)(k:Nat):∀cal A,Z78.C k cal=some A->Qc Tryz.prog Q0 pv cal A:=by
 intro cal A h
 unfold Z78.C at h
 split at h
 ·cases h;exact λx y hy=>Z35.good hE pv k x.1 x.2.1.1 hy
 ·cases h
theorem Z78.good (hE:EnvOk Tryz.prog Q0)(pv:Nat->Value)(k:Nat)(a0:Library)(a1:ByteArray){y:_}(h:Z78.F k a0 a1=some y):Qb Tryz.prog Q0 pv (.f 36) (Q7 [.lib,.str] (a0,a1,())) (.t (.int .i64) y):=
 Q8 hE (Z78.G hE pv k) (f:=36) (fn:=Tryz.f36) (by kernel_rfl) rfl (by kernel_rfl) (by kernel_rfl) ((Z78.run k a0 a1).trans h) (λr hr=>Q1 hr)
def Z63.F (k:Nat)(a0:Entry):Option (Entry):=(Z22.F k a0.authors).bind λr1=>(Z22.F k a0.editors).bind λr2=>some (⟨a0.key,a0.kind,r1,r2,a0.title,a0.container,a0.publisher,a0.date,a0.volume,a0.pages,a0.cross⟩:Entry)
def Z63.C (k:Nat):Cal->Option CArm:=λc=>match c with
 |.f 89=>some (.p [(.sl .name)] _ (λx=>Z22.F k x.1) (λr=>(.fr 84 .name r)))
 |_=>none
theorem Z63.run (k:Nat)(a0:Entry):Qq Q0 (Qf (Z63.C k)) (Qe 12 0 (λ_=>none)) Tryz.f81 [.t .entry a0] (Q6 (.t .entry))=Z63.F k a0:=by kernel_rfl
theorem Z63.G (hE:EnvOk Tryz.prog Q0)(pv:Nat->Value)(k:Nat):∀cal A,Z63.C k cal=some A->Qc Tryz.prog Q0 pv cal A:=by
 intro cal A h
 unfold Z63.C at h
 split at h
 ·cases h;exact λx y hy=>Z22.good hE pv k x.1 hy
 ·cases h
theorem Z63.good (hE:EnvOk Tryz.prog Q0)(pv:Nat->Value)(k:Nat)(a0:Entry){y:_}(h:Z63.F k a0=some y):Qb Tryz.prog Q0 pv (.f 81) (Q7 [.entry] (a0,())) (.t .entry y):=
 Q8 hE (Z63.G hE pv k) (f:=81) (fn:=Tryz.f81) (by kernel_rfl) rfl (by kernel_rfl) (by kernel_rfl) ((Z63.run k a0).trans h) (λr hr=>Q1 hr)
def Z32.l0:Nat->(List Entry)->(List Entry)->(List Entry)->Int->Int->Option ((List Entry)× (List Entry))
 |0,_,_,_,_,_=>none
 |k+1,x2,x3,x9,x10,x11=>bif (decide (x11<x10))then(bif decide (0<=x11)then(bif decide (x11<(x9.length:Int))then((Z63.F k (x9.getD (x11:Int).toNat (Q2 .entry))).bind λr1=>bif room (x3.length+([r1]:List Entry).length) .entry then(Z32.l0 k x2 (x3++([r1]:List Entry)) x9 x10 (IntKind.wrap .i64 (x11+1)))else none)else none)else none)else(some (x2,x3))
def Z32.F (k:Nat)(a0:Library):Option (Library):=(Z32.l0 k ([]:List Entry) ([]:List Entry) a0.entries (a0.entries.length:Int) 0).bind λy2=>some (⟨y2.2⟩:Library)
def Z32.C (k:Nat):Cal->Option CArm:=λc=>match c with
 |.f 81=>some (.p [.entry] _ (λx=>Z63.F k x.1) (λr=>(.t .entry r)))
 |_=>none
def Z32.sp0:List Sp:=[.boxF 2 4 .lib [.t (.sl .entry)],.boxF 3 1032 .lib [.own 1024 28 .entry false true],.t 9 (.sl .entry),.t 10 (.int .i64),.t 11 (.int .i64)]
def Z32.sp0_0:List Sp:=[.boxF 2 4 .lib [.t (.sl .entry)],.boxF 3 1032 .lib [.own 1024 28 .entry false true]]
def Z32.A0:LArm:=.one Z32.sp0 Z32.sp0_0 ((List Entry)× (List Entry)) (λk x=>Z32.l0 k x.1.1 x.2.1.1 x.2.2.1 x.2.2.2.1 x.2.2.2.2.1) (.exit 0) (λy=>((y.1,()),(y.2,()),())) (λx=>(x.1.1,x.2.1.1))
def Z32.L:Nat->Option LArm:=λb=>match b with
 |0=>some Z32.A0
 |_=>none
theorem Z32.run (k:Nat)(a0:Library):Qq Q0 (Qf (Z32.C k)) (Qe 24 k Z32.L) Tryz.f80 [.t .lib a0] (Q6 (.sf .lib 28))=Z32.F k a0:=by kernel_rfl
theorem Z32.step0 (k:Nat)(x2:List Entry)(x3:List Entry)(x9:List Entry)(x10:Int)(x11:Int):QN Q0 (Qf (Z32.C k)) (Qe 24 k Z32.L) 0 (Qm Tryz.f80 0) (J6 24 Z32.sp0 ((x2,()),(x3,()),x9,x10,x11,())) (Z32.A0.cont 24 k)=Z32.l0 (k+1) x2 x3 x9 x10 x11:=by kernel_rfl
theorem Z32.G (hE:EnvOk Tryz.prog Q0)(pv:Nat->Value)(k:Nat):∀cal A,Z32.C k cal=some A->Qc Tryz.prog Q0 pv cal A:=by
 intro cal A h
 unfold Z32.C at h
 split at h
 ·cases h;exact λx y hy=>Z63.good hE pv k x.1 hy
 ·cases h
theorem Z32.good (hE:EnvOk Tryz.prog Q0)(pv:Nat->Value)(k:Nat)(a0:Library){y:_}(h:Z32.F k a0=some y):Qb Tryz.prog Q0 pv (.f 80) (Q7 [.lib] (a0,())) (sfV 28 .lib y):=
 Qj hE (t:=Z32.C) k (λk _=>Z32.G hE pv k) (f:=80) (fn:=Tryz.f80) (by kernel_rfl) rfl (by kernel_rfl) (by kernel_rfl) (lt:=Z32.L) (by kernel_rfl) (λb A h=>by
  unfold Z32.L at h;split at h
  ·cases h;exact⟨by kernel_rfl,by kernel_rfl,λ_=>rfl,λ_=>rfl⟩
  ·cases h) (λb A h=>by
  unfold Z32.L at h;split at h
  ·cases h;exact λk x=>Z32.step0 k x.1.1 x.2.1.1 x.2.2.1 x.2.2.2.1 x.2.2.2.2.1
  ·cases h) ((Z32.run k a0).trans h) (λr hr=>Q1 hr)
def Z114.F (a0:List Entry)(a1:Int)(a2:List Entry):Option (List Entry):=Qcp .entry a0 a1 a2
def Z114.ren:Go.Shelf.Ren:=⟨fun|22=>82|29=>107|30=>108|36=>130|n=>n,fun|3=>3|4=>4|9=>28|24=>39|n=>n,λn=>n⟩
theorem Z114.lay:Go.GxIns.InsL Tryz.prog Z114.ren "slices.Insert[[]loop.example/g00896/impl.Entry,loop.example/g00896/impl.Entry]" (nc .entry) (nb .entry) (Go.Gx.valOf (Go.Gx.AV.t .entry (Q2 .entry)) (zc .entry)):={
 mixed:=by kernel_rfl
 f22:=Tryz.func82.trans (congrArg some (by kernel_rfl))
 ov:=λargs w=>Go.run_callFunc_extern (fn:=Tryz.f107) Tryz.func107 (by kernel_rfl) (by kernel_rfl) (by kernel_rfl) (e:=Go.Extern.SlicesOverlaps.overlaps #[39,39] #[4]) (by kernel_rfl) args w
 t0:=Tryz.underlying0
 a0:=Tryz.isAgg0
 z0:=Tryz.sizeOf0
 v0:=Tryz.zeroValue0
 t3:=Tryz.underlying3
 a3:=Tryz.isAgg3
 z3:=Tryz.sizeOf3
 v3:=Tryz.zeroValue3
 t4:=Tryz.underlying4
 a4:=Tryz.isAgg4
 z4:=Tryz.sizeOf4
 v4:=Tryz.zeroValue4
 z9:=Tryz.sizeOf28
 t24:=Tryz.underlying39
 a24:=Tryz.isAgg39
 z24:=Tryz.sizeOf39
 v24:=Tryz.zeroValue39
 i9:=by kernel_rfl}
theorem Z114.good (hE:EnvOk Tryz.prog Q0)(pv:Nat->Value)(a0:List Entry)(a1:Int)(a2:List Entry){y:_}(h:Z114.F a0 a1 a2=some y):Qx Tryz.prog Q0 pv 82 (.fr 28 .entry a0) (Q7 [(.int .i64),(.sl .entry)] (a1,a2,())) (.mov 28 .entry y):=
 Q5M (ρ:=Z114.ren) (fn:=Tryz.f82) hE (te:=28) rfl rfl (by decide) (by decide) Z114.lay rfl Tryz.func82 rfl (by kernel_rfl) h
def Z43.l0:Nat->Entry->(List Entry)->(List Entry)->Int->Option (Entry× (List Entry)× (List Entry)×Int)
 |0,_,_,_,_=>none
 |k+1,x3,x4,x5,x6=>bif (decide (x6<(x5.length:Int)))then(bif decide (0<=x6)then(bif decide (x6<(x5.length:Int))then(bif (ltS ((x5.getD ((x6:Int).toNat) (Q2 .entry)).key) x3.key)then(Z43.l0 k x3 x4 x5 (IntKind.wrap .i64 (x6+1)))else(some (x3,x4,x5,x6)))else none)else none)else(some (x3,x4,x5,x6))
def Z43.F (k:Nat)(a0:Library)(a1:Entry):Option (Library):=(Z32.F k a0).bind λr1=>(Z43.l0 k a1 ([]:List Entry) r1.entries 0).bind λy2=>bif (decide (y2.2.2.2<(y2.2.2.1.length:Int)))then(bif decide (0<=y2.2.2.2)then(bif decide (y2.2.2.2<(y2.2.2.1.length:Int))then(bif (Q3 ((y2.2.2.1.getD ((y2.2.2.2:Int).toNat) (Q2 .entry)).key) y2.1.key)then((Z63.F k y2.1).bind λr3=>bif decide (0<=y2.2.2.2)then(bif decide (y2.2.2.2<(y2.2.2.1.length:Int))then(some (⟨(y2.2.2.1.set ((y2.2.2.2:Int).toNat) r3)⟩:Library))else none)else none)else((Z63.F k y2.1).bind λr4=>(Z114.F y2.2.2.1 y2.2.2.2 ([r4]:List Entry)).bind λr5=>some (⟨r5⟩:Library)))else none)else none)else((Z63.F k y2.1).bind λr6=>(Z114.F y2.2.2.1 y2.2.2.2 ([r6]:List Entry)).bind λr7=>some (⟨r7⟩:Library))
def Z43.C (k:Nat):Cal->Option CArm:=λc=>match c with
 |.f 80=>some (.p [.lib] _ (λx=>Z32.F k x.1) (λr=>(sfV 28 .lib r)))
 |.f 81=>some (.p [.entry] _ (λx=>Z63.F k x.1) (λr=>(.t .entry r)))
 |.f 82=>some (.m (.fr 28 .entry) [(.int .i64),(.sl .entry)] _ (λx0 x=>Z114.F x0 x.1 x.2.1) (λr=>.mov 28 .entry r))
 |_=>none
def Z43.sp0:List Sp:=[.rp 3 .entry,.boxF 4 8 .lib [.t (.sl .entry)],.boxF 5 1032 .lib [.own 1028 28 .entry false true],.t 6 (.int .i64)]
def Z43.sp0_0:List Sp:=[.rp 3 .entry,.boxF 4 8 .lib [.t (.sl .entry)],.boxF 5 1032 .lib [.own 1028 28 .entry false true],.t 6 (.int .i64)]
def Z43.A0:LArm:=.one Z43.sp0 Z43.sp0_0 (Entry× (List Entry)× (List Entry)×Int) (λk x=>Z43.l0 k x.1 x.2.1.1 x.2.2.1.1 x.2.2.2.1) (.exit 0) (λy=>(y.1,(y.2.1,()),(y.2.2.1,()),y.2.2.2,())) (λx=>(x.1,x.2.1.1,x.2.2.1.1,x.2.2.2.1))
def Z43.L:Nat->Option LArm:=λb=>match b with
 |0=>some Z43.A0
 |_=>none
theorem Z43.run (k:Nat)(a0:Library)(a1:Entry):Qq Q0 (Qf (Z43.C k)) (Qe 58 k Z43.L) Tryz.f37 [.t .lib a0,.t .entry a1] (Q6 (.sf .lib 28))=Z43.F k a0 a1:=by kernel_rfl
theorem Z43.step0 (k:Nat)(x3:Entry)(x4:List Entry)(x5:List Entry)(x6:Int):QN Q0 (Qf (Z43.C k)) (Qe 58 k Z43.L) 0 (Qm Tryz.f37 0) (J6 58 Z43.sp0 (x3,(x4,()),(x5,()),x6,())) (Z43.A0.cont 58 k)=Z43.l0 (k+1) x3 x4 x5 x6:=by kernel_rfl
theorem Z43.G (hE:EnvOk Tryz.prog Q0)(pv:Nat->Value)(k:Nat):∀cal A,Z43.C k cal=some A->Qc Tryz.prog Q0 pv cal A:=by
 intro cal A h
 unfold Z43.C at h
 split at h
 ·cases h;exact λx y hy=>Z32.good hE pv k x.1 hy
 ·cases h;exact λx y hy=>Z63.good hE pv k x.1 hy
 ·cases h;exact⟨_,rfl,λx0 x y hy=>Z114.good hE pv x0 x.1 x.2.1 hy⟩
 ·cases h
theorem Z43.good (hE:EnvOk Tryz.prog Q0)(pv:Nat->Value)(k:Nat)(a0:Library)(a1:Entry){y:_}(h:Z43.F k a0 a1=some y):Qb Tryz.prog Q0 pv (.f 37) (Q7 [.lib,.entry] (a0,a1,())) (sfV 28 .lib y):=
 Qj hE (t:=Z43.C) k (λk _=>Z43.G hE pv k) (f:=37) (fn:=Tryz.f37) (by kernel_rfl) rfl (by kernel_rfl) (by kernel_rfl) (lt:=Z43.L) (by kernel_rfl) (λb A h=>by
  unfold Z43.L at h;split at h
  ·cases h;exact⟨by kernel_rfl,by kernel_rfl,λ_=>rfl,λ_=>rfl⟩
  ·cases h) (λb A h=>by
  unfold Z43.L at h;split at h
  ·cases h;exact λk x=>Z43.step0 k x.1 x.2.1.1 x.2.2.1.1 x.2.2.2.1
  ·cases h) ((Z43.run k a0 a1).trans h) (λr hr=>Q1 hr)
def Z113.F (a0:List Entry)(a1 a2:Int):Option (List Entry):=Qbu .entry a0 a1 a2
def Z113.ren:Go.Shelf.Ren:=⟨fun|24=>83|n=>n,fun|3=>3|4=>4|9=>28|24=>39|n=>n,λn=>n⟩
theorem Z113.lay:Go.GxIns.DelL Tryz.prog Z113.ren "slices.Delete[[]loop.example/g00896/impl.Entry,loop.example/g00896/impl.Entry]" (nc .entry) (nb .entry) (Go.Gx.valOf (Go.Gx.AV.t .entry (Q2 .entry)) (zc .entry)):={
 mixed:=by kernel_rfl
 f24:=Tryz.func83.trans (congrArg some (by kernel_rfl))
 t0:=Tryz.underlying0
 a0:=Tryz.isAgg0
 z0:=Tryz.sizeOf0
 v0:=Tryz.zeroValue0
 t3:=Tryz.underlying3
 a3:=Tryz.isAgg3
 z3:=Tryz.sizeOf3
 v3:=Tryz.zeroValue3
 t4:=Tryz.underlying4
 a4:=Tryz.isAgg4
 z4:=Tryz.sizeOf4
 v4:=Tryz.zeroValue4
 z9:=Tryz.sizeOf28
 t24:=Tryz.underlying39
 a24:=Tryz.isAgg39
 z24:=Tryz.sizeOf39
 v24:=Tryz.zeroValue39
 i9:=by kernel_rfl}
theorem Z113.good (hE:EnvOk Tryz.prog Q0)(pv:Nat->Value)(a0:List Entry)(a1 a2:Int){y:_}(h:Z113.F a0 a1 a2=some y):Qx Tryz.prog Q0 pv 83 (.fr 28 .entry a0) (Q7 [(.int .i64),(.int .i64)] (a1,a2,())) (.mov 28 .entry y):=
 Q5P (ρ:=Z113.ren) (fn:=Tryz.f83) hE (te:=28) rfl (by decide) Z113.lay rfl Tryz.func83 rfl (by kernel_rfl) h
def Z105.F (k:Nat)(a0:Library)(a1:Int):Option (Library):=(Z32.F k a0).bind λr1=>(Z113.F r1.entries a1 (IntKind.wrap .i64 (a1+1))).bind λr2=>some (⟨r2⟩:Library)
def Z105.C (k:Nat):Cal->Option CArm:=λc=>match c with
 |.f 80=>some (.p [.lib] _ (λx=>Z32.F k x.1) (λr=>(sfV 28 .lib r)))
 |.f 83=>some (.m (.fr 28 .entry) [(.int .i64),(.int .i64)] _ (λx0 x=>Z113.F x0 x.1 x.2.1) (λr=>.mov 28 .entry r))
 |_=>none
theorem Z105.run (k:Nat)(a0:Library)(a1:Int):Qq Q0 (Qf (Z105.C k)) (Qe 16 0 (λ_=>none)) Tryz.f38 [.t .lib a0,.t (.int .i64) a1] (Q6 (.sf .lib 28))=Z105.F k a0 a1:=by kernel_rfl
theorem Z105.G (hE:EnvOk Tryz.prog Q0)(pv:Nat->Value)(k:Nat):∀cal A,Z105.C k cal=some A->Qc Tryz.prog Q0 pv cal A:=by
 intro cal A h
 unfold Z105.C at h
 split at h
 ·cases h;exact λx y hy=>Z32.good hE pv k x.1 hy
 ·cases h;exact⟨_,rfl,λx0 x y hy=>Z113.good hE pv x0 x.1 x.2.1 hy⟩
 ·cases h
theorem Z105.good (hE:EnvOk Tryz.prog Q0)(pv:Nat->Value)(k:Nat)(a0:Library)(a1:Int){y:_}(h:Z105.F k a0 a1=some y):Qb Tryz.prog Q0 pv (.f 38) (Q7 [.lib,(.int .i64)] (a0,a1,())) (sfV 28 .lib y):=
 Q8 hE (Z105.G hE pv k) (f:=38) (fn:=Tryz.f38) (by kernel_rfl) rfl (by kernel_rfl) (by kernel_rfl) ((Z105.run k a0 a1).trans h) (λr hr=>Q1 hr)
def Z14.l0:Nat->ByteArray->ByteArray->(List Entry)->(List Entry)->Int->Int->Option ((List Entry)× (List Entry))
 |0,_,_,_,_,_,_=>none
 |k+1,x1,x2,x6,x10,x54,x55=>bif (decide (x55<x54))then(bif decide (0<=x55)then(bif decide (x55<(x10.length:Int))then(bif (!Q3 ((x10.getD ((x55:Int).toNat) (Q2 .entry)).cross) x2)then(Z14.l0 k x1 x2 x6 x10 x54 (IntKind.wrap .i64 (x55+1)))else(bif (Q3 ((x10.getD ((x55:Int).toNat) (Q2 .entry)).key) x1)then(Z14.l0 k x1 x2 x6 (x10.set ((x55:Int).toNat) (⟨(x10.getD ((x55:Int).toNat) (Q2 .entry)).key,(x10.getD ((x55:Int).toNat) (Q2 .entry)).kind,(x10.getD ((x55:Int).toNat) (Q2 .entry)).authors,(x10.getD ((x55:Int).toNat) (Q2 .entry)).editors,(x10.getD ((x55:Int).toNat) (Q2 .entry)).title,(x10.getD ((x55:Int).toNat) (Q2 .entry)).container,(x10.getD ((x55:Int).toNat) (Q2 .entry)).publisher,(x10.getD ((x55:Int).toNat) (Q2 .entry)).date,(x10.getD ((x55:Int).toNat) (Q2 .entry)).volume,(x10.getD ((x55:Int).toNat) (Q2 .entry)).pages,(⟨#[]⟩:ByteArray)⟩:Entry)) x54 (IntKind.wrap .i64 (x55+1)))else(Z14.l0 k x1 x2 x6 (x10.set ((x55:Int).toNat) (⟨(x10.getD ((x55:Int).toNat) (Q2 .entry)).key,(x10.getD ((x55:Int).toNat) (Q2 .entry)).kind,(x10.getD ((x55:Int).toNat) (Q2 .entry)).authors,(x10.getD ((x55:Int).toNat) (Q2 .entry)).editors,(x10.getD ((x55:Int).toNat) (Q2 .entry)).title,(x10.getD ((x55:Int).toNat) (Q2 .entry)).container,(x10.getD ((x55:Int).toNat) (Q2 .entry)).publisher,(x10.getD ((x55:Int).toNat) (Q2 .entry)).date,(x10.getD ((x55:Int).toNat) (Q2 .entry)).volume,(x10.getD ((x55:Int).toNat) (Q2 .entry)).pages,x1⟩:Entry)) x54 (IntKind.wrap .i64 (x55+1)))))else none)else none)else(some (x6,x10))
def Z14.F (k:Nat)(a0:Library)(a1:ByteArray)(a2:ByteArray):Option (Library×Bool):=(Z78.F k a0 a1).bind λr1=>(Z78.F k a0 a2).bind λr2=>(Z9.F k a0).bind λr3=>bif (!r3)then(some ((⟨([]:List Entry)⟩:Library),false))else(bif (decide (r1<0))then(some ((⟨([]:List Entry)⟩:Library),false))else(bif (decide (r2<0))then(some ((⟨([]:List Entry)⟩:Library),false))else(bif (r1==r2)then(some ((⟨([]:List Entry)⟩:Library),false))else(bif decide (0<=r1)then(bif decide (r1<(a0.entries.length:Int))then(bif decide (0<=r2)then(bif decide (r2<(a0.entries.length:Int))then((Z72.F k (a0.entries.getD (r1:Int).toNat (Q2 .entry)) (a0.entries.getD (r2:Int).toNat (Q2 .entry))).bind λr4=>(Z43.F k a0 r4).bind λr5=>(Z105.F k (⟨r5.entries⟩:Library) r2).bind λr6=>(Z14.l0 k a1 a2 ([]:List Entry) r6.entries (r6.entries.length:Int) 0).bind λy7=>some ((⟨y7.2⟩:Library),true))else none)else none)else none)else none))))
def Z14.C (k:Nat):Cal->Option CArm:=λc=>match c with
 |.f 36=>some (.p [.lib,.str] _ (λx=>Z78.F k x.1 x.2.1) (λr=>(.t (.int .i64) r)))
 |.f 18=>some (.p [.lib] _ (λx=>Z9.F k x.1) (λr=>(.t .bool r)))
 |.f 22=>some (.p [.entry,.entry] _ (λx=>Z72.F k x.1 x.2.1) (λr=>(.t .entry r)))
 |.f 37=>some (.p [.lib,.entry] _ (λx=>Z43.F k x.1 x.2.1) (λr=>(sfV 28 .lib r)))
 |.f 38=>some (.p [.lib,(.int .i64)] _ (λx=>Z105.F k x.1 x.2.1) (λr=>(sfV 28 .lib r)))
 |_=>none
def Z14.sp0:List Sp:=[.t 1 .str,.t 2 .str,.boxF 6 4 .lib [.t (.sl .entry)],.boxF 10 4148 .lib [.own 5128 28 .entry false true],.t 54 (.int .i64),.t 55 (.int .i64)]
def Z14.sp0_0:List Sp:=[.boxF 6 4 .lib [.t (.sl .entry)],.boxF 10 4148 .lib [.own 5128 28 .entry false true]]
def Z14.A0:LArm:=.one Z14.sp0 Z14.sp0_0 ((List Entry)× (List Entry)) (λk x=>Z14.l0 k x.1 x.2.1 x.2.2.1.1 x.2.2.2.1.1 x.2.2.2.2.1 x.2.2.2.2.2.1) (.exit 0) (λy=>((y.1,()),(y.2,()),())) (λx=>(x.1.1,x.2.1.1))
def Z14.L:Nat->Option LArm:=λb=>match b with
 |0=>some Z14.A0
 |_=>none
theorem Z14.run (k:Nat)(a0:Library)(a1:ByteArray)(a2:ByteArray):Qq Q0 (Qf (Z14.C k)) (Qe 85 k Z14.L) Tryz.f15 [.t .lib a0,.t .str a1,.t .str a2] (U6 (.sf .lib 28) (.t .bool))=Z14.F k a0 a1 a2:=by kernel_rfl
theorem Z14.step0 (k:Nat)(x1:ByteArray)(x2:ByteArray)(x6:List Entry)(x10:List Entry)(x54:Int)(x55:Int):QN Q0 (Qf (Z14.C k)) (Qe 85 k Z14.L) 0 (Qm Tryz.f15 0) (J6 85 Z14.sp0 (x1,x2,(x6,()),(x10,()),x54,x55,())) (Z14.A0.cont 85 k)=Z14.l0 (k+1) x1 x2 x6 x10 x54 x55:=by kernel_rfl
theorem Z14.G (hE:EnvOk Tryz.prog Q0)(pv:Nat->Value)(k:Nat):∀cal A,Z14.C k cal=some A->Qc Tryz.prog Q0 pv cal A:=by
 intro cal A h
 unfold Z14.C at h
 split at h
 ·cases h;exact λx y hy=>Z78.good hE pv k x.1 x.2.1 hy
 ·cases h;exact λx y hy=>Z9.good hE pv k x.1 hy
 ·cases h;exact λx y hy=>Z72.good hE pv k x.1 x.2.1 hy
 ·cases h;exact λx y hy=>Z43.good hE pv k x.1 x.2.1 hy
 ·cases h;exact λx y hy=>Z105.good hE pv k x.1 x.2.1 hy
 ·cases h
theorem Z14.good (hE:EnvOk Tryz.prog Q0)(pv:Nat->Value)(k:Nat)(a0:Library)(a1:ByteArray)(a2:ByteArray){y:_}(h:Z14.F k a0 a1 a2=some y):Qb Tryz.prog Q0 pv (.f 15) (Q7 [.lib,.str,.str] (a0,a1,a2,())) (.tup [sfV 28 .lib y.1,.t .bool y.2]):=
 Qj hE (t:=Z14.C) k (λk _=>Z14.G hE pv k) (f:=15) (fn:=Tryz.f15) (by kernel_rfl) rfl (by kernel_rfl) (by kernel_rfl) (lt:=Z14.L) (by kernel_rfl) (λb A h=>by
  unfold Z14.L at h;split at h
  ·cases h;exact⟨by kernel_rfl,by kernel_rfl,λ_=>rfl,λ_=>rfl⟩
  ·cases h) (λb A h=>by
  unfold Z14.L at h;split at h
  ·cases h;exact λk x=>Z14.step0 k x.1 x.2.1 x.2.2.1.1 x.2.2.2.1.1 x.2.2.2.2.1 x.2.2.2.2.2.1
  ·cases h) ((Z14.run k a0 a1 a2).trans h) (λr hr=>Yx hr)
def Z5.l0:Nat->ByteArray->Library->Int->Option (Sum Int Unit)
 |0,_,_,_=>none
 |k+1,x1,x2,x5=>bif (decide (x5<(x2.entries.length:Int)))then(bif decide (0<=x5)then(bif decide (x5<(x2.entries.length:Int))then(bif (Q3 ((x2.entries.getD (x5:Int).toNat (Q2 .entry)).key) x1)then(some (.inl x5))else(Z5.l0 k x1 x2 (IntKind.wrap .i64 (x5+1))))else none)else none)else(some (.inr ()))
def Z5.F (k:Nat)(a0:Library)(a1:ByteArray):Option (Int):=(Z5.l0 k a1 a0 0).bind λy1=>match y1 with|.inl z2=>some z2|.inr z2=>some (-1)
def Z5.C (k:Nat):Cal->Option CArm:=λc=>match c with
 |_=>none
def Z5.sp0:List Sp:=[.t 1 .str,.boxT 2 0 .lib,.t 5 (.int .i64)]
def Z5.sp0_0:List Sp:=[.t 4 (.int .i64)]
def Z5.sp0_1:List Sp:=[]
def Z5.A0:LArm:=.two Z5.sp0 Z5.sp0_0 Z5.sp0_1 (Int) (Unit) (λk x=>Z5.l0 k x.1 x.2.1 x.2.2.1) .ret (.exit 0) (λy=>(y,())) (λx=>x.1) (λy=>()) (λx=>())
def Z5.L:Nat->Option LArm:=λb=>match b with
 |0=>some Z5.A0
 |_=>none
theorem Z5.run (k:Nat)(a0:Library)(a1:ByteArray):Qq Q0 (Qf (Z5.C k)) (Qe 22 k Z5.L) Tryz.f40 [.t .lib a0,.t .str a1] (Q6 (.t (.int .i64)))=Z5.F k a0 a1:=by kernel_rfl
theorem Z5.step0 (k:Nat)(x1:ByteArray)(x2:Library)(x5:Int):QN Q0 (Qf (Z5.C k)) (Qe 22 k Z5.L) 0 (Qm Tryz.f40 0) (J6 22 Z5.sp0 (x1,x2,x5,())) (Z5.A0.cont 22 k)=Z5.l0 (k+1) x1 x2 x5:=by kernel_rfl
theorem Z5.G (hE:EnvOk Tryz.prog Q0)(pv:Nat->Value)(k:Nat):∀cal A,Z5.C k cal=some A->Qc Tryz.prog Q0 pv cal A:=by
 intro cal A h
 unfold Z5.C at h
 cases h
theorem Z5.good (hE:EnvOk Tryz.prog Q0)(pv:Nat->Value)(k:Nat)(a0:Library)(a1:ByteArray){y:_}(h:Z5.F k a0 a1=some y):Qb Tryz.prog Q0 pv (.f 40) (Q7 [.lib,.str] (a0,a1,())) (.t (.int .i64) y):=
 Qj hE (t:=Z5.C) k (λk _=>Z5.G hE pv k) (f:=40) (fn:=Tryz.f40) (by kernel_rfl) rfl (by kernel_rfl) (by kernel_rfl) (lt:=Z5.L) (by kernel_rfl) (λb A h=>by
  unfold Z5.L at h;split at h
  ·cases h;exact⟨by kernel_rfl,by kernel_rfl,by kernel_rfl,λ_=>rfl,λ_=>rfl,λ_=>rfl⟩
  ·cases h) (λb A h=>by
  unfold Z5.L at h;split at h
  ·cases h;exact λk x=>Z5.step0 k x.1 x.2.1 x.2.2.1
  ·cases h) ((Z5.run k a0 a1).trans h) (λr hr=>Q1 hr)
def Z11.l0:Nat->ByteArray->ByteArray->Library->(List Entry)->Entry->(List Entry)->Int->Option ((List Entry)× (List Entry))
 |0,_,_,_,_,_,_,_=>none
 |k+1,x1,x2,x3,x6,x8,x9,x10=>bif (decide (x10<(x3.entries.length:Int)))then(bif decide (0<=x10)then(bif decide (x10<(x3.entries.length:Int))then((Z48.F k (x3.entries.getD (x10:Int).toNat (Q2 .entry))).bind λr9=>bif (Q3 r9.key x2)then(Z11.l0 k x1 x2 x3 x6 x8 x9 (IntKind.wrap .i64 (x10+1)))else(bif (Q3 r9.key x1)then(bif room (x9.length+([x8]:List Entry).length) .entry then(Z11.l0 k x1 x2 x3 x6 x8 (x9++([x8]:List Entry)) (IntKind.wrap .i64 (x10+1)))else none)else(bif (Q3 r9.cross x2)then(bif room (x9.length+([(⟨r9.key,r9.kind,r9.authors,r9.editors,r9.title,r9.container,r9.publisher,r9.date,r9.volume,r9.pages,x1⟩:Entry)]:List Entry).length) .entry then(Z11.l0 k x1 x2 x3 x6 x8 (x9++([(⟨r9.key,r9.kind,r9.authors,r9.editors,r9.title,r9.container,r9.publisher,r9.date,r9.volume,r9.pages,x1⟩:Entry)]:List Entry)) (IntKind.wrap .i64 (x10+1)))else none)else(bif room (x9.length+([r9]:List Entry).length) .entry then(Z11.l0 k x1 x2 x3 x6 x8 (x9++([r9]:List Entry)) (IntKind.wrap .i64 (x10+1)))else none))))else none)else none)else(some (x6,x9))
def Z11.F (k:Nat)(a0:Library)(a1:ByteArray)(a2:ByteArray):Option (Library×Bool):=(Z15.F k a0).bind λr1=>bif (!r1)then(some ((⟨([]:List Entry)⟩:Library),false))else((Z5.F k a0 a1).bind λr2=>bif (decide (r2<0))then(some ((⟨([]:List Entry)⟩:Library),false))else((Z5.F k a0 a2).bind λr3=>bif (decide (r3<0))then(some ((⟨([]:List Entry)⟩:Library),false))else(bif (Q3 a1 a2)then(some ((⟨([]:List Entry)⟩:Library),false))else((Z5.F k a0 a1).bind λr4=>bif decide (0<=r4)then(bif decide (r4<(a0.entries.length:Int))then((Z5.F k a0 a2).bind λr5=>bif decide (0<=r5)then(bif decide (r5<(a0.entries.length:Int))then((Z74.F k (a0.entries.getD (r4:Int).toNat (Q2 .entry)) (a0.entries.getD (r5:Int).toNat (Q2 .entry))).bind λr6=>bif (Q3 r6.cross a2)then((Z11.l0 k a1 a2 a0 ([]:List Entry) (⟨r6.key,r6.kind,r6.authors,r6.editors,r6.title,r6.container,r6.publisher,r6.date,r6.volume,r6.pages,(⟨#[]⟩:ByteArray)⟩:Entry) ([]:List Entry) 0).bind λy8=>some ((⟨y8.2⟩:Library),true))else((Z11.l0 k a1 a2 a0 ([]:List Entry) r6 ([]:List Entry) 0).bind λy10=>some ((⟨y10.2⟩:Library),true)))else none)else none)else none)else none))))
def Z11.C (k:Nat):Cal->Option CArm:=λc=>match c with
 |.f 39=>some (.p [.lib] _ (λx=>Z15.F k x.1) (λr=>(.t .bool r)))
 |.f 40=>some (.p [.lib,.str] _ (λx=>Z5.F k x.1 x.2.1) (λr=>(.t (.int .i64) r)))
 |.f 24=>some (.p [.entry,.entry] _ (λx=>Z74.F k x.1 x.2.1) (λr=>(.t .entry r)))
 |.f 41=>some (.p [.entry] _ (λx=>Z48.F k x.1) (λr=>(.t .entry r)))
 |_=>none
def Z11.sp0:List Sp:=[.t 1 .str,.t 2 .str,.boxT 3 0 .lib,.boxF 6 4 .lib [.t (.sl .entry)],.boxT 8 3132 .entry,.boxF 9 6152 .lib [.own 6144 28 .entry false true],.t 10 (.int .i64)]
def Z11.sp0_0:List Sp:=[.boxF 6 4 .lib [.t (.sl .entry)],.boxF 9 6152 .lib [.own 6144 28 .entry false true]]
def Z11.A0:LArm:=.one Z11.sp0 Z11.sp0_0 ((List Entry)× (List Entry)) (λk x=>Z11.l0 k x.1 x.2.1 x.2.2.1 x.2.2.2.1.1 x.2.2.2.2.1 x.2.2.2.2.2.1.1 x.2.2.2.2.2.2.1) (.exit 0) (λy=>((y.1,()),(y.2,()),())) (λx=>(x.1.1,x.2.1.1))
def Z11.L:Nat->Option LArm:=λb=>match b with
 |0=>some Z11.A0
 |_=>none
theorem Z11.run (k:Nat)(a0:Library)(a1:ByteArray)(a2:ByteArray):Qq Q0 (Qf (Z11.C k)) (Qe 93 k Z11.L) Tryz.f16 [.t .lib a0,.t .str a1,.t .str a2] (U6 (.sf .lib 28) (.t .bool))=Z11.F k a0 a1 a2:=by kernel_rfl
theorem Z11.step0 (k:Nat)(x1:ByteArray)(x2:ByteArray)(x3:Library)(x6:List Entry)(x8:Entry)(x9:List Entry)(x10:Int):QN Q0 (Qf (Z11.C k)) (Qe 93 k Z11.L) 0 (Qm Tryz.f16 0) (J6 93 Z11.sp0 (x1,x2,x3,(x6,()),x8,(x9,()),x10,())) (Z11.A0.cont 93 k)=Z11.l0 (k+1) x1 x2 x3 x6 x8 x9 x10:=by kernel_rfl
theorem Z11.G (hE:EnvOk Tryz.prog Q0)(pv:Nat->Value)(k:Nat):∀cal A,Z11.C k cal=some A->Qc Tryz.prog Q0 pv cal A:=by
 intro cal A h
 unfold Z11.C at h
 split at h
 ·cases h;exact λx y hy=>Z15.good hE pv k x.1 hy
 ·cases h;exact λx y hy=>Z5.good hE pv k x.1 x.2.1 hy
 ·cases h;exact λx y hy=>Z74.good hE pv k x.1 x.2.1 hy
 ·cases h;exact λx y hy=>Z48.good hE pv k x.1 hy
 ·cases h
theorem Z11.good (hE:EnvOk Tryz.prog Q0)(pv:Nat->Value)(k:Nat)(a0:Library)(a1:ByteArray)(a2:ByteArray){y:_}(h:Z11.F k a0 a1 a2=some y):Qb Tryz.prog Q0 pv (.f 16) (Q7 [.lib,.str,.str] (a0,a1,a2,())) (.tup [sfV 28 .lib y.1,.t .bool y.2]):=
 Qj hE (t:=Z11.C) k (λk _=>Z11.G hE pv k) (f:=16) (fn:=Tryz.f16) (by kernel_rfl) rfl (by kernel_rfl) (by kernel_rfl) (lt:=Z11.L) (by kernel_rfl) (λb A h=>by
  unfold Z11.L at h;split at h
  ·cases h;exact⟨by kernel_rfl,by kernel_rfl,λ_=>rfl,λ_=>rfl⟩
  ·cases h) (λb A h=>by
  unfold Z11.L at h;split at h
  ·cases h;exact λk x=>Z11.step0 k x.1 x.2.1 x.2.2.1 x.2.2.2.1.1 x.2.2.2.2.1 x.2.2.2.2.2.1.1 x.2.2.2.2.2.2.1
  ·cases h) ((Z11.run k a0 a1 a2).trans h) (λr hr=>Yx hr)
def Z4.l0:Nat->Library->Library->Int->Option (Sum Bool Unit)
 |0,_,_,_=>none
 |k+1,x2,x3,x5=>bif (decide (x5<(x2.entries.length:Int)))then(bif decide (0<=x5)then(bif decide (x5<(x2.entries.length:Int))then(bif decide (0<=x5)then(bif decide (x5<(x3.entries.length:Int))then((Z67.F k (x2.entries.getD (x5:Int).toNat (Q2 .entry)) (x3.entries.getD (x5:Int).toNat (Q2 .entry))).bind λr1=>bif (!r1)then(some (.inl false))else(Z4.l0 k x2 x3 (IntKind.wrap .i64 (x5+1))))else none)else none)else none)else none)else(some (.inr ()))
def Z4.F (k:Nat)(a0:Library)(a1:Library):Option (Bool):=bif ((a0.entries.length:Int) != (a1.entries.length:Int))then(some false)else((Z4.l0 k a0 a1 0).bind λy2=>match y2 with|.inl z3=>some z3|.inr z3=>some true)
def Z4.C (k:Nat):Cal->Option CArm:=λc=>match c with
 |.f 8=>some (.p [.entry,.entry] _ (λx=>Z67.F k x.1 x.2.1) (λr=>(.t .bool r)))
 |_=>none
def Z4.sp0:List Sp:=[.boxT 2 0 .lib,.boxT 3 4 .lib,.t 5 (.int .i64)]
def Z4.sp0_0:List Sp:=[.t 4 .bool]
def Z4.sp0_1:List Sp:=[]
def Z4.A0:LArm:=.two Z4.sp0 Z4.sp0_0 Z4.sp0_1 (Bool) (Unit) (λk x=>Z4.l0 k x.1 x.2.1 x.2.2.1) .ret (.exit 0) (λy=>(y,())) (λx=>x.1) (λy=>()) (λx=>())
def Z4.L:Nat->Option LArm:=λb=>match b with
 |0=>some Z4.A0
 |_=>none
theorem Z4.run (k:Nat)(a0:Library)(a1:Library):Qq Q0 (Qf (Z4.C k)) (Qe 32 k Z4.L) Tryz.f17 [.t .lib a0,.t .lib a1] (Q6 (.t .bool))=Z4.F k a0 a1:=by kernel_rfl
theorem Z4.step0 (k:Nat)(x2:Library)(x3:Library)(x5:Int):QN Q0 (Qf (Z4.C k)) (Qe 32 k Z4.L) 0 (Qm Tryz.f17 0) (J6 32 Z4.sp0 (x2,x3,x5,())) (Z4.A0.cont 32 k)=Z4.l0 (k+1) x2 x3 x5:=by kernel_rfl
theorem Z4.G (hE:EnvOk Tryz.prog Q0)(pv:Nat->Value)(k:Nat):∀cal A,Z4.C k cal=some A->Qc Tryz.prog Q0 pv cal A:=by
 intro cal A h
 unfold Z4.C at h
 split at h
 ·cases h;exact λx y hy=>Z67.good hE pv k x.1 x.2.1 hy
 ·cases h
theorem Z4.good (hE:EnvOk Tryz.prog Q0)(pv:Nat->Value)(k:Nat)(a0:Library)(a1:Library){y:_}(h:Z4.F k a0 a1=some y):Qb Tryz.prog Q0 pv (.f 17) (Q7 [.lib,.lib] (a0,a1,())) (.t .bool y):=
 Qj hE (t:=Z4.C) k (λk _=>Z4.G hE pv k) (f:=17) (fn:=Tryz.f17) (by kernel_rfl) rfl (by kernel_rfl) (by kernel_rfl) (lt:=Z4.L) (by kernel_rfl) (λb A h=>by
  unfold Z4.L at h;split at h
  ·cases h;exact⟨by kernel_rfl,by kernel_rfl,by kernel_rfl,λ_=>rfl,λ_=>rfl,λ_=>rfl⟩
  ·cases h) (λb A h=>by
  unfold Z4.L at h;split at h
  ·cases h;exact λk x=>Z4.step0 k x.1 x.2.1 x.2.2.1
  ·cases h) ((Z4.run k a0 a1).trans h) (λr hr=>Q1 hr)
def Z33.l0:Nat->Library->ByteArray->(List Entry)->Int->Option (Sum Bool (Library× (List Entry)))
 |0,_,_,_,_=>none
 |k+1,x19,x21,x22,x26=>bif (decide (x26<(x22.length:Int)))then(bif decide (0<=x26)then(bif decide (x26<(x22.length:Int))then(bif (Q3 ((x22.getD ((x26:Int).toNat) (Q2 .entry)).key) x21)then(some (.inl false))else(bif decide (0<=x26)then(bif decide (x26<(x22.length:Int))then(bif (Q3 ((x22.getD ((x26:Int).toNat) (Q2 .entry)).cross) x21)then(some (.inl false))else(Z33.l0 k x19 x21 x22 (IntKind.wrap .i64 (x26+1))))else none)else none))else none)else none)else(some (.inr (x19,x22)))
def Z33.F (k:Nat)(a0:List Int):Option (Bool):=(Z106.F a0).bind λr1=>bif r1 then(some true)else((Z93.F k a0).bind λr2=>(Z73.F k r2.1 r2.2).bind λr3=>(Z99.F k r2.1 r2.2).bind λr4=>bif (!(r3.2==r4.2))then(some false)else((Z67.F k r3.1 r4.1).bind λr5=>bif (!r5)then(some false)else(bif r3.2 then((Z73.F k r2.1 r2.1).bind λr6=>(Z8.F k r2.1 r3.1).bind λr7=>bif (!r6.2)then(some false)else(bif (!r7.2)then(some false)else((Z67.F k r6.1 r2.1).bind λr8=>bif (!r8)then(some false)else(bif ((r7.1.length:Int) != 0)then(some false)else((Z51.F k r3.1).bind λr9=>bif (!r9)then(some false)else((Z76.F k a0).bind λr10=>(Z8.F k r10.1 r10.2).bind λr11=>(Z26.F k r10.1 r10.2).bind λr12=>bif (!(r11.2==r12.2))then(some false)else((Z17.F k r11.1 r12.1).bind λr13=>bif (!r13)then(some false)else((Z77.F k a0).bind λr14=>(Z14.F k r14.1 r14.2.1 r14.2.2).bind λr15=>(Z11.F k r14.1 r14.2.1 r14.2.2).bind λr16=>bif (!(r15.2==r16.2))then(bif (r15.2==r16.2)then((Z4.F k (⟨r15.1.entries⟩:Library) (⟨r16.1.entries⟩:Library)).bind λr17=>some r17)else(some false))else((Z4.F k (⟨r15.1.entries⟩:Library) (⟨r16.1.entries⟩:Library)).bind λr18=>bif (!r18)then(bif (r15.2==r16.2)then((Z4.F k (⟨r15.1.entries⟩:Library) (⟨r16.1.entries⟩:Library)).bind λr19=>some r19)else(some false))else(bif (!r15.2)then(bif (r15.2==r16.2)then((Z4.F k (⟨r15.1.entries⟩:Library) (⟨r16.1.entries⟩:Library)).bind λr20=>some r20)else(some false))else((Z33.l0 k r14.1 r14.2.2 r15.1.entries 0).bind λy21=>match y21 with|.inl z22=>some z22|.inr z22=>(Z9.F k (⟨z22.2⟩:Library)).bind λr23=>bif r23 then(some ((z22.2.length:Int)==(IntKind.wrap .i64 ((z22.1.entries.length:Int)-1))))else(some false))))))))))))else((Z76.F k a0).bind λr24=>(Z8.F k r24.1 r24.2).bind λr25=>(Z26.F k r24.1 r24.2).bind λr26=>bif (!(r25.2==r26.2))then(some false)else((Z17.F k r25.1 r26.1).bind λr27=>bif (!r27)then(some false)else((Z77.F k a0).bind λr28=>(Z14.F k r28.1 r28.2.1 r28.2.2).bind λr29=>(Z11.F k r28.1 r28.2.1 r28.2.2).bind λr30=>bif (!(r29.2==r30.2))then(bif (r29.2==r30.2)then((Z4.F k (⟨r29.1.entries⟩:Library) (⟨r30.1.entries⟩:Library)).bind λr31=>some r31)else(some false))else((Z4.F k (⟨r29.1.entries⟩:Library) (⟨r30.1.entries⟩:Library)).bind λr32=>bif (!r32)then(bif (r29.2==r30.2)then((Z4.F k (⟨r29.1.entries⟩:Library) (⟨r30.1.entries⟩:Library)).bind λr33=>some r33)else(some false))else(bif (!r29.2)then(bif (r29.2==r30.2)then((Z4.F k (⟨r29.1.entries⟩:Library) (⟨r30.1.entries⟩:Library)).bind λr34=>some r34)else(some false))else((Z33.l0 k r28.1 r28.2.2 r29.1.entries 0).bind λy35=>match y35 with|.inl z36=>some z36|.inr z36=>(Z9.F k (⟨z36.2⟩:Library)).bind λr37=>bif r37 then(some ((z36.2.length:Int)==(IntKind.wrap .i64 ((z36.1.entries.length:Int)-1))))else(some false))))))))))
def Z33.C (k:Nat):Cal->Option CArm:=λc=>match c with
 |.f 4=>some (.p [(.sl (.int .u8))] _ (λx=>Z106.F x.1) (λr=>(.t .bool r)))
 |.f 5=>some (.p [(.sl (.int .u8))] _ (λx=>Z93.F k x.1) (λr=>(.tup [.t .entry r.1,.t .entry r.2])))
 |.f 6=>some (.p [.entry,.entry] _ (λx=>Z73.F k x.1 x.2.1) (λr=>(.tup [.t .entry r.1,.t .bool r.2])))
 |.f 7=>some (.p [.entry,.entry] _ (λx=>Z99.F k x.1 x.2.1) (λr=>(.tup [.t .entry r.1,.t .bool r.2])))
 |.f 8=>some (.p [.entry,.entry] _ (λx=>Z67.F k x.1 x.2.1) (λr=>(.t .bool r)))
 |.f 9=>some (.p [.entry,.entry] _ (λx=>Z8.F k x.1 x.2.1) (λr=>(.tup [.fr 9 .str r.1,.t .bool r.2])))
 |.f 10=>some (.p [.entry] _ (λx=>Z51.F k x.1) (λr=>(.t .bool r)))
 |.f 11=>some (.p [(.sl (.int .u8))] _ (λx=>Z76.F k x.1) (λr=>(.tup [.t .entry r.1,.t .entry r.2])))
 |.f 12=>some (.p [.entry,.entry] _ (λx=>Z26.F k x.1 x.2.1) (λr=>(.tup [.fr 9 .str r.1,.t .bool r.2])))
 |.f 13=>some (.p [(.sl .str),(.sl .str)] _ (λx=>Z17.F k x.1 x.2.1) (λr=>(.t .bool r)))
 |.f 14=>some (.p [(.sl (.int .u8))] _ (λx=>Z77.F k x.1) (λr=>(.tup [.t .lib r.1,.t .str r.2.1,.t .str r.2.2])))
 |.f 15=>some (.p [.lib,.str,.str] _ (λx=>Z14.F k x.1 x.2.1 x.2.2.1) (λr=>(.tup [sfV 28 .lib r.1,.t .bool r.2])))
 |.f 16=>some (.p [.lib,.str,.str] _ (λx=>Z11.F k x.1 x.2.1 x.2.2.1) (λr=>(.tup [sfV 28 .lib r.1,.t .bool r.2])))
 |.f 17=>some (.p [.lib,.lib] _ (λx=>Z4.F k x.1 x.2.1) (λr=>(.t .bool r)))
 |.f 18=>some (.p [.lib] _ (λx=>Z9.F k x.1) (λr=>(.t .bool r)))
 |_=>none
def Z33.sp0:List Sp:=[.boxT 19 18456 .lib,.t 21 .str,.boxF 22 19484 .lib [.own 19468 28 .entry false true],.t 26 (.int .i64)]
def Z33.sp0_0:List Sp:=[.t 2 .bool]
def Z33.sp0_1:List Sp:=[.boxT 19 18456 .lib,.boxF 22 19484 .lib [.own 19468 28 .entry false true]]
def Z33.A0:LArm:=.two Z33.sp0 Z33.sp0_0 Z33.sp0_1 (Bool) (Library× (List Entry)) (λk x=>Z33.l0 k x.1 x.2.1 x.2.2.1.1 x.2.2.2.1) .ret (.exit 0) (λy=>(y,())) (λx=>x.1) (λy=>(y.1,(y.2,()),())) (λx=>(x.1,x.2.1.1))
def Z33.L:Nat->Option LArm:=λb=>match b with
 |0=>some Z33.A0
 |_=>none
theorem Z33.run (k:Nat)(a0:List Int):Qq Q0 (Qf (Z33.C k)) (Qe 194 k Z33.L) Tryz.f3 [.t (.sl (.int .u8)) a0] (Q6 (.t .bool))=Z33.F k a0:=by kernel_rfl
theorem Z33.step0 (k:Nat)(x19:Library)(x21:ByteArray)(x22:List Entry)(x26:Int):QN Q0 (Qf (Z33.C k)) (Qe 194 k Z33.L) 0 (Qm Tryz.f3 0) (J6 194 Z33.sp0 (x19,x21,(x22,()),x26,())) (Z33.A0.cont 194 k)=Z33.l0 (k+1) x19 x21 x22 x26:=by kernel_rfl
theorem Z33.G (hE:EnvOk Tryz.prog Q0)(pv:Nat->Value)(k:Nat):∀cal A,Z33.C k cal=some A->Qc Tryz.prog Q0 pv cal A:=by
 intro cal A h
 unfold Z33.C at h
 split at h
 ·cases h;exact λx y hy=>Z106.good hE pv x.1 hy
 ·cases h;exact λx y hy=>Z93.good hE pv k x.1 hy
 ·cases h;exact λx y hy=>Z73.good hE pv k x.1 x.2.1 hy
 ·cases h;exact λx y hy=>Z99.good hE pv k x.1 x.2.1 hy
 ·cases h;exact λx y hy=>Z67.good hE pv k x.1 x.2.1 hy
 ·cases h;exact λx y hy=>Z8.good hE pv k x.1 x.2.1 hy
 ·cases h;exact λx y hy=>Z51.good hE pv k x.1 hy
 ·cases h;exact λx y hy=>Z76.good hE pv k x.1 hy
 ·cases h;exact λx y hy=>Z26.good hE pv k x.1 x.2.1 hy
 ·cases h;exact λx y hy=>Z17.good hE pv k x.1 x.2.1 hy
 ·cases h;exact λx y hy=>Z77.good hE pv k x.1 hy
 ·cases h;exact λx y hy=>Z14.good hE pv k x.1 x.2.1 x.2.2.1 hy
 ·cases h;exact λx y hy=>Z11.good hE pv k x.1 x.2.1 x.2.2.1 hy
 ·cases h;exact λx y hy=>Z4.good hE pv k x.1 x.2.1 hy
 ·cases h;exact λx y hy=>Z9.good hE pv k x.1 hy
 ·cases h
theorem Z33.good (hE:EnvOk Tryz.prog Q0)(pv:Nat->Value)(k:Nat)(a0:List Int){y:_}(h:Z33.F k a0=some y):Qb Tryz.prog Q0 pv (.f 3) (Q7 [(.sl (.int .u8))] (a0,())) (.t .bool y):=
 Qj hE (t:=Z33.C) k (λk _=>Z33.G hE pv k) (f:=3) (fn:=Tryz.f3) (by kernel_rfl) rfl (by kernel_rfl) (by kernel_rfl) (lt:=Z33.L) (by kernel_rfl) (λb A h=>by
  unfold Z33.L at h;split at h
  ·cases h;exact⟨by kernel_rfl,by kernel_rfl,by kernel_rfl,λ_=>rfl,λ_=>rfl,λ_=>rfl⟩
  ·cases h) (λb A h=>by
  unfold Z33.L at h;split at h
  ·cases h;exact λk x=>Z33.step0 k x.1 x.2.1 x.2.2.1.1 x.2.2.2.1
  ·cases h) ((Z33.run k a0).trans h) (λr hr=>Q1 hr)
end Go.Proofs.YtbpjfjdkjapnoaaGreatDoor
end
section
/- Plain laws: bytes,pieces,edges of a text;no function of the program. -/
namespace Go.Proofs.YtbpjfjdkjapnoaaGreatDoor
open Go.Gx
theorem getD_at {α:Type}{xs:List α}{i:Nat}(h:i<xs.length)(d:α):xs.getD i d=xs[i]:=by simp[List.getD,List.getElem?_eq_getElem h]
theorem DI {s:ByteArray}:(!Q3 s ⟨#[]⟩)=decide (0<s.size):=by
 rw[Qh]
 have:L ⟨#[]⟩=[]:=rfl
 rw[this,<-Jc]
 cases L s<;>rfl
theorem J0 (s t:ByteArray):(s++t).size=s.size+t.size:=by
 rw[<-Jc,Y1,List.length_append,Jc,Jc]
theorem Yk (s:ByteArray):(Qw s).length=s.size:=by
 simp only[Qw,List.length_map,Array.length_toList];rfl
theorem Q1f (s:ByteArray):Qw s=(L s).map λb=>(b.toNat:Int):=rfl
theorem Q1g (s:ByteArray)(i:Nat)(h:i<(Qw s).length):bt s i=(Qw s)[i]:=by
 rw[Qco]
 have h':i<(L s).length:=by simpa[Q1f]using h
 simp[Q1f,List.getD,h']
theorem Q2x {s:ByteArray}{i:Nat}(h:i<(Qw s).length)(p:Int->Bool):((Qw s).drop i).all p=(p (Qw s)[i]&&((Qw s).drop (i+1)).all p):=by
 rw[List.drop_eq_getElem_cons h];rfl
theorem Q9w (s:ByteArray)(st a:Nat):(s.extract st s.size).extract a (s.extract st s.size).size=s.extract (st+a) s.size:=by
 apply YY
 have e:(L s).take s.size=L s:=List.take_of_length_le (Nat.le_refl _)
 rw[Ji,Ji s (st+a),<-Jc (s.extract st s.size),Ji,List.take_length,List.drop_drop,e]
theorem Q9x (s:ByteArray)(st i:Nat)(h:st<=i)(hi:i<=s.size):(s.extract st s.size).extract 0 (i-st)=s.extract st i:=by
 apply YY
 rw[Ji,Ji,Ji,List.drop_zero,List.take_of_length_le (show(L s).length<=s.size from Nat.le_refl _),List.drop_take]
def sp:ByteArray:=⟨#[32]⟩
theorem Qcq {l:List UInt8}{c:UInt8}{i:Nat}(h:l[i]? =some c)(hn:∀j,j<i->l[j]? ≠some c):Lib.indexByte l c=i:=by
 have hg:=Lib.indexByte_ge l c
 by_cases e:Lib.indexByte l c= -1
 ·exact absurd h (Lib.indexByte_none e i)
 ·obtain⟨o,ho⟩:∃o:Nat,Lib.indexByte l c=o:=⟨(Lib.indexByte l c).toNat,by omega⟩
  obtain⟨h1,h2⟩:=Lib.indexByte_some ho
  rcases Nat.lt_trichotomy o i with h3|h3|h3
  ·exact absurd h1 (hn o h3)
  ·rw[ho,h3]
  ·exact absurd h (h2 i h3)
theorem Qbv {l:List UInt8}{c:UInt8}(hn:∀j:Nat,l[j]? ≠some c):Lib.indexByte l c= -1:=by
 have hg:=Lib.indexByte_ge l c
 by_cases e:Lib.indexByte l c= -1
 ·exact e
 ·obtain⟨o,ho⟩:∃o:Nat,Lib.indexByte l c=o:=⟨(Lib.indexByte l c).toNat,by omega⟩
  exact absurd (Lib.indexByte_some ho).1 (hn o)
theorem Q2y (s:ByteArray):Lib.indexB s sp=Lib.indexByte (L s) 32:=Lib.one s sp rfl
theorem Q5R (s:ByteArray)(st j:Nat):(L (s.extract st s.size))[j]? =(L s)[st+j]?:=by
 rw[Ji,List.take_of_length_le (show(L s).length<=s.size from Nat.le_refl _),List.getElem?_drop]
def Yo (s:ByteArray)(st:Nat):List ByteArray:=Lib.splitB sp 0 (Lib.countB (s.extract st s.size) sp) (s.extract st s.size)
theorem Q7M (s:ByteArray)(st:Nat)(h:∀j,st<=j->(L s)[j]? ≠some 32):Yo s st=[s.extract st s.size]:=by
 unfold Yo
 rw[Lib.countB_miss _ _ ((Q2y _).trans (Qbv λj=>by rw[Q5R];exact h _ (by omega)))]
 rfl
theorem Q7N (s:ByteArray)(st i:Nat)(h1:st<=i)(hi:i<s.size)(hb:(L s)[i]? =some 32)(h:∀j,st<=j->j<i->(L s)[j]? ≠some 32):Yo s st=s.extract st i::Yo s (i+1):=by
 have e:Lib.indexB (s.extract st s.size) sp=((i-st:Nat):Int):=(Q2y _).trans (Qcq (by rw[Q5R,show st+(i-st)=i by omega];exact hb) λj hj=>by rw[Q5R];exact h _ (by omega) (by omega))
 have e1:sp.size=1:=rfl
 unfold Yo
 rw[Lib.countB_hit _ _ _ (by rw[e1];exact Nat.le_refl _) e,Nat.add_comm 1,Lib.splitB_hit _ _ _ _ _ e,Nat.add_zero,Q9x s st i h1 (by omega),e1,Q9w,show st+(i-st+1)=i+1 by omega]
theorem sub_self (s:ByteArray):s.extract 0 s.size=s:=by
 apply YY
 rw[Ji,List.take_of_length_le (show(L s).length<=s.size from Nat.le_refl _),List.drop_zero]
def words (s:ByteArray):List ByteArray:=Lib.splitB sp 0 (Lib.countB s sp) s
theorem Q5S (s:ByteArray):Yo s 0=words s:=by unfold Yo words;rw[sub_self]
theorem XK:∀(k:Nat) (s:ByteArray),∀x∈Lib.splitB sp 0 k s,x.size<=s.size
 |0,s,x,hx=>by
  rw[Lib.splitB_zero]at hx
  simp only[List.mem_singleton]at hx
  rw[hx];exact Nat.le_refl _
 |k+1,s,x,hx=>by
  unfold Lib.splitB at hx
  split at hx
  ·simp only[List.mem_singleton]at hx
   rw[hx];exact Nat.le_refl _
  ·rcases List.mem_cons.1 hx with rfl|hx
   ·rw[ByteArray.size_extract];omega
   ·have:=XK k _ x hx
    rw[ByteArray.size_extract]at this
    omega
theorem Q2z (s:ByteArray):1<=(words s).length/\(words s).length<=s.size+1:=by
 unfold words
 have h1:1<=sp.size:=Nat.le_refl 1
 rw[Lib.splitB_all sp h1 0 _ s rfl]
 have:=Lib.countB_le sp h1 s.size s (Nat.le_refl _)
 omega
theorem Q1h {α:Type}(p:α->Bool):∀l:List α,l.dropWhile p=l ↔ (∀a,l.head?=some a->p a=false)
 |[]=>by simp
 |a::l=>by
  have hl:(l.dropWhile p).length<=l.length:=(List.dropWhile_sublist p).length_le
  cases h:p a with
  |true=>
   rw[List.dropWhile_cons_of_pos h]
   constructor
   ·intro e
    have:=congrArg List.length e
    simp at this
    omega
   ·intro e
    have:=e a rfl
    rw[h]at this;cases this
  |false=>
   rw[List.dropWhile_cons_of_neg (by rw[h];exact Bool.noConfusion)]
   simp[h]
theorem Q5T (l:List UInt8)(c:UInt8):Lib.trimB l c=l ↔ l.head?≠some c/\l.getLast?≠some c:=by
 unfold Lib.trimB Lib.trimLeftB Lib.trimRightB
 have h1:∀m:List UInt8,m.dropWhile (· ==c)=m ↔ m.head?≠some c:=λm=>by
  rw[Q1h]
  constructor
  ·intro h e;have:=h c e;simp at this
  ·intro h a e
   have:a≠c:=λe'=>h (e'▸e)
   simpa using this
 constructor
 ·intro h
  have h2:((l.reverse.dropWhile (· ==c)).reverse).length<=l.length:=by
   have:=(List.dropWhile_sublist (p:=(· ==c)) (l:=l.reverse)).length_le
   simpa using this
  have h3:=(List.dropWhile_sublist (p:=(· ==c)) (l:=(l.reverse.dropWhile (· ==c)).reverse))
  have h4:(l.reverse.dropWhile (· ==c)).reverse=l:=by
   have h5:(l.reverse.dropWhile (· ==c)).reverse.length=l.length:=by
    have:=h3.length_le
    rw[h]at this
    omega
   have h6:l.reverse.dropWhile (· ==c)=l.reverse:=(List.dropWhile_sublist (p:=(· ==c)) (l:=l.reverse)).eq_of_length (by simpa using h5)
   rw[h6,List.reverse_reverse]
  rw[h4]at h
  refine⟨(h1 l).1 h,?_⟩
  have h6:l.reverse.dropWhile (· ==c)=l.reverse:=by rw[<-List.reverse_inj,h4,List.reverse_reverse]
  have:=(h1 _).1 h6
  simpa using this
 ·rintro⟨ha,hb⟩
  have h6:l.reverse.dropWhile (· ==c)=l.reverse:=(h1 _).2 (by simpa using hb)
  rw[h6,List.reverse_reverse]
  exact(h1 l).2 ha
def vis (lo b:Int):Bool:=decide (lo<=b)&&decide (b<=126)
theorem QbU {s:ByteArray}{i:Nat}(hi:i<s.size):bt s i=32 ↔ (L s)[i]? =some 32:=by
 have hi':i<(L s).length:=hi
 have hbt:bt s i=((L s)[i].toNat:Int):=by rw[Qco,getD_at hi']
 rw[List.getElem?_eq_getElem hi',hbt]
 have:(32:UInt8).toNat=32:=rfl
 constructor
 ·intro h
  congr 1
  apply UInt8.toNat_inj.1
  omega
 ·intro h
  rw[Option.some.inj h];rfl
def Qbw (s:ByteArray):Bool:=(decide (s.size=0))||(bt s 0 != 32&&bt s (s.size-1) != 32)
theorem Qbx (s:ByteArray):Q3 ⟨(Lib.trimB (L s) 32).toArray⟩ s=Qbw s:=by
 rw[Bool.eq_iff_iff,JB]
 have h1:(⟨(Lib.trimB (L s) 32).toArray⟩:ByteArray)=s ↔ Lib.trimB (L s) 32=L s:=by
  constructor
  ·intro h
   have:=congrArg L h
   rwa [Q3o]at this
  ·intro h
   apply YY
   rw[Q3o,h]
 rw[h1,Q5T]
 unfold Qbw
 by_cases hz:s.size=0
 ·have:L s=[]:=List.eq_nil_of_length_eq_zero hz
  rw[this]
  simp[hz]
 ·have h2:(L s).head?=(L s)[0]?:=List.head?_eq_getElem?
  have h3:(L s).getLast?=(L s)[s.size-1]?:=by rw[List.getLast?_eq_getElem?];rfl
  rw[h2,h3,Bool.or_eq_true,decide_eq_true_eq,Bool.and_eq_true,bne_iff_ne,bne_iff_ne,Ne,Ne,Ne,Ne,QbU (by omega),QbU (by omega)]
  simp[hz]
def pos (s:ByteArray):Bool:=decide (0<s.size)
theorem Q9y {n:Nat}(h:n<=8192):room n .str=true:=by
 unfold room
 rw[Nat.ble_eq]
 have:nb .str=16:=rfl
 rw[this]
 omega
theorem tail_cons (x:List UInt8)(r:List (List UInt8)):Lib.joinTail [32] (x::r)=32::(x++Lib.joinTail [32] r):=by simp[Lib.joinTail]
theorem L32:L ⟨#[32]⟩=[32]:=rfl
def ms {α:Type}(f:α->α)(W:List α)(i:Nat):List α:=(W.take i).map f++W.drop i
section
variable {α:Type} (f:α->α) (W:List α)
end
end Go.Proofs.YtbpjfjdkjapnoaaGreatDoor
end
section
/- Plain laws: texts of an entry. -/
namespace Go.Proofs.YtbpjfjdkjapnoaaGreatDoor
open Go.Gx
theorem Q7O (s:ByteArray)(hs:s.size<=1048576):Z117.F s ⟨#[32]⟩=some ⟨(Lib.trimB (L s) 32).toArray⟩:=by
 unfold Z117.F Q3q
 rw[Nat.ble_eq_true_of_le (by omega)]
 rfl
theorem GU (s:ByteArray)(hs:s.size<=1048576):∀n i:Nat,i+n=s.size->Ev (λk=>Z24.l0 k s i) (if((Qw s).drop i).all (vis 32)=true then .inr s else .inl false)
 |0,i,h=>by
  refine Ev.step (λk=>by rw[Z24.l0]) ?_
  simp(disch:=omega) only[Qy]
  rw[List.drop_eq_nil_of_le (by rw[Yk];omega)]
  exact Ev.pure _
 |n+1,i,h=>by
  have hl:=Yk s
  have hi:i<(Qw s).length:=by omega
  refine Ev.step (λk=>by rw[Z24.l0]) ?_
  simp(disch:=omega) only[Qi,Int.toNat_natCast,Q1g s i hi]
  rw[Q2x hi]
  unfold vis
  by_cases c1:(Qw s)[i]<32
  ·simp(disch:=omega) only[Qi,Q1b,Bool.false_and];exact Ev.pure _
  ·by_cases c2:(Qw s)[i] > 126
   ·simp(disch:=omega) only[Qi,Qy,Q1b,Bool.and_false,Bool.false_and];exact Ev.pure _
   ·simp(disch:=omega) only[Qi,Qy,Q1M,Bool.and_self,Bool.true_and,wrap_in]
    exact GU s hs n (i+1) (by omega)
theorem Q1i (s:ByteArray)(hs:s.size<=1048576):∀n i:Nat,i+n=s.size->Ev (λk=>Z36.l0 k s i) (if((Qw s).drop i).all (vis 32)=true then .inr s else .inl false)
 |0,i,h=>by
  refine Ev.step (λk=>by rw[Z36.l0]) ?_
  simp(disch:=omega) only[Qy]
  rw[List.drop_eq_nil_of_le (by rw[Yk];omega)]
  exact Ev.pure _
 |n+1,i,h=>by
  have hl:=Yk s
  have hi:i<(Qw s).length:=by omega
  refine Ev.step (λk=>by rw[Z36.l0]) ?_
  simp(disch:=omega) only[Qi,Int.toNat_natCast,Q1g s i hi]
  rw[Q2x hi]
  unfold vis
  by_cases c1:(Qw s)[i]<32
  ·simp(disch:=omega) only[Qi,Q1b,Bool.false_and];exact Ev.pure _
  ·by_cases c2:(Qw s)[i] > 126
   ·simp(disch:=omega) only[Qi,Qy,Q1b,Bool.and_false,Bool.false_and];exact Ev.pure _
   ·simp(disch:=omega) only[Qi,Qy,Q1M,Bool.and_self,Bool.true_and,wrap_in]
    exact Q1i s hs n (i+1) (by omega)
def YE (s:ByteArray):Bool:=decide (s.size<=40)&&((Qw s).all (vis 32)&&Qbw s)
theorem Um (s:ByteArray):Ev (λk=>Z24.F k s) (YE s):=by
 unfold Z24.F YE
 by_cases c:(s.size:Int) > 40
 ·simp(disch:=omega) only[Qi,Q1b,Bool.false_and]
  exact Ev.pure _
 ·simp(disch:=omega) only[Qy,Q1M,Bool.true_and]
  have:=GU s (by omega) s.size 0 (by omega)
  rw[List.drop_zero]at this
  cases h:(Qw s).all (vis 32)with
  |false=>rw[h]at this;exact Ev.bind this (Ev.pure _)
  |true=>
   rw[h]at this
   refine Ev.bind (a:=.inr s) this ?_
   dsimp only
   have he:Q3 s ⟨#[]⟩=decide (s.size=0):=by
    rw[<-Bool.not_not (b:=Q3 s ⟨#[]⟩),DI]
    by_cases hz:s.size=0
    ·simp[hz]
    ·rw[decide_eq_true (by omega:0<s.size),decide_eq_false hz];rfl
   rw[he]
   unfold Qbw
   by_cases hz:s.size=0
   ·rw[decide_eq_true hz];exact Ev.pure _
   ·rw[decide_eq_false hz]
    simp(disch:=omega) only[cond_false,cond_true,Qi,wrap_in]
    rw[show((s.size:Int)-1).toNat=s.size-1 by omega,show(0:Int).toNat=0 from rfl,Bool.false_or,Bool.true_and]
    cases (bt s 0 != 32)with
    |true=>exact Ev.pure _
    |false=>exact Ev.pure _
theorem Kx (s:ByteArray):Ev (λk=>Z71.F k s) (YE s):=by
 unfold Z71.F YE
 by_cases c:(s.size:Int)<=40
 ·simp(disch:=omega) only[Qi,Q1M,Bool.true_and]
  refine Ev.bind ?_ (Ev.pure _)
  unfold Z36.F
  have:=Q1i s (by omega) s.size 0 (by omega)
  rw[List.drop_zero]at this
  cases h:(Qw s).all (vis 32)with
  |false=>rw[h]at this;exact Ev.bind this (Ev.pure _)
  |true=>
   rw[h]at this
   refine Ev.bind (a:=.inr s) this ?_
   dsimp only
   refine Ev.bind0 (Q7O s (by omega)) ?_
   simp only[Qbx,Bool.true_and]
   exact Ev.pure _
 ·simp(disch:=omega) only[Qy,Q1b,Bool.false_and]
  exact Ev.pure _
end Go.Proofs.YtbpjfjdkjapnoaaGreatDoor
end
section
/- Plain laws: a text split at its spaces. -/
namespace Go.Proofs.YtbpjfjdkjapnoaaGreatDoor
open Go.Gx
theorem Q9z (s:ByteArray)(hs:s.size<=1048576):Z116.F s ⟨#[32]⟩=some (words s):=by
 unfold Z116.F Q3p
 rw[Nat.ble_eq_true_of_le (by omega)]
 rfl
end Go.Proofs.YtbpjfjdkjapnoaaGreatDoor
end
section
/- Plain laws: a text split at its spaces,the other way. -/
namespace Go.Proofs.YtbpjfjdkjapnoaaGreatDoor
open Go.Gx
theorem Q1j (s:ByteArray)(hs:s.size<=1048576):∀n i:Nat,i+n=s.size->∀st:Nat,st<=i->(∀j,st<=j->j<i->(L s)[j]? ≠some 32)->∀acc:List ByteArray,acc.length<=i->
  ∃acc' st',Ev (λk=>Z34.l0 k s 32 acc st i) (s,acc',((st':Nat):Int))/\st'<=s.size/\acc'.length<=s.size/\acc'++[s.extract st' s.size]=acc++Yo s st
 |0,i,h,st,h1,hn,acc,ha=>by
  refine⟨acc,st,Ev.step (λk=>by rw[Z34.l0]) ?_,by omega,by omega,?_⟩
  ·simp(disch:=omega) only[Qy]
   exact Ev.pure _
  ·rw[Q7M s st λj hj=>?_]
   by_cases hj2:j<i
   ·exact hn j hj hj2
   ·rw[List.getElem?_eq_none (by rw[Jc];omega)];exact λh=>by cases h
 |n+1,i,h,st,h1,hn,acc,ha=>by
  have hi:i<(L s).length:=by rw[Jc];omega
  have hbt:bt s i=((L s)[i].toNat:Int):=by rw[Qco,getD_at hi]
  by_cases c:bt s i=32
  ·have hb:(L s)[i]? =some 32:=by
    rw[List.getElem?_eq_getElem hi]
    congr 1
    apply UInt8.toNat_inj.1
    have:(32:UInt8).toNat=32:=rfl
    omega
   obtain⟨acc',st',r1,r2,r3,r4⟩:=Q1j s hs n (i+1) (by omega) (i+1) (Nat.le_refl _) (λj h1 h2=>by omega) (acc++[s.extract st i]) (by simp;omega)
   refine⟨acc',st',Ev.step (λk=>by rw[Z34.l0]) ?_,r2,r3,?_⟩
   ·have hr:room (acc.length+([s.extract st i]:List ByteArray).length) .str=true:=by
     unfold room
     rw[Nat.ble_eq]
     have:nb .str=16:=rfl
     rw[this]
     simp;omega
    simp(disch:=omega) only[Qi,Int.toNat_natCast,ceq,hr,cond_true,wrap_in]
    exact r1
   ·rw[r4,Q7N s st i h1 (by omega) hb hn];simp
  ·obtain⟨acc',st',r1,r2,r3,r4⟩:=Q1j s hs n (i+1) (by omega) st (by omega) (λj h1 h2=>by
    rcases Nat.lt_or_ge j i with h3|h3
    ·exact hn j h1 h3
    ·obtain rfl:j=i:=by omega
     rw[List.getElem?_eq_getElem hi]
     intro e
     apply c
     rw[hbt,Option.some.inj e];rfl) acc (by omega)
   refine⟨acc',st',Ev.step (λk=>by rw[Z34.l0]) ?_,r2,r3,r4⟩
   simp(disch:=omega) only[Qi,Int.toNat_natCast,cne,wrap_in]
   exact r1
theorem Q3u (s:ByteArray)(hs:s.size<=1048576):Ev (λk=>Z34.F k s 32) (words s):=by
 unfold Z34.F
 obtain⟨acc',st',r1,r2,r3,r4⟩:=Q1j s hs s.size 0 (by omega) 0 (Nat.le_refl _) (λj h1 h2=>by omega) [] (Nat.le_refl _)
 refine Ev.bind r1 ?_
 have hr:room (acc'.length+([s.extract st' s.size]:List ByteArray).length) .str=true:=by
  unfold room
  rw[Nat.ble_eq]
  have:nb .str=16:=rfl
  rw[this]
  simp;omega
 simp(disch:=omega) only[Qi,Int.toNat_natCast,hr,cond_true,r4,Q5S,List.nil_append]
 exact Ev.pure _
end Go.Proofs.YtbpjfjdkjapnoaaGreatDoor
end
section
/- Plain laws: lists of texts: size,copy,equality. -/
namespace Go.Proofs.YtbpjfjdkjapnoaaGreatDoor
open Go.Gx
def YA (xs:List ByteArray):Nat:=(xs.map ByteArray.size).sum
end Go.Proofs.YtbpjfjdkjapnoaaGreatDoor
end
section
/- Plain laws: names,entries,libraries: size,copy,equality. -/
namespace Go.Proofs.YtbpjfjdkjapnoaaGreatDoor
open Go.Gx
def Q1k (n:Name):Nat:=n.given.length+YA n.given+n.particle.size+n.family.size+n.suffix.size
def Yy (xs:List Name):Nat:=xs.length+(xs.map Q1k).sum
def Q3v (e:Entry):Nat:=e.key.size+Yy e.authors+Yy e.editors+e.title.size+e.container.size+e.publisher.size+e.pages.size+e.cross.size
def Q6F (xs:List Entry):Nat:=xs.length+(xs.map Q3v).sum
theorem Q6G {α:Type}(f:α->Nat){xs:List α}{x:α}(h:x∈xs):f x<=(xs.map f).sum:=by
 induction xs with
 |nil=>cases h
 |cons b l ih=>
  simp only[List.map_cons,List.sum_cons]
  rcases List.mem_cons.1 h with rfl|h
  ·omega
  ·have:=ih h;omega
def Ju (n:Name):Prop:=Q1k n<=1048576
def Jv (e:Entry):Prop:=Q3v e<=1048576
def YW (l:Library):Prop:=Q6F l.entries<=1048576
theorem Ky {l:Library}(h:YW l){e:Entry}(he:e∈l.entries):Jv e:=by
 have:=Q6G Q3v he
 unfold YW Q6F at h
 unfold Jv
 omega
theorem Ug {xs:List Name}(h:Yy xs<=1048576){n:Name}(hn:n∈xs):Ju n:=by
 have:=Q6G Q1k hn
 unfold Yy at h
 unfold Ju
 omega
theorem Q1l {e:Entry}(h:Jv e):Yy e.authors<=1048576:=by unfold Jv Q3v at h;omega
theorem Q1m {e:Entry}(h:Jv e):Yy e.editors<=1048576:=by unfold Jv Q3v at h;omega
theorem Un {xs:List Name}(h:Yy xs<=1048576):xs.length<=1048576:=by unfold Yy at h;omega
theorem Xk {l:Library}(h:YW l):l.entries.length<=1048576:=by unfold YW Q6F at h;omega
end Go.Proofs.YtbpjfjdkjapnoaaGreatDoor
end
section
/- Plain laws: slices.IndexFunc,slices.DeleteFunc,as they are printed for a function value. -/
namespace Go.Gx
section
variable {α:Type} {d:α} {p:α->Bool} {q:Nat->α->Option Bool} {xs:List α}
theorem Gs {α:Type}{xs:List α}{i:Nat}(h:i<xs.length)(d:α):xs.getD i d=xs[i]:=by simp[List.getD,List.getElem?_eq_getElem h]
theorem Q9A {l0:Nat->List α->Int->Int->Option (Sum Int Unit)}(H:∀k x0 x7 x8,l0 (k+1) x0 x7 x8=bif (decide (x8<x7))then(bif decide (0<=x8)then(bif decide (x8<(x0.length:Int))then((q k (x0.getD (x8:Int).toNat d)).bind λr1=>bif r1 then(some (.inl x8))else(l0 k x0 x7 (IntKind.wrap .i64 (x8+1))))else none)else none)else(some (.inr ())))
  (hq:∀x,x∈xs->Ev (λk=>q k x) (p x)) (hl:xs.length<=4611686018427387904):∀n i:Nat,i+n=xs.length->(∀x∈xs.take i,p x=false)->
  ∃r,Ev (λk=>l0 k xs xs.length i) r/\((r= .inr ()/\∀x∈xs,p x=false)\/∃j:Nat,r= .inl j/\j<xs.length/\p (xs.getD j d)=true/\∀x∈xs.take j,p x=false)
 |0,i,h,ht=>by
  refine⟨.inr (),Ev.step (λk=>by rw[H]) ?_,.inl ⟨rfl,by rw[List.take_of_length_le (by omega)]at ht;exact ht⟩⟩
  simp(disch:=omega) only[Qy]
  exact Ev.pure _
 |n+1,i,h,ht=>by
  have hi:i<xs.length:=by omega
  cases hp:p xs[i]with
  |true=>
   refine⟨.inl i,Ev.step (λk=>by rw[H]) ?_,.inr ⟨i,rfl,hi,by rw[Gs hi,hp],ht⟩⟩
   simp(disch:=omega) only[Qi,Int.toNat_natCast,Gs hi]
   refine Ev.bind (hq _ (List.getElem_mem hi)) ?_
   rw[hp]
   exact Ev.pure _
  |false=>
   obtain⟨r,h1,h2⟩:=Q9A H hq hl n (i+1) (by omega) (by
    intro x hx
    rw[List.take_add_one,List.getElem?_eq_getElem hi]at hx
    rcases List.mem_append.1 hx with hx|hx
    ·exact ht x hx
    ·simp only[Option.toList_some,List.mem_singleton]at hx
     rw[hx,hp])
   refine⟨r,Ev.step (λk=>by rw[H]) ?_,h2⟩
   simp(disch:=omega) only[Qi,Int.toNat_natCast,Gs hi]
   refine Ev.bind (hq _ (List.getElem_mem hi)) ?_
   rw[hp]
   simp(disch:=omega) only[cond_false,wrap_in]
   exact h1
theorem Q5U {l0:Nat->List α->Int->Int->Option (Sum Int Unit)}(H:∀k x0 x7 x8,l0 (k+1) x0 x7 x8=bif (decide (x8<x7))then(bif decide (0<=x8)then(bif decide (x8<(x0.length:Int))then((q k (x0.getD (x8:Int).toNat d)).bind λr1=>bif r1 then(some (.inl x8))else(l0 k x0 x7 (IntKind.wrap .i64 (x8+1))))else none)else none)else(some (.inr ())))
  (hq:∀x,x∈xs->Ev (λk=>q k x) (p x)) (hl:xs.length<=4611686018427387904) {F:Nat->List α->Option Int} (HF:∀k a0,F k a0=(l0 k a0 (a0.length:Int) 0).bind λy2=>match y2 with|.inl z3=>some z3|.inr z3=>some (-1)) :
  ∃r,Ev (λk=>F k xs) r/\((r= -1/\∀x∈xs,p x=false)\/∃j:Nat,r=j/\j<xs.length/\p (xs.getD j d)=true/\∀x∈xs.take j,p x=false):=by
 obtain⟨r,h1,h2⟩:=Q9A H hq hl xs.length 0 (by omega) (λx hx=>by simp at hx)
 rcases h2 with⟨rfl,h2⟩|⟨j,rfl,h2⟩
 ·exact⟨-1,Ev.congr (Ev.bind h1 (Ev.pure _)) (λk=>HF k xs),.inl ⟨rfl,h2⟩⟩
 ·exact⟨j,Ev.congr (Ev.bind h1 (Ev.pure _)) (λk=>HF k xs),.inr ⟨j,rfl,h2⟩⟩
theorem Q5V {l0:Nat->List α->Int->Int->Option (List α×Int)}(H:∀k x0 x5 x6,l0 (k+1) x0 x5 x6=bif (decide (x6<(x0.length:Int)))then(bif decide (0<=x6)then(bif decide (x6<(x0.length:Int))then((q k (x0.getD ((x6:Int).toNat) d)).bind λr2=>bif (!r2)then(bif decide (0<=x5)then(bif decide (x5<(x0.length:Int))then(l0 k (x0.set ((x5:Int).toNat) (x0.getD ((x6:Int).toNat) d)) (IntKind.wrap .i64 (x5+1)) (IntKind.wrap .i64 (x6+1)))else none)else none)else(l0 k x0 x5 (IntKind.wrap .i64 (x6+1))))else none)else none)else(some (x0,x5)))
  (hq:∀x,x∈xs->Ev (λk=>q k x) (p x)) (hl:xs.length<=4611686018427387904):∀n j:Nat,j+n=xs.length->∀(ys:List α) (i:Nat),ys.length=xs.length->i<=j->ys.drop j=xs.drop j->
  ∃zs,∃i':Nat,Ev (λk=>l0 k ys i j) (zs,(i':Int))/\i'<=xs.length/\zs.length=xs.length/\zs.take i'=ys.take i++(xs.drop j).filter λx=> !p x
 |0,j,h,ys,i,hy,hij,hd=>by
  refine⟨ys,i,Ev.step (λk=>by rw[H]) ?_,by omega,hy,?_⟩
  ·simp(disch:=omega) only[Qy]
   exact Ev.pure _
  ·rw[List.drop_eq_nil_of_le (by omega),List.filter_nil,List.append_nil]
 |n+1,j,h,ys,i,hy,hij,hd=>by
  have hj:j<xs.length:=by omega
  have hj':j<ys.length:=by omega
  have hx:ys[j]=xs[j]:=by
   have h0:=congrArg (·[0]?) hd
   simpa[hj,hj']using h0
  have hd1:ys.drop (j+1)=xs.drop (j+1):=by
   have:=congrArg (List.drop 1) hd
   simpa[List.drop_drop]using this
  cases hp:p xs[j]with
  |true=>
   obtain⟨zs,i',h1,h2,h3,h4⟩:=Q5V H hq hl n (j+1) (by omega) ys i hy (by omega) hd1
   refine⟨zs,i',Ev.step (λk=>by rw[H]) ?_,h2,h3,?_⟩
   ·simp(disch:=omega) only[Qi,Int.toNat_natCast,Gs hj',hx]
    refine Ev.bind (hq _ (List.getElem_mem hj)) ?_
    rw[hp]
    simp(disch:=omega) only[Bool.not_true,cond_false,wrap_in]
    exact h1
   ·rw[h4,List.drop_eq_getElem_cons hj,List.filter_cons_of_neg (by rw[hp];decide)]
  |false=>
   obtain⟨zs,i',h1,h2,h3,h4⟩:=Q5V H hq hl n (j+1) (by omega) (ys.set i xs[j]) (i+1) (by simpa using hy) (by omega) (by rw[List.drop_set_of_lt (by omega)];exact hd1)
   refine⟨zs,i',Ev.step (λk=>by rw[H]) ?_,h2,h3,?_⟩
   ·simp(disch:=omega) only[Qi,Int.toNat_natCast,Gs hj',hx]
    refine Ev.bind (hq _ (List.getElem_mem hj)) ?_
    rw[hp]
    simp(disch:=omega) only[Bool.not_false,cond_true,Qi,Int.toNat_natCast,wrap_in]
    exact h1
   ·rw[h4,List.drop_eq_getElem_cons hj,List.filter_cons_of_pos (by rw[hp];decide),List.take_add_one,List.take_set_of_le (Nat.le_refl i)]
    have:(ys.set i xs[j])[i]? =some xs[j]:=by rw[List.getElem?_set_self (by omega)]
    rw[this]
    simp
theorem Q7P {l0:Nat->List α->Int->Int->Option (List α×Int)}(H:∀k x0 x5 x6,l0 (k+1) x0 x5 x6=bif (decide (x6<(x0.length:Int)))then(bif decide (0<=x6)then(bif decide (x6<(x0.length:Int))then((q k (x0.getD ((x6:Int).toNat) d)).bind λr2=>bif (!r2)then(bif decide (0<=x5)then(bif decide (x5<(x0.length:Int))then(l0 k (x0.set ((x5:Int).toNat) (x0.getD ((x6:Int).toNat) d)) (IntKind.wrap .i64 (x5+1)) (IntKind.wrap .i64 (x6+1)))else none)else none)else(l0 k x0 x5 (IntKind.wrap .i64 (x6+1))))else none)else none)else(some (x0,x5)))
  (hq:∀x,x∈xs->Ev (λk=>q k x) (p x)) (hl:xs.length<=4611686018427387904) {I F:Nat->List α->Option _} {e:α}
  (hI:∃r:Int,Ev (λk=>I k xs) r/\((r= -1/\∀x∈xs,p x=false)\/∃j:Nat,r=j/\j<xs.length/\p (xs.getD j d)=true/\∀x∈xs.take j,p x=false))
  (HF:∀k a0,F k a0=(I k a0).bind λr1=>bif (r1==(-1))then(some a0)else((l0 k a0 r1 (IntKind.wrap .i64 (r1+1))).bind λy3=>bif decide (0<=y3.2)then(bif decide (y3.2<=(y3.1.length:Int))then(bif decide (0<=y3.2)then(bif decide (y3.2<=((y3.1.take ((y3.2:Int).toNat)++List.replicate (y3.1.length-((y3.2:Int).toNat)) e).length:Int))then(some ((y3.1.take ((y3.2:Int).toNat)++List.replicate (y3.1.length-((y3.2:Int).toNat)) e).take (y3.2:Int).toNat))else none)else none)else none)else none)) :
  Ev (λk=>F k xs) (xs.filter λx=> !p x):=by
 obtain⟨r,h1,h2⟩:=hI
 refine Ev.congr (?_:Ev _ _) (λk=>HF k xs)
 refine Ev.bind h1 ?_
 rcases h2 with⟨rfl,h2⟩|⟨j,rfl,hj,hp,h2⟩
 ·have:(xs.filter λx=> !p x)=xs:=List.filter_eq_self.2 λx hx=>by rw[h2 x hx];rfl
  rw[this]
  exact Ev.pure _
 ·obtain⟨zs,i',h3,h4,h5,h6⟩:=Q5V H hq hl (xs.length-(j+1)) (j+1) (by omega) xs j rfl (by omega) rfl
  rw[Gs hj]at hp
  have hz:zs.take i'=xs.filter λx=> !p x:=by
   rw[h6]
   conv=>rhs;rw[<-List.take_append_drop j xs,List.filter_append,List.drop_eq_getElem_cons hj,List.filter_cons_of_neg (by rw[hp];decide)]
   congr 1
   exact(List.filter_eq_self.2 λx hx=>by rw[h2 x hx];rfl).symm
  simp(disch:=omega) only[cne,wrap_in]
  refine Ev.bind h3 ?_
  have e1:((zs.take i'++List.replicate (zs.length-i') e)).length=zs.length:=by simp;omega
  simp(disch:=(try simp only[Int.toNat_natCast,e1]);omega) only[Qi,Int.toNat_natCast,e1]
  rw[List.take_append_of_le_length (by simp;omega),List.take_take,Nat.min_self,hz]
  exact Ev.pure _
end
end Go.Gx
end
section
/- Plain laws: keys,names,dates,entries,libraries: are they valid? -/
namespace Go.Proofs.YtbpjfjdkjapnoaaGreatDoor
open Go.Gx
theorem Q1n (a b c:Int):Z52.F a b c=some (decide (a ≥ b)&&decide (a<=c)):=by
 unfold Z52.F
 cases decide (a ≥ b)<;>rfl
theorem JC (a b c:Int):Z47.F a b c=some (decide (a ≥ b)&&decide (a<=c)):=by
 unfold Z47.F
 cases decide (a ≥ b)<;>rfl
theorem QE {f:Nat->Option Bool}{b c:Bool}(h:b=true->Ev f c):Ev (λk=>bif (!b)then some false else f k) (b&&c):=by
 cases b with
 |false=>exact Ev.pure _
 |true=>exact h rfl
theorem J5 {f:Nat->Option Bool}{b c:Bool}(h:b=true->Ev f c):Ev (λk=>bif b then f k else some false) (b&&c):=by
 cases b with
 |false=>exact Ev.pure _
 |true=>exact h rfl
def Q09 (b:Int):Bool:=decide (97<=b)&&decide (b<=122)
def upc (b:Int):Bool:=decide (65<=b)&&decide (b<=90)
def ltr (b:Int):Bool:=upc b||Q09 b
def dig (b:Int):Bool:=decide (48<=b)&&decide (b<=57)
theorem Gt (b:Int):Z57.F b=some (Q09 b):=by
 unfold Z57.F Q09
 simp only[ge_iff_le]
 cases decide (97<=b)<;>rfl
theorem Q3w (b:Int):Z66.F b=some (upc b):=by
 unfold Z66.F upc
 simp only[ge_iff_le]
 cases decide (65<=b)<;>rfl
theorem Q0j (b:Int):Z62.F b=some (ltr b):=by
 unfold Z62.F ltr
 rw[Q3w,Gt]
 cases upc b<;>rfl
theorem Gu (b:Int):Z56.F b=some (Q09 b):=by
 unfold Z56.F Q09
 simp only[ge_iff_le]
 cases decide (97<=b)<;>rfl
theorem Q9B (b:Int):Z60.F b=some (upc b):=by
 unfold Z60.F upc
 simp only[ge_iff_le]
 cases decide (65<=b)<;>rfl
theorem DJ (b:Int):Z61.F b=some (ltr b):=by
 unfold Z61.F ltr
 rw[Q9B,Gu]
 cases upc b<;>rfl
theorem Q9C (b:Int):Z94.F b=some (dig b):=by
 unfold Z94.F dig
 simp only[ge_iff_le]
 cases decide (48<=b)<;>rfl
def ins (n:Nat)(lo hi:Int):Bool:=decide ((n:Int) ≥ lo)&&decide ((n:Int)<=hi)
theorem Gv {n:Nat}{lo hi:Int}(h:ins n lo hi=true):lo<=n/\(n:Int)<=hi:=by
 unfold ins at h
 simp only[Bool.and_eq_true,decide_eq_true_eq]at h
 exact h
def kb (s:ByteArray)(i:Nat):Bool:=Q09 (bt s i)||dig (bt s i)
def Q1o (s:ByteArray):Bool:=ins s.size 1 10&&(Q09 (bt s 0)&&(List.range' 0 s.size).all (kb s))
theorem Q5W (s:ByteArray)(hs:s.size<=10):Ev (λk=>Z20.l0 k s ((0:Nat):Int)) (if(List.range' 0 s.size).all (kb s)=true then .inr ()else .inl false):=by
 refine Yc (f:=λk i=>Z20.l0 k s i) (n:=s.size) (λi hi hp=>?_) (λi r hi hp ih=>?_) ?_ s.size 0 (by omega)
 ·refine Ev.step (λk=>by rw[Z20.l0]) ?_
  unfold kb at hp
  rw[Bool.or_eq_false_iff]at hp
  simp(disch:=omega) only[Qi,Int.toNat_natCast]
  refine Ev.bind0 (Gt _) ?_
  rw[hp.1]
  have h2:=hp.2
  unfold dig at h2
  by_cases c:bt s i<48
  ·simp(disch:=omega) only[Qi,Bool.not_false,cond_true]
   exact Ev.pure _
  ·have c2:bt s i > 57:=by
    rw[decide_eq_true (show 48<=bt s i by omega),Bool.true_and,decide_eq_false_iff_not]at h2
    omega
   simp(disch:=omega) only[Qi,Qy,Bool.not_false,cond_true]
   exact Ev.pure _
 ·refine Ev.step (λk=>by rw[Z20.l0]) ?_
  simp(disch:=omega) only[Qi,Int.toNat_natCast]
  refine Ev.bind0 (Gt _) ?_
  cases hl:Q09 (bt s i)with
  |true=>
   simp(disch:=omega) only[Bool.not_true,cond_false,wrap_in]
   exact ih
  |false=>
   unfold kb at hp
   rw[hl,Bool.false_or]at hp
   unfold dig at hp
   simp only[Bool.and_eq_true,decide_eq_true_eq]at hp
   simp(disch:=omega) only[Bool.not_false,cond_true,Qi,Qy,wrap_in]
   exact ih
 ·refine Ev.step (λk=>by rw[Z20.l0]) ?_
  simp(disch:=omega) only[Qy]
  exact Ev.pure _
theorem Q9D (s:ByteArray)(hs:s.size<=10):Ev (λk=>Z19.l0 k s ((0:Nat):Int)) (if(List.range' 0 s.size).all (kb s)=true then .inr ()else .inl false):=by
 refine Yc (f:=λk i=>Z19.l0 k s i) (n:=s.size) (λi hi hp=>?_) (λi r hi hp ih=>?_) ?_ s.size 0 (by omega)
 ·refine Ev.step (λk=>by rw[Z19.l0]) ?_
  unfold kb at hp
  rw[Bool.or_eq_false_iff]at hp
  simp(disch:=omega) only[Qi,Int.toNat_natCast]
  refine Ev.bind0 (Gu _) ?_
  rw[hp.1]
  simp(disch:=omega) only[Bool.not_false,cond_true,Qi]
  refine Ev.bind0 (Q9C _) ?_
  rw[hp.2]
  exact Ev.pure _
 ·refine Ev.step (λk=>by rw[Z19.l0]) ?_
  simp(disch:=omega) only[Qi,Int.toNat_natCast]
  refine Ev.bind0 (Gu _) ?_
  cases hl:Q09 (bt s i)with
  |true=>
   simp(disch:=omega) only[Bool.not_true,cond_false,wrap_in]
   exact ih
  |false=>
   unfold kb at hp
   rw[hl,Bool.false_or]at hp
   simp(disch:=omega) only[Bool.not_false,cond_true,Qi]
   refine Ev.bind0 (Q9C _) ?_
   rw[hp]
   simp(disch:=omega) only[Bool.not_true,cond_false,wrap_in]
   exact ih
 ·refine Ev.step (λk=>by rw[Z19.l0]) ?_
  simp(disch:=omega) only[Qy]
  exact Ev.pure _
theorem Q1p (s:ByteArray):Ev (λk=>Z20.F k s) (Q1o s):=by
 unfold Z20.F Q1o
 refine Ev.bind0 (Q1n _ _ _) (QE λh=>?_)
 obtain⟨h1,h2⟩:=Gv h
 simp(disch:=omega) only[Qi,show(0:Int).toNat=0 from rfl]
 refine Ev.bind0 (Gt _) (QE λ_=>?_)
 have:=Q5W s (by omega)
 cases ha:(List.range' 0 s.size).all (kb s)with
 |true=>rw[ha]at this;exact Ev.bind this (Ev.pure _)
 |false=>rw[ha]at this;exact Ev.bind this (Ev.pure _)
theorem Q4D (s:ByteArray):Ev (λk=>Z19.F k s) (Q1o s):=by
 unfold Z19.F Q1o
 refine Ev.bind0 (JC _ _ _) (QE λh=>?_)
 obtain⟨h1,h2⟩:=Gv h
 simp(disch:=omega) only[Qi,show(0:Int).toNat=0 from rfl]
 refine Ev.bind0 (Gu _) (QE λ_=>?_)
 have:=Q9D s (by omega)
 cases ha:(List.range' 0 s.size).all (kb s)with
 |true=>rw[ha]at this;exact Ev.bind this (Ev.pure _)
 |false=>rw[ha]at this;exact Ev.bind this (Ev.pure _)
def wp (s:ByteArray)(i:Nat):Bool:=ltr (bt s i)||((bt s i==45||bt s i==39)&&ltr (bt s (i-1)))
def UQ (s:ByteArray):Bool:=ins s.size 1 12&&(ltr (bt s 0)&&(ltr (bt s (s.size-1))&&(List.range' 1 (s.size-1)).all (wp s)))
theorem QbV {s:ByteArray}{i:Nat}(h:ltr (bt s i)=false)(h1:bt s i≠45)(h2:bt s i≠39):wp s i=false:=by
 unfold wp
 rw[h,show(bt s i==45)=false by simpa using h1,show(bt s i==39)=false by simpa using h2];rfl
theorem Q9E {s:ByteArray}{i:Nat}(h:ltr (bt s i)=false)(h1:bt s i=45\/bt s i=39):wp s i=ltr (bt s (i-1)):=by
 unfold wp
 rw[h]
 rcases h1 with h1|h1<;>rw[h1]<;>simp
theorem GV (s:ByteArray)(hs:s.size<=12):∀m i:Nat,i+m=s.size->1<=i->Ev (λk=>Z10.l0 k s i) (if(List.range' i m).all (wp s)=true then .inr ()else .inl false)
 |0,i,h,h1=>by
  refine Ev.step (λk=>by rw[Z10.l0]) ?_
  simp(disch:=omega) only[Qy]
  exact Ev.pure _
 |m+1,i,h,h1=>by
  have ih:=GV s hs m (i+1) (by omega) (by omega)
  have et:((i:Int)-1).toNat=i-1:=by omega
  refine Ev.step (λk=>by rw[Z10.l0]) ?_
  rw[List.range'_succ,List.all_cons]
  simp(disch:=omega) only[Qi,Int.toNat_natCast]
  refine Ev.bind0 (Q0j _) ?_
  cases hl:ltr (bt s i)with
  |true=>
   have:wp s i=true:=by unfold wp;rw[hl];rfl
   rw[this]
   simp(disch:=omega) only[Bool.not_true,cond_false,Bool.true_and,wrap_in]
   exact ih
  |false=>
   have fin:(bt s i=45\/bt s i=39)->Ev (λk=>(Z62.F (bt s (i-1))).bind λr5=>bif (!r5)then(some (.inl false))else(Z10.l0 k s ((i:Int)+1))) (if(wp s i&&(List.range' (i+1) m).all (wp s))=true then .inr ()else .inl false):=λhh=>by
    refine Ev.bind0 (Q0j _) ?_
    rw[Q9E hl hh]
    cases ltr (bt s (i-1))with
    |true=>exact ih
    |false=>exact Ev.pure _
   by_cases c1:bt s i=45
   ·simp(disch:=first|exact c1|omega) only[Bool.not_false,cond_true,Qi,Q1a,wrap_in,et]
    exact fin (.inl c1)
   ·by_cases c2:bt s i=39
    ·simp(disch:=first|exact c1|exact c2|omega) only[Bool.not_false,cond_true,Qi,Q5L,Q1a,wrap_in,et]
     exact fin (.inr c2)
    ·rw[QbV hl c1 c2]
     simp(disch:=first|exact c1|exact c2|omega) only[Bool.not_false,cond_true,Qi,Q5L]
     exact Ev.pure _
theorem Q2A (s:ByteArray)(hs:s.size<=12):∀m i:Nat,i+m=s.size->1<=i->Ev (λk=>Z12.l0 k s i) (if(List.range' i m).all (wp s)=true then .inr ()else .inl false)
 |0,i,h,h1=>by
  refine Ev.step (λk=>by rw[Z12.l0]) ?_
  simp(disch:=omega) only[Qy]
  exact Ev.pure _
 |m+1,i,h,h1=>by
  have ih:=Q2A s hs m (i+1) (by omega) (by omega)
  have et:((i:Int)-1).toNat=i-1:=by omega
  refine Ev.step (λk=>by rw[Z12.l0]) ?_
  rw[List.range'_succ,List.all_cons]
  simp(disch:=omega) only[Qi,Int.toNat_natCast]
  refine Ev.bind0 (DJ _) ?_
  cases hl:ltr (bt s i)with
  |true=>
   have:wp s i=true:=by unfold wp;rw[hl];rfl
   rw[this]
   simp(disch:=omega) only[Bool.not_true,cond_false,Bool.true_and,wrap_in]
   exact ih
  |false=>
   have fin:(bt s i=45\/bt s i=39)->Ev (λk=>(Z61.F (bt s (i-1))).bind λr5=>bif (!r5)then(some (.inl false))else(Z12.l0 k s ((i:Int)+1))) (if(wp s i&&(List.range' (i+1) m).all (wp s))=true then .inr ()else .inl false):=λhh=>by
    refine Ev.bind0 (DJ _) ?_
    rw[Q9E hl hh]
    cases ltr (bt s (i-1))with
    |true=>exact ih
    |false=>exact Ev.pure _
   by_cases c1:bt s i=45
   ·simp(disch:=first|exact c1|omega) only[Bool.not_false,cond_true,Qi,Q1a,wrap_in,et]
    exact fin (.inl c1)
   ·by_cases c2:bt s i=39
    ·simp(disch:=first|exact c1|exact c2|omega) only[Bool.not_false,cond_true,Qi,Q5L,Q1a,wrap_in,et]
     exact fin (.inr c2)
    ·rw[QbV hl c1 c2]
     simp(disch:=first|exact c1|exact c2|omega) only[Bool.not_false,cond_true,Qi,Q5L]
     exact Ev.pure _
theorem Yp (s:ByteArray):Ev (λk=>Z10.F k s) (UQ s):=by
 unfold Z10.F UQ
 refine Ev.bind0 (Q1n _ _ _) (QE λh=>?_)
 obtain⟨h1,h2⟩:=Gv h
 have et:((s.size:Int)-1).toNat=s.size-1:=by omega
 simp(disch:=omega) only[Qi,show(0:Int).toNat=0 from rfl,wrap_in,et]
 refine Ev.bind0 (Q0j _) (QE λ_=>?_)
 refine Ev.bind0 (Q0j _) (QE λ_=>?_)
 have:=GV s (by omega) (s.size-1) 1 (by omega) (Nat.le_refl _)
 cases ha:(List.range' 1 (s.size-1)).all (wp s)with
 |true=>rw[ha]at this;exact Ev.bind this (Ev.pure _)
 |false=>rw[ha]at this;exact Ev.bind this (Ev.pure _)
theorem Q2B (s:ByteArray):Ev (λk=>Z12.F k s) (UQ s):=by
 unfold Z12.F UQ
 refine Ev.bind0 (JC _ _ _) (QE λh=>?_)
 obtain⟨h1,h2⟩:=Gv h
 have et:((s.size:Int)-1).toNat=s.size-1:=by omega
 simp(disch:=omega) only[Qi,show(0:Int).toNat=0 from rfl,wrap_in,et]
 refine(Ev.bind0 (DJ _) (QE (c:=ltr (bt s 0)&&(List.range' 1 (s.size-1)).all (wp s)) λ_=>?_)).eq (Bool.and_left_comm _ _ _)
 refine Ev.bind0 (DJ _) (QE λh0=>?_)
 have:=Q2A s (by omega) (s.size-1) 1 (by omega) (Nat.le_refl _)
 refine Ev.bind (a:=if(List.range' 1 (s.size-1)).all (wp s)=true then .inr ()else .inl false) ?_ ?_
 ·refine Ev.step (λk=>by rw[Z12.l0]) ?_
  simp(disch:=omega) only[Qi,show(0:Int).toNat=0 from rfl]
  refine Ev.bind0 (DJ _) ?_
  rw[h0]
  simp(disch:=omega) only[Bool.not_true,cond_false,wrap_in]
  exact this
 ·cases (List.range' 1 (s.size-1)).all (wp s)<;>exact Ev.pure _
def Q5X (s:ByteArray):Bool:=(List.range' 0 s.size).all λi=>Q09 (bt s i)
theorem Q7Q {s:ByteArray}(h:Q5X s=true):UQ s=ins s.size 1 12:=by
 unfold Q5X at h
 rw[List.all_eq_true]at h
 have hl:∀i,i<s.size->ltr (bt s i)=true:=λi hi=>by
  unfold ltr
  rw[h i (by rw[List.mem_range'_1];omega),Bool.or_true]
 unfold UQ
 cases hi:ins s.size 1 12 with
 |false=>rfl
 |true=>
  obtain⟨h1,h2⟩:=Gv hi
  rw[hl 0 (by omega),hl (s.size-1) (by omega)]
  have:(List.range' 1 (s.size-1)).all (wp s)=true:=by
   rw[List.all_eq_true]
   intro i hi
   rw[List.mem_range'_1]at hi
   unfold wp
   rw[hl i (by omega)];rfl
  rw[this];rfl
def pw (s:ByteArray):Bool:=ins s.size 1 12&&Q5X s
theorem QbW (s:ByteArray):(UQ s&&Q5X s)=pw s:=by
 unfold pw
 cases h:Q5X s with
 |false=>rw[Bool.and_false,Bool.and_false]
 |true=>rw[Q7Q h]
def UR (s:ByteArray):Bool:=decide (s.size=0)||((words s).all pw&&decide ((words s).length<=2))
theorem US (s:ByteArray):Q3 s ⟨#[]⟩=decide (s.size=0):=by
 rw[<-Bool.not_not (b:=Q3 s ⟨#[]⟩),DI]
 by_cases hz:s.size=0
 ·simp[hz]
 ·rw[decide_eq_true (by omega:0<s.size),decide_eq_false hz];rfl
theorem GW (W:List ByteArray)(i:Nat)(hi:i<W.length)(hs:W[i].size<=1048576):Ev (λk=>Z2.l2 k W i ((0:Nat):Int)) (if Q5X W[i]=true then .inr (W,(i:Int))else .inl false):=by
 refine Yc (f:=λk j=>Z2.l2 k W i j) (n:=W[i].size) (p:=λj=>Q09 (bt W[i] j)) (λj hj hp=>?_) (λj r hj hp ih=>?_) ?_ W[i].size 0 (by omega)
 ·refine Ev.step (λk=>by rw[Z2.l2]) ?_
  simp(disch:=omega) only[Qi,Int.toNat_natCast,getD_at hi]
  refine Ev.bind0 (Gt _) ?_
  rw[hp]
  exact Ev.pure _
 ·refine Ev.step (λk=>by rw[Z2.l2]) ?_
  simp(disch:=omega) only[Qi,Int.toNat_natCast,getD_at hi]
  refine Ev.bind0 (Gt _) ?_
  rw[hp]
  simp(disch:=omega) only[Bool.not_true,cond_false,wrap_in]
  exact ih
 ·refine Ev.step (λk=>by rw[Z2.l2]) ?_
  simp(disch:=omega) only[Qi,Qy,Int.toNat_natCast,getD_at hi]
  exact Ev.pure _
theorem Q2C (W:List ByteArray)(w:ByteArray)(n i:Int)(hs:w.size<=1048576):Ev (λk=>Z1.l2 k W w ((0:Nat):Int) n i) (if Q5X w=true then .inr (W,n,i)else .inl false):=by
 refine Yc (f:=λk j=>Z1.l2 k W w j n i) (n:=w.size) (p:=λj=>Q09 (bt w j)) (λj hj hp=>?_) (λj r hj hp ih=>?_) ?_ w.size 0 (by omega)
 ·refine Ev.step (λk=>by rw[Z1.l2]) ?_
  simp(disch:=omega) only[Qi,Int.toNat_natCast]
  refine Ev.bind0 (Gu _) ?_
  rw[hp]
  exact Ev.pure _
 ·refine Ev.step (λk=>by rw[Z1.l2]) ?_
  simp(disch:=omega) only[Qi,Int.toNat_natCast]
  refine Ev.bind0 (Gu _) ?_
  rw[hp]
  simp(disch:=omega) only[Bool.not_true,cond_false,wrap_in]
  exact ih
 ·refine Ev.step (λk=>by rw[Z1.l2]) ?_
  simp(disch:=omega) only[Qy]
  exact Ev.pure _
theorem Q4E (W:List ByteArray)(hl:W.length<=1048577)(hW:∀x∈W,x.size<=1048576):Ev (λk=>Z2.l0 k W ((0:Nat):Int)) (if(List.range' 0 W.length).all (λi=>pw (W.getD i ⟨#[]⟩))=true then .inr W else .inl false):=by
 refine Yc (f:=λk j=>Z2.l0 k W j) (n:=W.length) (p:=λi=>pw (W.getD i ⟨#[]⟩)) (λj hj hp=>?_) (λj r hj hp ih=>?_) ?_ W.length 0 (by omega)
 ·rw[getD_at hj,<-QbW]at hp
  refine Ev.step (λk=>by rw[Z2.l0]) ?_
  simp(disch:=omega) only[Qi,Int.toNat_natCast,getD_at hj]
  refine Ev.bind (Yp _) ?_
  cases hw:UQ W[j]with
  |false=>exact Ev.pure _
  |true=>
   rw[hw,Bool.true_and]at hp
   have:=GW W j hj (hW _ (List.getElem_mem hj))
   rw[hp]at this
   exact Ev.bind this (Ev.pure _)
 ·rw[getD_at hj,<-QbW,Bool.and_eq_true]at hp
  refine Ev.step (λk=>by rw[Z2.l0]) ?_
  simp(disch:=omega) only[Qi,Int.toNat_natCast,getD_at hj]
  refine Ev.bind (Yp _) ?_
  rw[hp.1]
  have:=GW W j hj (hW _ (List.getElem_mem hj))
  rw[hp.2]at this
  refine Ev.bind (a:=.inr (W,(j:Int))) this ?_
  simp(disch:=omega) only[wrap_in]
  exact ih
 ·refine Ev.step (λk=>by rw[Z2.l0]) ?_
  simp(disch:=omega) only[Qy]
  exact Ev.pure _
theorem Q7R (W:List ByteArray)(hl:W.length<=1048577)(hW:∀x∈W,x.size<=1048576):Ev (λk=>Z1.l0 k W W.length ((0:Nat):Int)) (if(List.range' 0 W.length).all (λi=>pw (W.getD i ⟨#[]⟩))=true then .inr W else .inl false):=by
 refine Yc (f:=λk j=>Z1.l0 k W W.length j) (n:=W.length) (p:=λi=>pw (W.getD i ⟨#[]⟩)) (λj hj hp=>?_) (λj r hj hp ih=>?_) ?_ W.length 0 (by omega)
 ·rw[getD_at hj]at hp
  unfold pw at hp
  refine Ev.step (λk=>by rw[Z1.l0]) ?_
  simp(disch:=omega) only[Qi,Int.toNat_natCast,getD_at hj]
  refine Ev.bind0 (JC _ _ _) ?_
  cases hw:ins W[j].size 1 12 with
  |false=>
   unfold ins at hw
   rw[hw]
   exact Ev.pure _
  |true=>
   rw[hw,Bool.true_and]at hp
   unfold ins at hw
   rw[hw]
   have:=Q2C W W[j] W.length j (hW _ (List.getElem_mem hj))
   rw[hp]at this
   exact Ev.bind this (Ev.pure _)
 ·rw[getD_at hj]at hp
  unfold pw at hp
  rw[Bool.and_eq_true]at hp
  obtain⟨hp1,hp2⟩:=hp
  unfold ins at hp1
  refine Ev.step (λk=>by rw[Z1.l0]) ?_
  simp(disch:=omega) only[Qi,Int.toNat_natCast,getD_at hj]
  refine Ev.bind0 (JC _ _ _) ?_
  rw[hp1]
  have:=Q2C W W[j] W.length j (hW _ (List.getElem_mem hj))
  rw[hp2]at this
  refine Ev.bind (a:=.inr (W,(W.length:Int),(j:Int))) this ?_
  simp(disch:=omega) only[wrap_in]
  exact ih
 ·refine Ev.step (λk=>by rw[Z1.l0]) ?_
  simp(disch:=omega) only[Qy]
  exact Ev.pure _
theorem Q4F (s:ByteArray)(hs:s.size<=1048576):Ev (λk=>Z2.F k s) (UR s):=by
 unfold Z2.F UR
 rw[US]
 cases decide (s.size=0)with
 |true=>exact Ev.pure _
 |false=>
  refine Ev.bind (Q3u s hs) ?_
  have:=Q4E (words s) (by have:=(Q2z s).2;omega) (λx hx=>by have:=XK _ _ x hx;omega)
  rw[Gq (words s) ⟨#[]⟩ pw]at this
  rw[Bool.false_or]
  cases ha:(words s).all pw with
  |true=>
   rw[ha]at this
   refine Ev.bind this ((Ev.pure _).eq ?_)
   rw[Bool.true_and];exact decide_eq_decide.2 (by omega)
  |false=>rw[ha]at this;exact Ev.bind this (Ev.pure _)
theorem Q7S (s:ByteArray)(hs:s.size<=1048576):Ev (λk=>Z1.F k s) (UR s):=by
 unfold Z1.F UR
 rw[US]
 cases decide (s.size=0)with
 |true=>exact Ev.pure _
 |false=>
  refine Ev.bind0 (Q9z s hs) ?_
  have:=Q7R (words s) (by have:=(Q2z s).2;omega) (λx hx=>by have:=XK _ _ x hx;omega)
  rw[Gq (words s) ⟨#[]⟩ pw]at this
  rw[Bool.false_or]
  cases ha:(words s).all pw with
  |true=>
   rw[ha]at this
   refine Ev.bind this ((Ev.pure _).eq ?_)
   rw[Bool.true_and];exact decide_eq_decide.2 (by omega)
  |false=>rw[ha]at this;exact Ev.bind this (Ev.pure _)
def gw (s:ByteArray):Bool:=UQ s&&upc (bt s 0)
theorem UT {s:ByteArray}(h:UQ s=true):1<=s.size:=by
 unfold UQ at h
 rw[Bool.and_eq_true]at h
 have:=(Gv h.1).1
 omega
theorem Q1q (s:ByteArray):Ev (λk=>Z70.F k s) (gw s):=by
 unfold Z70.F gw
 refine Ev.bind (Q2B s) (J5 λh=>?_)
 have:=UT h
 simp(disch:=omega) only[Qi,show(0:Int).toNat=0 from rfl]
 exact Ev.bind0 (Q9B _) (Ev.pure _)
def Q9F (s:ByteArray):Bool:=decide (s.size=0)||UQ s
def nameB (n:Name):Bool:=n.given.all gw&&(decide (n.given.length<=3)&&(UR n.particle&&(gw n.family&&Q9F n.suffix)))
theorem Q4G (n:Name)(hn:n.given.length<=1048576):Ev (λk=>Z28.l0 k n ((0:Nat):Int)) (if(List.range' 0 n.given.length).all (λi=>gw (n.given.getD i ⟨#[]⟩))=true then .inr n else .inl false):=by
 refine Yc (f:=λk j=>Z28.l0 k n j) (n:=n.given.length) (p:=λi=>gw (n.given.getD i ⟨#[]⟩)) (λj hj hp=>?_) (λj r hj hp ih=>?_) ?_ n.given.length 0 (by omega)
 ·rw[getD_at hj]at hp
  unfold gw at hp
  refine Ev.step (λk=>by rw[Z28.l0]) ?_
  simp(disch:=omega) only[Qi,Int.toNat_natCast,getD_at hj]
  refine Ev.bind (Yp _) ?_
  cases hw:UQ n.given[j]with
  |false=>exact Ev.pure _
  |true=>
   rw[hw,Bool.true_and]at hp
   have:=UT hw
   simp(disch:=omega) only[Qi,show(0:Int).toNat=0 from rfl,Bool.not_true,cond_false]
   refine Ev.bind0 (Q3w _) ?_
   rw[hp]
   exact Ev.pure _
 ·rw[getD_at hj]at hp
  unfold gw at hp
  rw[Bool.and_eq_true]at hp
  have:=UT hp.1
  refine Ev.step (λk=>by rw[Z28.l0]) ?_
  simp(disch:=omega) only[Qi,Int.toNat_natCast,getD_at hj]
  refine Ev.bind (Yp _) ?_
  rw[hp.1]
  simp(disch:=omega) only[Qi,show(0:Int).toNat=0 from rfl,Bool.not_true,cond_false]
  refine Ev.bind0 (Q3w _) ?_
  rw[hp.2]
  simp(disch:=omega) only[Bool.not_true,cond_false,wrap_in]
  exact ih
 ·refine Ev.step (λk=>by rw[Z28.l0]) ?_
  simp(disch:=omega) only[Qy]
  exact Ev.pure _
theorem GX (n:Name)(hs:Ju n):Ev (λk=>Z28.F k n) (nameB n):=by
 have hg:n.given.length<=1048576:=by unfold Ju Q1k at hs;omega
 have hp:n.particle.size<=1048576:=by unfold Ju Q1k at hs;omega
 unfold Z28.F nameB
 have:=Q4G n hg
 rw[Gq n.given ⟨#[]⟩ gw]at this
 cases ha:n.given.all gw with
 |false=>rw[ha]at this;exact Ev.bind this (Ev.pure _)
 |true=>
  rw[ha]at this
  refine Ev.bind (a:=.inr n) this ?_
  dsimp only
  rw[Bool.true_and,show decide (n.given.length<=3)=decide ((n.given.length:Int)<=3)from decide_eq_decide.2 (by omega)]
  refine J5 λ_=>?_
  refine Ev.bind (Q4F _ hp) (J5 λ_=>?_)
  unfold gw
  rw[Bool.and_assoc]
  refine Ev.bind (Yp _) (J5 λh=>?_)
  have:=UT h
  simp(disch:=omega) only[Qi,show(0:Int).toNat=0 from rfl]
  refine Ev.bind0 (Q3w _) (J5 λ_=>?_)
  unfold Q9F
  rw[US]
  cases decide (n.suffix.size=0)with
  |true=>exact Ev.pure _
  |false=>exact Ev.bind (Yp _) (Ev.pure _)
theorem Q7T (n:Name)(hs:Ju n):Ev (λk=>Z95.F k n) (nameB n):=by
 have hg:n.given.length<=1048576:=by unfold Ju Q1k at hs;omega
 have hp:n.particle.size<=1048576:=by unfold Ju Q1k at hs;omega
 unfold Z95.F nameB
 by_cases c:n.given.length<=3
 ·simp(disch:=omega) only[Qy,Q1M,Bool.true_and]
  have hq:∀x,x∈n.given->Ev (λk=>Z81.F k x) (!gw x):=λx _=>by
   unfold Z81.F
   exact Ev.bind (Q1q x) (Ev.pure _)
  obtain⟨r,h1,h2⟩:=Q5U (d:=(⟨#[]⟩:ByteArray)) (p:=λx=> !gw x) (q:=Z81.F) (xs:=n.given) (l0:=Z40.l0) (λk x0 x7 x8=>by rw[Z40.l0]) hq (by omega) (F:=Z40.F) (λk a0=>rfl)
  refine Ev.bind (a:=!n.given.all gw) ?_ ?_
  ·unfold Z108.F
   refine Ev.bind h1 ((Ev.pure _).eq ?_)
   rcases h2 with⟨rfl,h2⟩|⟨j,rfl,hj,hp,_⟩
   ·have:n.given.all gw=true:=List.all_eq_true.2 λx hx=>by have:=h2 x hx;simpa using this
    rw[this];rfl
   ·have:n.given.all gw=false:=by
     rw[List.all_eq_false]
     refine⟨n.given[j],List.getElem_mem hj,?_⟩
     rw[getD_at hj]at hp
     simpa using hp
    rw[this,decide_eq_true (by omega)];rfl
  ·cases n.given.all gw with
   |false=>exact Ev.pure _
   |true=>
    rw[Bool.true_and]
    refine Ev.bind (Q7S _ hp) (J5 λ_=>?_)
    refine Ev.bind (Q1q _) (J5 λ_=>?_)
    unfold Q9F
    rw[US]
    cases decide (n.suffix.size=0)with
    |true=>exact Ev.pure _
    |false=>exact Ev.bind (Q2B _) (Ev.pure _)
 ·simp(disch:=omega) only[Qi,Q1b,Bool.false_and,Bool.and_false]
  exact Ev.pure _
def Y6 (l:List Name):Bool:=l.all nameB&&decide (l.length<=4)
theorem GY (l:List Name)(hl:l.length<=1048576)(hs:∀n∈l,Ju n):∀m i:Nat,i+m=l.length->∃r,Ev (λk=>Z23.l0 k l i) r/\(r= .inl false\/r= .inr l)/\(l.length<=4->r=if(l.drop i).all nameB=true then .inr l else .inl false)
 |0,i,h=>by
  refine⟨.inr l,Ev.step (λk=>by rw[Z23.l0]) ?_,.inr rfl,λ_=>by rw[List.drop_eq_nil_of_le (by omega)];rfl⟩
  simp(disch:=omega) only[Qy]
  exact Ev.pure _
 |m+1,i,h=>by
  have hi:i<l.length:=by omega
  by_cases c4:(i:Int)<=4
  ·cases hn:nameB l[i]with
   |false=>
    refine⟨.inl false,Ev.step (λk=>by rw[Z23.l0]) ?_,.inl rfl,λ_=>by rw[List.drop_eq_getElem_cons hi,List.all_cons,hn];rfl⟩
    simp(disch:=omega) only[Qi,Int.toNat_natCast,getD_at hi]
    refine Ev.bind (GX _ (hs _ (List.getElem_mem hi))) ?_
    rw[hn]
    exact Ev.pure _
   |true=>
    obtain⟨r,h1,h2,h3⟩:=GY l hl hs m (i+1) (by omega)
    refine⟨r,Ev.step (λk=>by rw[Z23.l0]) ?_,h2,λh4=>by rw[h3 h4,List.drop_eq_getElem_cons hi,List.all_cons,hn,Bool.true_and]⟩
    simp(disch:=omega) only[Qi,Int.toNat_natCast,getD_at hi]
    refine Ev.bind (GX _ (hs _ (List.getElem_mem hi))) ?_
    rw[hn]
    simp(disch:=omega) only[Bool.not_true,cond_false,wrap_in]
    exact h1
  ·refine⟨.inr l,Ev.step (λk=>by rw[Z23.l0]) ?_,.inr rfl,λh4=>by omega⟩
   simp(disch:=omega) only[Qi,Qy]
   exact Ev.pure _
theorem DK (l:List Name)(hl:Yy l<=1048576):Ev (λk=>Z23.F k l) (Y6 l):=by
 unfold Z23.F Y6
 obtain⟨r,h1,h2,h3⟩:=GY l (Un hl) (λn hn=>Ug hl hn) l.length 0 (by omega)
 rw[List.drop_zero]at h3
 have e:decide (l.length<=4)=decide ((l.length:Int)<=4):=decide_eq_decide.2 (by omega)
 rw[e]
 by_cases c:l.length<=4
 ·rw[h3 c]at h1
  cases ha:l.all nameB with
  |true=>rw[ha]at h1;exact Ev.bind h1 (Ev.pure _)
  |false=>rw[ha]at h1;exact Ev.bind h1 (Ev.pure _)
 ·rw[decide_eq_false (show¬(l.length:Int)<=4 by omega),Bool.and_false]
  rcases h2 with rfl|rfl
  ·exact Ev.bind h1 (Ev.pure _)
  ·exact Ev.bind h1 ((Ev.pure _).eq (decide_eq_false (by omega)))
theorem GZ (l:List Name)(hl:Yy l<=1048576):Ev (λk=>Z83.F k l) (Y6 l):=by
 have hlen:=Un hl
 unfold Z83.F Y6
 by_cases c:l.length<=4
 ·simp(disch:=omega) only[Qi,Q1M,Bool.and_true]
  have hq:∀x,x∈l->Ev (λk=>Z82.F k x) (!nameB x):=λx hx=>by
   unfold Z82.F
   exact Ev.bind (Q7T x (Ug hl hx)) (Ev.pure _)
  obtain⟨r,h1,h2⟩:=Q5U (d:=(Q2 .name:Name)) (p:=λx=> !nameB x) (q:=Z82.F) (xs:=l) (l0:=Z41.l0) (λk x0 x7 x8=>by rw[Z41.l0]) hq (by omega) (F:=Z41.F) (λk a0=>rfl)
  refine Ev.bind (a:=!l.all nameB) ?_ ?_
  ·unfold Z109.F
   refine Ev.bind h1 ((Ev.pure _).eq ?_)
   rcases h2 with⟨rfl,h2⟩|⟨j,rfl,hj,hp,_⟩
   ·have:l.all nameB=true:=List.all_eq_true.2 λx hx=>by have:=h2 x hx;simpa using this
    rw[this];rfl
   ·have:l.all nameB=false:=by
     rw[List.all_eq_false]
     refine⟨l[j],List.getElem_mem hj,?_⟩
     rw[getD_at hj]at hp
     simpa using hp
    rw[this,decide_eq_true (by omega)];rfl
  ·rw[Bool.not_not];exact Ev.pure _
 ·simp(disch:=omega) only[Qy,Q1b,Bool.and_false]
  exact Ev.pure _
theorem Q6H (y m:Int)(hy:0<=y):∃r,Z98.F y m=some r/\Z64.F y m=some r:=by
 have e1:Int.tmod y 4=y % 4:=Int.tmod_eq_emod_of_nonneg hy
 have e2:Int.tmod y 100=y % 100:=Int.tmod_eq_emod_of_nonneg hy
 have e3:Int.tmod y 400=y % 400:=Int.tmod_eq_emod_of_nonneg hy
 have z1:((4:Nat)==0)=false:=rfl
 have z2:((100:Nat)==0)=false:=rfl
 have z3:((400:Nat)==0)=false:=rfl
 unfold Z98.F Z64.F
 rw[e1,e2,e3]
 by_cases c2:m=2
 ·by_cases d1:y % 4=0
  ·by_cases d2:y % 100=0
   ·by_cases d3:y % 400=0
    ·exact⟨29,by simp(disch:=first|assumption|omega) only[ceq,Q1a,z1,z2,z3,cond_false],by simp(disch:=first|assumption|omega) only[ceq,Q1a,z1,z2,z3,cond_false]⟩
    ·exact⟨28,by simp(disch:=first|assumption|omega) only[ceq,cne,Q1a,z1,z2,z3,cond_false],by simp(disch:=first|assumption|omega) only[ceq,cne,Q1a,z1,z2,z3,cond_false]⟩
   ·exact⟨29,by simp(disch:=first|assumption|omega) only[ceq,Q5L,z1,z2,z3,cond_false],by simp(disch:=first|assumption|omega) only[ceq,Q5L,z1,z2,z3,cond_false]⟩
  ·have d3:y % 400≠0:=by omega
   exact⟨28,by simp(disch:=first|assumption|omega) only[ceq,cne,z1,z2,z3,cond_false],by simp(disch:=first|assumption|omega) only[ceq,cne,z1,z2,z3,cond_false]⟩
 ·by_cases a:m=4
  ·exact⟨30,by simp(disch:=first|assumption|omega) only[ceq,cne],by simp(disch:=first|assumption|omega) only[ceq,cne]⟩
  ·by_cases b:m=6
   ·exact⟨30,by simp(disch:=first|assumption|omega) only[ceq,cne],by simp(disch:=first|assumption|omega) only[ceq,cne]⟩
   ·by_cases c:m=9
    ·exact⟨30,by simp(disch:=first|assumption|omega) only[ceq,cne],by simp(disch:=first|assumption|omega) only[ceq,cne]⟩
    ·by_cases d:m=11
     ·exact⟨30,by simp(disch:=first|assumption|omega) only[ceq,cne],by simp(disch:=first|assumption|omega) only[ceq,cne]⟩
     ·exact⟨31,by simp(disch:=first|assumption|omega) only[cne],by simp(disch:=first|assumption|omega) only[cne]⟩
theorem Q1r (d:Date):∃b,Z85.F d=some b/\Z75.F d=some b:=by
 unfold Z85.F Z75.F
 cases (d.y==0&&(d.m==0&&(d.d==0&&d.c==false)))with
 |true=>exact⟨true,rfl,rfl⟩
 |false=>
  rw[Q1n,JC]
  simp only[Option.bind_some,cond_false]
  cases h1:(decide (d.y ≥ 1)&&decide (d.y<=2999))with
  |false=>exact⟨false,rfl,rfl⟩
  |true=>
   have hy:0<=d.y:=by
    simp only[Bool.and_eq_true,decide_eq_true_eq]at h1;omega
   rw[Q1n,JC]
   simp only[Option.bind_some,Bool.not_true,cond_false]
   cases h2:(decide (d.m ≥ 0)&&decide (d.m<=12))with
   |false=>exact⟨false,rfl,rfl⟩
   |true=>
    obtain⟨r,r1,r2⟩:=Q6H d.y d.m hy
    rw[r1,r2]
    simp only[Option.bind_some,Bool.not_true,cond_false,Q1n,JC]
    cases d.c with
    |true=>
     by_cases c:d.m=0
     ·exact⟨d.d==0,by simp(disch:=first|assumption|omega) only[cond_true,ceq],by simp(disch:=first|assumption|omega) only[cond_true,ceq,Q1a]⟩
     ·exact⟨false,by simp(disch:=first|assumption|omega) only[cond_true,cne],by simp(disch:=first|assumption|omega) only[cond_true,Q5L]⟩
    |false=>exact⟨bif d.m==0 then(d.d==0)else(decide (d.d ≥ 0)&&decide (d.d<=r)),by cases (d.m==0)<;>rfl,by cases (d.m==0)<;>rfl⟩
open Classical in
noncomputable def DL (d:Date):Bool:=(Q1r d).choose
theorem Q4H (d:Date):Z85.F d=some (DL d):=(Q1r d).choose_spec.1
theorem Q2D (d:Date):Z75.F d=some (DL d):=(Q1r d).choose_spec.2
def Q5Y (n lo hi:Int):Bool:=decide (n ≥ lo)&&decide (n<=hi)
def D1 (e:Entry):Bool:=decide (e.cross.size=0)||(Q1o e.cross&& !Q3 e.cross e.key)
noncomputable def QF (e:Entry):Bool:=Q1o e.key&&(Q5Y e.kind 1 4&&(Y6 e.authors&&(Y6 e.editors&&(YE e.title&&(YE e.container&&(YE e.publisher&&(YE e.pages&&(DL e.date&&(Q5Y e.volume 0 9999&&D1 e)))))))))
theorem JH (e:Entry)(hs:Jv e):Ev (λk=>Z53.F k e) (QF e):=by
 unfold Z53.F QF
 refine Ev.bind (Q1p _) (QE λ_=>?_)
 refine Ev.bind0 (Q1n _ _ _) (QE λ_=>?_)
 refine Ev.bind (DK _ (Q1l hs)) (QE λ_=>?_)
 refine Ev.bind (DK _ (Q1m hs)) (QE λ_=>?_)
 refine Ev.bind (Um _) (QE λ_=>?_)
 refine Ev.bind (Um _) (QE λ_=>?_)
 refine Ev.bind (Um _) (QE λ_=>?_)
 refine Ev.bind (Um _) (QE λ_=>?_)
 refine Ev.bind0 (Q4H _) (J5 λ_=>?_)
 refine Ev.bind0 (Q1n _ _ _) (J5 λ_=>?_)
 unfold D1
 rw[US]
 cases decide (e.cross.size=0)with
 |true=>exact Ev.pure _
 |false=>
  refine(Ev.bind (Q1p _) (J5 λ_=>?_)).eq (Bool.false_or _).symm
  exact Ev.pure _
theorem Jw (e:Entry)(hs:Jv e):Ev (λk=>Z51.F k e) (QF e):=by
 have key:Ev (λk=>Z51.F k e) (Q1o e.key&&(Q5Y e.kind 1 4&&(Y6 e.authors&&(Y6 e.editors&&(DL e.date&&(Q5Y e.volume 0 9999&&(YE e.title&&(YE e.container&&(YE e.publisher&&(YE e.pages&&D1 e)))))))))):=by
  unfold Z51.F
  refine Ev.bind (Q4D _) (QE λ_=>?_)
  refine Ev.bind0 (a:=Q5Y e.kind 1 4) ?_ (QE λ_=>?_)
  ·unfold Z107.F;rw[JC];rfl
  refine Ev.bind (GZ _ (Q1l hs)) (QE λ_=>?_)
  refine Ev.bind (GZ _ (Q1m hs)) (QE λ_=>?_)
  refine Ev.bind0 (Q2D _) (QE λ_=>?_)
  refine Ev.bind0 (JC _ _ _) (QE λ_=>?_)
  refine Ev.bind (Kx _) (J5 λ_=>?_)
  refine Ev.bind (Kx _) (J5 λ_=>?_)
  refine Ev.bind (Kx _) (J5 λ_=>?_)
  refine Ev.bind (Kx _) (J5 λ_=>?_)
  unfold D1
  rw[US]
  cases decide (e.cross.size=0)with
  |true=>exact Ev.pure _
  |false=>
   refine(Ev.bind (Q4D _) (J5 λ_=>?_)).eq (Bool.false_or _).symm
   exact Ev.pure _
 refine key.eq ?_
 unfold QF
 ac_rfl
noncomputable def okL (l:Library)(i:Nat):Bool:=QF (l.entries.getD i (Q2 .entry))&&(decide (i=0)||ltS (l.entries.getD (i-1) (Q2 .entry)).key (l.entries.getD i (Q2 .entry)).key)
noncomputable def Xq (l:Library):Bool:=(List.range' 0 l.entries.length).all (okL l)&&decide (l.entries.length<=8)
theorem Q3x (l:Library)(hs:YW l):Ev (λk=>Z15.l0 k l ((0:Nat):Int)) (if(List.range' 0 l.entries.length).all (okL l)=true then .inr ()else .inl false):=by
 have hlen:=Xk hs
 refine Yc (f:=λk i=>Z15.l0 k l i) (n:=l.entries.length) (λi hi hp=>?_) (λi r hi hp ih=>?_) ?_ l.entries.length 0 (by omega)
 ·unfold okL at hp
  refine Ev.step (λk=>by rw[Z15.l0]) ?_
  have hsm:Jv (l.entries.getD i (Q2 .entry)):=by rw[getD_at hi];exact Ky hs (List.getElem_mem hi)
  simp(disch:=omega) only[Qi,Int.toNat_natCast]
  refine Ev.bind (JH _ hsm) ?_
  cases he:QF (l.entries.getD i (Q2 .entry))with
  |false=>exact Ev.pure _
  |true=>
   rw[he,Bool.true_and,Bool.or_eq_false_iff,decide_eq_false_iff_not]at hp
   have et:((i:Int)-1).toNat=i-1:=by omega
   simp(disch:=omega) only[Bool.not_true,cond_false,Qi,wrap_in,et,hp.2,Bool.not_false,cond_true]
   exact Ev.pure _
 ·unfold okL at hp
  rw[Bool.and_eq_true]at hp
  refine Ev.step (λk=>by rw[Z15.l0]) ?_
  have hsm:Jv (l.entries.getD i (Q2 .entry)):=by rw[getD_at hi];exact Ky hs (List.getElem_mem hi)
  simp(disch:=omega) only[Qi,Int.toNat_natCast]
  refine Ev.bind (JH _ hsm) ?_
  rw[hp.1]
  by_cases c:i=0
  ·simp(disch:=omega) only[Bool.not_true,cond_false,Qy,wrap_in]
   exact ih
  ·have et:((i:Int)-1).toNat=i-1:=by omega
   have h2:=hp.2
   rw[decide_eq_false c,Bool.false_or]at h2
   simp(disch:=omega) only[Bool.not_true,cond_false,Qi,wrap_in,et,h2]
   exact ih
 ·refine Ev.step (λk=>by rw[Z15.l0]) ?_
  simp(disch:=omega) only[Qy]
  exact Ev.pure _
theorem Q9G (l:Library)(hs:YW l):Ev (λk=>Z9.l0 k l l.entries l.entries.length ((0:Nat):Int)) (if(List.range' 0 l.entries.length).all (okL l)=true then .inr l else .inl false):=by
 have hlen:=Xk hs
 refine Yc (f:=λk i=>Z9.l0 k l l.entries l.entries.length i) (n:=l.entries.length) (λi hi hp=>?_) (λi r hi hp ih=>?_) ?_ l.entries.length 0 (by omega)
 ·unfold okL at hp
  refine Ev.step (λk=>by rw[Z9.l0]) ?_
  have hsm:Jv (l.entries.getD i (Q2 .entry)):=by rw[getD_at hi];exact Ky hs (List.getElem_mem hi)
  simp(disch:=omega) only[Qi,Int.toNat_natCast]
  refine Ev.bind (Jw _ hsm) ?_
  cases he:QF (l.entries.getD i (Q2 .entry))with
  |false=>exact Ev.pure _
  |true=>
   rw[he,Bool.true_and,Bool.or_eq_false_iff,decide_eq_false_iff_not]at hp
   have et:((i:Int)-1).toNat=i-1:=by omega
   simp(disch:=omega) only[Bool.not_true,cond_false,Qi,wrap_in,et,hp.2,Bool.not_false,cond_true]
   exact Ev.pure _
 ·unfold okL at hp
  rw[Bool.and_eq_true]at hp
  refine Ev.step (λk=>by rw[Z9.l0]) ?_
  have hsm:Jv (l.entries.getD i (Q2 .entry)):=by rw[getD_at hi];exact Ky hs (List.getElem_mem hi)
  simp(disch:=omega) only[Qi,Int.toNat_natCast]
  refine Ev.bind (Jw _ hsm) ?_
  rw[hp.1]
  by_cases c:i=0
  ·simp(disch:=omega) only[Bool.not_true,cond_false,Qy,wrap_in]
   exact ih
  ·have et:((i:Int)-1).toNat=i-1:=by omega
   have h2:=hp.2
   rw[decide_eq_false c,Bool.false_or]at h2
   simp(disch:=omega) only[Bool.not_true,cond_false,Qi,wrap_in,et,h2]
   exact ih
 ·refine Ev.step (λk=>by rw[Z9.l0]) ?_
  simp(disch:=omega) only[Qy]
  exact Ev.pure _
theorem Q1s (l:Library)(hs:YW l):Ev (λk=>Z15.F k l) (Xq l):=by
 unfold Z15.F Xq
 by_cases c:l.entries.length<=8
 ·simp(disch:=omega) only[Qy,Q1M,Bool.and_true]
  have:=Q3x l hs
  cases ha:(List.range' 0 l.entries.length).all (okL l)with
  |true=>rw[ha]at this;exact Ev.bind this (Ev.pure _)
  |false=>rw[ha]at this;exact Ev.bind this (Ev.pure _)
 ·simp(disch:=omega) only[Qi,Q1b,Bool.and_false]
  exact Ev.pure _
theorem Q4I (l:Library)(hs:YW l):Ev (λk=>Z9.F k l) (Xq l):=by
 unfold Z9.F Xq
 have:=Q9G l hs
 cases ha:(List.range' 0 l.entries.length).all (okL l)with
 |true=>
  rw[ha]at this
  refine Ev.bind this ((Ev.pure _).eq ?_)
  rw[Bool.true_and];exact decide_eq_decide.2 (by omega)
 |false=>rw[ha]at this;exact Ev.bind this (Ev.pure _)
theorem DN {l:Library}(h:Xq l=true):l.entries.length<=8:=by
 unfold Xq at h
 rw[Bool.and_eq_true,decide_eq_true_eq]at h
 exact h.2
end Go.Proofs.YtbpjfjdkjapnoaaGreatDoor
end
section
/- Plain laws: an entry found by its key;its parent. -/
namespace Go.Proofs.YtbpjfjdkjapnoaaGreatDoor
open Go.Gx
theorem Q9H (l:Library)(key:ByteArray)(hl:l.entries.length<=1048576):∀n i:Nat,i+n=l.entries.length->
  ∃r:Sum Int Unit,Ev (λk=>Z5.l0 k key l i) r/\Ev (λk=>Z35.l0 k l.entries key l.entries.length i) r/\∀z,r= .inl z->0<=z/\z<l.entries.length
 |0,i,h=>by
  refine⟨.inr (),Ev.step (λk=>by rw[Z5.l0]) ?_,Ev.step (λk=>by rw[Z35.l0]) ?_,λz hz=>by cases hz⟩
  ·simp(disch:=omega) only[Qy];exact Ev.pure _
  ·simp(disch:=omega) only[Qy];exact Ev.pure _
 |n+1,i,h=>by
  have hi:i<l.entries.length:=by omega
  have e1:Z110.F l.entries[i] key=some (Q3 l.entries[i].key key):=rfl
  cases hb:Q3 l.entries[i].key key with
  |true=>
   refine⟨.inl i,Ev.step (λk=>by rw[Z5.l0]) ?_,Ev.step (λk=>by rw[Z35.l0]) ?_,λz hz=>by cases hz;omega⟩
   ·simp(disch:=omega) only[Qi,Int.toNat_natCast,getD_at hi,hb,cond_true]
    exact Ev.pure _
   ·simp(disch:=omega) only[Qi,Int.toNat_natCast,getD_at hi]
    refine Ev.bind0 e1 ?_
    rw[hb]
    exact Ev.pure _
  |false=>
   obtain⟨r,r1,r2,r3⟩:=Q9H l key hl n (i+1) (by omega)
   refine⟨r,Ev.step (λk=>by rw[Z5.l0]) ?_,Ev.step (λk=>by rw[Z35.l0]) ?_,r3⟩
   ·simp(disch:=omega) only[Qi,Int.toNat_natCast,getD_at hi,hb,cond_false,wrap_in]
    exact r1
   ·simp(disch:=omega) only[Qi,Int.toNat_natCast,getD_at hi]
    refine Ev.bind0 e1 ?_
    rw[hb]
    simp(disch:=omega) only[cond_false,wrap_in]
    exact r2
theorem Qby (l:Library)(key:ByteArray)(hl:l.entries.length<=1048576):∃r:Int,Ev (λk=>Z5.F k l key) r/\Ev (λk=>Z78.F k l key) r/\ -1<=r/\r<l.entries.length:=by
 obtain⟨r,r1,r2,r3⟩:=Q9H l key hl l.entries.length 0 (by omega)
 unfold Z5.F Z78.F Z35.F
 cases r with
 |inl z=>exact⟨z,Ev.bind r1 (Ev.pure _),Ev.bind (Ev.bind r2 (Ev.pure _)) (Ev.pure _),by have:=r3 z rfl;omega,(r3 z rfl).2⟩
 |inr u=>exact⟨-1,Ev.bind r1 (Ev.pure _),Ev.bind (Ev.bind r2 (Ev.pure _)) (Ev.pure _),by omega,by omega⟩
end Go.Proofs.YtbpjfjdkjapnoaaGreatDoor
end
section
/- Plain laws: the chain of an entry,keys,entries found by their keys. -/
namespace Go.Proofs.YtbpjfjdkjapnoaaGreatDoor
open Go.Gx
theorem Q3y:∀x:List UInt8,Op.bytesLess x x=false
 |[]=>rfl
 |a::x=>by
  have:¬a<a:=by simp
  simp[Op.bytesLess,Q3y x]
theorem Q4J:∀{x y z:List UInt8},Op.bytesLess x y=true->Op.bytesLess y z=true->Op.bytesLess x z=true
 |x,y,[],_,h=>by cases y<;>simp[Op.bytesLess]at h
 |x,[],c::z,h,_=>by cases x<;>simp[Op.bytesLess]at h
 |[],b::y,c::z,_,_=>rfl
 |a::x,b::y,c::z,h,k=>by
  simp only[Op.bytesLess,Bool.or_eq_true,decide_eq_true_eq,Bool.and_eq_true,beq_iff_eq]at h k ⊢
  rcases h with h|⟨rfl,h⟩
  ·rcases k with k|⟨rfl,k⟩
   ·exact .inl (UInt8.lt_trans h k)
   ·exact .inl h
  ·rcases k with k|⟨rfl,k⟩
   ·exact .inl k
   ·exact .inr ⟨rfl,Q4J h k⟩
def kAt (l:Library)(x:Int):ByteArray:=(l.entries.getD x.toNat (Q2 .entry)).key
theorem Q0k {l:Library}(h:Xq l=true):∀(d i:Nat),i+d+1<l.entries.length->ltS (l.entries.getD i (Q2 .entry)).key (l.entries.getD (i+d+1) (Q2 .entry)).key=true:=by
 have hok:∀j,j<l.entries.length->okL l j=true:=by
  intro j hj
  unfold Xq at h
  simp only[Bool.and_eq_true,List.all_eq_true]at h
  exact h.1 j (by simp;omega)
 have step:∀j,j+1<l.entries.length->ltS (l.entries.getD j (Q2 .entry)).key (l.entries.getD (j+1) (Q2 .entry)).key=true:=by
  intro j hj
  have:=hok (j+1) hj
  unfold okL at this
  simp only[Bool.and_eq_true,Bool.or_eq_true,decide_eq_true_eq]at this
  rcases this.2 with h0|h0
  ·omega
  ·exact h0
 intro d
 induction d with
 |zero=>intro i hi;exact step i hi
 |succ d ih=>
  intro i hi
  exact Q4J (ih i (by omega)) (step (i+d+1) (by omega))
theorem Q0l {l:Library}(h:Xq l=true){i j:Nat}(hi:i<l.entries.length)(hj:j<l.entries.length)(he:(l.entries.getD i (Q2 .entry)).key=(l.entries.getD j (Q2 .entry)).key):i=j:=by
 apply Classical.byContradiction
 intro hne
 rcases Nat.lt_or_gt_of_ne hne with hlt|hlt
 ·obtain⟨d,rfl⟩:∃d,j=i+d+1:=⟨j-i-1,by omega⟩
  have:=Q0k h d i hj
  rw[he]at this
  unfold ltS at this
  rw[Q3y]at this
  cases this
 ·obtain⟨d,rfl⟩:∃d,i=j+d+1:=⟨i-j-1,by omega⟩
  have:=Q0k h d j hi
  rw[he]at this
  unfold ltS at this
  rw[Q3y]at this
  cases this
theorem Q6I (l:Library)(key:ByteArray)(hl:l.entries.length<=1048576):∀n i:Nat,i+n=l.entries.length->
  ∃r:Sum Int Unit,Ev (λk=>Z5.l0 k key l i) r/\(∀z,r= .inl z->∃j:Nat,z=j/\i<=j/\j<l.entries.length/\(l.entries.getD j (Q2 .entry)).key=key)/\(∀u,r= .inr u->∀j,i<=j->j<l.entries.length->(l.entries.getD j (Q2 .entry)).key≠key)
 |0,i,h=>by
  refine⟨.inr (),Ev.step (λk=>by rw[Z5.l0]) ?_,(λz hz=>by cases hz),λu _ j h1 h2=>by omega⟩
  simp(disch:=omega) only[Qy];exact Ev.pure _
 |n+1,i,h=>by
  have hi:i<l.entries.length:=by omega
  cases hb:Q3 l.entries[i].key key with
  |true=>
   refine⟨.inl i,Ev.step (λk=>by rw[Z5.l0]) ?_,λz hz=>?_,(λu hu=>by cases hu)⟩
   ·simp(disch:=omega) only[Qi,Int.toNat_natCast,getD_at hi,hb,cond_true]
    exact Ev.pure _
   ·cases hz
    exact⟨i,rfl,Nat.le_refl _,hi,by rw[getD_at hi];exact JB.1 hb⟩
  |false=>
   obtain⟨r,r1,r2,r3⟩:=Q6I l key hl n (i+1) (by omega)
   refine⟨r,Ev.step (λk=>by rw[Z5.l0]) ?_,λz hz=>?_,λu hu j h1 h2=>?_⟩
   ·simp(disch:=omega) only[Qi,Int.toNat_natCast,getD_at hi,hb,cond_false,wrap_in]
    exact r1
   ·obtain⟨j,e,h1,h2⟩:=r2 z hz
    exact⟨j,e,by omega,h2⟩
   ·by_cases e:j=i
    ·subst e
     rw[getD_at hi]
     intro he
     rw[he,QM]at hb
     cases hb
    ·exact r3 u hu j (by omega) h2
theorem Q4K (l:Library)(key:ByteArray)(hl:l.entries.length<=1048576):∃r:Int,Ev (λk=>Z5.F k l key) r/\Ev (λk=>Z78.F k l key) r/\ -1<=r/\r<l.entries.length/\(0<=r->kAt l r=key)/\(r<0->∀j,j<l.entries.length->(l.entries.getD j (Q2 .entry)).key≠key):=by
 obtain⟨r,r1,r2,r3,r4⟩:=Qby l key hl
 obtain⟨q,q1,q2,q3⟩:=Q6I l key hl l.entries.length 0 (by omega)
 refine⟨r,r1,r2,r3,r4,?_⟩
 have hF:Ev (λk=>Z5.F k l key) (match q with|.inl z=>z|.inr _=> -1):=by
  unfold Z5.F
  cases q with
  |inl z=>exact Ev.bind q1 (Ev.pure _)
  |inr u=>exact Ev.bind q1 (Ev.pure _)
 have e:=Ev.uniq r1 hF
 cases q with
 |inl z=>
  obtain⟨j,rfl,_,_,h⟩:=q2 z rfl
  have e:r=(j:Int):=e
  exact⟨λ_=>by rw[e];unfold kAt;rw[Int.toNat_natCast];exact h,λh0=>by omega⟩
 |inr u=>
  have e:r= -1:=e
  exact⟨λh0=>by omega,λ_ j hj=>q3 u rfl j (Nat.zero_le _) hj⟩
end Go.Proofs.YtbpjfjdkjapnoaaGreatDoor
end
section
/- The fields of an entry as texts: both ways to write them answer alike. -/
namespace Go.Proofs.YtbpjfjdkjapnoaaGreatDoor
open Go.Gx
def JI (x:ByteArray):Bool:=!Q3 x ⟨#[]⟩
theorem Q3z {x:ByteArray}(h:JI x=false):x=⟨#[]⟩:=by
 unfold JI at h
 exact JB.1 (by simpa using h)
theorem Q9I {x:ByteArray}(h:1<=x.size):JI x=true:=by
 unfold JI;rw[DI];exact decide_eq_true h
def Uo (sep:List UInt8)(xs:List ByteArray):ByteArray:=⟨(Lib.join (xs.map L) sep).toArray⟩
theorem Q0m (sep:List UInt8)(xs:List ByteArray):L (Uo sep xs)=Lib.join (xs.map L) sep:=by unfold Uo;exact Q3o _
theorem Q4L (sep:List UInt8):∀xs:List ByteArray,(Lib.joinTail sep (xs.map L)).length=YA xs+sep.length*xs.length
 |[]=>by simp[Lib.joinTail,YA]
 |x::r=>by
  have:=Q4L sep r
  simp only[Lib.joinTail,YA,List.map_cons,List.flatten_cons,List.length_append,List.sum_cons,List.length_cons,Jc]at this ⊢
  rw[this,Nat.mul_succ];omega
theorem D2 (sep:List UInt8)(xs:List ByteArray):(Uo sep xs).size<=YA xs+sep.length*xs.length:=by
 rw[<-Jc,Q0m]
 cases xs with
 |nil=>simp[Lib.join_nil]
 |cons x r=>
  rw[List.map_cons,Lib.join_cons,List.length_append,Q4L,Jc]
  simp only[YA,List.map_cons,List.sum_cons,List.length_cons,Nat.mul_succ]
  omega
theorem Q1t (sep:ByteArray)(xs:List ByteArray)(h1:xs.length<=4194304)(h2:YA xs<=8388608)(h3:sep.size<=2):Q4B xs sep=some (Uo (L sep) xs):=by
 unfold Q4B
 have hl:(Lib.join (xs.map (·.data.toList)) sep.data.toList).length<=140737488355328:=by
  have:=D2 (L sep) xs
  rw[<-Jc,Q0m,Jc]at this
  have h4:sep.size*xs.length<=2*xs.length:=Nat.mul_le_mul_right _ h3
  exact Nat.le_trans this (by omega)
 rw[Nat.ble_eq_true_of_le (by omega:xs.length<=140737488355328),Nat.ble_eq_true_of_le hl]
 rfl
def jn:ByteArray->List ByteArray->ByteArray
 |s,[]=>s
 |s,x::r=>jn (bif JI s then(bif JI x then(s++⟨#[32]⟩)++x else s++x)else s++x) r
theorem Q4M {s t:ByteArray}(h:JI s=true):JI (s++t)=true:=by
 unfold JI at h ⊢
 rw[DI]at h ⊢
 have:=of_decide_eq_true h
 rw[J0]
 exact decide_eq_true (by omega)
theorem Q7U (s:ByteArray):s++(⟨#[]⟩:ByteArray)=s:=by apply YY;rw[Y1];simp[L]
theorem Q2E (s:ByteArray):(⟨#[]⟩:ByteArray)++s=s:=by apply YY;rw[Y1];simp[L]
theorem Q9J:∀(r:List ByteArray) (s:ByteArray),(JI s=true->L (jn s r)=L s++Lib.joinTail [32] ((r.filter JI).map L))/\(JI s=false->L (jn s r)=Lib.join ((r.filter JI).map L) [32])
 |[],s=>⟨λ_=>by simp[jn,Lib.joinTail],λh=>by rw[Q3z h];rfl⟩
 |x::r,s=>by
  refine⟨λh=>?_,λh=>?_⟩
  ·simp only[jn,h,cond_true]
   cases hx:JI x with
   |true=>
    simp only[cond_true]
    rw[(Q9J r _).1 (Q4M (Q4M h)),List.filter_cons_of_pos hx,List.map_cons,tail_cons,Y1,Y1,L32]
    simp
   |false=>
    rw[List.filter_cons_of_neg (by simp[hx]),Q3z hx]
    simp only[cond_false,Q7U]
    exact(Q9J r _).1 h
  ·simp only[jn,h,cond_false]
   rw[Q3z h,Q2E]
   cases hx:JI x with
   |true=>rw[(Q9J r x).1 hx,List.filter_cons_of_pos hx,List.map_cons,Lib.join_cons]
   |false=>
    rw[List.filter_cons_of_neg (by simp[hx])]
    exact(Q9J r x).2 hx
theorem Q7V {xs:List ByteArray}{i:Nat}(hi:i<xs.length):YA (xs.drop i)=xs[i].size+YA (xs.drop (i+1)):=by
 rw[List.drop_eq_getElem_cons hi];simp only[YA,List.map_cons,List.sum_cons]
theorem Q2F (xs:List ByteArray)(hlen:xs.length<=4194304):∀n i:Nat,i+n=xs.length->∀s:ByteArray,s.size+n+YA (xs.drop i)<=1099511627776->Ev (λk=>Z25.l0 k xs s i) (jn s (xs.drop i))
 |0,i,h,s,hs=>by
  rw[List.drop_eq_nil_of_le (by omega)]
  refine Ev.step (λk=>by rw[Z25.l0]) ?_
  simp(disch:=omega) only[Qy]
  exact Ev.pure _
 |n+1,i,h,s,hs=>by
  have hi:i<xs.length:=by omega
  rw[Q7V hi]at hs
  rw[List.drop_eq_getElem_cons hi]
  simp only[jn]
  refine Ev.step (λk=>by rw[Z25.l0]) ?_
  have ih:=λs hs=>Q2F xs hlen n (i+1) (by omega) s hs
  have e1:(⟨#[32]⟩:ByteArray).size=1:=rfl
  have hb1:(!Q3 s ⟨#[]⟩)=JI s:=rfl
  have hb2:(!Q3 xs[i] ⟨#[]⟩)=JI xs[i]:=rfl
  simp(disch:=omega) only[Qi,Int.toNat_natCast,getD_at hi,hb1,hb2,wrap_in,KC,J0,e1]
  cases JI s with
  |false=>exact ih _ (by rw[J0];omega)
  |true=>
   cases JI xs[i]with
   |false=>exact ih _ (by rw[J0];omega)
   |true=>exact ih _ (by rw[J0,J0,e1];omega)
theorem Q2G (xs:List ByteArray)(hlen:xs.length<=4194304)(ht:YA xs<=8388608):Ev (λk=>Z25.F k xs) (Uo [32] (xs.filter JI)):=by
 unfold Z25.F
 have:=Q2F xs hlen xs.length 0 (by omega) ⟨#[]⟩ (by rw[List.drop_zero,show(⟨#[]⟩:ByteArray).size=0 from rfl];omega)
 refine Ev.bind this ((Ev.pure _).eq ?_)
 apply YY
 rw[List.drop_zero,(Q9J xs ⟨#[]⟩).2 (by unfold JI;rw[QM];rfl),Q0m]
theorem XL (p:ByteArray->Bool):∀xs:List ByteArray,YA (xs.filter p)<=YA xs
 |[]=>Nat.le_refl _
 |x::r=>by
  have:=XL p r
  cases h:p x with
  |true=>rw[List.filter_cons_of_pos h];simp only[YA,List.map_cons,List.sum_cons]at this ⊢;omega
  |false=>rw[List.filter_cons_of_neg (by simp[h])];simp only[YA,List.map_cons,List.sum_cons]at this ⊢;omega
theorem Q7W (xs:List ByteArray)(hlen:xs.length<=4194304)(ht:YA xs<=8388608):Ev (λk=>Z100.F k xs) (Uo [32] (xs.filter JI)):=by
 unfold Z100.F
 have hq:∀x,x∈xs->Ev (λ_=>Z68.F x) (Q3 x ⟨#[]⟩):=λx _=>Ev.pure _
 have hdel:=Q7P (d:=(⟨#[]⟩:ByteArray)) (p:=λx=>Q3 x ⟨#[]⟩) (q:=λ_ x=>Z68.F x) (xs:=xs) (l0:=Z44.l0) (λk x0 x5 x6=>by rw[Z44.l0]) hq (by omega) (I:=Z42.F) (F:=Z44.F)
  (Q5U (d:=(⟨#[]⟩:ByteArray)) (p:=λx=>Q3 x ⟨#[]⟩) (q:=λ_ x=>Z68.F x) (l0:=Z42.l0) (λk x0 x7 x8=>by rw[Z42.l0]) hq (by omega) (λk a0=>rfl)) (λk a0=>rfl)
 refine Ev.bind hdel (Ev.bind0 ?_ (Ev.pure _))
 have hf:(xs.filter JI).length<=xs.length:=List.length_filter_le _ _
 exact Q1t ⟨#[32]⟩ (xs.filter JI) (by omega) (by have:=XL JI xs;omega) (by decide)
def cs2:ByteArray:=⟨#[44,32]⟩
def DO (n:Name):ByteArray:=
 let r1:=Uo [32] ([n.particle,n.family].filter JI)
 let r2:=bif decide ((n.given.length:Int) > 0)||JI n.suffix then(r1++cs2)++Uo [32] n.given else r1
 bif JI n.suffix then(r2++cs2)++n.suffix else r2
theorem Q7X {n:Name}(h:nameB n=true):n.given.filter JI=n.given:=by
 unfold nameB at h
 simp only[Bool.and_eq_true]at h
 refine List.filter_eq_self.2 λx hx=>?_
 have:=List.all_eq_true.1 h.1 x hx
 unfold gw at this
 simp only[Bool.and_eq_true]at this
 exact Q9I (UT this.1)
theorem XM {n:Name}(hs:Ju n):n.given.length+YA n.given+n.particle.size+n.family.size+n.suffix.size<=1048576:=hs
theorem Qcr (a b:ByteArray):YA [a,b]=a.size+b.size:=by simp[YA]
theorem Q3A (n:Name):(Uo [32] ([n.particle,n.family].filter JI)).size<=n.particle.size+n.family.size+2:=by
 have h1:=D2 [32] ([n.particle,n.family].filter JI)
 have h2:=XL JI [n.particle,n.family]
 have h3:([n.particle,n.family].filter JI).length<=2:=List.length_filter_le _ _
 rw[Qcr]at h2
 simp only[List.length_singleton,Nat.one_mul]at h1
 omega
theorem Q3B (n:Name):(Uo [32] n.given).size<=YA n.given+n.given.length:=by
 have h1:=D2 [32] n.given
 simpa using h1
theorem Gw (n:Name)(hs:Ju n):(DO n).size<=1048590:=by
 have h1:=Q3A n
 have h2:=Q3B n
 have h3:=XM hs
 have e2:cs2.size=2:=rfl
 unfold DO
 dsimp only
 cases JI n.suffix<;>cases decide ((n.given.length:Int) > 0)<;>simp only[Bool.or_true,Bool.or_false,cond_true,cond_false,Bool.true_or,Bool.false_or,J0,e2]<;>omega
theorem Q2H (a b c:ByteArray):(a++b)++c=a++(b++c):=by apply YY;simp only[Y1,List.append_assoc]
theorem Q1u (n:Name)(hs:Ju n)(hv:nameB n=true):Ev (λk=>Z87.F k n) (DO n):=by
 have h3:=XM hs
 have h1:=Q3A n
 have h2:=Q3B n
 have hj:=Q2G [n.particle,n.family] (by simp) (by rw[Qcr];omega)
 have hg:=Q2G n.given (by omega) (by omega)
 rw[Q7X hv]at hg
 have hg':Ev (λk=>Z86.F k n) (Uo [32] n.given):=by unfold Z86.F;exact Ev.bind hg (Ev.pure _)
 unfold Z87.F DO
 refine Ev.bind hj ?_
 have e2:(⟨#[44,32]⟩:ByteArray).size=2:=rfl
 have hb:(!Q3 n.suffix ⟨#[]⟩)=JI n.suffix:=rfl
 simp(disch:=omega) only[hb,J0,e2,KC]
 cases hx:decide ((n.given.length:Int) > 0)with
 |true=>
  simp only[cond_true,Bool.true_or]
  refine Ev.bind hg' ?_
  simp(disch:=omega) only[J0,e2,KC]
  cases JI n.suffix<;>exact Ev.pure _
 |false=>
  cases JI n.suffix with
  |false=>exact Ev.pure _
  |true=>
   simp only[cond_true,cond_false,Bool.or_true]
   refine Ev.bind hg' ?_
   simp(disch:=omega) only[J0,e2,KC]
   exact Ev.pure _
theorem Q5Z (n:Name)(hs:Ju n):Ev (λk=>Z101.F k n) (DO n):=by
 have h3:=XM hs
 have h1:=Q3A n
 have h2:=Q3B n
 have hj:=Q7W [n.particle,n.family] (by simp) (by rw[Qcr];omega)
 have hg:Z112.F n.given ⟨#[32]⟩=some (Uo [32] n.given):=Q1t ⟨#[32]⟩ n.given (by omega) (by omega) (by decide)
 unfold Z101.F DO
 refine Ev.bind hj ?_
 have e2:(⟨#[44,32]⟩:ByteArray).size=2:=rfl
 have hb:(!Q3 n.suffix ⟨#[]⟩)=JI n.suffix:=rfl
 simp(disch:=omega) only[hb,hg,Option.bind_some,J0,e2,KC,Q2H]
 cases decide ((n.given.length:Int) > 0)<;>cases JI n.suffix<;>simp only[cond_true,cond_false,Bool.or_true,Bool.or_false,Bool.true_or,Bool.false_or,Q2H]<;>exact Ev.pure _
def sc2:List UInt8:=[59,32]
def namesT (l:List Name):ByteArray:=Uo sc2 (l.map DO)
theorem Q60 (x:List UInt8)(r:List (List UInt8)):Lib.joinTail sc2 (x::r)=sc2++(x++Lib.joinTail sc2 r):=by simp[Lib.joinTail]
theorem KH (xs:List Name)(hl:xs.length<=4)(hs:∀n∈xs,Ju n)(hv:∀n∈xs,nameB n=true):∀m i:Nat,i+m=xs.length->1<=i->∀s:ByteArray,s.size<=i*1048600->
  Ev (λk=>Z30.l0 k xs s i) ⟨(L s++Lib.joinTail sc2 (((xs.drop i).map DO).map L)).toArray⟩
 |0,i,h,h1,s,hz=>by
  rw[List.drop_eq_nil_of_le (by omega)]
  refine Ev.step (λk=>by rw[Z30.l0]) ?_
  simp(disch:=omega) only[Qy]
  refine(Ev.pure _).eq ?_
  apply YY;rw[Q3o];exact(List.append_nil _).symm
 |m+1,i,h,h1,s,hz=>by
  have hi:i<xs.length:=by omega
  have hm:=List.getElem_mem hi
  have hq:=Gw xs[i] (hs _ hm)
  have e2:(⟨#[59,32]⟩:ByteArray).size=2:=rfl
  have hz2:s.size<=4194400:=by have:i*1048600<=4*1048600:=Nat.mul_le_mul_right _ (by omega);omega
  refine Ev.step (λk=>by rw[Z30.l0]) ?_
  simp(disch:=omega) only[Qi,Int.toNat_natCast,getD_at hi,J0,e2,KC]
  refine Ev.bind (Q1u _ (hs _ hm) (hv _ hm)) ?_
  simp(disch:=omega) only[KC,wrap_in]
  have ih:=KH xs hl hs hv m (i+1) (by omega) (by omega) ((s++⟨#[59,32]⟩)++DO xs[i]) (by rw[J0,J0,e2,Nat.add_mul];omega)
  refine Ev.eq ih ?_
  rw[List.drop_eq_getElem_cons hi,List.map_cons,List.map_cons,Q60,Y1,Y1]
  simp only[List.append_assoc]
  rfl
theorem KI (xs:List Name)(hl:xs.length<=4)(hs:∀n∈xs,Ju n)(hv:∀n∈xs,nameB n=true):Ev (λk=>Z30.F k xs) (namesT xs):=by
 unfold Z30.F
 have e0:(⟨#[]⟩:ByteArray).size=0:=rfl
 refine Ev.bind (a:=namesT xs) ?_ (Ev.pure _)
 refine Ev.step (λk=>by rw[Z30.l0]) ?_
 cases xs with
 |nil=>exact Ev.pure _
 |cons n r=>
  have hm:n∈n::r:=List.mem_cons_self
  have hq:=Gw n (hs _ hm)
  simp(disch:=first|omega|(simp only[List.length_cons];omega)) only[Qi,Qy,show((0:Int).toNat)=0 from rfl,List.getD_cons_zero]
  refine Ev.bind (Q1u _ (hs _ hm) (hv _ hm)) ?_
  simp(disch:=omega) only[KC,wrap_in,e0]
  have:=KH (n::r) hl hs hv r.length 1 (by simp;omega) (by omega) (⟨#[]⟩++DO n) (by rw[J0,e0];omega)
  refine Ev.eq this ?_
  unfold namesT Uo
  rw[Q2E,List.drop_one,List.tail_cons,List.map_cons,List.map_cons,Lib.join_cons]
theorem Q2I (xs:List Name)(hl:xs.length<=4)(hs:∀n∈xs,Ju n):∀m i:Nat,i+m=xs.length->∀acc:List ByteArray,acc.length=i->Ev (λk=>Z37.l0 k acc xs xs.length i) (acc++(xs.drop i).map DO)
 |0,i,h,acc,ha=>by
  rw[List.drop_eq_nil_of_le (by omega),List.map_nil,List.append_nil]
  refine Ev.step (λk=>by rw[Z37.l0]) ?_
  simp(disch:=omega) only[Qy]
  exact Ev.pure _
 |m+1,i,h,acc,ha=>by
  have hi:i<xs.length:=by omega
  have hr:∀z:ByteArray,room (acc.length+([z]:List ByteArray).length) .str=true:=λz=>Q9y (by simp;omega)
  refine Ev.step (λk=>by rw[Z37.l0]) ?_
  simp(disch:=omega) only[Qi,Int.toNat_natCast,getD_at hi]
  refine Ev.bind (Q5Z _ (hs _ (List.getElem_mem hi))) ?_
  simp(disch:=omega) only[hr,cond_true,wrap_in]
  have ih:=Q2I xs hl hs m (i+1) (by omega) (acc++[DO xs[i]]) (by simp;omega)
  refine Ev.eq ih ?_
  rw[List.drop_eq_getElem_cons hi,List.map_cons];simp
theorem Q4N:∀xs:List Name,(∀n∈xs,Ju n)->YA (xs.map DO)<=xs.length*1048600
 |[],_=>by simp[YA]
 |n::r,h=>by
  have h1:=Q4N r λx hx=>h x (List.mem_cons_of_mem _ hx)
  have h2:=Gw n (h n List.mem_cons_self)
  simp only[YA,List.map_cons,List.sum_cons,List.length_cons]at h1 ⊢
  rw[Nat.add_mul];omega
theorem Kz (xs:List Name)(hl:xs.length<=4)(hs:∀n∈xs,Ju n):Ev (λk=>Z37.F k xs) (namesT xs):=by
 unfold Z37.F
 have h0:=Q2I xs hl hs xs.length 0 (by omega) [] rfl
 refine Ev.bind h0 (Ev.bind0 ?_ (Ev.pure _))
 rw[List.drop_zero,List.nil_append]
 have ht:=Q4N xs hs
 have h4:xs.length*1048600<=4*1048600:=Nat.mul_le_mul_right _ hl
 exact Q1t ⟨#[59,32]⟩ (xs.map DO) (by simp;omega) (by omega) (by decide)
def Q4O (n:Nat):ByteArray:=⟨(Lib.decDigits n).toArray⟩
def D10:ByteArray:=⟨#[48,49,50,51,52,53,54,55,56,57]⟩
theorem Qcs:∀i:Fin 10,L (D10.extract i.val (i.val+1))=[UInt8.ofNat (48+i.val)]:=by decide+kernel
theorem Q6J {i:Nat}(h:i<10):D10.extract i (i+1)=⟨#[UInt8.ofNat (48+i)]⟩:=by
 apply YY;exact(Qcs ⟨i,h⟩).trans rfl
theorem Q2J (n:Nat):(Q4O n).size<=n+1:=by
 induction n using Nat.strongRecOn with
 |_ n ih=>
  rw[<-Jc]
  unfold Q4O
  rw[Q3o,Lib.decDigits]
  split
  ·simp
  ·rename_i h
   have:=ih (n / 10) (by omega)
   rw[<-Jc]at this
   unfold Q4O at this
   rw[Q3o]at this
   rw[List.length_append,List.length_singleton]
   omega
theorem Q4P (n:Nat)(hn:n<=1000000):Ev (λk=>Z46.F k (n:Int)) (Q4O n):=by
 induction n using Nat.strongRecOn with
 |_ n ih=>
  have hD:(⟨#[48,49,50,51,52,53,54,55,56,57]⟩:ByteArray)=D10:=rfl
  have hz:D10.size=10:=rfl
  have h10:((10:Int)==0)=false:=rfl
  refine Ev.step (λk=>by rw[Z46.F]) ?_
  by_cases h:n<10
  ·have e:((n:Int)+1).toNat=n+1:=by omega
   simp(disch:=omega) only[Qy,Qi,wrap_in,hD,hz,e,Int.toNat_natCast,Q6J h]
   refine(Ev.pure _).eq ?_
   unfold Q4O
   rw[Lib.decDigits,dif_pos h]
  ·have hd:Int.tdiv (n:Int) 10=((n / 10:Nat):Int):=rfl
   have hm:Int.tmod (n:Int) 10=((n % 10:Nat):Int):=rfl
   have h9:n % 10<10:=Nat.mod_lt _ (by decide)
   have e:(((n % 10:Nat):Int)+1).toNat=n % 10+1:=by omega
   have hsz:=Q2J (n / 10)
   have e1:(⟨#[UInt8.ofNat (48+n % 10)]⟩:ByteArray).size=1:=rfl
   simp(disch:=omega) only[Qy,h10,cond_false,hd,hm,wrap_in]
   refine Ev.bind (ih (n / 10) (by omega) (by omega)) ?_
   simp(disch:=omega) only[Qi,hD,hz,e,Int.toNat_natCast,Q6J h9,KC,e1]
   refine(Ev.pure _).eq ?_
   apply YY
   rw[Y1]
   unfold Q4O
   rw[Q3o,Q3o,Lib.decDigits.eq_def n,dif_neg h]
   rfl
theorem Q6K (n:Nat)(hn:n<=1000000):Z115.F (n:Int)=some (Q4O n):=by
 unfold Z115.F Q3r
 rw[decide_eq_true (by omega : -9223372036854775808<=(n:Int)),decide_eq_true (by omega:(n:Int)<=9223372036854775807)]
 simp only[Bool.and_self,cond_true,Lib.itoa,if_neg (by omega:¬(n:Int)<0),Int.toNat_natCast]
 rfl
theorem Q9K (w:Nat)(hw:w<=10):∀(d:Nat) (s:ByteArray),d=w-s.size->s.size<=1000001->∃r,Ev (λk=>Z21.l0 k w s) r/\Ev (λk=>Z13.l0 k w s) r/\r.size<=1000001
 |0,s,h,hs=>by
  refine⟨s,Ev.step (λk=>by rw[Z21.l0]) ?_,Ev.step (λk=>by rw[Z13.l0]) ?_,hs⟩<;>
   (simp(disch:=omega) only[Qy];exact Ev.pure _)
 |d+1,s,h,hs=>by
  have e1:(⟨#[48]⟩:ByteArray).size=1:=rfl
  obtain⟨r,r1,r2,r3⟩:=Q9K w hw d (⟨#[48]⟩++s) (by rw[J0,e1];omega) (by rw[J0,e1];omega)
  refine⟨r,Ev.step (λk=>by rw[Z21.l0]) ?_,Ev.step (λk=>by rw[Z13.l0]) ?_,r3⟩
  ·simp(disch:=omega) only[Qi,e1,KC];exact r1
  ·simp(disch:=omega) only[Qi,e1,KC];exact r2
theorem Q61 (n w:Nat)(hn:n<=1000000)(hw:w<=10):∃r,Ev (λk=>Z21.F k n w) r/\Ev (λk=>Z13.F k n w) r/\r.size<=1000001:=by
 obtain⟨r,r1,r2,r3⟩:=Q9K w hw _ (Q4O n) rfl (by have:=Q2J n;omega)
 refine⟨r,?_,?_,r3⟩
 ·unfold Z21.F;exact Ev.bind (Q4P n hn) (Ev.bind r1 (Ev.pure _))
 ·unfold Z13.F;exact Ev.bind0 (Q6K n hn) (Ev.bind r2 (Ev.pure _))
def ole (f:Option Int):Prop:=∀r,f=some r->r<=100
theorem Q9L {b:Bool}{x y:Option Int}(hx:ole x)(hy:ole y):ole (cond b x y):=by cases b<;>assumption
theorem Q9M:ole none:=λr h=>by cases h
theorem Q9N {n:Int}(h:n<=100):ole (some n):=λr e=>by cases e;exact h
theorem Qbz {y m r:Int}(h:Z64.F y m=some r):r<=100:=by
 refine(?_:ole (Z64.F y m)) r h
 unfold Z64.F
 repeat first|exact Q9M|exact Q9N (by decide)|apply Q9L
theorem Gy {d:Date}(h:DL d=true):0<=d.y/\d.y<=2999/\(d.y≠0->0<=d.m/\d.m<=12/\0<=d.d/\d.d<=100):=by
 have h1:=Q2D d
 rw[h]at h1
 unfold Z75.F at h1
 cases hz:(d.y==0&&(d.m==0&&(d.d==0&&d.c==false)))with
 |true=>
  simp only[Bool.and_eq_true,beq_iff_eq]at hz
  exact⟨by omega,by omega,λhn=>absurd hz.1 hn⟩
 |false=>
  rw[hz]at h1
  simp only[cond_false,JC,Option.bind_some]at h1
  cases hy:(decide (d.y ≥ 1)&&decide (d.y<=2999))with
  |false=>rw[hy]at h1;cases h1
  |true=>
   rw[hy]at h1
   cases hm:(decide (d.m ≥ 0)&&decide (d.m<=12))with
   |false=>rw[hm]at h1;cases h1
   |true=>
    rw[hm]at h1
    simp only[Bool.and_eq_true,decide_eq_true_eq]at hy hm
    obtain⟨r,r1,r2⟩:=Q6H d.y d.m (by omega)
    have hr:r<=100:=Qbz r2
    rw[r2]at h1
    simp only[Bool.not_true,cond_false,Option.bind_some,JC]at h1
    refine⟨by omega,by omega,λ_=>⟨by omega,by omega,?_⟩⟩
    cases hc:d.c<;>rw[hc]at h1<;>simp only[cond_true,cond_false]at h1<;>cases h2:(d.m==0)<;>(have h3:(d.m != 0)= !(d.m==0):=rfl)<;>simp only[h3,h2,Bool.not_true,Bool.not_false,cond_true,cond_false,Option.some.injEq,beq_iff_eq,Bool.and_eq_true,decide_eq_true_eq]at h1<;>first|omega|(cases h1;done)
def QbX (c m d:Bool)(ry rm rd:ByteArray):ByteArray:=
 let r2:=bif m then(ry++⟨#[45]⟩)++rm else ry
 let r3:=bif d then(r2++⟨#[45]⟩)++rd else r2
 bif c then⟨#[99]⟩++r3 else r3
theorem Q9O (d:Date)(h:DL d=true)(hy:d.y≠0):∃r,Ev (λk=>Z103.F k d) r/\Ev (λk=>Z102.F k d) r:=by
 obtain⟨h1,h2,h3⟩:=Gy h
 obtain⟨h4,h5,h6,h7⟩:=h3 hy
 obtain⟨ry,y1,y2,y3⟩:=Q61 d.y.toNat 4 (by omega) (by omega)
 obtain⟨rm,m1,m2,m3⟩:=Q61 d.m.toNat 2 (by omega) (by omega)
 obtain⟨rd,d1,d2,d3⟩:=Q61 d.d.toNat 2 (by omega) (by omega)
 rw[Int.toNat_of_nonneg h1]at y1 y2
 replace y1:Ev (λk=>Z21.F k d.y 4) ry:=y1
 replace y2:Ev (λk=>Z13.F k d.y 4) ry:=y2
 rw[Int.toNat_of_nonneg h4]at m1 m2
 replace m1:Ev (λk=>Z21.F k d.m 2) rm:=m1
 replace m2:Ev (λk=>Z13.F k d.m 2) rm:=m2
 rw[Int.toNat_of_nonneg h6]at d1 d2
 replace d1:Ev (λk=>Z21.F k d.d 2) rd:=d1
 replace d2:Ev (λk=>Z13.F k d.d 2) rd:=d2
 have e45:(⟨#[45]⟩:ByteArray).size=1:=rfl
 have e99:(⟨#[99]⟩:ByteArray).size=1:=rfl
 unfold Z103.F Z102.F
 simp(disch:=omega) only[cne]
 refine⟨QbX d.c (decide (d.m > 0)) (decide (d.d > 0)) ry rm rd,?_,?_⟩
 all_goals
  unfold QbX
  dsimp only
  by_cases hm:d.m > 0<;>by_cases hd:d.d > 0<;>cases d.c
  all_goals
   simp(disch:=omega) only[Qi,Qy,cond_true,cond_false]
   repeat (first|exact(Ev.pure _).eq (by apply YY;simp only[Y1,List.append_assoc])|refine Ev.bind y1 ?_ |refine Ev.bind m1 ?_ |refine Ev.bind d1 ?_ |refine Ev.bind y2 ?_ |refine Ev.bind m2 ?_ |refine Ev.bind d2 ?_ |simp(disch:=omega) only[J0,e45,e99,KC])
theorem Q9P:Q3 (⟨#[97,117,116,104,111,114,115]⟩:ByteArray) (⟨#[101,100,105,116,111,114,115]⟩:ByteArray)=false:=by rw[Qh];decide
theorem Q9Q:Q3 (⟨#[97,117,116,104,111,114,115]⟩:ByteArray) (⟨#[116,105,116,108,101]⟩:ByteArray)=false:=by rw[Qh];decide
theorem Q9R:Q3 (⟨#[97,117,116,104,111,114,115]⟩:ByteArray) (⟨#[99,111,110,116,97,105,110,101,114]⟩:ByteArray)=false:=by rw[Qh];decide
theorem Q9S:Q3 (⟨#[97,117,116,104,111,114,115]⟩:ByteArray) (⟨#[112,117,98,108,105,115,104,101,114]⟩:ByteArray)=false:=by rw[Qh];decide
theorem Q9T:Q3 (⟨#[97,117,116,104,111,114,115]⟩:ByteArray) (⟨#[100,97,116,101]⟩:ByteArray)=false:=by rw[Qh];decide
theorem Q9U:Q3 (⟨#[97,117,116,104,111,114,115]⟩:ByteArray) (⟨#[118,111,108,117,109,101]⟩:ByteArray)=false:=by rw[Qh];decide
theorem Q9V:Q3 (⟨#[97,117,116,104,111,114,115]⟩:ByteArray) (⟨#[112,97,103,101,115]⟩:ByteArray)=false:=by rw[Qh];decide
theorem Q9W:Q3 (⟨#[101,100,105,116,111,114,115]⟩:ByteArray) (⟨#[97,117,116,104,111,114,115]⟩:ByteArray)=false:=by rw[Qh];decide
theorem Q9X:Q3 (⟨#[101,100,105,116,111,114,115]⟩:ByteArray) (⟨#[116,105,116,108,101]⟩:ByteArray)=false:=by rw[Qh];decide
theorem Q9Y:Q3 (⟨#[101,100,105,116,111,114,115]⟩:ByteArray) (⟨#[99,111,110,116,97,105,110,101,114]⟩:ByteArray)=false:=by rw[Qh];decide
theorem Q9Z:Q3 (⟨#[101,100,105,116,111,114,115]⟩:ByteArray) (⟨#[112,117,98,108,105,115,104,101,114]⟩:ByteArray)=false:=by rw[Qh];decide
theorem Qa0:Q3 (⟨#[101,100,105,116,111,114,115]⟩:ByteArray) (⟨#[100,97,116,101]⟩:ByteArray)=false:=by rw[Qh];decide
theorem Qa1:Q3 (⟨#[101,100,105,116,111,114,115]⟩:ByteArray) (⟨#[118,111,108,117,109,101]⟩:ByteArray)=false:=by rw[Qh];decide
theorem Qa2:Q3 (⟨#[101,100,105,116,111,114,115]⟩:ByteArray) (⟨#[112,97,103,101,115]⟩:ByteArray)=false:=by rw[Qh];decide
theorem Qa3:Q3 (⟨#[116,105,116,108,101]⟩:ByteArray) (⟨#[97,117,116,104,111,114,115]⟩:ByteArray)=false:=by rw[Qh];decide
theorem Qa4:Q3 (⟨#[116,105,116,108,101]⟩:ByteArray) (⟨#[101,100,105,116,111,114,115]⟩:ByteArray)=false:=by rw[Qh];decide
theorem Qa5:Q3 (⟨#[116,105,116,108,101]⟩:ByteArray) (⟨#[99,111,110,116,97,105,110,101,114]⟩:ByteArray)=false:=by rw[Qh];decide
theorem Qa6:Q3 (⟨#[116,105,116,108,101]⟩:ByteArray) (⟨#[112,117,98,108,105,115,104,101,114]⟩:ByteArray)=false:=by rw[Qh];decide
theorem Qa7:Q3 (⟨#[116,105,116,108,101]⟩:ByteArray) (⟨#[100,97,116,101]⟩:ByteArray)=false:=by rw[Qh];decide
theorem Qa8:Q3 (⟨#[116,105,116,108,101]⟩:ByteArray) (⟨#[118,111,108,117,109,101]⟩:ByteArray)=false:=by rw[Qh];decide
theorem Qa9:Q3 (⟨#[116,105,116,108,101]⟩:ByteArray) (⟨#[112,97,103,101,115]⟩:ByteArray)=false:=by rw[Qh];decide
theorem Qaa:Q3 (⟨#[99,111,110,116,97,105,110,101,114]⟩:ByteArray) (⟨#[97,117,116,104,111,114,115]⟩:ByteArray)=false:=by rw[Qh];decide
theorem Qab:Q3 (⟨#[99,111,110,116,97,105,110,101,114]⟩:ByteArray) (⟨#[101,100,105,116,111,114,115]⟩:ByteArray)=false:=by rw[Qh];decide
theorem Qac:Q3 (⟨#[99,111,110,116,97,105,110,101,114]⟩:ByteArray) (⟨#[116,105,116,108,101]⟩:ByteArray)=false:=by rw[Qh];decide
theorem Qad:Q3 (⟨#[99,111,110,116,97,105,110,101,114]⟩:ByteArray) (⟨#[112,117,98,108,105,115,104,101,114]⟩:ByteArray)=false:=by rw[Qh];decide
theorem Qae:Q3 (⟨#[99,111,110,116,97,105,110,101,114]⟩:ByteArray) (⟨#[100,97,116,101]⟩:ByteArray)=false:=by rw[Qh];decide
theorem Qaf:Q3 (⟨#[99,111,110,116,97,105,110,101,114]⟩:ByteArray) (⟨#[118,111,108,117,109,101]⟩:ByteArray)=false:=by rw[Qh];decide
theorem Qag:Q3 (⟨#[99,111,110,116,97,105,110,101,114]⟩:ByteArray) (⟨#[112,97,103,101,115]⟩:ByteArray)=false:=by rw[Qh];decide
theorem Qah:Q3 (⟨#[112,117,98,108,105,115,104,101,114]⟩:ByteArray) (⟨#[97,117,116,104,111,114,115]⟩:ByteArray)=false:=by rw[Qh];decide
theorem Qai:Q3 (⟨#[112,117,98,108,105,115,104,101,114]⟩:ByteArray) (⟨#[101,100,105,116,111,114,115]⟩:ByteArray)=false:=by rw[Qh];decide
theorem Qaj:Q3 (⟨#[112,117,98,108,105,115,104,101,114]⟩:ByteArray) (⟨#[116,105,116,108,101]⟩:ByteArray)=false:=by rw[Qh];decide
theorem Qak:Q3 (⟨#[112,117,98,108,105,115,104,101,114]⟩:ByteArray) (⟨#[99,111,110,116,97,105,110,101,114]⟩:ByteArray)=false:=by rw[Qh];decide
theorem Qal:Q3 (⟨#[112,117,98,108,105,115,104,101,114]⟩:ByteArray) (⟨#[100,97,116,101]⟩:ByteArray)=false:=by rw[Qh];decide
theorem Qam:Q3 (⟨#[112,117,98,108,105,115,104,101,114]⟩:ByteArray) (⟨#[118,111,108,117,109,101]⟩:ByteArray)=false:=by rw[Qh];decide
theorem Qan:Q3 (⟨#[112,117,98,108,105,115,104,101,114]⟩:ByteArray) (⟨#[112,97,103,101,115]⟩:ByteArray)=false:=by rw[Qh];decide
theorem Qao:Q3 (⟨#[100,97,116,101]⟩:ByteArray) (⟨#[97,117,116,104,111,114,115]⟩:ByteArray)=false:=by rw[Qh];decide
theorem Qap:Q3 (⟨#[100,97,116,101]⟩:ByteArray) (⟨#[101,100,105,116,111,114,115]⟩:ByteArray)=false:=by rw[Qh];decide
theorem Qaq:Q3 (⟨#[100,97,116,101]⟩:ByteArray) (⟨#[116,105,116,108,101]⟩:ByteArray)=false:=by rw[Qh];decide
theorem Qar:Q3 (⟨#[100,97,116,101]⟩:ByteArray) (⟨#[99,111,110,116,97,105,110,101,114]⟩:ByteArray)=false:=by rw[Qh];decide
theorem Qas:Q3 (⟨#[100,97,116,101]⟩:ByteArray) (⟨#[112,117,98,108,105,115,104,101,114]⟩:ByteArray)=false:=by rw[Qh];decide
theorem Qat:Q3 (⟨#[100,97,116,101]⟩:ByteArray) (⟨#[118,111,108,117,109,101]⟩:ByteArray)=false:=by rw[Qh];decide
theorem Qau:Q3 (⟨#[100,97,116,101]⟩:ByteArray) (⟨#[112,97,103,101,115]⟩:ByteArray)=false:=by rw[Qh];decide
theorem Qav:Q3 (⟨#[118,111,108,117,109,101]⟩:ByteArray) (⟨#[97,117,116,104,111,114,115]⟩:ByteArray)=false:=by rw[Qh];decide
theorem Qaw:Q3 (⟨#[118,111,108,117,109,101]⟩:ByteArray) (⟨#[101,100,105,116,111,114,115]⟩:ByteArray)=false:=by rw[Qh];decide
theorem Qax:Q3 (⟨#[118,111,108,117,109,101]⟩:ByteArray) (⟨#[116,105,116,108,101]⟩:ByteArray)=false:=by rw[Qh];decide
theorem Qay:Q3 (⟨#[118,111,108,117,109,101]⟩:ByteArray) (⟨#[99,111,110,116,97,105,110,101,114]⟩:ByteArray)=false:=by rw[Qh];decide
theorem Qaz:Q3 (⟨#[118,111,108,117,109,101]⟩:ByteArray) (⟨#[112,117,98,108,105,115,104,101,114]⟩:ByteArray)=false:=by rw[Qh];decide
theorem QaA:Q3 (⟨#[118,111,108,117,109,101]⟩:ByteArray) (⟨#[100,97,116,101]⟩:ByteArray)=false:=by rw[Qh];decide
theorem QaB:Q3 (⟨#[118,111,108,117,109,101]⟩:ByteArray) (⟨#[112,97,103,101,115]⟩:ByteArray)=false:=by rw[Qh];decide
theorem QaC:Q3 (⟨#[112,97,103,101,115]⟩:ByteArray) (⟨#[97,117,116,104,111,114,115]⟩:ByteArray)=false:=by rw[Qh];decide
theorem QaD:Q3 (⟨#[112,97,103,101,115]⟩:ByteArray) (⟨#[101,100,105,116,111,114,115]⟩:ByteArray)=false:=by rw[Qh];decide
theorem QaE:Q3 (⟨#[112,97,103,101,115]⟩:ByteArray) (⟨#[116,105,116,108,101]⟩:ByteArray)=false:=by rw[Qh];decide
theorem QaF:Q3 (⟨#[112,97,103,101,115]⟩:ByteArray) (⟨#[99,111,110,116,97,105,110,101,114]⟩:ByteArray)=false:=by rw[Qh];decide
theorem QaG:Q3 (⟨#[112,97,103,101,115]⟩:ByteArray) (⟨#[112,117,98,108,105,115,104,101,114]⟩:ByteArray)=false:=by rw[Qh];decide
theorem QaH:Q3 (⟨#[112,97,103,101,115]⟩:ByteArray) (⟨#[100,97,116,101]⟩:ByteArray)=false:=by rw[Qh];decide
theorem QaI:Q3 (⟨#[112,97,103,101,115]⟩:ByteArray) (⟨#[118,111,108,117,109,101]⟩:ByteArray)=false:=by rw[Qh];decide
theorem QaJ {e:Entry}(h:QF e=true):Y6 e.authors=true/\Y6 e.editors=true/\DL e.date=true/\0<=e.volume/\e.volume<=9999:=by
 unfold QF Q5Y at h
 simp only[Bool.and_eq_true,decide_eq_true_eq]at h
 exact⟨h.2.2.1,h.2.2.2.1,h.2.2.2.2.2.2.2.2.1,h.2.2.2.2.2.2.2.2.2.1.1,h.2.2.2.2.2.2.2.2.2.1.2⟩
theorem Q4Q {l:List Name}(h:Y6 l=true):l.length<=4/\∀n∈l,nameB n=true:=by
 unfold Y6 at h
 simp only[Bool.and_eq_true,decide_eq_true_eq]at h
 exact⟨h.2,λn hn=>List.all_eq_true.1 h.1 n hn⟩
def fw8:List ByteArray:=[⟨#[97,117,116,104,111,114,115]⟩,⟨#[101,100,105,116,111,114,115]⟩,⟨#[116,105,116,108,101]⟩,⟨#[99,111,110,116,97,105,110,101,114]⟩,⟨#[112,117,98,108,105,115,104,101,114]⟩,⟨#[100,97,116,101]⟩,⟨#[118,111,108,117,109,101]⟩,⟨#[112,97,103,101,115]⟩]
def okF (e:Entry):Prop:=Y6 e.authors=true/\Y6 e.editors=true/\DL e.date=true/\0<=e.volume/\e.volume<=9999/\Yy e.authors<=1048576/\Yy e.editors<=1048576
theorem Q62 {e:Entry}(hs:Jv e)(hv:QF e=true):okF e:=by
 obtain⟨ha,he,hd,v0,v1⟩:=QaJ hv
 exact⟨ha,he,hd,v0,v1,Q1l hs,Q1m hs⟩
theorem DR (e:Entry)(hk:okF e)(f:ByteArray)(hf:f∈fw8):∃t b,Ev (λk=>Z88.F k e f) (t,b)/\Ev (λk=>Z69.F k e f) t:=by
 obtain⟨ha,he,hd,v0,v1,ta,te⟩:=hk
 obtain⟨a1,a2⟩:=Q4Q ha
 obtain⟨e1,e2⟩:=Q4Q he
 have sa:∀n∈e.authors,Ju n:=λn hn=>Ug ta hn
 have se:∀n∈e.editors,Ju n:=λn hn=>Ug te hn
 unfold fw8 at hf
 simp only[List.mem_cons,List.not_mem_nil,or_false]at hf
 unfold Z88.F Z69.F
 rcases hf with rfl|rfl|rfl|rfl|rfl|rfl|rfl|rfl
 all_goals simp only[Q9P,Q9Q,Q9R,Q9S,Q9T,Q9U,Q9V,Q9W,Q9X,Q9Y,Q9Z,Qa0,Qa1,Qa2,Qa3,Qa4,Qa5,Qa6,Qa7,Qa8,Qa9,Qaa,Qab,Qac,Qad,Qae,Qaf,Qag,Qah,Qai,Qaj,Qak,Qal,Qam,Qan,Qao,Qap,Qaq,Qar,Qas,Qat,Qau,Qav,Qaw,Qax,Qay,Qaz,QaA,QaB,QaC,QaD,QaE,QaF,QaG,QaH,QaI,QM,cond_true,cond_false]
 ·exact⟨_,_,Ev.bind (KI _ a1 sa a2) (Ev.pure _),Ev.bind (Kz _ a1 sa) (Ev.pure _)⟩
 ·exact⟨_,_,Ev.bind (KI _ e1 se e2) (Ev.pure _),Ev.bind (Kz _ e1 se) (Ev.pure _)⟩
 ·exact⟨_,_,Ev.pure _,Ev.pure _⟩
 ·exact⟨_,_,Ev.pure _,Ev.pure _⟩
 ·exact⟨_,_,Ev.pure _,Ev.pure _⟩
 ·obtain⟨y0,_,_⟩:=Gy hd
  by_cases hy:e.date.y=0
  ·simp(disch:=omega) only[ceq,Qy]
   exact⟨_,_,Ev.pure _,Ev.pure _⟩
  ·obtain⟨r,r1,r2⟩:=Q9O e.date hd hy
   simp(disch:=omega) only[cne,Qi]
   exact⟨_,_,Ev.bind r1 (Ev.pure _),Ev.bind r2 (Ev.pure _)⟩
 ·by_cases hy:e.volume=0
  ·simp(disch:=omega) only[ceq,Qy]
   exact⟨_,_,Ev.pure _,Ev.pure _⟩
  ·have n1:=Q4P e.volume.toNat (by omega)
   have n2:=Q6K e.volume.toNat (by omega)
   rw[Int.toNat_of_nonneg v0]at n1 n2
   simp(disch:=omega) only[cne,Qi,n2,Option.bind_some]
   exact⟨_,_,Ev.bind n1 (Ev.pure _),Ev.pure _⟩
 ·exact⟨_,_,Ev.pure _,Ev.pure _⟩
end Go.Proofs.YtbpjfjdkjapnoaaGreatDoor
end
section
/- Entries with what they inherit: both ways answer alike. -/
namespace Go.Proofs.YtbpjfjdkjapnoaaGreatDoor
open Go.Gx
theorem QbA {n:Nat}(h:n<=2097152):room n .str=true:=by
 show Nat.ble (n*16) 140737488355328=true
 exact Nat.ble_eq_true_of_le (by omega)
theorem QaK {n:Nat}(h:n<=2097152):room n .name=true:=by
 show Nat.ble (n*72) 140737488355328=true
 exact Nat.ble_eq_true_of_le (by omega)
theorem Q63 (xs:List Name)(ht:Yy xs<=1048576):∀n i:Nat,i+n=xs.length->Ev (λk=>Z7.l0 k xs (xs.take i) i) xs/\Ev (λk=>Z22.l0 k (xs.take i) xs xs.length i) xs
 |0,i,h=>by
  have hl:=Un ht
  refine⟨Ev.step (λk=>by rw[Z7.l0]) ?_,Ev.step (λk=>by rw[Z22.l0]) ?_⟩<;>
   (simp(disch:=omega) only[Qy];exact(Ev.pure _).eq (List.take_of_length_le (by omega)))
 |n+1,i,h=>by
  have hl:=Un ht
  have hi:i<xs.length:=by omega
  have hg:xs[i].given.length<=1048576:=by
   have:=Ug ht (List.getElem_mem hi)
   unfold Ju Q1k at this;omega
  have r1:room (([]:List ByteArray).length+xs[i].given.length) .str=true:=QbA (by simp;omega)
  have r2:∀z:Name,room ((xs.take i).length+([z]:List Name).length) .name=true:=λz=>QaK (by simp;omega)
  obtain⟨h1,h2⟩:=Q63 xs ht n (i+1) (by omega)
  have e:xs.take i++[(⟨[]++xs[i].given,xs[i].particle,xs[i].family,xs[i].suffix⟩:Name)]=xs.take (i+1):=by
   rw[List.take_succ_eq_append_getElem hi];rfl
  refine⟨Ev.step (λk=>by rw[Z7.l0]) ?_,Ev.step (λk=>by rw[Z22.l0]) ?_⟩
  ·simp(disch:=omega) only[Qi,Int.toNat_natCast,getD_at hi,r1,r2,cond_true,wrap_in,e];exact h1
  ·simp(disch:=omega) only[Qi,Int.toNat_natCast,getD_at hi,r1,r2,cond_true,wrap_in,e];exact h2
theorem Q3C (xs:List Name)(ht:Yy xs<=1048576):Ev (λk=>Z7.F k xs) xs:=by
 unfold Z7.F;exact Ev.bind (Q63 xs ht xs.length 0 (by omega)).1 (Ev.pure _)
theorem Up (xs:List Name)(ht:Yy xs<=1048576):Ev (λk=>Z22.F k xs) xs:=by
 unfold Z22.F;exact Ev.bind (Q63 xs ht xs.length 0 (by omega)).2 (Ev.pure _)
theorem Q6L (e:Entry)(h:okF e):Ev (λk=>Z48.F k e) e:=by
 unfold Z48.F;exact Ev.bind (Q3C _ h.2.2.2.2.2.1) (Ev.bind (Q3C _ h.2.2.2.2.2.2) (Ev.pure _))
theorem Q00 (e:Entry)(h:okF e):Ev (λk=>Z63.F k e) e:=by
 unfold Z63.F;exact Ev.bind (Up _ h.2.2.2.2.2.1) (Ev.bind (Up _ h.2.2.2.2.2.2) (Ev.pure _))
def orT (a b:ByteArray):ByteArray:=bif Q3 a ⟨#[]⟩then b else a
theorem Qct (a b:ByteArray):Z49.F a b=some (orT a b):=by unfold Z49.F orT;cases Q3 a ⟨#[]⟩<;>rfl
theorem QbB (a b:ByteArray):Z65.F a b=some (orT a b):=by unfold Z65.F orT;cases Q3 a ⟨#[]⟩<;>rfl
theorem Q1v (a b:List Name)(ha:Yy a<=1048576)(hb:Yy b<=1048576):Ev (λk=>Z84.F k a b) (bif (a.length:Int)==0 then b else a):=by
 unfold Z84.F
 cases ((a.length:Int)==0)
 ·exact Ev.bind (Up _ ha) (Ev.pure _)
 ·exact Ev.bind (Up _ hb) (Ev.pure _)
end Go.Proofs.YtbpjfjdkjapnoaaGreatDoor
end
section
/- Plain laws: marks of lists of texts;deep marks of names,entries and libraries. -/
namespace Go.Proofs.YtbpjfjdkjapnoaaGreatDoor
open Go.Gx
end Go.Proofs.YtbpjfjdkjapnoaaGreatDoor
end
section
/- Plain laws: deep marks of names,entries and libraries. -/
namespace Go.Proofs.YtbpjfjdkjapnoaaGreatDoor
open Go.Gx
end Go.Proofs.YtbpjfjdkjapnoaaGreatDoor
end
section
/- Conflicts of two entries: both ways answer alike. -/
namespace Go.Proofs.YtbpjfjdkjapnoaaGreatDoor
open Go.Gx
theorem QbY:Q08=fw8:=rfl
theorem Q64:Q08.length=8:=rfl
theorem Q65 (a b:Entry)(ha:Jv a)(hb:Jv b)(va:QF a=true)(vb:QF b=true):∀n i:Nat,i+n=8->∀acc:List ByteArray,acc.length<=i->
  ∃r,Ev (λk=>Z26.l0 k a b acc Q08 i) r/\Ev (λk=>Z8.l0 k a b acc Q08 i) r/\r.length<=8
 |0,i,h,acc,hc=>by
  refine⟨acc,Ev.step (λk=>by rw[Z26.l0]) ?_,Ev.step (λk=>by rw[Z8.l0]) ?_,by omega⟩
  ·simp(disch:=(try rw[Q64]);omega) only[Qy];exact Ev.pure _
  ·simp(disch:=omega) only[Qy];exact Ev.pure _
 |n+1,i,h,acc,hc=>by
  have hl:=Q64
  have hi:i<Q08.length:=by omega
  have hr:∀z:ByteArray,room (acc.length+([z]:List ByteArray).length) .str=true:=λz=>Q9y (by simp;omega)
  have hm:Q08[i]∈fw8:=by rw[<-QbY];exact List.getElem_mem hi
  obtain⟨t1,b1,x1,x2⟩:=DR a (Q62 ha va) _ hm
  obtain⟨t2,b2,y1,y2⟩:=DR b (Q62 hb vb) _ hm
  obtain⟨r,r1,r2,r3⟩:=Q65 a b ha hb va vb n (i+1) (by omega) acc (by omega)
  obtain⟨q,q1,q2,q3⟩:=Q65 a b ha hb va vb n (i+1) (by omega) (acc++[Q08[i]]) (by simp;omega)
  refine⟨bif (!Q3 t1 ⟨#[]⟩)&&((!Q3 t2 ⟨#[]⟩)&&(!Q3 t1 t2))then q else r,Ev.step (λk=>by rw[Z26.l0]) ?_,Ev.step (λk=>by rw[Z8.l0]) ?_,?_⟩
  ·simp(disch:=omega) only[Qi,Int.toNat_natCast,getD_at hi]
   refine Ev.bind x1 (Ev.bind y1 ?_)
   cases Q3 t1 ⟨#[]⟩<;>cases Q3 t2 ⟨#[]⟩<;>cases Q3 t1 t2<;>simp(disch:=omega) only[Bool.not_true,Bool.not_false,cond_true,cond_false,Bool.and_true,Bool.and_false,Bool.true_and,Bool.false_and,hr,wrap_in]<;>first|exact q1|exact r1
  ·simp(disch:=omega) only[Qi,Int.toNat_natCast,getD_at hi]
   refine Ev.bind x2 (Ev.bind y2 ?_)
   cases Q3 t1 ⟨#[]⟩<;>cases Q3 t2 ⟨#[]⟩<;>cases Q3 t1 t2<;>simp(disch:=omega) only[Bool.not_true,Bool.not_false,cond_true,cond_false,Bool.and_true,Bool.and_false,Bool.true_and,Bool.false_and,hr,wrap_in]<;>first|exact q2|exact r2
  ·cases ((!Q3 t1 ⟨#[]⟩)&&((!Q3 t2 ⟨#[]⟩)&&(!Q3 t1 t2)))<;>assumption
theorem Q3D (a b:Entry)(ha:Jv a)(hb:Jv b):∃r v,Ev (λk=>Z26.F k a b) (r,v)/\Ev (λk=>Z8.F k a b) (r,v)/\r.length<=8:=by
 unfold Z26.F Z8.F
 have a1:=JH a ha
 have a2:=Jw a ha
 have b1:=JH b hb
 have b2:=Jw b hb
 cases va:QF a with
 |false=>rw[va]at a1 a2;exact⟨[],false,Ev.bind a1 (Ev.pure _),Ev.bind a2 (Ev.pure _),by simp⟩
 |true=>
  rw[va]at a1 a2
  cases vb:QF b with
  |false=>rw[vb]at b1 b2;exact⟨[],false,Ev.bind a1 (Ev.bind b1 (Ev.pure _)),Ev.bind a2 (Ev.bind b2 (Ev.pure _)),by simp⟩
  |true=>
   rw[vb]at b1 b2
   obtain⟨r,r1,r2,r3⟩:=Q65 a b ha hb va vb 8 0 (by omega) [] (by simp)
   exact⟨r,true,Ev.bind a1 (Ev.bind b1 (Ev.bind r1 (Ev.pure _))),Ev.bind a2 (Ev.bind b2 (Ev.bind r2 (Ev.pure _))),r3⟩
end Go.Proofs.YtbpjfjdkjapnoaaGreatDoor
end
section
/- What the laws draw: cursors,texts,names,dates,entries. -/
namespace Go.Proofs.YtbpjfjdkjapnoaaGreatDoor
open Go.Gx
theorem EvP.cond {α:Type}{b:Bool}{f g:Nat->Option α}{Q:α->Prop}(h1:b=true->EvP f Q)(h2:b=false->EvP g Q):EvP (λk=>cond b (f k) (g k)) Q:=by
 cases b with
 |true=>exact h1 rfl
 |false=>exact h2 rfl
theorem Qcu (z:Int):0<=IntKind.wrap .i64 (IntKind.wrap .u64 ((BitVec.ofInt (IntKind.bits .u64) z&&& BitVec.ofInt (IntKind.bits .u64) 255).toNat:Int))/\IntKind.wrap .i64 (IntKind.wrap .u64 ((BitVec.ofInt (IntKind.bits .u64) z&&& BitVec.ofInt (IntKind.bits .u64) 255).toNat:Int))<=255:=by
 have h1:(BitVec.ofInt (IntKind.bits .u64) z&&& BitVec.ofInt (IntKind.bits .u64) 255).toNat<=255:=by
  rw[BitVec.toNat_and]
  exact Nat.le_trans Nat.and_le_right (Nat.le_of_eq rfl)
 generalize (BitVec.ofInt (IntKind.bits .u64) z&&& BitVec.ofInt (IntKind.bits .u64) 255).toNat=m at h1
 have h2:IntKind.wrap .u64 (m:Int)=m:=by rw[IntKind.wrap_u64];omega
 rw[h2,wrap_in (by omega) (by omega)]
 omega
def byt (l:List Int):Prop:=(∀b∈l,0<=b/\b<=255)/\l.length<=65536
theorem Qcv {code:List Int}(hw:WF (.sl (.int .u8)) code)(hl:(code.length:Int)<=65536):byt code:=by
 refine⟨λb hb=>?_,by omega⟩
 obtain⟨i,hi,rfl⟩:=List.getElem_of_mem hb
 cases hw with
 |sl _ _ _ h=>
  have:=h i hi
  cases this with
  |int _ _ h=>
   have h1:IntKind.u8.min=0:=rfl
   have h2:IntKind.u8.max=255:=rfl
   simp only[Lit.wf,Bool.and_eq_true,decide_eq_true_eq]at h
   omega
theorem QbC (c:Cur)(hc:byt c.code)(h0:0<=c.at_)(h1:c.at_<=1000000):∃c' x,Z79.F c=some (c',x)/\c'.code=c.code/\c'.at_=c.at_+1/\0<=x/\x<=255:=by
 unfold Z79.F
 have hl:=hc.2
 have z40:(decide ((0:Nat)<=40))=true:=rfl
 by_cases c1:c.at_<(c.code.length:Int)
 ·have hi:c.at_.toNat<c.code.length:=by omega
  have hb:0<=c.code.getD c.at_.toNat 0/\c.code.getD c.at_.toNat 0<=255:=by
   have:c.code.getD c.at_.toNat 0=c.code[c.at_.toNat]:=by simp[List.getD,hi]
   rw[this];exact hc.1 _ (List.getElem_mem hi)
  by_cases c2:c.at_+1<=(c.code.length:Int)
  ·refine⟨⟨c.code,c.at_+1,_⟩,_,by simp(disch:=omega) only[Qi,wrap_in];rfl,rfl,rfl,hb⟩
  ·omega
 ·have c2:¬c.at_+1<=(c.code.length:Int):=by omega
  refine⟨⟨c.code,c.at_+1,_⟩,_,by simp(disch:=omega) only[Qy,wrap_in,z40,cond_true];rfl,rfl,rfl,Qcu _⟩
theorem DT (c:Cur)(hc:byt c.code)(h0:0<=c.at_)(h1:c.at_<=1000000)(n:Int)(hn:1<=n)(hn2:n<=200):∃c' x,Z0.F c n=some (c',x)/\c'.code=c.code/\0<=c'.at_/\c'.at_<=c.at_+1/\0<=x/\x<n:=by
 unfold Z0.F
 by_cases c1:n<=1
 ·refine⟨c,0,by simp(disch:=omega) only[Qi],rfl,h0,by omega,by omega,by omega⟩
 ·obtain⟨c',x,e1,e2,e3,e4,e5⟩:=QbC c hc h0 h1
  refine⟨c',Int.tmod x n,?_,e2,by omega,by omega,Int.tmod_nonneg _ e4,Int.tmod_lt_of_pos _ (by omega)⟩
  have hz:(n==0)=false:=by rw[beq_eq_false_iff_ne];omega
  simp(disch:=omega) only[Qy,e1,Option.bind_some,hz,cond_false]
def cu (n:Int)(c:Cur):Prop:=byt c.code/\0<=c.at_/\c.at_<=n
theorem cu.mono {n m:Int}{c:Cur}(h:cu n c)(hn:n<=m):cu m c:=⟨h.1,h.2.1,Int.le_trans h.2.2 hn⟩
theorem cu.start {code:List Int}(h:byt code):cu 0 ⟨code,0,0⟩:=⟨h,Int.le_refl 0,Int.le_refl 0⟩
section
variable {β:Type} {Q:β->Prop} {n:Int} {c:Cur}
theorem Jl {m:Int}{g:Nat->Cur×Int->Option β}(h:cu n c)(hn:n<=900000)(h1:1<=m)(h2:m<=200)(hg:∀c' x,cu (n+1) c'->0<=x->x<m->EvP (λk=>g k (c',x)) Q):EvP (λk=>(Z0.F c m).bind (g k)) Q:=by
 obtain⟨h3,h4,h5⟩:=h
 obtain⟨c',x,e1,e2,e3,e4,e5,e6⟩:=DT c h3 h4 (by omega) m h1 h2
 exact EvP.of0 e1 (hg c' x ⟨by rw[e2];exact h3,e3,by omega⟩ e5 e6)
theorem Y2 {m:Int}{g:Nat->Cur×Bool->Option β}(h:cu n c)(hn:n<=900000)(h1:1<=m)(h2:m<=200)(hg:∀c' x,cu (n+1) c'->EvP (λk=>g k (c',x)) Q):EvP (λk=>(Z27.F c m).bind (g k)) Q:=by
 obtain⟨h3,h4,h5⟩:=h
 obtain⟨c',x,e1,e2,e3,e4,e5,e6⟩:=DT c h3 h4 (by omega) m h1 h2
 refine EvP.of0 (a:=(c',x==0)) ?_ (hg c' (x==0) ⟨by rw[e2];exact h3,e3,by omega⟩)
 unfold Z27.F
 rw[e1];rfl
theorem Y7 {l:List ByteArray}{g:Nat->Cur×ByteArray->Option β}(h:cu n c)(hn:n<=900000)(h1:1<=l.length)(h2:l.length<=200)(hs:∀y∈l,y.size<=50)(hg:∀c' x,cu (n+1) c'->x.size<=50->EvP (λk=>g k (c',x)) Q):EvP (λk=>(Z3.F c l).bind (g k)) Q:=by
 obtain⟨h3,h4,h5⟩:=h
 obtain⟨c',x,e1,e2,e3,e4,e5,e6⟩:=DT c h3 h4 (by omega) (l.length:Int) (by omega) (by omega)
 have hi:x.toNat<l.length:=by omega
 refine EvP.of0 (a:=(c',l.getD x.toNat ⟨#[]⟩)) ?_ (hg c' _ ⟨by rw[e2];exact h3,e3,by omega⟩ (by rw[getD_at hi];exact hs _ (List.getElem_mem hi)))
 unfold Z3.F
 simp(disch:=omega) only[e1,Option.bind_some,Qi]
theorem DU {l:List Int}{g:Nat->Cur×Int->Option β}(h:cu n c)(hn:n<=900000)(h1:1<=l.length)(h2:l.length<=200)(hg:∀c' x,cu (n+1) c'->EvP (λk=>g k (c',x)) Q):EvP (λk=>(Z50.F c l).bind (g k)) Q:=by
 obtain⟨h3,h4,h5⟩:=h
 obtain⟨c',x,e1,e2,e3,e4,e5,e6⟩:=DT c h3 h4 (by omega) (l.length:Int) (by omega) (by omega)
 have hi:x.toNat<l.length:=by omega
 refine EvP.of0 (a:=(c',l.getD x.toNat 0)) ?_ (hg c' _ ⟨by rw[e2];exact h3,e3,by omega⟩)
 unfold Z50.F
 simp(disch:=omega) only[e1,Option.bind_some,Qi]
end
theorem YL (s t:ByteArray):(s++t).size=s.size+t.size:=by rw[<-Jc,Y1,List.length_append];rfl
theorem size_ext (s:ByteArray)(a b:Nat):(s.extract a b).size<=s.size:=by
 rw[<-Jc,Ji,List.length_drop,List.length_take,Jc]
 omega
theorem Qcw {n:Int}{c:Cur}(h:cu n c)(hn:n<=800000):EvP (λ_=>Z55.F c) λr=>cu (n+5) r.1:=by
 unfold Z55.F
 refine DU h (by omega) (by decide) (by decide) λc1 x hc1=>?_
 refine Jl hc1 (by omega) (by omega) (by omega) λc2 y hc2 y0 y1=>?_
 dsimp only
 repeat' refine EvP.cond (λ_=>?_) (λ_=>?_)
 all_goals first
  |exact EvP.pure _ (hc2.mono (by omega))
  |exact Jl hc2 (by omega) (by omega) (by omega) λc3 z hc3 z0 z1=>EvP.pure _ (hc3.mono (by omega))
  |exact Jl hc2 (by omega) (by omega) (by omega) λc3 z hc3 z0 z1=>Jl hc3 (by omega) (by omega) (by omega) λc4 u hc4 u0 u1=>EvP.pure _ (hc4.mono (by omega))
theorem Q3E {n:Int}{c:Cur}(h:cu n c)(hn:n<=800000):∃r,Z55.F c=some r/\cu (n+5) r.1:=by
 obtain⟨r,⟨K,hK⟩,hr⟩:=Qcw h hn
 exact⟨r,hK K (Nat.le_refl _),hr⟩
theorem Q7Y {n:Int}{c:Cur}(h:cu n c)(hn:n<=800000):EvP (λ_=>Z80.F c) λr=>cu (n+10) r.1:=by
 unfold Z80.F
 obtain⟨r,e1,h1⟩:=Q3E h hn
 refine EvP.of0 e1 ?_
 refine Jl h1 (by omega) (by omega) (by omega) λc2 y hc2 y0 y1=>?_
 dsimp only
 repeat' refine EvP.cond (λ_=>?_) (λ_=>?_)
 all_goals first
  |exact EvP.pure _ (hc2.mono (by omega))
  |exact DU hc2 (by omega) (by decide) (by decide) λc3 z hc3=>EvP.pure _ (hc3.mono (by omega))
theorem Q66 {n:Int}{c:Cur}(h:cu n c)(hn:n<=800000):∃r,Z80.F c=some r/\cu (n+10) r.1:=by
 obtain⟨r,⟨K,hK⟩,hr⟩:=Q7Y h hn
 exact⟨r,hK K (Nat.le_refl _),hr⟩
theorem Q7Z {n:Int}{c:Cur}(h:cu n c)(hn:n<=800000){t w:ByteArray}(ht:t.size<=100)(hw1:1<=w.size)(hw:w.size<=20):EvP (λ_=>Z91.F c t w) λr=>cu (n+3) r.1/\r.2.size<=t.size+20:=by
 unfold Z91.F
 have z1:(1:Int).toNat=1:=rfl
 have hx:=size_ext w
 refine EvP.cond (λhb=>?_) (λhb=>?_)
 ·simp(disch:=omega) only[Qi,z1]
  exact EvP.pure _ ⟨h.mono (by omega),by have:=hx 0 1;show(w.extract 0 1).size<=_;omega⟩
 ·have h0:1<=t.size:=by
   apply Classical.byContradiction
   intro hc
   have:t=⟨#[]⟩:=YY (List.eq_nil_of_length_eq_zero (by rw[Jc];omega))
   subst this
   rw[QM]at hb
   cases hb
  refine Jl h (by omega) (by omega) (by omega) λc1 x hc1 x0 x1=>?_
  refine Jl hc1 (by omega) (by omega) (by omega) λc2 y hc2 y0 y1=>?_
  obtain⟨x,rfl⟩:∃m:Nat,x=m:=⟨x.toNat,by omega⟩
  obtain⟨y,rfl⟩:∃m:Nat,y=m:=⟨y.toNat,by omega⟩
  dsimp only
  have hy:(w.extract y w.size).size=w.size-y:=by
   rw[<-Jc,Ji,List.length_drop,List.length_take,Jc]
   omega
  simp(disch:=(try simp only[hy,Int.toNat_natCast]);omega) only[Qi,Int.toNat_natCast]
  refine Jl hc2 (by omega) (by omega) (by omega) λc3 u hc3 u0 u1=>?_
  dsimp only
  have e1:∀a b,(t.extract a b).size<=t.size:=size_ext t
  have e2:∀v:ByteArray,((w.extract y w.size).extract 0 v.size).size<=w.size:=λv=>Nat.le_trans (size_ext _ _ _) (hx _ _)
  have e3:((w.extract y w.size).extract 0 1).size<=w.size:=Nat.le_trans (size_ext _ _ _) (hx _ _)
  have f1:=e1 0 x
  have f2:=e1 x t.size
  have f3:=e1 (x+1) t.size
  have q1:(t.extract 0 x).size<=x:=by rw[<-Jc,Ji,List.length_drop,List.length_take];omega
  have q2:(t.extract x t.size).size<=t.size-x:=by rw[<-Jc,Ji,List.length_drop,List.length_take,Jc];omega
  have q3:(t.extract (x+1) t.size).size<=t.size-x:=by rw[<-Jc,Ji,List.length_drop,List.length_take,Jc];omega
  have w1:IntKind.wrap .i64 ((x:Int)+1)=((x+1:Nat):Int):=by rw[wrap_in (by omega) (by omega)];omega
  refine EvP.cond (λ_=>?_) (λ_=>EvP.cond (λ_=>?_) (λ_=>?_))
  ·simp(disch:=(try simp only[YL]);omega) only[Qi,KC,z1,Int.toNat_natCast]
   exact EvP.pure _ ⟨hc3.mono (by omega),by simp only[YL];omega⟩
  ·simp(disch:=(try simp only[YL]);omega) only[Qi,KC,z1,Int.toNat_natCast,w1]
   exact EvP.pure _ ⟨hc3.mono (by omega),by simp only[YL];omega⟩
  ·simp(disch:=(try simp only[YL]);omega) only[Qi,KC,z1,Int.toNat_natCast,w1]
   exact EvP.pure _ ⟨hc3.mono (by omega),by simp only[YL];omega⟩
def Gz (n:Name):Prop:=n.given.length<=8/\(∀w∈n.given,w.size<=50)/\n.particle.size<=50/\n.family.size<=50/\n.suffix.size<=50
def Je (m:Nat)(l:List Name):Prop:=l.length<=m/\∀n∈l,Gz n
theorem Q01 {n:Nat}{τ:Ty}(hn:n<=1000)(ht:nb τ<=1000):room n τ=true:=by
 unfold room
 have:n*nb τ<=1000*1000:=Nat.mul_le_mul hn ht
 exact Nat.ble_eq_true_of_le (by omega)
theorem Q6M:∀m:Nat,m<=5->∀{n:Int} {c:Cur},cu n c->n+m<=800000->∀(q:List ByteArray) (q1 q2 q3:ByteArray) (g:List ByteArray) (p f s:ByteArray),g.length+m<=6->(∀w∈g,w.size<=50)->
  EvP (λk=>Z18.l0 k c q q1 q2 q3 g p f s m) λr=>∃g',r.2=(q,q1,q2,q3,g',p,f,s)/\cu (n+m) r.1/\g'.length<=6/\∀w∈g',w.size<=50
 |0,_,n,c,hc,hn,q,q1,q2,q3,g,p,f,s,hg,hw=>by
  refine EvP.step (λk=>by rw[Z18.l0]) ?_
  simp(disch:=omega) only[Qy]
  exact EvP.pure _ ⟨g,rfl,hc.mono (by omega),by omega,hw⟩
 |m+1,hm,n,c,hc,hn,q,q1,q2,q3,g,p,f,s,hg,hw=>by
  refine EvP.step (λk=>by rw[Z18.l0]) ?_
  simp(disch:=omega) only[Qi]
  refine Y7 hc (by omega) (by decide) (by decide) (by decide) λc1 x hc1 hx=>?_
  dsimp only
  have hr:room (g.length+([x]:List ByteArray).length) .str=true:=Q01 (by simp;omega) (by decide)
  rw[show(((m+1:Nat):Int)-1)=(m:Int) by omega]
  simp(disch:=omega) only[hr,cond_true,wrap_in]
  refine EvP.mono (Q6M m (by omega) hc1 (by omega) q q1 q2 q3 (g++[x]) p f s (by simp;omega) λw h=>?_) λr hr=>?_
  ·rcases List.mem_append.1 h with h|h
   ·exact hw w h
   ·rw[List.mem_singleton.1 h];exact hx
  ·obtain⟨g',h1,h2,h3⟩:=hr
   exact⟨g',h1,h2.mono (by omega),h3⟩
theorem Q67 {n:Int}{c:Cur}(h:cu n c)(hn:n<=700000):EvP (λk=>Z18.F k c) λr=>cu (n+10) r.1/\Gz r.2/\r.2.given.length<=6:=by
 unfold Z18.F
 simp(disch:=decide) only[Qi]
 refine Y7 h (by omega) (by decide) (by decide) (by decide) λc1 x hc1 hx=>?_
 refine Jl hc1 (by omega) (by omega) (by omega) λc2 y hc2 y0 y1=>?_
 obtain⟨m,rfl⟩:∃m:Nat,y=m:=⟨y.toNat,by omega⟩
 refine EvP.bind (Q6M m (by omega) hc2 (by omega) [] _ _ _ [] ⟨#[]⟩ x ⟨#[]⟩ (by simp;omega) (by simp)) λr hr=>?_
 obtain⟨r1,r2⟩:=r
 obtain⟨g,rfl,h2,h3,h4⟩:=hr
 have h2:cu (n+1+1+m) r1:=h2
 dsimp only
 have z:(⟨#[]⟩:ByteArray).size<=50:=by decide
 refine Y2 h2 (by omega) (by decide) (by decide) λc3 b3 hc3=>?_
 refine EvP.cond (λ_=>?_) (λ_=>?_)
 ·refine Y7 hc3 (by omega) (by decide) (by decide) (by decide) λc4 x4 hc4 hx4=>?_
  refine Y2 hc4 (by omega) (by decide) (by decide) λc5 b5 hc5=>?_
  refine EvP.cond (λ_=>?_) (λ_=>?_)
  ·refine Y7 hc5 (by omega) (by decide) (by decide) (by decide) λc6 x6 hc6 hx6=>?_
   exact EvP.pure _ ⟨hc6.mono (by omega),⟨by show g.length<=8;omega,h4,hx4,hx,hx6⟩,h3⟩
  ·exact EvP.pure _ ⟨hc5.mono (by omega),⟨by show g.length<=8;omega,h4,hx4,hx,z⟩,h3⟩
 ·refine Y2 hc3 (by omega) (by decide) (by decide) λc5 b5 hc5=>?_
  refine EvP.cond (λ_=>?_) (λ_=>?_)
  ·refine Y7 hc5 (by omega) (by decide) (by decide) (by decide) λc6 x6 hc6 hx6=>?_
   exact EvP.pure _ ⟨hc6.mono (by omega),⟨by show g.length<=8;omega,h4,z,hx,hx6⟩,h3⟩
  ·exact EvP.pure _ ⟨hc5.mono (by omega),⟨by show g.length<=8;omega,h4,z,hx,z⟩,h3⟩
theorem GA {m:Nat}{l:List Name}{n:Name}(h:Je m l)(hn:Gz n):Je (m+1) (l++[n]):=by
 refine⟨by have:=h.1;simp;omega,λx hx=>?_⟩
 rcases List.mem_append.1 hx with hx|hx
 ·exact h.2 x hx
 ·rw[List.mem_singleton.1 hx];exact hn
theorem Q4R:∀m:Nat,m<=6->∀{n:Int} {c:Cur},cu n c->n+10*m<=600000->∀(q:Nat) (l:List Name),q+m<=20->Je q l->EvP (λk=>Z16.l0 k c l m) λr=>cu (n+10*m) r.1/\Je (q+m) r.2
 |0,_,n,c,hc,hn,q,l,hq,hl=>by
  refine EvP.step (λk=>by rw[Z16.l0]) ?_
  simp(disch:=omega) only[Qy]
  exact EvP.pure _ ⟨hc.mono (by omega),hl⟩
 |m+1,hm,n,c,hc,hn,q,l,hq,hl=>by
  refine EvP.step (λk=>by rw[Z16.l0]) ?_
  simp(disch:=omega) only[Qi]
  refine EvP.bind (Q67 hc (by omega)) λr hr=>?_
  obtain⟨h1,h2,_⟩:=hr
  have hrm:room (l.length+([(⟨r.2.given,r.2.particle,r.2.family,r.2.suffix⟩:Name)]:List Name).length) .name=true:=Q01 (by have:=hl.1;simp;omega) (by decide)
  rw[show(((m+1:Nat):Int)-1)=(m:Int) by omega]
  simp(disch:=omega) only[hrm,cond_true,wrap_in]
  refine EvP.mono (Q4R m (by omega) h1 (by omega) (q+1) _ (by omega) (GA hl (n:=⟨r.2.given,r.2.particle,r.2.family,r.2.suffix⟩) h2)) λy hy=>⟨hy.1.mono (by omega),?_⟩
  rw[show q+(m+1)=q+1+m by omega]
  exact hy.2
theorem Q0n {n:Int}{c:Cur}(h:cu n c)(hn:n<=500000):EvP (λk=>Z16.F k c) λr=>cu (n+60) r.1/\Je 6 r.2:=by
 unfold Z16.F
 refine Jl h (by omega) (by omega) (by omega) λc2 y hc2 y0 y1=>?_
 obtain⟨m,rfl⟩:∃m:Nat,y=m:=⟨y.toNat,by omega⟩
 refine EvP.bind (Q4R m (by omega) hc2 (by omega) 0 [] (by omega) ⟨Nat.le_refl _,λn h=>by cases h⟩) λr hr=>?_
 exact EvP.pure _ ⟨hr.1.mono (by omega),by have:=hr.2.1;show r.2.length<=6;omega,hr.2.2⟩
theorem Q80 {n:Int}{c:Cur}(h:cu n c)(hn:n<=600000):EvP (λk=>Z90.F k c) λr=>cu (n+20) r.1/\Gz r.2:=by
 unfold Z90.F
 refine EvP.bind (Q67 h (by omega)) λr hr=>?_
 obtain⟨h1,⟨g1,g2,g3,g4,g5⟩,h3⟩:=hr
 refine Jl h1 (by omega) (by omega) (by omega) λc2 y hc2 y0 y1=>?_
 dsimp only
 repeat' refine EvP.cond (λ_=>?_) (λ_=>?_)
 ·refine Y7 hc2 (by omega) (by decide) (by decide) (by decide) λc6 x6 hc6 hx6=>?_
  exact EvP.pure _ ⟨hc6.mono (by omega),g1,g2,g3,hx6,g5⟩
 ·refine Y7 hc2 (by omega) (by decide) (by decide) (by decide) λc6 x6 hc6 hx6=>?_
  exact EvP.pure _ ⟨hc6.mono (by omega),g1,g2,hx6,g4,g5⟩
 ·refine Y7 hc2 (by omega) (by decide) (by decide) (by decide) λc6 x6 hc6 hx6=>?_
  exact EvP.pure _ ⟨hc6.mono (by omega),g1,g2,g3,g4,hx6⟩
 ·refine Y7 hc2 (by omega) (by decide) (by decide) (by decide) λc6 x6 hc6 hx6=>?_
  dsimp only
  have hrm:room (r.2.given.length+([x6,(⟨#[69,118,101]⟩:ByteArray)]:List ByteArray).length) .str=true:=Q01 (by simp;omega) (by decide)
  rw[hrm]
  refine EvP.pure _ ⟨hc6.mono (by omega),?_,λw hw=>?_,g3,g4,g5⟩
  ·show(r.2.given++_).length<=8
   simp;omega
  ·rcases List.mem_append.1 hw with hw|hw
   ·exact g2 w hw
   ·simp only[List.mem_cons,List.not_mem_nil,or_false]at hw
    rcases hw with rfl|rfl
    ·exact hx6
    ·decide
 ·exact EvP.pure _ ⟨hc2.mono (by omega),g1,g2,g3,g4,g5⟩
theorem Q02:∀m:Nat,m<=6->∀{n:Int} {c:Cur},cu n c->n+20*m<=550000->∀(l:List Name),l.length+m=6->Je 6 l->EvP (λk=>Z38.l1 k c l) λr=>cu (n+20*m+20) r.1/\Je 7 r.2
 |m,hm,n,c,hc,hn,l,hl,hq=>by
  refine EvP.step (λk=>by rw[Z38.l1]) ?_
  refine Jl hc (by omega) (by omega) (by omega) λc1 x hc1 x0 x1=>?_
  dsimp only
  by_cases h1:(l.length:Int)<4+x
  ·simp(disch:=omega) only[Qi,wrap_in]
   refine EvP.bind (Q67 hc1 (by omega)) λr hr=>?_
   obtain⟨h2,h3,_⟩:=hr
   have hrm:room (l.length+([(⟨r.2.given,r.2.particle,r.2.family,r.2.suffix⟩:Name)]:List Name).length) .name=true:=Q01 (by simp;omega) (by decide)
   simp only[hrm,cond_true]
   cases m with
   |zero=>omega
   |succ m=>
    have hp:=GA hq (n:=⟨r.2.given,r.2.particle,r.2.family,r.2.suffix⟩) h3
    refine EvP.mono (Q02 m (by omega) h2 (by omega) _ (by simp;omega) ⟨by simp;omega,hp.2⟩) λy hy=>⟨hy.1.mono (by omega),hy.2⟩
  ·simp(disch:=omega) only[Qy,wrap_in]
   exact EvP.pure _ ⟨hc1.mono (by omega),by show l.length<=7;omega,hq.2⟩
theorem Q1w {n:Int}{c:Cur}(h:cu n c)(hn:n<=450000):EvP (λk=>Z38.F k c) λr=>cu (n+250) r.1/\Je 7 r.2:=by
 unfold Z38.F
 refine EvP.bind (Q0n h (by omega)) λr hr=>?_
 obtain⟨h1,h2⟩:=hr
 have hl:=h2.1
 refine Jl h1 (by omega) (by omega) (by omega) λc1 x hc1 x0 x1=>?_
 dsimp only
 refine EvP.cond (λ_=>?_) (λ_=>EvP.cond (λ_=>?_) (λ_=>?_))
 ·refine EvP.bind (Q80 hc1 (by omega)) λy hy=>?_
  have hrm:room (r.2.length+([(⟨y.2.given,y.2.particle,y.2.family,y.2.suffix⟩:Name)]:List Name).length) .name=true:=Q01 (by simp;omega) (by decide)
  simp only[hrm,cond_true]
  exact EvP.pure _ ⟨hy.1.mono (by omega),GA h2 (n:=⟨y.2.given,y.2.particle,y.2.family,y.2.suffix⟩) hy.2⟩
 ·refine EvP.bind (Q02 (6-r.2.length) (by omega) hc1 (by omega) r.2 (by omega) h2) λy hy=>?_
  exact EvP.pure _ ⟨hy.1.mono (by omega),hy.2⟩
 ·exact EvP.pure _ ⟨hc1.mono (by omega),by show r.2.length<=7;omega,h2.2⟩
end Go.Proofs.YtbpjfjdkjapnoaaGreatDoor
end
section
/- Plain laws: lower case. -/
namespace Go.Proofs.YtbpjfjdkjapnoaaGreatDoor
open Go.Gx
theorem Qcx (ys:List Int):L (Q3M ys)=ys.map λn=>UInt8.ofNat n.toNat:=Q3o _
theorem Q81 (ys:List Int):(Q3M ys).size=ys.length:=by
 rw[<-Jc,Qcx,List.length_map]
theorem Qcy (b:Int):Z60.F b=some (decide (65<=b)&&decide (b<=90)):=by
 unfold Z60.F
 simp only[ge_iff_le]
 cases decide (65<=b)<;>rfl
def Q1N (b:Int):Int:=bif decide (65<=b)&&decide (b<=90)then b+32 else b
theorem GB (b:Int):Z92.F b=some (Q1N b):=by
 unfold Z92.F Q1N
 simp only[ge_iff_le]
 by_cases h1:65<=b
 ·by_cases h2:b<=90
  ·have:IntKind.wrap .u8 (b+32)=b+32:=by rw[IntKind.wrap_u8];omega
   simp only[Q1M h1,Q1M h2,cond_true,Bool.and_self,this]
  ·simp only[Q1M h1,Q1b h2,cond_true,cond_false,Bool.and_false]
 ·simp only[Q1b h1,cond_false,Bool.false_and]
def QaL (s:ByteArray):ByteArray:=Q3M ((Qw s).map Q1N)
theorem Q82 (s:ByteArray):(QaL s).size=s.size:=by unfold QaL;rw[Q81,List.length_map,Yk]
end Go.Proofs.YtbpjfjdkjapnoaaGreatDoor
end
section
/- Plain laws: lower case,the other way. -/
namespace Go.Proofs.YtbpjfjdkjapnoaaGreatDoor
open Go.Gx
theorem DV (s:ByteArray)(hs:s.size<=1048576):∀n i:Nat,i+n=s.size->Ev (λk=>Z39.l0 k s (((Qw s).take i).map Q1N) i) ((Qw s).map Q1N)
 |0,i,h=>by
  refine Ev.step (λk=>by rw[Z39.l0]) ?_
  simp(disch:=omega) only[Qy]
  rw[List.take_of_length_le (by rw[Yk];omega)]
  exact Ev.pure _
 |n+1,i,h=>by
  have hl:=Yk s
  have hi:i<(Qw s).length:=by omega
  refine Ev.step (λk=>by rw[Z39.l0]) ?_
  simp(disch:=omega) only[Qi,Int.toNat_natCast,Q1g s i hi]
  refine Ev.bind0 (GB _) ?_
  have hr:room ((((Qw s).take i).map Q1N).length+([Q1N (Qw s)[i]]:List Int).length) (.int .u8)=true:=by
   unfold room
   rw[Nat.ble_eq]
   have:nb (.int .u8)=1:=rfl
   rw[this]
   simp;omega
  simp(disch:=omega) only[hr,cond_true,wrap_in]
  have e:((Qw s).take i).map Q1N++[Q1N (Qw s)[i]]=((Qw s).take (i+1)).map Q1N:=by
   rw[List.take_add_one,List.getElem?_eq_getElem hi]
   simp only[Option.toList_some,List.map_append,List.map_cons,List.map_nil]
  rw[e]
  exact DV s hs n (i+1) (by omega)
theorem Q3F (s:ByteArray)(hs:s.size<=1048576):Ev (λk=>Z39.F k s) (QaL s):=by
 unfold Z39.F
 exact Ev.bind (DV s hs s.size 0 (by omega)) (Ev.pure _)
end Go.Proofs.YtbpjfjdkjapnoaaGreatDoor
end
section
/- What the laws draw: entries,entries near to others,containers. -/
namespace Go.Proofs.YtbpjfjdkjapnoaaGreatDoor
open Go.Gx
def Qk (m:Nat)(e:Entry):Prop:=e.key.size<=200/\e.title.size<=m/\e.container.size<=200/\e.publisher.size<=200/\e.pages.size<=200/\e.cross.size<=200/\Je 8 e.authors/\Je 8 e.editors
theorem QbD (l:List ByteArray)(h:∀w∈l,w.size<=50):YA l<=50*l.length:=by
 induction l with
 |nil=>exact Nat.le_refl _
 |cons x l ih=>
  have h1:=h x List.mem_cons_self
  have h2:=ih λw hw=>h w (List.mem_cons_of_mem _ hw)
  have:YA (x::l)=x.size+YA l:=by simp[YA]
  rw[this,List.length_cons]
  omega
theorem QbE {n:Name}(h:Gz n):Q1k n<=600:=by
 obtain⟨h1,h2,h3,h4,h5⟩:=h
 have:=QbD _ h2
 unfold Q1k
 omega
theorem Q4S {m:Nat}{l:List Name}(h:Je m l)(hm:m<=10):Yy l<=10000:=by
 have:∀l:List Name,(∀n∈l,Gz n)->(l.map Q1k).sum<=600*l.length:=λl=>by
  induction l with
  |nil=>intro _;exact Nat.le_refl _
  |cons x l ih=>
   intro h
   have h1:=QbE (h x List.mem_cons_self)
   have h2:=ih λw hw=>h w (List.mem_cons_of_mem _ hw)
   simp only[List.map_cons,List.sum_cons,List.length_cons]
   omega
 have h1:=this l h.2
 have h2:=h.1
 unfold Yy
 omega
theorem Q03 {m:Nat}(hm:m<=200){e:Entry}(h:Qk m e):Q3v e<=30000:=by
 obtain⟨h1,h2,h3,h4,h5,h6,h7,h8⟩:=h
 have:=Q4S h7 (by omega)
 have:=Q4S h8 (by omega)
 unfold Q3v
 omega
theorem QS {m:Nat}(hm:m<=200){e:Entry}(h:Qk m e):Jv e:=by have:=Q03 hm h;unfold Jv;omega
theorem UU {x:ByteArray}(h:x.size<=50):x.size<=200:=by omega
theorem DW {m k:Nat}{l:List Name}(h:Je m l)(hk:m<=k):Je k l:=⟨Nat.le_trans h.1 hk,h.2⟩
theorem Q3G (k:Nat):Je k ([]:List Name):=⟨Nat.zero_le _,λn h=>by cases h⟩
theorem Q3H {n:Int}{c:Cur}(h:cu n c)(hn:n<=400000):EvP (λk=>Z58.F k c) λr=>cu (n+200) r.1/\Qk 50 r.2:=by
 unfold Z58.F
 refine Y7 h (by omega) (by decide) (by decide) (by decide) λc1 x1 hc1 hx1=>?_
 refine Jl hc1 (by omega) (by omega) (by omega) λc2 x2 hc2 _ _=>?_
 refine EvP.bind (Q0n hc2 (by omega)) λr3 hr3=>?_
 obtain⟨hc3,hn3⟩:=hr3
 refine EvP.of0 (a:=[(⟨#[79,110,32,114,105,118,101,114,115]⟩:ByteArray),(⟨#[65,32,104,105,115,116,111,114,121,32,111,102,32,109,97,112,115]⟩:ByteArray),(⟨#[84,104,101,32,110,111,114,116,104]⟩:ByteArray),(⟨#[79,108,100,32,114,111,97,100,115,58,32,97,32,103,117,105,100,101]⟩:ByteArray),(⟨#[79,110,32,114,105,118,101,114,115]⟩:ByteArray),(⟨#[]⟩:ByteArray)]) rfl ?_
 refine Y7 hc3 (by omega) (by decide) (by decide) (by decide) λc5 x5 hc5 hx5=>?_
 dsimp only
 obtain⟨r6,e6,hc6⟩:=Q3E hc5 (by omega)
 refine EvP.of0 e6 ?_
 refine Y2 hc6 (by omega) (by decide) (by decide) λc7 b7 hc7=>?_
 dsimp only
 have a1:=UU hx1
 have a5:=hx5
 have n3:=DW hn3 (show 6<=8 by omega)
 have z:(⟨#[]⟩:ByteArray).size<=200:=by decide
 have n0:=Q3G 8
 refine EvP.cond (λ_=>?_) (λ_=>?_)
 ·refine EvP.bind (Q0n hc7 (by omega)) λr8 hr8=>?_
  obtain⟨hc8,hn8⟩:=hr8
  have n8:=DW hn8 (show 6<=8 by omega)
  refine Y2 hc8 (by omega) (by decide) (by decide) λc9 b9 hc9=>?_
  refine EvP.cond (λ_=>?_) (λ_=>?_)
  ·refine Y7 hc9 (by omega) (by decide) (by decide) (by decide) λc10 x10 hc10 hx10=>?_
   refine DU hc10 (by omega) (by decide) (by decide) λc11 x11 hc11=>?_
   refine Y7 hc11 (by omega) (by decide) (by decide) (by decide) λc12 x12 hc12 hx12=>?_
   refine Y2 hc12 (by omega) (by decide) (by decide) λc13 b13 hc13=>?_
   have a10:=UU hx10
   have a12:=UU hx12
   refine EvP.cond (λ_=>?_) (λ_=>?_)
   ·refine Y7 hc13 (by omega) (by decide) (by decide) (by decide) λc14 x14 hc14 hx14=>?_
    refine Y2 hc14 (by omega) (by decide) (by decide) λc15 b15 hc15=>?_
    have a14:=UU hx14
    refine EvP.cond (λ_=>?_) (λ_=>?_)
    ·refine Y7 hc15 (by omega) (by decide) (by decide) (by decide) λc16 x16 hc16 hx16=>?_
     exact EvP.pure _ ⟨hc16.mono (by omega),a1,a5,a10,a14,a12,UU hx16,n3,n8⟩
    ·exact EvP.pure _ ⟨hc15.mono (by omega),a1,a5,a10,a14,a12,z,n3,n8⟩
   ·refine Y2 hc13 (by omega) (by decide) (by decide) λc15 b15 hc15=>?_
    refine EvP.cond (λ_=>?_) (λ_=>?_)
    ·refine Y7 hc15 (by omega) (by decide) (by decide) (by decide) λc16 x16 hc16 hx16=>?_
     exact EvP.pure _ ⟨hc16.mono (by omega),a1,a5,a10,z,a12,UU hx16,n3,n8⟩
    ·exact EvP.pure _ ⟨hc15.mono (by omega),a1,a5,a10,z,a12,z,n3,n8⟩
  ·refine Y2 hc9 (by omega) (by decide) (by decide) λc13 b13 hc13=>?_
   refine EvP.cond (λ_=>?_) (λ_=>?_)
   ·refine Y7 hc13 (by omega) (by decide) (by decide) (by decide) λc14 x14 hc14 hx14=>?_
    refine Y2 hc14 (by omega) (by decide) (by decide) λc15 b15 hc15=>?_
    have a14:=UU hx14
    refine EvP.cond (λ_=>?_) (λ_=>?_)
    ·refine Y7 hc15 (by omega) (by decide) (by decide) (by decide) λc16 x16 hc16 hx16=>?_
     exact EvP.pure _ ⟨hc16.mono (by omega),a1,a5,z,a14,z,UU hx16,n3,n8⟩
    ·exact EvP.pure _ ⟨hc15.mono (by omega),a1,a5,z,a14,z,z,n3,n8⟩
   ·refine Y2 hc13 (by omega) (by decide) (by decide) λc15 b15 hc15=>?_
    refine EvP.cond (λ_=>?_) (λ_=>?_)
    ·refine Y7 hc15 (by omega) (by decide) (by decide) (by decide) λc16 x16 hc16 hx16=>?_
     exact EvP.pure _ ⟨hc16.mono (by omega),a1,a5,z,z,z,UU hx16,n3,n8⟩
    ·exact EvP.pure _ ⟨hc15.mono (by omega),a1,a5,z,z,z,z,n3,n8⟩
 ·refine Y2 hc7 (by omega) (by decide) (by decide) λc9 b9 hc9=>?_
  refine EvP.cond (λ_=>?_) (λ_=>?_)
  ·refine Y7 hc9 (by omega) (by decide) (by decide) (by decide) λc10 x10 hc10 hx10=>?_
   refine DU hc10 (by omega) (by decide) (by decide) λc11 x11 hc11=>?_
   refine Y7 hc11 (by omega) (by decide) (by decide) (by decide) λc12 x12 hc12 hx12=>?_
   refine Y2 hc12 (by omega) (by decide) (by decide) λc13 b13 hc13=>?_
   have a10:=UU hx10
   have a12:=UU hx12
   refine EvP.cond (λ_=>?_) (λ_=>?_)
   ·refine Y7 hc13 (by omega) (by decide) (by decide) (by decide) λc14 x14 hc14 hx14=>?_
    refine Y2 hc14 (by omega) (by decide) (by decide) λc15 b15 hc15=>?_
    have a14:=UU hx14
    refine EvP.cond (λ_=>?_) (λ_=>?_)
    ·refine Y7 hc15 (by omega) (by decide) (by decide) (by decide) λc16 x16 hc16 hx16=>?_
     exact EvP.pure _ ⟨hc16.mono (by omega),a1,a5,a10,a14,a12,UU hx16,n3,n0⟩
    ·exact EvP.pure _ ⟨hc15.mono (by omega),a1,a5,a10,a14,a12,z,n3,n0⟩
   ·refine Y2 hc13 (by omega) (by decide) (by decide) λc15 b15 hc15=>?_
    refine EvP.cond (λ_=>?_) (λ_=>?_)
    ·refine Y7 hc15 (by omega) (by decide) (by decide) (by decide) λc16 x16 hc16 hx16=>?_
     exact EvP.pure _ ⟨hc16.mono (by omega),a1,a5,a10,z,a12,UU hx16,n3,n0⟩
    ·exact EvP.pure _ ⟨hc15.mono (by omega),a1,a5,a10,z,a12,z,n3,n0⟩
  ·refine Y2 hc9 (by omega) (by decide) (by decide) λc13 b13 hc13=>?_
   refine EvP.cond (λ_=>?_) (λ_=>?_)
   ·refine Y7 hc13 (by omega) (by decide) (by decide) (by decide) λc14 x14 hc14 hx14=>?_
    refine Y2 hc14 (by omega) (by decide) (by decide) λc15 b15 hc15=>?_
    have a14:=UU hx14
    refine EvP.cond (λ_=>?_) (λ_=>?_)
    ·refine Y7 hc15 (by omega) (by decide) (by decide) (by decide) λc16 x16 hc16 hx16=>?_
     exact EvP.pure _ ⟨hc16.mono (by omega),a1,a5,z,a14,z,UU hx16,n3,n0⟩
    ·exact EvP.pure _ ⟨hc15.mono (by omega),a1,a5,z,a14,z,z,n3,n0⟩
   ·refine Y2 hc13 (by omega) (by decide) (by decide) λc15 b15 hc15=>?_
    refine EvP.cond (λ_=>?_) (λ_=>?_)
    ·refine Y7 hc15 (by omega) (by decide) (by decide) (by decide) λc16 x16 hc16 hx16=>?_
     exact EvP.pure _ ⟨hc16.mono (by omega),a1,a5,z,z,z,UU hx16,n3,n0⟩
    ·exact EvP.pure _ ⟨hc15.mono (by omega),a1,a5,z,z,z,z,n3,n0⟩
theorem Xl {n:Int}{c:Cur}(h:cu n c)(hn:n<=300000):EvP (λk=>Z54.F k c) λr=>cu (n+500) r.1/\Qk 50 r.2:=by
 unfold Z54.F
 refine EvP.bind (Q3H h (by omega)) λr hr=>?_
 obtain⟨h1,g1,g2,g3,g4,g5,g6,g7,g8⟩:=hr
 refine Jl h1 (by omega) (by omega) (by omega) λc2 y hc2 y0 y1=>?_
 dsimp only
 refine EvP.cond (λ_=>?_) (λ_=>EvP.cond (λ_=>?_) (λ_=>EvP.cond (λ_=>?_) (λ_=>EvP.cond (λ_=>?_) (λ_=>EvP.cond (λ_=>?_) (λ_=>EvP.cond (λ_=>?_) (λ_=>EvP.cond (λ_=>?_) (λ_=>EvP.cond (λ_=>?_) (λ_=>?_))))))))
 ·refine Y7 hc2 (by omega) (by decide) (by decide) (by decide) λc6 x6 hc6 hx6=>?_
  exact EvP.pure _ ⟨hc6.mono (by omega),UU hx6,g2,g3,g4,g5,g6,g7,g8⟩
 ·refine Jl hc2 (by omega) (by omega) (by omega) λc6 x6 hc6 _ _=>?_
  exact EvP.pure _ ⟨hc6.mono (by omega),g1,g2,g3,g4,g5,g6,g7,g8⟩
 ·refine EvP.bind (Q1w hc2 (by omega)) λq hq=>?_
  exact EvP.pure _ ⟨hq.1.mono (by omega),g1,g2,g3,g4,g5,g6,DW hq.2 (by omega),g8⟩
 ·refine Y7 hc2 (by omega) (by decide) (by decide) (by decide) λc6 x6 hc6 hx6=>?_
  exact EvP.pure _ ⟨hc6.mono (by omega),g1,hx6,g3,g4,g5,g6,g7,g8⟩
 ·obtain⟨r6,e6,hc6⟩:=Q66 hc2 (by omega)
  refine EvP.of0 e6 ?_
  exact EvP.pure _ ⟨hc6.mono (by omega),g1,g2,g3,g4,g5,g6,g7,g8⟩
 ·refine DU hc2 (by omega) (by decide) (by decide) λc6 x6 hc6=>?_
  exact EvP.pure _ ⟨hc6.mono (by omega),g1,g2,g3,g4,g5,g6,g7,g8⟩
 ·obtain⟨k1,k2,k3⟩:=hc2
  obtain⟨c',x,e1,e2,e3,e4,e5,e6⟩:=DT c2 k1 k2 (by omega) 3 (by omega) (by omega)
  have hi:x.toNat<3:=by omega
  refine EvP.of0 (a:=(c',([r.2.key,(⟨#[65]⟩:ByteArray),(⟨#[98,50]⟩:ByteArray)]).getD x.toNat ⟨#[]⟩)) ?_ (EvP.pure _ ⟨⟨by rw[e2];exact k1,e3,by show c'.at_<=_;omega⟩,g1,g2,g3,g4,g5,?_,g7,g8⟩)
  ·unfold Z3.F
   have hl:(([r.2.key,(⟨#[65]⟩:ByteArray),(⟨#[98,50]⟩:ByteArray)]).length:Int)=3:=rfl
   rw[hl,e1]
   simp(disch:=omega) only[Option.bind_some,Qi]
  ·show(([r.2.key,(⟨#[65]⟩:ByteArray),(⟨#[98,50]⟩:ByteArray)]).getD x.toNat ⟨#[]⟩).size<=200
   match x.toNat,hi with
   |0,_=>exact g1
   |1,_=>show(⟨#[65]⟩:ByteArray).size<=200;decide
   |2,_=>show(⟨#[98,50]⟩:ByteArray).size<=200;decide
 ·refine EvP.bind (Q1w hc2 (by omega)) λq hq=>?_
  exact EvP.pure _ ⟨hq.1.mono (by omega),g1,g2,g3,g4,g5,g6,g7,DW hq.2 (by omega)⟩
 ·exact EvP.pure _ ⟨hc2.mono (by omega),g1,g2,g3,g4,g5,g6,g7,g8⟩
theorem Q6N (xs:List Name)(hx:Je 8 xs):∀n i:Nat,i+n=xs.length->Ev (λk=>Z7.l0 k xs (xs.take i) i) xs
 |0,i,h=>by
  refine Ev.step (λk=>by rw[Z7.l0]) ?_
  simp(disch:=omega) only[Qy]
  rw[List.take_of_length_le (by omega)]
  exact Ev.pure _
 |n+1,i,h=>by
  have hl:=hx.1
  have hi:i<xs.length:=by omega
  have hg:=(hx.2 _ (List.getElem_mem hi)).1
  have e:xs.getD i (Q2 .name)=xs[i]:=getD_at hi _
  have r1:∀(g:List ByteArray),g.length<=8->room (([]:List ByteArray).length+g.length) .str=true:=λg hg=>Q01 (by simp;omega) (by decide)
  have r2:∀x:Name,room ((xs.take i).length+([x]:List Name).length) .name=true:=λx=>Q01 (by simp;omega) (by decide)
  refine Ev.step (λk=>by rw[Z7.l0]) ?_
  simp(disch:=omega) only[Qi,Int.toNat_natCast,e,r1 _ hg,r2,cond_true,wrap_in,List.nil_append]
  have:xs.take i++[xs[i]]=xs.take (i+1):=by simp
  rw[show(⟨xs[i].given,xs[i].particle,xs[i].family,xs[i].suffix⟩:Name)=xs[i]from rfl,this]
  exact Q6N xs hx n (i+1) (by omega)
theorem Q6O (xs:List Name)(hx:Je 8 xs):Ev (λk=>Z7.F k xs) xs:=by
 unfold Z7.F
 exact Ev.bind (Q6N xs hx xs.length 0 (by omega)) (Ev.pure _)
theorem DX {m:Nat}(e:Entry)(h:Qk m e):Ev (λk=>Z48.F k e) e:=by
 obtain⟨h1,h2,h3,h4,h5,h6,h7,h8⟩:=h
 unfold Z48.F
 exact Ev.bind (Q6O _ h7) (Ev.bind (Q6O _ h8) (Ev.pure _))
theorem Qk.up {m k:Nat}{e:Entry}(h:Qk m e)(hk:m<=k):Qk k e:=⟨h.1,Nat.le_trans h.2.1 hk,h.2.2⟩
theorem Q68 {n:Int}{c:Cur}(h:cu n c)(hn:n<=200000){m:Nat}(hm:m<=100)(h50:50<=m){e:Entry}(he:Qk m e):EvP (λk=>Z59.F k c e) λr=>cu (n+600) r.1/\Qk (m+20) r.2:=by
 unfold Z59.F
 obtain⟨g1,g2,g3,g4,g5,g6,g7,g8⟩:=he
 have g2':e.title.size<=m+20:=by omega
 have z:(⟨#[]⟩:ByteArray).size<=200:=by decide
 refine EvP.of (DX (m:=m) e ⟨g1,g2,g3,g4,g5,g6,g7,g8⟩) ?_
 refine Jl h (by omega) (by omega) (by omega) λc2 y hc2 y0 y1=>?_
 dsimp only
 refine EvP.cond (λ_=>?_) (λ_=>EvP.cond (λ_=>?_) (λ_=>EvP.cond (λ_=>?_) (λ_=>EvP.cond (λ_=>?_) (λ_=>EvP.cond (λ_=>?_) (λ_=>EvP.cond (λ_=>?_) (λ_=>?_))))))
 ·obtain⟨r,⟨K,hK⟩,hr1,hr2⟩:=Q7Z hc2 (by omega) (t:=e.title) (w:=⟨#[97,66,32,45]⟩) (by omega) (by decide) (by decide)
  refine EvP.of0 (hK K (Nat.le_refl _)) (EvP.pure _ ⟨hr1.mono (by omega),g1,?_,g3,g4,g5,g6,g7,g8⟩)
  show r.2.size<=m+20
  omega
 ·refine EvP.of (Q3F e.title (by omega)) (EvP.pure _ ⟨hc2.mono (by omega),g1,?_,g3,g4,g5,g6,g7,g8⟩)
  show(QaL e.title).size<=m+20
  have:(QaL e.title).size=e.title.size:=Q82 _
  omega
 ·obtain⟨r6,e6,hc6⟩:=Q3E hc2 (by omega)
  exact EvP.of0 e6 (EvP.pure _ ⟨hc6.mono (by omega),g1,g2',g3,g4,g5,g6,g7,g8⟩)
 ·refine EvP.bind (Q0n hc2 (by omega)) λq hq=>?_
  exact EvP.pure _ ⟨hq.1.mono (by omega),g1,g2',g3,g4,g5,g6,DW hq.2 (by omega),g8⟩
 ·refine EvP.bind (Xl hc2 (by omega)) λq hq=>?_
  exact EvP.pure _ ⟨hq.1.mono (by omega),hq.2.up (by omega)⟩
 ·exact EvP.pure _ ⟨hc2.mono (by omega),g1,g2',g3,z,g5,g6,g7,g8⟩
 ·exact EvP.pure _ ⟨hc2.mono (by omega),g1,g2',g3,g4,g5,g6,g7,g8⟩
end Go.Proofs.YtbpjfjdkjapnoaaGreatDoor
end
section
/- What the laws draw: libraries. -/
namespace Go.Proofs.YtbpjfjdkjapnoaaGreatDoor
open Go.Gx
def Yd (m:Nat)(l:List Entry):Prop:=l.length<=m/\∀e∈l,Qk 50 e
theorem XN {m:Nat}{l:List Entry}(h:Yd m l)(hm:m<=20):YW ⟨l⟩:=by
 have:∀l:List Entry,(∀n∈l,Qk 50 n)->(l.map Q3v).sum<=30000*l.length:=λl=>by
  induction l with
  |nil=>intro _;exact Nat.le_refl _
  |cons x l ih=>
   intro h
   have h1:=Q03 (by omega) (h x List.mem_cons_self)
   have h2:=ih λw hw=>h w (List.mem_cons_of_mem _ hw)
   simp only[List.map_cons,List.sum_cons,List.length_cons]
   omega
 have h1:=this l h.2
 have h2:=h.1
 unfold YW Q6F
 show l.length+(l.map Q3v).sum<=1048576
 omega
theorem UV {m:Nat}{l:List Entry}{n:Entry}(h:∀e∈l,Qk 50 e)(hn:Qk 50 n):∀e∈l++[n],Qk 50 e:=λx hx=>by
 rcases List.mem_append.1 hx with hx|hx
 ·exact h x hx
 ·rw[List.mem_singleton.1 hx];exact hn
theorem Q1x {l:List Entry}{i:Nat}(h:∀e∈l,Qk 50 e)(hi:i<l.length)(d:Entry):Qk 50 (l.getD i d):=by
 rw[getD_at hi];exact h _ (List.getElem_mem hi)
theorem Q83 {l:List Entry}{i:Nat}{n:Entry}(h:∀e∈l,Qk 50 e)(hn:Qk 50 n):∀e∈l.set i n,Qk 50 e:=λx hx=>by
 rcases List.mem_or_eq_of_mem_set hx with hx|rfl
 ·exact h x hx
 ·exact hn
theorem Ur:(⟨#[]⟩:ByteArray).size<=200:=by decide
theorem Q1y {n:Nat}(hn:n<=1000):room n .entry=true:=Q01 hn (by decide)
def wB (b:Bool):Nat:=bif b then 0 else 1
theorem Q69 (xs:List Entry)(hx:∀e∈xs,Qk 50 e)(hl:xs.length<=20)(e:Entry)(he:Qk 50 e):∀n i:Nat,i+n=xs.length->∀(z acc:List Entry) (b:Bool),acc.length+n+wB b<=40->(∀e∈acc,Qk 50 e)->
  EvP (λk=>Z6.l0 k ⟨xs⟩ e z acc b i) λr=>r.1=e/\r.2.2.1.length+wB r.2.2.2<=acc.length+n+wB b/\∀e∈r.2.2.1,Qk 50 e
 |0,i,h,z,acc,b,hb,ha=>by
  refine EvP.step (λk=>by rw[Z6.l0]) ?_
  dsimp only
  simp(disch:=omega) only[Qy]
  exact EvP.pure _ ⟨rfl,by show acc.length+wB b<=_;omega,ha⟩
 |n+1,i,h,z,acc,b,hb,ha=>by
  have hi:i<xs.length:=by omega
  have hm:=hx _ (List.getElem_mem hi)
  have c1:=DX e he
  have c2:=DX xs[i] hm
  have r1:∀x:Entry,room (acc.length+([x]:List Entry).length) .entry=true:=λx=>Q1y (by simp;omega)
  have r2:∀x y:Entry,room ((acc++[x]).length+([y]:List Entry).length) .entry=true:=λx y=>Q1y (by simp;omega)
  have old:∀(acc':List Entry) (b':Bool),acc'.length+wB b'<=acc.length+wB b->(∀e∈acc',Qk 50 e)->(∀y:Entry,room (acc'.length+([y]:List Entry).length) .entry=true)->
    EvP (λk=>bif decide (0<=(i:Int))then(bif decide ((i:Int)<(xs.length:Int))then(bif (!Q3 ((xs.getD (i:Int).toNat (Q2 .entry)).key) e.key)then(bif decide (0<=(i:Int))then(bif decide ((i:Int)<(xs.length:Int))then((Z48.F k (xs.getD (i:Int).toNat (Q2 .entry))).bind λr2=>bif room (acc'.length+([r2]:List Entry).length) .entry then(Z6.l0 k ⟨xs⟩ e z (acc'++([r2]:List Entry)) b' (IntKind.wrap .i64 ((i:Int)+1)))else none)else none)else none)else(Z6.l0 k ⟨xs⟩ e z acc' b' (IntKind.wrap .i64 ((i:Int)+1))))else none)else none)
     λr=>r.1=e/\r.2.2.1.length+wB r.2.2.2<=acc.length+(n+1)+wB b/\∀e∈r.2.2.1,Qk 50 e:=λacc' b' h1 h2 h3=>by
   simp(disch:=omega) only[Qi,Int.toNat_natCast,getD_at hi]
   refine EvP.cond (λ_=>?_) (λ_=>?_)
   ·refine EvP.of c2 ?_
    simp(disch:=omega) only[h3,cond_true,wrap_in]
    refine EvP.mono (Q69 xs hx hl e he n (i+1) (by omega) z (acc'++[xs[i]]) b' (by simp;omega) (UV (m:=0) h2 hm)) λr hr=>⟨hr.1,?_,hr.2.2⟩
    have:=hr.2.1
    simp at this
    omega
   ·simp(disch:=omega) only[wrap_in]
    refine EvP.mono (Q69 xs hx hl e he n (i+1) (by omega) z acc' b' (by omega) h2) λr hr=>⟨hr.1,?_,hr.2.2⟩
    have:=hr.2.1
    omega
  refine EvP.step (λk=>by rw[Z6.l0]) ?_
  dsimp only
  have e1:=old acc b (Nat.le_refl _) ha r1
  simp(disch:=omega) only[Qi,Int.toNat_natCast,getD_at hi]at e1
  simp(disch:=omega) only[Qi,Int.toNat_natCast,getD_at hi]
  refine EvP.cond (λ_=>?_) (λ_=>?_)
  ·cases b with
   |true=>
    simp only[Bool.not_true,cond_false]
    exact e1
   |false=>
    simp only[Bool.not_false,cond_true]
    refine EvP.of c1 ?_
    simp only[r1,cond_true]
    have e2:=old (acc++[e]) true (by simp[wB]) (UV (m:=0) ha he) (r2 e)
    simp(disch:=omega) only[Qi,Int.toNat_natCast,getD_at hi]at e2
    exact e2
  ·exact e1
theorem Q6P {m:Nat}{xs:List Entry}(hx:Yd m xs)(hm:m<=15){e:Entry}(he:Qk 50 e):EvP (λk=>Z6.F k ⟨xs⟩ e) λr=>Yd (m+1) r.entries:=by
 unfold Z6.F
 have hl:=hx.1
 refine EvP.bind (Q69 xs hx.2 (by omega) e he xs.length 0 (by omega) [] [] false (by simp[wB];omega) (by simp)) λr hr=>?_
 obtain⟨h1,h2,h3⟩:=hr
 have h2:r.2.2.1.length+wB r.2.2.2<=xs.length+1:=by simpa[wB]using h2
 refine EvP.cond (λhb=>?_) (λhb=>?_)
 ·rw[h1]
  refine EvP.of (DX e he) ?_
  rw[Q1y (by simp;omega)]
  refine EvP.pure _ ⟨?_,UV (m:=0) h3 he⟩
  have:r.2.2.2=false:=by cases h:r.2.2.2<;>rw[h]at hb<;>first|rfl|cases hb
  rw[this]at h2
  show(r.2.2.1++[e]).length<=m+1
  simp[wB]at h2 ⊢
  omega
 ·exact EvP.pure _ ⟨by show r.2.2.1.length<=m+1;omega,h3⟩
theorem Q1z:∀m:Nat,m<=6->∀{n:Int} {c:Cur},cu n c->n+250*m<=300000->∀(q:Nat) (z l:List Entry),q+m<=8->Yd q l->EvP (λk=>Z31.l0 k c z l m) λr=>cu (n+250*m) r.1/\Yd (q+m) r.2.2
 |0,_,n,c,hc,hn,q,z,l,hq,hl=>by
  refine EvP.step (λk=>by rw[Z31.l0]) ?_
  simp(disch:=omega) only[Qy]
  exact EvP.pure _ ⟨hc.mono (by omega),hl⟩
 |m+1,hm,n,c,hc,hn,q,z,l,hq,hl=>by
  refine EvP.step (λk=>by rw[Z31.l0]) ?_
  simp(disch:=omega) only[Qi]
  refine EvP.bind (Q3H hc (by omega)) λr hr=>?_
  obtain⟨h1,g1,g2,g3,g4,g5,g6,g7,g8⟩:=hr
  have w1:IntKind.wrap .i64 (((m+1:Nat):Int)-1)=(m:Int):=by rw[wrap_in (by omega) (by omega)];omega
  have next:∀{n':Int} {c':Cur} {l':Library},cu n' c'->n'<=n+250->Yd (q+1) l'.entries->EvP (λk=>Z31.l0 k c' z l'.entries (IntKind.wrap .i64 (((m+1:Nat):Int)-1))) λr=>cu (n+250* (m+1:Nat)) r.1/\Yd (q+(m+1)) r.2.2:=λ{n' c' l'} hc' hn' hl'=>by
   rw[w1]
   refine EvP.mono (Q1z m (by omega) hc' (by omega) (q+1) z _ (by omega) hl') λy hy=>⟨hy.1.mono (by omega),?_⟩
   rw[show q+(m+1)=q+1+m by omega]
   exact hy.2
  refine Y2 h1 (by omega) (by decide) (by decide) λc3 b3 hc3=>?_
  refine EvP.cond (λ_=>?_) (λ_=>?_)
  ·refine Y7 hc3 (by omega) (by decide) (by decide) (by decide) λc4 x4 hc4 hx4=>?_
   refine EvP.cond (λ_=>?_) (λ_=>?_)
   ·refine EvP.bind (Q6P hl (by omega) (e:=⟨r.2.key,r.2.kind,r.2.authors,r.2.editors,r.2.title,r.2.container,r.2.publisher,r.2.date,r.2.volume,r.2.pages,⟨#[]⟩⟩) ⟨g1,g2,g3,g4,g5,Ur,g7,g8⟩) λy hy=>?_
    exact next hc4 (by omega) hy
   ·refine EvP.bind (Q6P hl (by omega) (e:=⟨r.2.key,r.2.kind,r.2.authors,r.2.editors,r.2.title,r.2.container,r.2.publisher,r.2.date,r.2.volume,r.2.pages,x4⟩) ⟨g1,g2,g3,g4,g5,UU hx4,g7,g8⟩) λy hy=>?_
    exact next hc4 (by omega) hy
  ·refine EvP.bind (Q6P hl (by omega) (e:=r.2) ⟨g1,g2,g3,g4,g5,g6,g7,g8⟩) λy hy=>?_
   exact next hc3 (by omega) hy
theorem Q84 {n:Int}{c:Cur}(h:cu n c)(hn:n<=200000):EvP (λk=>Z31.F k c) λr=>cu (n+2000) r.1/\Yd 6 r.2.entries:=by
 unfold Z31.F
 refine Jl h (by omega) (by omega) (by omega) λc2 y hc2 y0 y1=>?_
 obtain⟨m,rfl⟩:∃m:Nat,y=m:=⟨y.toNat,by omega⟩
 refine EvP.bind (Q1z m (by omega) hc2 (by omega) 0 [] [] (by omega) ⟨Nat.le_refl _,λn h=>by cases h⟩) λr hr=>?_
 exact EvP.pure _ ⟨hr.1.mono (by omega),by have:=hr.2.1;show r.2.2.length<=6;omega,hr.2.2⟩
theorem Qcz (n:Nat)(hn:n<10):EvP (λk=>Z46.F k n) λr=>r.size<=10:=by
 refine EvP.step (λk=>by rw[Z46.F]) ?_
 have z:(⟨#[48,49,50,51,52,53,54,55,56,57]⟩:ByteArray).size=10:=rfl
 have w1:IntKind.wrap .i64 ((n:Int)+1)=((n+1:Nat):Int):=by rw[wrap_in (by omega) (by omega)];omega
 simp(disch:=omega) only[Qi,Qy,w1,z]
 exact EvP.pure _ (by have:=size_ext ⟨#[48,49,50,51,52,53,54,55,56,57]⟩ (n:Int).toNat (((n+1:Nat):Int)).toNat;rw[z]at this;exact this)
theorem Q2K:∀m:Nat,∀{n:Int} {c:Cur},cu n c->n+250*m<=290000->∀(z l:List Entry) (i:Nat),i+m=10->l.length<=10->(∀e∈l,Qk 50 e)->EvP (λk=>Z45.l1 k c z l i) λr=>cu (n+250*m+10) r.1/\Yd 10 r.2.2
 |m,n,c,hc,hn,z,l,i,hi,hl,hq=>by
  refine EvP.step (λk=>by rw[Z45.l1]) ?_
  refine Jl hc (by omega) (by omega) (by omega) λc1 x hc1 x0 x1=>?_
  dsimp only
  by_cases h1:(l.length:Int)<8+x
  ·simp(disch:=omega) only[Qi,wrap_in]
   cases m with
   |zero=>
    simp(disch:=omega) only[Qy]
    exact EvP.pure _ ⟨hc1.mono (by omega),hl,hq⟩
   |succ m=>
    simp(disch:=omega) only[Qi]
    refine EvP.bind (Q3H hc1 (by omega)) λr hr=>?_
    obtain⟨h1,g1,g2,g3,g4,g5,g6,g7,g8⟩:=hr
    refine EvP.bind (Qcz i (by omega)) λt ht=>?_
    have e120:(⟨#[120]⟩:ByteArray).size=1:=rfl
    have hk:((⟨#[120]⟩:ByteArray)++t).size<=200:=by rw[YL,e120];omega
    have hr:∀e:Entry,room (l.length+([e]:List Entry).length) .entry=true:=λe=>Q1y (by simp;omega)
    simp(disch:=(try simp only[e120]);omega) only[KC,hr,cond_true,wrap_in]
    refine EvP.mono (Q2K m h1 (by omega) z _ (i+1) (by omega) (by simp;omega) (UV (m:=0) hq (n:=⟨⟨#[120]⟩++t,r.2.kind,r.2.authors,r.2.editors,r.2.title,r.2.container,r.2.publisher,r.2.date,r.2.volume,r.2.pages,r.2.cross⟩) ⟨hk,g2,g3,g4,g5,g6,g7,g8⟩)) λy hy=>⟨hy.1.mono (by omega),hy.2⟩
  ·simp(disch:=omega) only[Qy,wrap_in]
   exact EvP.pure _ ⟨hc1.mono (by omega),hl,hq⟩
theorem QaM {n:Int}{c:Cur}(h:cu n c)(hn:n<=150000):EvP (λk=>Z45.F k c) λr=>cu (n+10000) r.1/\Yd 10 r.2.entries:=by
 unfold Z45.F
 refine EvP.bind (Q84 h (by omega)) λr hr=>?_
 obtain⟨h1,hl,hq⟩:=hr
 by_cases c0:(r.2.entries.length:Int)=0
 ·simp(disch:=exact c0) only[ceq]
  exact EvP.pure _ ⟨h1.mono (by omega),by show r.2.entries.length<=10;omega,hq⟩
 ·simp(disch:=exact c0) only[cne]
  refine Jl h1 (by omega) (by omega) (by omega) λc1 x hc1 x0 x1=>?_
  dsimp only
  refine EvP.cond (λ_=>?_) (λ_=>EvP.cond (λ_=>?_) (λ_=>EvP.cond (λ_=>?_) (λ_=>?_)))
  ·refine Jl hc1 (by omega) (by omega) (by omega) λc2 x2 hc2 y0 y1=>?_
   refine EvP.bind (Xl hc2 (by omega)) λy hy=>?_
   simp(disch:=omega) only[Qi]
   exact EvP.pure _ ⟨hy.1.mono (by omega),by show(r.2.entries.set _ _).length<=10;rw[List.length_set];omega,Q83 hq hy.2⟩
  ·simp(disch:=omega) only[Qi]
   rw[Q1y (by simp;omega)]
   refine EvP.pure _ ⟨hc1.mono (by omega),?_,UV (m:=0) hq (Q1x hq (by show(0:Int).toNat<_;have:(0:Int).toNat=0:=rfl;omega) _)⟩
   show(r.2.entries++_).length<=10
   simp;omega
  ·refine EvP.bind (Q2K 10 hc1 (by omega) [] r.2.entries 0 (by omega) (by omega) hq) λy hy=>?_
   exact EvP.pure _ ⟨hy.1.mono (by omega),hy.2⟩
  ·exact EvP.pure _ ⟨hc1.mono (by omega),by show r.2.entries.length<=10;omega,hq⟩
end Go.Proofs.YtbpjfjdkjapnoaaGreatDoor
end
section
/- Entries that are merged: both ways answer alike;what is kept. -/
namespace Go.Proofs.YtbpjfjdkjapnoaaGreatDoor
open Go.Gx
theorem Q1A {s:ByteArray}(h:YE s=true):s.size<=40:=by
 unfold YE at h
 simp only[Bool.and_eq_true,decide_eq_true_eq]at h
 exact h.1
theorem QbF {l:Library}(h:Xq l=true){i:Nat}(hi:i<l.entries.length):QF l.entries[i]=true:=by
 unfold Xq at h
 rw[Bool.and_eq_true,List.all_eq_true]at h
 have:=h.1 i (by rw[List.mem_range'_1];omega)
 unfold okL at this
 rw[Bool.and_eq_true,getD_at hi]at this
 exact this.1
theorem DY (a b:ByteArray):a=⟨#[]⟩\/orT a b=a:=by
 unfold orT
 cases h:Q3 a ⟨#[]⟩with
 |true=>exact .inl (JB.1 h)
 |false=>exact .inr rfl
theorem Q6a (a b:ByteArray):orT a b=a\/orT a b=b:=by
 unfold orT
 cases h:Q3 a ⟨#[]⟩with
 |true=>exact .inr rfl
 |false=>exact .inl rfl
def Yq (e:Entry):Prop:=QF e=true/\Qk 50 e/\okF e
theorem DZ {e:Entry}(h:QF e=true):YE e.title=true:=by
 unfold QF at h
 simp only[Bool.and_eq_true]at h
 exact h.2.2.2.2.1
theorem KA {m:Nat}{e:Entry}(hm:m<=200)(h:Qk m e)(hv:QF e=true):Yq e:=by
 have:=Q1A (DZ hv)
 exact⟨hv,⟨h.1,by omega,h.2.2⟩,Q62 (QS hm h) hv⟩
def Yz (a b:Entry):ByteArray:=bif Q3 (orT a.cross b.cross) a.key then⟨#[]⟩else orT a.cross b.cross
def YM (a b:Entry):Entry:=⟨a.key,a.kind,bif (a.authors.length:Int)==0 then b.authors else a.authors,bif (a.editors.length:Int)==0 then b.editors else a.editors,
 orT a.title b.title,orT a.container b.container,orT a.publisher b.publisher,bif a.date.y==0 then b.date else a.date,bif a.volume==0 then b.volume else a.volume,orT a.pages b.pages,Yz a b⟩
theorem Q6Q {e:Entry}(h:QF e=true):Q3 (⟨#[]⟩:ByteArray) e.key=false:=by
 unfold QF Q1o at h
 simp only[Bool.and_eq_true]at h
 have h1:=h.1.1
 unfold ins at h1
 rw[<-Bool.not_eq_true]
 intro h2
 rw[<-JB.1 h2]at h1
 revert h1
 decide
theorem QcT {s:ByteArray}(h:s.size=0):s=⟨#[]⟩:=by
 apply YY
 have:(L s).length=0:=h
 rw[List.length_eq_zero_iff.1 this];rfl
theorem G0 {e:Entry}(h:QF e=true):e.cross=⟨#[]⟩\/(Q1o e.cross=true/\Q3 e.cross e.key=false):=by
 unfold QF at h
 simp only[Bool.and_eq_true]at h
 have h1:=h.2.2.2.2.2.2.2.2.2.2
 unfold D1 at h1
 simp only[Bool.or_eq_true,decide_eq_true_eq,Bool.and_eq_true,Bool.not_eq_true']at h1
 rcases h1 with h1|h1
 ·exact .inl (QcT h1)
 ·exact .inr h1
theorem QcA {a b:Entry}(h1:Q3 a.cross ⟨#[]⟩=true)(h2:Q3 b.cross a.key=false):Yz a b=b.cross:=by
 unfold Yz orT
 rw[h1]
 simp only[cond_true,h2,cond_false]
theorem QcB {a b:Entry}(h1:Q3 a.cross ⟨#[]⟩=true)(h2:Q3 b.cross a.key=true):Yz a b=a.cross:=by
 unfold Yz orT
 rw[h1]
 simp only[cond_true,h2]
 exact(JB.1 h1).symm
theorem QcC {a b:Entry}(hv:QF a=true)(h1:Q3 a.cross ⟨#[]⟩=false):Yz a b=a.cross:=by
 unfold Yz orT
 rw[h1]
 simp only[cond_false]
 rcases G0 hv with h|h
 ·rw[h,QM]at h1;cases h1
 ·rw[h.2];rfl
theorem G1 (a b:Entry)(hv:QF a=true)(ha:okF a)(hb:okF b):Ev (λk=>Z74.F k a b) (YM a b):=by
 have oa:=Q3C _ hb.2.2.2.2.2.1
 have oe:=Q3C _ hb.2.2.2.2.2.2
 unfold Z74.F YM
 refine Ev.bind (Q6L a ha) ?_
 simp only[Qct,Option.bind_some]
 cases h1:Q3 a.cross ⟨#[]⟩with
 |false=>
  rw[QcC hv h1]
  cases (a.date.y==0)<;>cases (a.volume==0)<;>cases ((a.authors.length:Int)==0)<;>cases ((a.editors.length:Int)==0)<;>simp only[cond_true,cond_false]<;>
   first|exact Ev.pure _|exact Ev.bind oa (Ev.pure _)|exact Ev.bind oe (Ev.pure _)|exact Ev.bind oa (Ev.bind oe (Ev.pure _))
 |true=>
  cases h2:Q3 b.cross a.key with
  |false=>
   rw[QcA h1 h2]
   cases (a.date.y==0)<;>cases (a.volume==0)<;>cases ((a.authors.length:Int)==0)<;>cases ((a.editors.length:Int)==0)<;>simp only[cond_true,cond_false,Bool.not_false]<;>
    first|exact Ev.pure _|exact Ev.bind oa (Ev.pure _)|exact Ev.bind oe (Ev.pure _)|exact Ev.bind oa (Ev.bind oe (Ev.pure _))
  |true=>
   rw[QcB h1 h2]
   cases (a.date.y==0)<;>cases (a.volume==0)<;>cases ((a.authors.length:Int)==0)<;>cases ((a.editors.length:Int)==0)<;>simp only[cond_true,cond_false,Bool.not_true]<;>
    first|exact Ev.pure _|exact Ev.bind oa (Ev.pure _)|exact Ev.bind oe (Ev.pure _)|exact Ev.bind oa (Ev.bind oe (Ev.pure _))
theorem Xm (a b:Entry)(ha:okF a)(hb:okF b):Ev (λk=>Z72.F k a b) (YM a b):=by
 unfold Z72.F YM Yz
 have hd:Z96.F a.date b.date=some (bif a.date.y==0 then b.date else a.date):=by unfold Z96.F;cases (a.date.y==0)<;>rfl
 have hv:Z97.F a.volume b.volume=some (bif a.volume==0 then b.volume else a.volume):=by unfold Z97.F;cases (a.volume==0)<;>rfl
 refine Ev.bind (Q1v _ _ ha.2.2.2.2.2.1 hb.2.2.2.2.2.1) (Ev.bind (Q1v _ _ ha.2.2.2.2.2.2 hb.2.2.2.2.2.2) ?_)
 simp only[QbB,hd,hv,Option.bind_some]
 cases Q3 (orT a.cross b.cross) a.key<;>exact Ev.pure _
theorem Q4T {a b:Entry}(ha:QF a=true)(hb:QF b=true):QF (YM a b)=true:=by
 have ca:=G0 ha
 have cb:=G0 hb
 unfold QF at ha hb ⊢
 simp only[Bool.and_eq_true]at ha hb ⊢
 obtain⟨a1,a2,a3,a4,a5,a6,a7,a8,a9,a10,a11⟩:=ha
 obtain⟨b1,b2,b3,b4,b5,b6,b7,b8,b9,b10,b11⟩:=hb
 have tx:∀{x y:ByteArray},YE x=true->YE y=true->YE (orT x y)=true:=λ{x y} h1 h2=>by
  rcases Q6a x y with h|h<;>rw[h]<;>assumption
 refine⟨a1,a2,?_,?_,tx a5 b5,tx a6 b6,tx a7 b7,tx a8 b8,?_,?_,?_⟩
 ·show Y6 (bif _ then _ else _)=true
  cases ((a.authors.length:Int)==0)<;>assumption
 ·show Y6 (bif _ then _ else _)=true
  cases ((a.editors.length:Int)==0)<;>assumption
 ·show DL (bif a.date.y==0 then _ else _)=true
  cases (a.date.y==0)<;>assumption
 ·show Q5Y (bif a.volume==0 then _ else _) 0 9999=true
  cases (a.volume==0)<;>assumption
 ·unfold D1
  show(decide ((Yz a b).size=0)||(Q1o (Yz a b)&& !Q3 (Yz a b) a.key))=true
  unfold Yz
  cases h:Q3 (orT a.cross b.cross) a.key with
  |true=>rfl
  |false=>
   simp only[cond_false,h,Bool.not_false,Bool.and_true]
   rcases Q6a a.cross b.cross with e|e
   ·rw[e]
    rcases ca with c|c
    ·rw[c];rfl
    ·rw[c.1,Bool.or_true]
   ·rw[e]
    rcases cb with c|c
    ·rw[c];rfl
    ·rw[c.1,Bool.or_true]
theorem Q2L {a b:Entry}(ha:Qk 50 a)(hb:Qk 50 b):Qk 50 (YM a b):=by
 obtain⟨a1,a2,a3,a4,a5,a6,a7,a8⟩:=ha
 obtain⟨b1,b2,b3,b4,b5,b6,b7,b8⟩:=hb
 have tx:∀{m:Nat} {x y:ByteArray},x.size<=m->y.size<=m->(orT x y).size<=m:=λ{m x y} h1 h2=>by
  rcases Q6a x y with h|h<;>rw[h]<;>assumption
 refine⟨a1,tx a2 b2,tx a3 b3,tx a4 b4,tx a5 b5,?_,?_,?_⟩
 ·show ByteArray.size (bif _ then _ else _)<=200
  cases Q3 (orT a.cross b.cross) a.key
  ·exact tx a6 b6
  ·exact Ur
 ·show Je 8 (bif _ then _ else _)
  cases ((a.authors.length:Int)==0)<;>assumption
 ·show Je 8 (bif _ then _ else _)
  cases ((a.editors.length:Int)==0)<;>assumption
theorem Yq.merge {a b:Entry}(ha:Yq a)(hb:Yq b):Yq (YM a b):=KA (m:=50) (by omega) (Q2L ha.2.1 hb.2.1) (Q4T ha.1 hb.1)
theorem Q6b {a:Entry}(ha:QF a=true):YM a a=a:=by
 have ho:∀x:ByteArray,orT x x=x:=λx=>by unfold orT;cases Q3 x ⟨#[]⟩<;>rfl
 have hc:Yz a a=a.cross:=by
  unfold Yz
  rw[ho]
  rcases G0 ha with h|h
  ·rw[h,Q6Q ha];rfl
  ·rw[h.2];rfl
 unfold YM
 rw[hc,ho,ho,ho,ho]
 cases ((a.authors.length:Int)==0)<;>cases ((a.editors.length:Int)==0)<;>cases (a.date.y==0)<;>cases (a.volume==0)<;>rfl
def Q3I (e r:Entry):Prop:=(e.authors=[]\/r.authors=e.authors)/\(e.title=⟨#[]⟩\/r.title=e.title)/\(e.pages=⟨#[]⟩\/r.pages=e.pages)/\(e.editors=[]\/r.editors=e.editors)/\(e.container=⟨#[]⟩\/r.container=e.container)/\(e.publisher=⟨#[]⟩\/r.publisher=e.publisher)/\(e.date.y=0\/r.date=e.date)/\(e.volume=0\/r.volume=e.volume)
theorem Q1B (a b:List Name):a=[]\/(bif (a.length:Int)==0 then b else a)=a:=by
 cases a with
 |nil=>exact .inl rfl
 |cons x l=>
  right
  have:(((x::l).length:Int)==0)=false:=by rw[beq_eq_false_iff_ne];simp;omega
  rw[this];rfl
theorem Q4U (a b:Entry):Q3I a (YM a b):=by
 refine⟨Q1B _ _,DY _ _,DY _ _,Q1B _ _,DY _ _,DY _ _,?_,?_⟩
 ·show _\/(bif a.date.y==0 then _ else _)=_
  cases h:(a.date.y==0)with
  |true=>exact .inl (by simpa using h)
  |false=>exact .inr rfl
 ·show _\/(bif a.volume==0 then _ else _)=_
  cases h:(a.volume==0)with
  |true=>exact .inl (by simpa using h)
  |false=>exact .inr rfl
theorem nil_text:namesT []=(⟨#[]⟩:ByteArray):=by apply YY;rw[namesT,Q0m];rfl
theorem Q85 {e r:Entry}(hk:Q3I e r)(he:Yq e){f:ByteArray}(hf:f∈fw8){t:ByteArray}(ht:Ev (λk=>Z69.F k e f) t):t=⟨#[]⟩\/Ev (λk=>Z69.F k r f) t:=by
 obtain⟨k3,k4,k5,k7,k8,k9,k10,k11⟩:=hk
 obtain⟨y0,_,_⟩:=Gy he.2.2.2.2.1
 obtain⟨v0,v1⟩:0<=e.volume/\e.volume<=9999:=⟨he.2.2.2.2.2.1,he.2.2.2.2.2.2.1⟩
 unfold fw8 at hf
 simp only[List.mem_cons,List.not_mem_nil,or_false]at hf
 unfold Z69.F at ht ⊢
 rcases hf with rfl|rfl|rfl|rfl|rfl|rfl|rfl|rfl
 all_goals simp only[Q9P,Q9Q,Q9R,Q9S,Q9T,Q9U,Q9V,Q9W,Q9X,Q9Y,Q9Z,Qa0,Qa1,Qa2,Qa3,Qa4,Qa5,Qa6,Qa7,Qa8,Qa9,Qaa,Qab,Qac,Qad,Qae,Qaf,Qag,Qah,Qai,Qaj,Qak,Qal,Qam,Qan,Qao,Qap,Qaq,Qar,Qas,Qat,Qau,Qav,Qaw,Qax,Qay,Qaz,QaA,QaB,QaC,QaD,QaE,QaF,QaG,QaH,QaI,QM,cond_true,cond_false]at ht ⊢
 ·rcases k3 with h|h
  ·left
   rw[h]at ht
   have:=Ev.bind (g:=λ_ r=>some r) (Kz [] (by simp) (λn hn=>by cases hn)) (Ev.pure (namesT []))
   rw[Ev.uniq ht this,nil_text]
  ·right;rw[h];exact ht
 ·rcases k7 with h|h
  ·left
   rw[h]at ht
   have:=Ev.bind (g:=λ_ r=>some r) (Kz [] (by simp) (λn hn=>by cases hn)) (Ev.pure (namesT []))
   rw[Ev.uniq ht this,nil_text]
  ·right;rw[h];exact ht
 ·rcases k4 with h|h
  ·left;rw[h]at ht;exact Ev.uniq ht (Ev.pure _)
  ·right;rw[h];exact ht
 ·rcases k8 with h|h
  ·left;rw[h]at ht;exact Ev.uniq ht (Ev.pure _)
  ·right;rw[h];exact ht
 ·rcases k9 with h|h
  ·left;rw[h]at ht;exact Ev.uniq ht (Ev.pure _)
  ·right;rw[h];exact ht
 ·rcases k10 with h|h
  ·left
   simp(disch:=omega) only[Qy]at ht
   exact Ev.uniq ht (Ev.pure _)
  ·right;rw[h];exact ht
 ·rcases k11 with h|h
  ·left
   simp(disch:=omega) only[Qy]at ht
   exact Ev.uniq ht (Ev.pure _)
  ·right;rw[h];exact ht
 ·rcases k5 with h|h
  ·left;rw[h]at ht;exact Ev.uniq ht (Ev.pure _)
  ·right;rw[h];exact ht
theorem Q4V {e r:Entry}(hk:Q3I e r)(he:Yq e)(hr:Yq r):∀n i:Nat,i+n=8->Ev (λk=>Z8.l0 k e r [] Q08 i) []
 |0,i,h=>by
  refine Ev.step (λk=>by rw[Z8.l0]) ?_
  simp(disch:=omega) only[Qy];exact Ev.pure _
 |n+1,i,h=>by
  have hl:=Q64
  have hi:i<Q08.length:=by omega
  have hm:Q08[i]∈fw8:=by rw[<-QbY];exact List.getElem_mem hi
  obtain⟨t1,b1,x1,x2⟩:=DR e he.2.2 _ hm
  obtain⟨t2,b2,y1,y2⟩:=DR r hr.2.2 _ hm
  have ih:=Q4V hk he hr n (i+1) (by omega)
  refine Ev.step (λk=>by rw[Z8.l0]) ?_
  simp(disch:=omega) only[Qi,Int.toNat_natCast,getD_at hi]
  refine Ev.bind x2 (Ev.bind y2 ?_)
  simp(disch:=omega) only[wrap_in]
  refine Ev.cond (λh1=>?_) (λ_=>ih)
  refine Ev.cond (λ_=>?_) (λ_=>ih)
  rcases Q85 hk he hm x2 with h2|h2
  ·rw[h2,QM]at h1;cases h1
  ·have:=Ev.uniq h2 y2
   rw[this,QM]
   exact ih
theorem Q86 {e r:Entry}(hk:Q3I e r)(he:Yq e)(hr:Yq r):Ev (λk=>Z8.F k e r) (([]:List ByteArray),true):=by
 have a2:=Jw e (QS (by omega) he.2.1)
 have b2:=Jw r (QS (by omega) hr.2.1)
 rw[he.1]at a2
 rw[hr.1]at b2
 unfold Z8.F
 exact Ev.bind a2 (Ev.bind b2 (Ev.bind (Q4V hk he hr 8 0 (by omega)) (Ev.pure _)))
theorem QbZ (a:List ByteArray)(ha:a.length<=1048576):∀n i:Nat,i+n=a.length->Ev (λk=>Z17.l0 k a a i) (.inr ())
 |0,i,e=>by
  refine Ev.step (λk=>by rw[Z17.l0]) ?_
  simp(disch:=omega) only[Qy]
  exact Ev.pure _
 |n+1,i,e=>by
  refine Ev.step (λk=>by rw[Z17.l0]) ?_
  simp(disch:=omega) only[Qi,QM,Bool.not_true,cond_false,wrap_in]
  exact QbZ a ha n (i+1) (by omega)
theorem Qc0 (a:List ByteArray)(ha:a.length<=1048576):Ev (λk=>Z17.F k a a) true:=by
 unfold Z17.F
 simp only[bne_self_eq_false,cond_false]
 exact Ev.bind (QbZ a ha a.length 0 (by omega)) (Ev.pure _)
theorem Q2M (xs:List Name)(hx:Je 8 xs):∀n i:Nat,i+n=xs.length->Ev (λk=>Z29.l0 k xs xs i) (.inr ())
 |0,i,h=>by
  have hl:=hx.1
  refine Ev.step (λk=>by rw[Z29.l0]) ?_
  simp(disch:=omega) only[Qy]
  exact Ev.pure _
 |n+1,i,h=>by
  have hl:=hx.1
  have hi:i<xs.length:=by omega
  have hg:=(hx.2 _ (List.getElem_mem hi)).1
  refine Ev.step (λk=>by rw[Z29.l0]) ?_
  simp(disch:=omega) only[Qi,Int.toNat_natCast,getD_at hi]
  refine Ev.bind (Qc0 _ (by omega)) ?_
  simp(disch:=omega) only[QM,Bool.not_true,cond_false,wrap_in]
  exact Q2M xs hx n (i+1) (by omega)
theorem Q2N (xs:List Name)(hx:Je 8 xs):Ev (λk=>Z29.F k xs xs) true:=by
 unfold Z29.F
 simp(disch:=omega) only[Q1a]
 exact Ev.bind (Q2M xs hx xs.length 0 (by omega)) (Ev.pure _)
theorem XO (e:Entry)(h:Qk 50 e):Ev (λk=>Z67.F k e e) true:=by
 obtain⟨_,_,_,_,_,_,h7,h8⟩:=h
 unfold Z67.F
 simp only[QM,beq_self_eq_true,cond_true,Bool.and_true]
 exact Ev.bind (Q2N _ h7) (Ev.bind (Q2N _ h8) (Ev.pure _))
theorem Q6R (l:Library)(hl:Yd 20 l.entries):∀n i:Nat,i+n=l.entries.length->Ev (λk=>Z4.l0 k l l i) (.inr ())
 |0,i,h=>by
  have:=hl.1
  refine Ev.step (λk=>by rw[Z4.l0]) ?_
  simp(disch:=omega) only[Qy]
  exact Ev.pure _
 |n+1,i,h=>by
  have:=hl.1
  have hi:i<l.entries.length:=by omega
  refine Ev.step (λk=>by rw[Z4.l0]) ?_
  simp(disch:=omega) only[Qi,Int.toNat_natCast,getD_at hi]
  refine Ev.bind (XO _ (hl.2 _ (List.getElem_mem hi))) ?_
  simp(disch:=omega) only[Bool.not_true,cond_false,wrap_in]
  exact Q6R l hl n (i+1) (by omega)
theorem QbG (l:Library)(hl:Yd 20 l.entries):Ev (λk=>Z4.F k l l) true:=by
 unfold Z4.F
 simp(disch:=omega) only[Q1a]
 exact Ev.bind (Q6R l hl l.entries.length 0 (by omega)) (Ev.pure _)
end Go.Proofs.YtbpjfjdkjapnoaaGreatDoor
end
